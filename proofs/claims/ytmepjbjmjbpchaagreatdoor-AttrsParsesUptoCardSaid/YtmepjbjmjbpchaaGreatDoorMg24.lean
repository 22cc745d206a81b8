/- Texts of this claim, laid together: Aq5, Aq6, As0, Aq7. -/
import Derived.Lib.ConvBytes
import Derived.Shelf.Strconv.Lower
import Derived.Laws.Runes
import Derived.Test.YtmepjbjmjbpchaaGreatDoorMg23
section
/- strconv.ParseUint at base 16, eight bits; graph.unescape. -/
namespace Go.Proofs.YtmepjbjmjbpchaaGreatDoor
open Go Go.RowKit Go.Sort
set_option linter.unusedVariables false
set_option linter.unusedSimpArgs false

/-- The number of a small hexadecimal digit. -/
def hexV (c : UInt8) : Option Nat := if 48 ≤ c.toNat ∧ c.toNat ≤ 57 then some (c.toNat - 48) else if 97 ≤ c.toNat ∧ c.toNat ≤ 102 then some (c.toNat - 87) else none
def puX (acc : Nat) : List UInt8 → Option Nat
  | [] => some acc
  | c :: r => match hexV c with
    | none => none
    | some d => if acc * 16 + d ≤ 255 then puX (acc * 16 + d) r else none
def PuPost (bs : List UInt8) (w : World) (e : Ending) (w' : World) : Prop :=
  ∃ (n : Int) (er : Value), e = .returned (.tuple #[.int .u64 n, er]) ∧ 0 ≤ n ∧ n ≤ 255 ∧ (er = .nilIface ∨ er = .iface 148 (.int .i64 1) ∨ er = .iface 148 (.int .i64 2)) ∧ (∀ v : Nat, puX 0 bs = some v → n = v ∧ er = .nilIface) ∧ Below w.heap.size w w'
theorem or_low (c : UInt8) (h : 97 ≤ c.toNat ∧ c.toNat ≤ 102) : bits .or .u8 (c.toNat : Int) 32 = (c.toNat : Int) := by
  have : c.toNat = 97 ∨ c.toNat = 98 ∨ c.toNat = 99 ∨ c.toNat = 100 ∨ c.toNat = 101 ∨ c.toNat = 102 := by omega
  rcases this with h | h | h | h | h | h <;> rw [h] <;> rfl
set_option maxRecDepth 100000 in
set_option maxHeartbeats 8000000 in
theorem parse16 (t : ByteArray) (hne : t.size ≠ 0) (hmax : t.size ≤ 140737488355328) (w : World) :
    Calls Tryz.prog 119 #[.string t, .int .i64 16, .int .i64 8] w (PuPost t.data.toList w) := by
  have hemp : t.toList.isEmpty = false := not_empty (by omega)
  have hcv := Lib.run_convert_string_bytes (P := Tryz.prog) w 9 60 5 t (u := .string) Tryz.underlying9 Tryz.underlying60 Tryz.underlying5
  have hB : ∀ j, j < t.size → (Lib.bytesWorld w 5 t).cell? ⟨w.heap.size, j, none⟩ = some (.int .u8 (t.data.toList.getD j 0).toNat) := fun j hj => Lib.bytesWorld_cell w 5 t j hj
  have hbw := Lib.bytesWorld_below w 5 t
  obtain ⟨W1, hW1⟩ : ∃ W1, W1 = Lib.bytesWorld w 5 t := ⟨_, rfl⟩
  rw [← hW1] at hcv hB hbw
  clear hW1
  have HBW := Lib.hid hbw
  obtain ⟨bs, hL⟩ : ∃ bs, bs = t.data.toList := ⟨_, rfl⟩
  have hLn : bs.length = t.size := by rw [hL]; exact Array.length_toList
  rw [← hL] at hB ⊢
  have HB := Lib.hid hB
  clear hL hbw hB
  go_enter Tryz.func119, Tryz.ntmps119
  go_wp2_with fail
  go_loop [12, 13, 101] (fun vu vn vi => ∃ (k : Nat) (a : Int), vu = .bool false ∧ vn = .int .u64 a ∧ vi = .int .i64 k ∧ k ≤ t.size ∧ 0 ≤ a ∧ a ≤ 255 ∧ Hid (∀ v, puX 0 bs = some v → puX a.toNat (bs.drop k) = some v)) (fun _ _ vi => t.size - (intOf vi).toNat)
  case atStart => exact ⟨0, 0, rfl, rfl, rfl, by omega, by omega, by omega, Lib.hid fun v h => h⟩
  case round =>
    obtain ⟨k, a, rfl, rfl, rfl, hk, a0, a1, hh⟩ := hrel
    by_cases hkn : k < t.size
    · have hc := HB.out k hkn
      have hdrop : bs.drop k = bs[k]'(by omega) :: bs.drop (k + 1) := List.drop_eq_getElem_cons (by omega)
      have hget : bs.getD k 0 = bs[k]'(by omega) := by simp [List.getD, List.getElem?_eq_getElem (show k < bs.length by omega)]
      have hd := hh.out
      rw [hdrop] at hd
      rw [hget] at hc
      generalize bs[k]'(by omega) = c at hc hd
      have hc256 : c.toNat < 256 := c.toNat_lt
      clear hdrop hget hh
      have kl : (k : Int) < (t.size : Int) := by omega
      have k0 : (0 : Int) ≤ (k : Int) := by omega
      obtain ⟨lo, hlo⟩ : ∃ lo, lo = bits .or .u8 (c.toNat : Int) 32 := ⟨_, rfl⟩
      have hv0 : 0 ≤ lo := by rw [hlo]; exact bits_lo_u8 .or (c.toNat : Int) 32
      have hv1 : lo ≤ 255 := by rw [hlo]; have := bits_hi_u8 .or (c.toNat : Int) 32; omega
      have HLW : Hid (∀ W, Calls Tryz.prog 144 #[.int .u8 (c.toNat : Int)] W fun e w' => e = .returned (.int .u8 lo) ∧ W = w') := Lib.hid fun W => (Tryz.internal_strconv_lower (c.toNat : Int) W).mono fun e w' h => ⟨by rw [h.1, hlo], h.2.symm⟩
      have HLW95 : Hid (c.toNat = 95 → ∀ W, Calls Tryz.prog 144 #[.int .u8 95] W fun e w' => e = .returned (.int .u8 lo) ∧ W = w') := Lib.hid fun h W => by have h2 := HLW.out W; rw [h] at h2; exact h2
      have H95 : Hid (c.toNat = 95 → lo = 127) := Lib.hid fun h => by rw [hlo, h]; rfl
      have HD := Lib.hid hd
      by_cases hdig : 48 ≤ c.toNat ∧ c.toNat ≤ 57
      · obtain ⟨hd0, hd1⟩ := hdig
        by_cases hov : a * 16 + ((c.toNat : Int) - 48) ≤ 255
        · have HN : Hid (∀ v, puX 0 bs = some v → puX (a * 16 + ((c.toNat : Int) - 48)).toNat (bs.drop (k + 1)) = some v) := Lib.hid fun v hv => by
            have h1 := HD.out v hv
            unfold puX hexV at h1
            rw [if_pos ⟨hd0, hd1⟩] at h1
            simp only at h1
            rw [if_pos (by omega)] at h1
            rw [show (a * 16 + ((c.toNat : Int) - 48)).toNat = a.toNat * 16 + (c.toNat - 48) by omega]
            exact h1
          clear hlo hd
          go_wp2_with fail
          go_round
          case rel => exact ⟨k + 1, a * 16 + ((c.toNat : Int) - 48), rfl, rfl, by go_num, by omega, by omega, hov, HN⟩
          case measure => simp [intOf]; omega
        · have HN : Hid (∀ v, ¬ puX 0 bs = some v) := Lib.hid fun v hv => by
            have h1 := HD.out v hv
            unfold puX hexV at h1
            rw [if_pos ⟨hd0, hd1⟩] at h1
            simp only at h1
            rw [if_neg (by omega)] at h1
            cases h1
          have hov' : 255 < a * 16 + ((c.toNat : Int) - 48) := by omega
          clear hlo hd hov
          go_wp2_with fail
          go_ret2
          exact ⟨_, _, rfl, by omega, by omega, by simp, fun v hv => absurd hv (HN.out v), HBW.out⟩
      · have hnd : (c.toNat : Int) < 48 ∨ (48 ≤ (c.toNat : Int) ∧ 57 < (c.toNat : Int) ∧ ((c.toNat : Int) == 95) = false) ∨ c.toNat = 95 := by
          by_cases h : c.toNat = 95
          · exact .inr (.inr h)
          · by_cases h2 : c.toNat < 48
            · exact .inl (by omega)
            · exact .inr (.inl ⟨by omega, by omega, by simp; omega⟩)
        have HC : Hid (97 ≤ c.toNat ∧ c.toNat ≤ 102 → lo = c.toNat) := Lib.hid fun h => by rw [hlo, or_low c h]
        have HX : Hid (¬ (97 ≤ c.toNat ∧ c.toNat ≤ 102) → ∀ v, ¬ puX 0 bs = some v) := Lib.hid fun h v hv => by
          have h1 := HD.out v hv
          unfold puX hexV at h1
          rw [if_neg hdig, if_neg h] at h1
          cases h1
        by_cases h1 : 97 ≤ lo ∧ lo ≤ 102
        · obtain ⟨h1, h2⟩ := h1
          by_cases hov : a * 16 + (lo - 97 + 10) ≤ 255
          · have HN : Hid (∀ v, puX 0 bs = some v → puX (a * 16 + (lo - 97 + 10)).toNat (bs.drop (k + 1)) = some v) := Lib.hid fun v hv => by
              by_cases hr : 97 ≤ c.toNat ∧ c.toNat ≤ 102
              · have h3 := HC.out hr
                have h4 := HD.out v hv
                unfold puX hexV at h4
                rw [if_neg hdig, if_pos hr] at h4
                simp only at h4
                rw [if_pos (by omega)] at h4
                rw [show (a * 16 + (lo - 97 + 10)).toNat = a.toNat * 16 + (c.toNat - 87) by omega]
                exact h4
              · exact absurd hv (HX.out hr v)
            clear hlo hd hdig
            rcases hnd with hn1 | ⟨hn1, hn2, hn3⟩ | hn1
            · go_wp2_with (go_at_call 144; refine (HLW.out _).mono ?_; rintro e w' ⟨rfl, rfl⟩)
              go_round
              case rel => exact ⟨k + 1, a * 16 + (lo - 97 + 10), rfl, rfl, by go_num, by omega, by omega, hov, HN⟩
              case measure => simp [intOf]; omega
            · go_wp2_with (go_at_call 144; refine (HLW.out _).mono ?_; rintro e w' ⟨rfl, rfl⟩)
              go_round
              case rel => exact ⟨k + 1, a * 16 + (lo - 97 + 10), rfl, rfl, by go_num, by omega, by omega, hov, HN⟩
              case measure => simp [intOf]; omega
            · exfalso
              have h95 := H95.out hn1
              omega
          · have HN : Hid (∀ v, ¬ puX 0 bs = some v) := Lib.hid fun v hv => by
              by_cases hr : 97 ≤ c.toNat ∧ c.toNat ≤ 102
              · have h3 := HC.out hr
                have h4 := HD.out v hv
                unfold puX hexV at h4
                rw [if_neg hdig, if_pos hr] at h4
                simp only at h4
                rw [if_neg (by omega)] at h4
                cases h4
              · exact absurd hv (HX.out hr v)
            have hov' : 255 < a * 16 + (lo - 97 + 10) := by omega
            clear hlo hd hdig hov
            rcases hnd with hn1 | ⟨hn1, hn2, hn3⟩ | hn1
            · go_wp2_with (go_at_call 144; refine (HLW.out _).mono ?_; rintro e w' ⟨rfl, rfl⟩)
              go_ret2
              exact ⟨_, _, rfl, by omega, by omega, by simp, fun v hv => absurd hv (HN.out v), HBW.out⟩
            · go_wp2_with (go_at_call 144; refine (HLW.out _).mono ?_; rintro e w' ⟨rfl, rfl⟩)
              go_ret2
              exact ⟨_, _, rfl, by omega, by omega, by simp, fun v hv => absurd hv (HN.out v), HBW.out⟩
            · exfalso
              have h95 := H95.out hn1
              omega
        · have HN : Hid (∀ v, ¬ puX 0 bs = some v) := Lib.hid (HX.out fun hr => by have := HC.out hr; omega)
          have hcs : lo < 97 ∨ (97 ≤ lo ∧ 102 < lo ∧ lo ≤ 122) ∨ (97 ≤ lo ∧ 122 < lo) := by omega
          clear hlo hd hdig h1
          rcases hnd with hn1 | ⟨hn1, hn2, hn3⟩ | hn1
          · rcases hcs with h1 | ⟨h1, h2, h3⟩ | ⟨h1, h2⟩
            · go_wp2_with (go_at_call 144; refine (HLW.out _).mono ?_; rintro e w' ⟨rfl, rfl⟩)
              go_ret2
              exact ⟨_, _, rfl, by omega, by omega, by simp, fun v hv => absurd hv (HN.out v), HBW.out⟩
            · go_wp2_with (go_at_call 144; refine (HLW.out _).mono ?_; rintro e w' ⟨rfl, rfl⟩)
              go_ret2
              exact ⟨_, _, rfl, by omega, by omega, by simp, fun v hv => absurd hv (HN.out v), HBW.out⟩
            · go_wp2_with (go_at_call 144; refine (HLW.out _).mono ?_; rintro e w' ⟨rfl, rfl⟩)
              go_ret2
              exact ⟨_, _, rfl, by omega, by omega, by simp, fun v hv => absurd hv (HN.out v), HBW.out⟩
          · rcases hcs with h1 | ⟨h1, h2, h3⟩ | ⟨h1, h2⟩
            · go_wp2_with (go_at_call 144; refine (HLW.out _).mono ?_; rintro e w' ⟨rfl, rfl⟩)
              go_ret2
              exact ⟨_, _, rfl, by omega, by omega, by simp, fun v hv => absurd hv (HN.out v), HBW.out⟩
            · go_wp2_with (go_at_call 144; refine (HLW.out _).mono ?_; rintro e w' ⟨rfl, rfl⟩)
              go_ret2
              exact ⟨_, _, rfl, by omega, by omega, by simp, fun v hv => absurd hv (HN.out v), HBW.out⟩
            · go_wp2_with (go_at_call 144; refine (HLW.out _).mono ?_; rintro e w' ⟨rfl, rfl⟩)
              go_ret2
              exact ⟨_, _, rfl, by omega, by omega, by simp, fun v hv => absurd hv (HN.out v), HBW.out⟩
          · have h95 := H95.out hn1
            have HN1 := Lib.hid hn1
            have h1 : 97 ≤ lo := by omega
            have h2 : 122 < lo := by omega
            have c95 : (c.toNat : Int) = 95 := by omega
            clear h95 hn1 hcs
            go_wp2_with (go_at_call 144; refine (HLW95.out HN1.out _).mono ?_; rintro e w' ⟨rfl, rfl⟩)
            go_ret2
            exact ⟨_, _, rfl, by omega, by omega, by simp, fun v hv => absurd hv (HN.out v), HBW.out⟩
    · obtain rfl : k = t.size := by omega
      have HN : Hid (∀ v, puX 0 bs = some v → a = v) := Lib.hid fun v hv => by
        have h1 := hh.out v hv
        rw [List.drop_eq_nil_of_le (by omega)] at h1
        have h2 := Option.some.inj h1
        omega
      clear hh
      go_wp2_with fail
      go_ret2
      exact ⟨_, _, rfl, a0, a1, by simp, fun v hv => ⟨HN.out v hv, rfl⟩, HBW.out⟩
end Go.Proofs.YtmepjbjmjbpchaaGreatDoor
end
section
/- strconv.ParseUint at base 16, eight bits, with its errors; graph.unescape. -/
namespace Go.Proofs.YtmepjbjmjbpchaaGreatDoor
open Go Go.RowKit Go.Sort
set_option linter.unusedVariables false
set_option linter.unusedSimpArgs false

def PvPost (bs : List UInt8) (w : World) (e : Ending) (w' : World) : Prop :=
  ∃ (n : Int) (er : Value), e = .returned (.tuple #[.int .u64 n, er]) ∧ 0 ≤ n ∧ n ≤ 255 ∧ (er = .nilIface ∨ ∃ te pe, er = .iface te pe) ∧ (∀ v : Nat, bs ≠ [] → puX 0 bs = some v → n = v ∧ er = .nilIface) ∧ Below w.heap.size w w'
set_option maxRecDepth 100000 in
set_option maxHeartbeats 8000000 in
theorem parse16_all (t : ByteArray) (hmax : t.size ≤ 140737488355328) (w : World) (hg : GlobE w) :
    Calls Tryz.prog 124 #[.string t, .int .i64 16, .int .i64 8] w (PvPost t.data.toList w) := by
  have hin : Calls Tryz.prog 119 #[.string t, .int .i64 16, .int .i64 8] w fun e w' => ∃ (n : Int) (er : Value), e = .returned (.tuple #[.int .u64 n, er]) ∧ 0 ≤ n ∧ n ≤ 255 ∧ (er = .nilIface ∨ er = .iface 148 (.int .i64 1) ∨ er = .iface 148 (.int .i64 2)) ∧ (∀ v : Nat, t.data.toList ≠ [] → puX 0 t.data.toList = some v → n = v ∧ er = .nilIface) ∧ Below w.heap.size w w' := by
    by_cases h0 : t.size = 0
    · have he : t = ⟨#[]⟩ := ByteArray.ext (Array.eq_empty_of_size_eq_zero h0)
      subst he
      refine (Tryz.internal_strconv_ParseUint_empty 16 8 w).mono fun e w' h => ?_
      obtain ⟨h1, rfl⟩ := h
      exact ⟨0, _, h1, by omega, by omega, .inr (.inr rfl), fun v h => absurd rfl h, Below.refl _ _⟩
    · exact (parse16 t h0 hmax w).mono fun e w' ⟨n, er, h1, h2, h3, h4, h5, h6⟩ => ⟨n, er, h1, h2, h3, h4, fun v _ hv => h5 v hv, h6⟩
  have HG := Lib.hid hg
  clear hg
  go_enter Tryz.func124, Tryz.ntmps124
  go_wp2_with fail
  refine hin.mono ?_
  rintro e w1 ⟨n, er, rfl, h1, h2, h3, h4, hb⟩
  have H4 := Lib.hid h4
  have HB := Lib.hid hb
  clear h4 hb hin
  rcases h3 with rfl | rfl | rfl
  · go_wp2_with fail
    go_ret2
    exact ⟨_, _, rfl, h1, h2, .inl rfl, fun v h0 hv => ⟨(H4.out v h0 hv).1, rfl⟩, HB.out⟩
  · obtain ⟨ev, hv, hev⟩ := (HG.out.below HB.out).e2
    have HV := Lib.hid hv
    clear hv
    go_wp2_with (go_at_call 90; refine (Tryz.strconv_toError_range _ t 16 8 ev _ (by omega) HV.out hev).mono ?_; rintro e w2 ⟨N, rfl, -, -, hb2⟩)
    go_ret2
    exact ⟨_, _, rfl, h1, h2, .inr ⟨_, _, rfl⟩, fun v h0 hv => absurd (H4.out v h0 hv).2 (by simp), below_own' HB.out hb2⟩
  · obtain ⟨ev, hv, hev⟩ := (HG.out.below HB.out).e1
    have HV := Lib.hid hv
    clear hv
    go_wp2_with (go_at_call 90; refine (Tryz.strconv_toError_syntax _ t 16 8 ev _ (by omega) HV.out hev).mono ?_; rintro e w2 ⟨N, rfl, -, -, hb2⟩)
    go_ret2
    exact ⟨_, _, rfl, h1, h2, .inr ⟨_, _, rfl⟩, fun v h0 hv => absurd (H4.out v h0 hv).2 (by simp), below_own' HB.out hb2⟩
/-- The byte of an escape. -/
def uneX : List UInt8 → Option UInt8
  | [c] => if c = 34 then some 34 else if c = 92 then some 92 else if c = 110 then some 10 else none
  | [x, a, b] => if x = 120 then (match puX 0 [a, b] with | some v => some (UInt8.ofNat v) | none => none) else none
  | _ => none
theorem une_one {c d : UInt8} (h : uneX [c] = some d) : c = 34 ∨ c = 92 ∨ c = 110 := by
  have e : uneX [c] = if c = 34 then some 34 else if c = 92 then some 92 else if c = 110 then some 10 else none := rfl
  rw [e] at h
  by_cases h1 : c = 34
  · exact .inl h1
  · by_cases h2 : c = 92
    · exact .inr (.inl h2)
    · by_cases h3 : c = 110
      · exact .inr (.inr h3)
      · rw [if_neg h1, if_neg h2, if_neg h3] at h; cases h
theorem une_three {x a b d : UInt8} (h : uneX [x, a, b] = some d) : x = 120 ∧ ∃ v, puX 0 [a, b] = some v ∧ d = UInt8.ofNat v := by
  have e : uneX [x, a, b] = if x = 120 then (match puX 0 [a, b] with | some v => some (UInt8.ofNat v) | none => none) else none := rfl
  rw [e] at h
  by_cases h1 : x = 120
  · rw [if_pos h1] at h
    cases hv : puX 0 [a, b] with
    | none => rw [hv] at h; cases h
    | some v => rw [hv] at h; exact ⟨h1, v, rfl, (Option.some.inj h).symm⟩
  · rw [if_neg h1] at h; cases h
def UePost (bs : List UInt8) (w : World) (e : Ending) (w' : World) : Prop :=
  ∃ (r : Int) (ok : Bool), e = .returned (.tuple #[.int .u8 r, .bool ok]) ∧ 0 ≤ r ∧ r ≤ 255 ∧ (∀ c, uneX bs = some c → r = c.toNat ∧ ok = true) ∧ Below w.heap.size w w'
theorem uePost_at {bs : List UInt8} {w w' : World} {e : Ending} {c : UInt8} (h : uneX bs = some c) (he : e = .returned (.tuple #[.int .u8 (c.toNat : Int), .bool true])) (hb : Below w.heap.size w w') : UePost bs w e w' :=
  ⟨_, _, he, by omega, by have := c.toNat_lt; omega, fun d hd => by rw [h] at hd; have := Option.some.inj hd; subst this; exact ⟨rfl, rfl⟩, hb⟩
set_option maxRecDepth 100000 in
set_option maxHeartbeats 8000000 in
theorem unescape_any (s : ByteArray) (h0 : 0 < s.size) (hmax : s.size ≤ 140737488355328) (w : World) (hg : GlobE w) :
    Calls Tryz.prog 91 #[.string s] w (UePost s.data.toList w) := by
  by_cases h34 : s = ⟨#[34]⟩
  · subst h34
    go_enter Tryz.func91, Tryz.ntmps91
    go_wp2_with fail
    go_ret2
    exact uePost_at (c := 34) rfl rfl (Below.refl _ _)
  · by_cases h92 : s = ⟨#[92]⟩
    · subst h92
      go_enter Tryz.func91, Tryz.ntmps91
      go_wp2_with fail
      go_ret2
      exact uePost_at (c := 92) rfl rfl (Below.refl _ _)
    · by_cases h110 : s = ⟨#[110]⟩
      · subst h110
        go_enter Tryz.func91, Tryz.ntmps91
        go_wp2_with fail
        go_ret2
        exact uePost_at (c := 10) rfl rfl (Below.refl _ _)
      · have b34 : (s.toList == [34]) = false := by
          rw [beq_eq_false_iff_ne]; intro h; exact h34 (toList_inj.1 (h.trans (show (⟨#[34]⟩ : ByteArray).toList = [34] by kernel_rfl).symm))
        have b92 : (s.toList == [92]) = false := by
          rw [beq_eq_false_iff_ne]; intro h; exact h92 (toList_inj.1 (h.trans (show (⟨#[92]⟩ : ByteArray).toList = [92] by kernel_rfl).symm))
        have b110 : (s.toList == [110]) = false := by
          rw [beq_eq_false_iff_ne]; intro h; exact h110 (toList_inj.1 (h.trans (show (⟨#[110]⟩ : ByteArray).toList = [110] by kernel_rfl).symm))
        obtain ⟨t, ht⟩ : ∃ t, t = s.extract 1 s.size := ⟨_, rfl⟩
        have htz : t.size ≤ 140737488355328 := by rw [ht, ByteArray.size_extract]; omega
        obtain ⟨c, hc⟩ : ∃ c, c = s[0]'h0 := ⟨_, rfl⟩
        have hbs : s.data.toList = c :: t.data.toList := by
          have h1 : t.data.toList = s.data.toList.drop 1 := by rw [ht]; exact Lib.extract_to_end s 1
          rw [h1, hc]
          cases hs : s.data.toList with
          | nil => have h2 : s.data.toList.length = s.size := Array.length_toList; rw [hs] at h2; simp at h2; omega
          | cons a l =>
            have h3 : s[0]'h0 = a := by
              have h4 : s.data.toList[0]? = some a := by rw [hs]; rfl
              rw [Array.getElem?_toList, Array.getElem?_eq_getElem (by exact h0)] at h4
              exact Option.some.inj h4
            rw [h3]; rfl
        have hU : Hid (∀ d, uneX s.data.toList = some d → c.toNat = 120 ∧ s.size = 3 ∧ t.data.toList ≠ [] ∧ ∃ v, puX 0 t.data.toList = some v ∧ d = UInt8.ofNat v) := Lib.hid fun d hd => by
          have hsz : s.data.toList.length = s.size := Array.length_toList
          rw [hbs] at hd hsz
          match hl : t.data.toList, hd with
          | [], hd =>
            exfalso
            have hs1 : ∀ x : UInt8, c = x → s = ⟨#[x]⟩ := fun x hx => ByteArray.ext (by rw [← Array.toList_inj, hbs, hl, hx])
            rcases une_one hd with h | h | h
            · exact h34 (hs1 34 h)
            · exact h92 (hs1 92 h)
            · exact h110 (hs1 110 h)
          | [a, b], hd =>
            obtain ⟨hx, v, hv, hdv⟩ := une_three hd
            rw [hl] at hsz
            exact ⟨by rw [hx]; rfl, by simpa using hsz.symm, by simp, v, hv, hdv⟩
          | [a], hd => cases hd
          | a :: b :: x :: r, hd => cases hd
        have hP : Hid (∀ W, Below w.heap.size w W → Calls Tryz.prog 124 #[.string t, .int .i64 16, .int .i64 8] W (PvPost t.data.toList W)) := Lib.hid fun W h => parse16_all t htz W (hg.below h)
        have HT := Lib.hid ht.symm
        have hcx : (s[0]'h0).toNat = c.toNat := by rw [hc]
        have h1s : (1 : Int) ≤ (s.size : Int) := by omega
        have HBS := Lib.hid hbs
        clear h34 h92 h110 ht hg hc hbs
        go_enter Tryz.func91, Tryz.ntmps91
        go_wp2_with (go_at_call 124; rw [HT.out]; refine Calls.mono (hP.out _ ?_) ?_; (focus (exact Below.refl _ _)); rintro e w1 ⟨n, er, rfl, n0, n1, her, hex, hb1⟩; have HER := Lib.hid her; have HEX := Lib.hid hex; have HB1 := Lib.hid hb1; clear her hex hb1)
        have mixed := mixed_in
        have hno : ∀ (W : World) (r : Int) (ok : Bool), Below w.heap.size w W → 0 ≤ r → r ≤ 255 → (∀ d, ¬ uneX s.data.toList = some d) → UePost s.data.toList w (.returned (.tuple #[.int .u8 r, .bool ok])) W := fun W r ok hb h1 h2 h3 => ⟨r, ok, rfl, h1, h2, fun d hd => absurd hd (h3 d), hb⟩
        have HNO := Lib.hid hno
        clear hno
        by_cases hx : c.toNat = 120
        · have bx : ((c.toNat : Int) == 120) = true := by simp; omega
          by_cases hl : s.size = 3
          · have bl : ((s.size : Int) == 3) = true := by simp; omega
            rcases HER.out with rfl | ⟨te, pe, rfl⟩
            · have HF : Hid (∀ W, Below w1.heap.size w1 W → UePost s.data.toList w (.returned (.tuple #[.int .u8 n, .bool true])) W) := Lib.hid fun W hW => ⟨n, true, rfl, n0, n1, fun d hd => by
                obtain ⟨-, -, h3, v, hv, rfl⟩ := hU.out d hd
                have h4 := (HEX.out v h3 hv).1
                refine ⟨?_, rfl⟩
                rw [h4, UInt8.toNat_ofNat']
                omega, below_own' HB1.out hW⟩
              clear hx hl
              go_region_o
              go_wp2_with fail
              go_ret2
              exact HF.out _ (by (repeat (first | (with_reducible refine below_set ?_ (by first | exact Nat.le_refl _ | omega) _ _) | with_reducible exact Below.refl _ _ | with_reducible refine belowA ?_ _ | with_reducible refine belowD ?_ | with_reducible refine belowN ?_ _)))
            · have HF : Hid (∀ W, Below w1.heap.size w1 W → UePost s.data.toList w (.returned (.tuple #[.int .u8 n, .bool false])) W) := Lib.hid fun W hW => HNO.out W n false (below_own' HB1.out hW) n0 n1 fun d hd => by
                obtain ⟨-, -, h3, v, hv, rfl⟩ := hU.out d hd
                have h4 := (HEX.out v h3 hv).2
                cases h4
              clear hx hl
              go_region_o
              go_wp2_with fail
              go_ret2
              exact HF.out _ (by (repeat (first | (with_reducible refine below_set ?_ (by first | exact Nat.le_refl _ | omega) _ _) | with_reducible exact Below.refl _ _ | with_reducible refine belowA ?_ _ | with_reducible refine belowD ?_ | with_reducible refine belowN ?_ _)))
          · have bl : ((s.size : Int) == 3) = false := by simp; omega
            have HF : Hid (∀ W, Below w1.heap.size w1 W → UePost s.data.toList w (.returned (.tuple #[.int .u8 n, .bool false])) W) := Lib.hid fun W hW => HNO.out W n false (below_own' HB1.out hW) n0 n1 fun d hd => hl (hU.out d hd).2.1
            clear hx hl
            go_region_o
            go_wp2_with fail
            go_ret2
            exact HF.out _ (by (repeat (first | (with_reducible refine below_set ?_ (by first | exact Nat.le_refl _ | omega) _ _) | with_reducible exact Below.refl _ _ | with_reducible refine belowA ?_ _ | with_reducible refine belowD ?_ | with_reducible refine belowN ?_ _)))
        · have bx : ((c.toNat : Int) == 120) = false := by simp; omega
          have HF : Hid (∀ W, Below w1.heap.size w1 W → UePost s.data.toList w (.returned (.tuple #[.int .u8 n, .bool false])) W) := Lib.hid fun W hW => HNO.out W n false (below_own' HB1.out hW) n0 n1 fun d hd => hx (hU.out d hd).1
          clear hx
          go_region_o
          go_wp2_with fail
          go_ret2
          exact HF.out _ (by (repeat (first | (with_reducible refine below_set ?_ (by first | exact Nat.le_refl _ | omega) _ _) | with_reducible exact Below.refl _ _ | with_reducible refine belowA ?_ _ | with_reducible refine belowD ?_ | with_reducible refine belowN ?_ _)))
end Go.Proofs.YtmepjbjmjbpchaaGreatDoor
end
section
/- AttrsSets: the list of a hundred attributes, and what Set, Merge and Check say of it. -/
namespace Go.Proofs.YtmepjbjmjbpchaaGreatDoor
open Go Go.RowKit Go.Sort
set_option linter.unusedVariables false
set_option linter.unusedSimpArgs false

/-- A rune as a string, met by its bytes. -/
theorem wpList_rune {P : Program} {ops : Array Oper} {rest : List Oper} {o : Oper} {a : Act} {Q : Exit → Act → World → Prop} {w : World} (hgd : o.guard = none) (x : Operand) (src dst : TypeId) (ho : o.op = .convert src dst x) (k : IntKind) (n : Int) (hx : a.eval x = .int k n)
    (hs : (P.underlying src).isSome = true) (hd : P.underlying dst = some .string) (s : ByteArray) (he : Utf8.encode n = s) (h : wpList P ops Q rest (a.put o.dst (.string s)) w) : wpList P ops Q (o :: rest) a w := by
  refine wpList_plain hgd fun K hK => ?_
  have hrun := run_convert_int_string (P := P) w src dst k n hs hd
  rw [he] at hrun
  unfold Oper.wp
  simp [execOp, ho, hx, hrun, Result.andThen]
  exact hK _ _ h
/-- The name of an attribute of the long list. -/
def mName (i : Nat) : ByteArray := ⟨#[97, UInt8.ofNat (97 + i / 10), UInt8.ofNat (97 + i % 10)]⟩
def mAt (i : Nat) : Atr := ⟨mName i, 0, 0, ⟨#[]⟩, none, [], 0, none, [], 0⟩
def mL (k : Nat) : List Atr := (List.range k).map mAt
section
variable (W : World) (p : Option Addr) (c : Nat) (hs : AtrSl W p (mL 100))
include hs
end
end Go.Proofs.YtmepjbjmjbpchaaGreatDoor
end
section
/- graph.Unquote at a string that begins with a quote. -/
namespace Go.Proofs.YtmepjbjmjbpchaaGreatDoor
open Go Go.RowKit Go.Sort
set_option linter.unusedVariables false
set_option linter.unusedSimpArgs false

/-- One byte of a quoted text. -/
def uqS (st : List UInt8 × Nat × List UInt8) (c : UInt8) : Option (List UInt8 × Nat × List UInt8) :=
  if 0 < st.2.1 then
    if 128 ≤ c.toNat then none
    else if st.2.2 ++ [c] = [120] then some (st.1, 2, [120])
    else if 1 < st.2.1 then some (st.1, st.2.1 - 1, st.2.2 ++ [c])
    else match uneX (st.2.2 ++ [c]) with
      | some b => some (st.1 ++ [b], 0, [])
      | none => none
  else if c = 92 then some (st.1, 1, []) else if c = 34 then none else some (st.1 ++ [c], 0, [])
def uqL (st : List UInt8 × Nat × List UInt8) : List UInt8 → Option (List UInt8 × Nat × List UInt8)
  | [] => some st
  | c :: r => match uqS st c with
    | some st' => uqL st' r
    | none => none
theorem uqL_append (l m : List UInt8) : ∀ st, uqL st (l ++ m) = (uqL st l).bind fun st' => uqL st' m := by
  induction l with
  | nil => intro st; rfl
  | cons c r ih =>
    intro st
    show (match uqS st c with | some st' => uqL st' (r ++ m) | none => none) = (match uqS st c with | some st' => uqL st' r | none => none).bind _
    cases uqS st c with
    | none => rfl
    | some st' => exact ih st'
theorem uqL_snoc {l : List UInt8} {c : UInt8} {st st2 : List UInt8 × Nat × List UInt8} (h : uqL st (l ++ [c]) = some st2) : ∃ st1, uqL st l = some st1 ∧ uqS st1 c = some st2 := by
  rw [uqL_append] at h
  cases h1 : uqL st l with
  | none => rw [h1] at h; cases h
  | some st1 =>
    rw [h1] at h
    refine ⟨st1, rfl, ?_⟩
    have h2 : (match uqS st1 c with | some st' => uqL st' [] | none => none) = some st2 := h
    cases h3 : uqS st1 c with
    | none => rw [h3] at h2; cases h2
    | some st3 => rw [h3] at h2; exact h2
theorem hex_pair : ∀ n < 256, puX 0 [hexOf (n / 16), hexOf (n % 16)] = some n := by decide +kernel
theorem hex_low : ∀ n < 16, (hexOf n).toNat < 128 ∧ hexOf n ≠ 120 := by decide
theorem uq_esc (c : UInt8) (out r : List UInt8) : uqL (out, 0, []) (escOf c ++ r) = uqL (out ++ [c], 0, []) r := by
  unfold escOf
  by_cases h1 : c = 34
  · subst h1; rfl
  · by_cases h2 : c = 92
    · subst h2; rfl
    · by_cases h3 : c = 10
      · subst h3; rfl
      · rw [if_neg h1, if_neg h2, if_neg h3]
        by_cases h4 : c.toNat < 32 ∨ 126 < c.toNat
        · rw [if_pos h4]
          have hlt := c.toNat_lt
          obtain ⟨a1, a2⟩ := hex_low (c.toNat / 16) (by omega)
          obtain ⟨b1, b2⟩ := hex_low (c.toNat % 16) (by omega)
          have hp := hex_pair c.toNat (by omega)
          generalize hexOf (c.toNat / 16) = x at *
          generalize hexOf (c.toNat % 16) = y at *
          have e1 : uqS (out, 0, []) 92 = some (out, 1, []) := rfl
          have e2 : uqS (out, 1, []) 120 = some (out, 2, [120]) := rfl
          have e3 : uqS (out, 2, [120]) x = some (out, 1, [120, x]) := by
            unfold uqS
            simp only [show 0 < 2 by omega, if_true, List.cons_append, List.nil_append]
            rw [if_neg (by omega), if_neg (by simp), if_pos (by omega)]
          have e4 : uqS (out, 1, [120, x]) y = some (out ++ [c], 0, []) := by
            unfold uqS
            simp only [show 0 < 1 by omega, if_true, List.cons_append, List.nil_append]
            rw [if_neg (by omega), if_neg (by simp), if_neg (by omega)]
            have : uneX [120, x, y] = some c := by
              show (if (120 : UInt8) = 120 then (match puX 0 [x, y] with | some v => some (UInt8.ofNat v) | none => none) else none) = _
              rw [if_pos rfl, hp]
              simp
            rw [this]
          show (match uqS (out, 0, []) 92 with | some st' => uqL st' (120 :: x :: y :: r) | none => none) = _
          rw [e1]
          show (match uqS (out, 1, []) 120 with | some st' => uqL st' (x :: y :: r) | none => none) = _
          rw [e2]
          show (match uqS (out, 2, [120]) x with | some st' => uqL st' (y :: r) | none => none) = _
          rw [e3]
          show (match uqS (out, 1, [120, x]) y with | some st' => uqL st' r | none => none) = _
          rw [e4]
        · rw [if_neg h4]
          show (match uqS (out, 0, []) c with | some st' => uqL st' r | none => none) = _
          have : uqS (out, 0, []) c = some (out ++ [c], 0, []) := by
            unfold uqS
            simp only [show ¬ 0 < 0 by omega, if_false]
            rw [if_neg h2, if_neg h1]
          rw [this]
theorem uq_all : ∀ (l out : List UInt8), uqL (out, 0, []) (escL l) = some (out ++ l, 0, [])
  | [], out => by show some _ = _; simp
  | c :: l, out => by
    rw [escL, uq_esc, uq_all l]
    simp
theorem enc_all : (List.range 256).all (fun n => decide (1 ≤ (Utf8.encode (n : Int)).size ∧ (Utf8.encode (n : Int)).size ≤ 2 ∧ (n < 128 → Utf8.encode (n : Int) = ⟨#[UInt8.ofNat n]⟩))) = true := by decide +kernel
theorem enc_byte (c : UInt8) : 1 ≤ (Utf8.encode (c.toNat : Int)).size ∧ (Utf8.encode (c.toNat : Int)).size ≤ 2 ∧ (c.toNat < 128 → Utf8.encode (c.toNat : Int) = ⟨#[c]⟩) := by
  have h := of_decide_eq_true (List.all_eq_true.1 enc_all c.toNat (List.mem_range.2 c.toNat_lt))
  refine ⟨h.1, h.2.1, fun hc => ?_⟩
  rw [h.2.2 hc]
  simp
end Go.Proofs.YtmepjbjmjbpchaaGreatDoor
end
