/- Texts of this claim, laid together: Ax5, Ax6, InvL. -/
import Derived.Test.YtmepjbjmjbpchaaGreatDoorMg7
import Derived.Test.YtmepjbjmjbpchaaGreatDoorMg17
import Derived.Test.YtmepjbjmjbpchaaGreatDoorMg18
section
/- The reference: Digits of any number, Quote. -/
namespace Go.Proofs.YtmepjbjmjbpchaaGreatDoor
open Go Go.RowKit
set_option linter.unusedVariables false
set_option linter.unusedSimpArgs false

set_option maxRecDepth 100000 in
theorem rdigits_any (n : Int) (h0 : -9223372036854775808 ≤ n) (h1 : n ≤ 9223372036854775807) (w : World) : Calls Tryz.prog 60 #[.int .i64 n] w fun e w' => e = .returned (.string (itoaB n)) ∧ w = w' := by
  rcases Int.lt_or_le n 0 with h | h
  · obtain ⟨k, hk⟩ : ∃ k : Nat, n = -(k : Int) := ⟨n.natAbs, by omega⟩
    have hkb : k < 18446744073709551616 := by omega
    have hn := (natural_any k k (Nat.le_refl _) hkb w).mono (R' := fun e w' => ∃ t : ByteArray, e = .returned (.string t) ∧ Hid (t.data.toList = Lib.decDigits k) ∧ t.size ≤ 20 ∧ w = w') fun e w' ⟨he, hw⟩ => ⟨_, he, rfl, by simpa [ByteArray.size] using dig_len hkb, hw⟩
    have HN := Lib.hid hn
    have hw1 : IntKind.u64.wrap (-(IntKind.u64.wrap n)) = (k : Int) := by rw [IntKind.wrap_u64, IntKind.wrap_u64]; omega
    have HE : Hid (Lib.itoa n = 45 :: Lib.decDigits k) := Lib.hid (by unfold Lib.itoa; rw [if_pos h, hk]; simp)
    have h2 : n < 0 := h
    have HK := Lib.hid hk
    clear hn hk
    go_enter Tryz.func60, Tryz.ntmps60
    go_wp2_with (go_at_call 82; refine HN.out.mono ?_; rintro e w' ⟨t, rfl, ht, htl, rfl⟩)
    go_ret
    refine ⟨?_, rfl⟩
    have e1 : (⟨#[45]⟩ ++ t : ByteArray) = itoaB n := by
      apply ByteArray.ext; apply Array.ext'
      simp [itoaB, HE.out, ht.out]
    rw [← e1]; rfl
  · exact digits_any n h h1 w
theorem rhex_any (n : Nat) (h : n < 16) (w : World) : Calls Tryz.prog 83 #[.int .u8 (n : Int)] w fun e w' => e = .returned (.int .u8 ((hexOf n).toNat : Int)) ∧ w = w' := by
  have he : (((hexOf n).toNat : Nat) : Int) = if n < 10 then 48 + (n : Int) else 87 + n := by
    unfold hexOf
    split
    · rw [UInt8.toNat_ofNat']; omega
    · rw [UInt8.toNat_ofNat']; omega
  have HE := Lib.hid he
  clear he
  rcases Nat.lt_or_ge n 10 with hn | hn
  all_goals
    go_enter Tryz.func83, Tryz.ntmps83
    go_wp2_with fail
    go_ret
    refine ⟨?_, rfl⟩
    rw [HE.out]
  · rw [if_pos hn]; rfl
  · rw [if_neg (by omega)]
    exact congrArg (fun z => Ending.returned (.int .u8 z)) (by omega)

theorem rhex_at (z : Int) (n : Nat) (hz : z = (n : Int)) (h : n < 16) (w : World) : Calls Tryz.prog 83 #[.int .u8 z] w fun e w' => e = .returned (.int .u8 ((hexOf n).toNat : Int)) ∧ w = w' := by subst hz; exact rhex_any n h w
/-- A row of bytes of the call's own. -/
structure RowB (w : World) (sa : Option Addr) (sc : Nat) (pre : List UInt8) (W : World) : Prop where
  own : W.ownsRow w.heap.size 5 1 (.slice sa pre.length sc) pre.length (Lib.byteCells pre)
  below : Below w.heap.size w W
theorem RowB.app {w W W3 : World} {sa : Option Addr} {sc k n : Nat} {pre : List UInt8} {v' : Value} (m : List UInt8) (N : Nat) {o : Obj} (h : RowB w sa sc pre W) (hk : k = m.length) (hn : n = pre.length) (hN : n + k = N) (hown : W3.ownsRow w.heap.size 5 1 v' (n + k) (Lib.byteCells pre ++ Lib.byteCells m))
    (hg : (W.alloc o).grownBy W3 (Value.ownBlock (.slice sa n sc))) : ∃ sa' sc', v' = .slice sa' N sc' ∧ RowB w sa' sc' (pre ++ m) W3 := by
  subst hN hk hn
  obtain ⟨sa', sc', rfl⟩ := own_slice hown
  refine ⟨sa', sc', rfl, ?_, (belowA h.below o).grown hg (by simp; have := h.below.size; omega) (fun k hk => (h.own.lt k hk).1)⟩
  rw [Lib.byteCells_append, List.length_append]; exact hown
theorem RowB.conv {w W : World} {sa : Option Addr} {sc n : Nat} {pre : List UInt8} (h : RowB w sa sc pre W) (hn : n = pre.length) (hne : pre ≠ []) : (convert 60 9 (.slice sa n sc)).run Tryz.prog W = .ok (.string ⟨pre.toArray⟩) W := by
  subst hn
  rcases h.own.2 with ⟨h1, h2⟩ | ⟨g, cap, cur, h1, hb, h2, h4, h5, h6, h7⟩
  · exact absurd (List.eq_nil_of_length_eq_zero h2) hne
  · cases h1
    refine run_convert_bytes_back W 60 9 5 ⟨g, 0, none⟩ sc pre Tryz.underlying60 Tryz.underlying5 Tryz.underlying9 (fun j hj => ?_)
    refine h.own.cells (g := g) rfl j _ ?_
    rw [Lib.byteCells, List.getElem?_map, List.getElem?_eq_getElem hj]; rfl

set_option maxRecDepth 100000 in
set_option maxHeartbeats 8000000 in
theorem rquote_any (s : ByteArray) (w : World) (hs : 4 * s.size + 2 ≤ 140737488355328) :
    Calls Tryz.prog 61 #[.string s] w fun e w' => e = .returned (.string ⟨(quoteL s.data.toList).toArray⟩) ∧ Below w.heap.size w w' := by
  obtain ⟨i0, hin, hz0, hz1, hz2⟩ := info_parts (show (Tryz.prog.info? 5).map (fun i => (i.zero, i.size, i.bytes)) = some (some (.int .u8 0), 1, 1) by kernel_rfl)
  have hq : ∀ i, (escL (s.data.toList.take i)).length ≤ 4 * i := fun i => by
    have := escL_len (s.data.toList.take i)
    have h2 : (s.data.toList.take i).length ≤ i := by simp; omega
    omega
  have HQ := Lib.hid hq
  have h0 : RowB w none 0 [] w := ⟨World.ownsRow_nil _ _ _ _, Below.refl _ _⟩
  have H0 := Lib.hid h0
  clear hq h0
  go_enter Tryz.func61, Tryz.ntmps61
  go_wp2_with (at_builtin; refine wpList_append_own _ rfl _ _ 60 rfl w.heap.size 5 i0 (.int .u8 0) 1 1 Tryz.underlying60 hin hz0 hz1 hz2 rfl (by decide) _ _ _ rfl (H0.out.own.alloc _) ⟨w.heap.size, 0, none⟩ 1 1 [.int .u8 34] rfl rfl ?q1c1 ?q1c2 ?q1c3 ?q1c4 ?q1c5 ?_)
  case q1c1 =>
    intro t u hj
    match t, hj with
    | 0, hj => simp at hj; subst hj; simp [Addr.add]
  case q1c2 => intro u hu; simp at hu; rcases hu with rfl <;> rfl
  case q1c3 => simp [maxLen]
  case q1c4 => simp
  case q1c5 => simp
  intro v' w3 hown' hgrow _
  obtain ⟨sa', sc', rfl, hr3⟩ := RowB.app ([34]) 1 H0.out rfl (by first | rfl | simp) rfl hown' hgrow
  have HR3 := Lib.hid hr3
  clear hown' hr3
  go_wp2_with fail
  go_loopw [3, 4] (fun v i wr => ∃ (j : Nat) (sa : Option Addr) (sc : Nat), v = .slice sa (34 :: escL (s.data.toList.take j)).length sc ∧ i = .int .i64 j ∧ j ≤ s.size ∧ RowB w sa sc (34 :: escL (s.data.toList.take j)) wr) (fun _ i _ => s.size - (intOf i).toNat)
  case atStart => exact ⟨0, sa', sc', rfl, rfl, Nat.zero_le _, HR3.out⟩
  case round =>
    clear H0 HR3
    obtain ⟨j, sa, sc, rfl, rfl, hj, hI⟩ := hrel
    have hq := HQ.out j
    obtain ⟨pre, hpre⟩ : ∃ pre, pre = 34 :: escL (s.data.toList.take j) := ⟨_, rfl⟩
    have hpl : pre.length ≤ 4 * j + 1 := by rw [hpre]; simp; omega
    rw [← hpre] at hI ⊢
    have HR := Lib.hid hI
    have hszw := hI.below.size
    have HPRE := Lib.hid hpre
    clear hpre hq hI
    rcases Nat.lt_or_ge j s.size with hjs | hge
    · have hll : j < s.data.toList.length := by simpa using hjs
      have HS : Hid (34 :: escL (s.data.toList.take (j + 1)) = pre ++ escOf (s[j]'hjs)) := Lib.hid (by rw [HPRE.out, escL_snoc hll]; rfl)
      have hx := (s[j]'hjs).toNat_lt
      by_cases c34 : (s[j]'hjs).toNat = 34
      · have hc : s[j]'hjs = 34 := UInt8.toNat_inj.1 c34
        have he : Hid (escOf (s[j]'hjs) = [92, 34]) := Lib.hid (by rw [hc]; rfl)
        clear hc
        go_wp2_with (at_builtin; refine wpList_append_own _ rfl _ _ 60 rfl w.heap.size 5 i0 (.int .u8 0) 1 1 Tryz.underlying60 hin hz0 hz1 hz2 rfl (by decide) _ _ _ rfl (HR.out.own.alloc _) ⟨wr.heap.size, 0, none⟩ 2 2 [.int .u8 92, .int .u8 34] rfl rfl ?q2c1 ?q2c2 ?q2c3 ?q2c4 ?q2c5 ?_)
        case q2c1 =>
          intro t u hj
          match t, hj with
          | 0, hj => simp at hj; subst hj; simp [Addr.add]
          | 1, hj => simp at hj; subst hj; simp [Addr.add]
        case q2c2 => intro u hu; simp at hu; rcases hu with rfl | rfl <;> rfl
        case q2c3 => unfold maxLen; omega
        case q2c4 => omega
        case q2c5 => simp; omega
        intro v' w3 hown' hgrow _
        obtain ⟨sa', sc', rfl, hr3⟩ := RowB.app ([92, 34]) (pre.length + 2) HR.out rfl (by first | rfl | simp) rfl hown' hgrow
        have HR3 := Lib.hid hr3
        clear hown' hr3
        clear c34
        go_wp2_with fail
        go_roundw
        · exact ⟨j + 1, sa', sc', by rw [HS.out, he.out]; simp, by go_num, by omega, by rw [HS.out, he.out]; exact HR3.out⟩
        · simp [intOf]; omega
      · by_cases c92 : (s[j]'hjs).toNat = 92
        · have hc : s[j]'hjs = 92 := UInt8.toNat_inj.1 c92
          have he : Hid (escOf (s[j]'hjs) = [92, 92]) := Lib.hid (by rw [hc]; rfl)
          clear hc
          go_wp2_with (at_builtin; refine wpList_append_own _ rfl _ _ 60 rfl w.heap.size 5 i0 (.int .u8 0) 1 1 Tryz.underlying60 hin hz0 hz1 hz2 rfl (by decide) _ _ _ rfl (HR.out.own.alloc _) ⟨wr.heap.size, 0, none⟩ 2 2 [.int .u8 92, .int .u8 92] rfl rfl ?q3c1 ?q3c2 ?q3c3 ?q3c4 ?q3c5 ?_)
          case q3c1 =>
            intro t u hj
            match t, hj with
            | 0, hj => simp at hj; subst hj; simp [Addr.add]
            | 1, hj => simp at hj; subst hj; simp [Addr.add]
          case q3c2 => intro u hu; simp at hu; rcases hu with rfl | rfl <;> rfl
          case q3c3 => unfold maxLen; omega
          case q3c4 => omega
          case q3c5 => simp; omega
          intro v' w3 hown' hgrow _
          obtain ⟨sa', sc', rfl, hr3⟩ := RowB.app ([92, 92]) (pre.length + 2) HR.out rfl (by first | rfl | simp) rfl hown' hgrow
          have HR3 := Lib.hid hr3
          clear hown' hr3
          clear c92
          go_wp2_with fail
          go_roundw
          · exact ⟨j + 1, sa', sc', by rw [HS.out, he.out]; simp, by go_num, by omega, by rw [HS.out, he.out]; exact HR3.out⟩
          · simp [intOf]; omega
        · have b34 : (((s[j]'hjs).toNat : Int) == 34) = false := by simp; omega
          have b92 : (((s[j]'hjs).toNat : Int) == 92) = false := by simp; omega
          have n34 : ¬ s[j]'hjs = 34 := fun h => c34 (by rw [h]; rfl)
          have n92 : ¬ s[j]'hjs = 92 := fun h => c92 (by rw [h]; rfl)
          by_cases c10 : (s[j]'hjs).toNat = 10
          · have hc : s[j]'hjs = 10 := UInt8.toNat_inj.1 c10
            have he : Hid (escOf (s[j]'hjs) = [92, 110]) := Lib.hid (by rw [hc]; rfl)
            clear hc n34 n92
            go_wp2_with (at_builtin; refine wpList_append_own _ rfl _ _ 60 rfl w.heap.size 5 i0 (.int .u8 0) 1 1 Tryz.underlying60 hin hz0 hz1 hz2 rfl (by decide) _ _ _ rfl (HR.out.own.alloc _) ⟨wr.heap.size, 0, none⟩ 2 2 [.int .u8 92, .int .u8 110] rfl rfl ?q4c1 ?q4c2 ?q4c3 ?q4c4 ?q4c5 ?_)
            case q4c1 =>
              intro t u hj
              match t, hj with
              | 0, hj => simp at hj; subst hj; simp [Addr.add]
              | 1, hj => simp at hj; subst hj; simp [Addr.add]
            case q4c2 => intro u hu; simp at hu; rcases hu with rfl | rfl <;> rfl
            case q4c3 => unfold maxLen; omega
            case q4c4 => omega
            case q4c5 => simp; omega
            intro v' w3 hown' hgrow _
            obtain ⟨sa', sc', rfl, hr3⟩ := RowB.app ([92, 110]) (pre.length + 2) HR.out rfl (by first | rfl | simp) rfl hown' hgrow
            have HR3 := Lib.hid hr3
            clear hown' hr3
            clear c10
            go_wp2_with fail
            go_roundw
            · exact ⟨j + 1, sa', sc', by rw [HS.out, he.out]; simp, by go_num, by omega, by rw [HS.out, he.out]; exact HR3.out⟩
            · simp [intOf]; omega
          · have b10 : (((s[j]'hjs).toNat : Int) == 10) = false := by simp; omega
            have n10 : ¬ s[j]'hjs = 10 := fun h => c10 (by rw [h]; rfl)
            by_cases cx : (s[j]'hjs).toNat < 32 ∨ 126 < (s[j]'hjs).toNat
            · have he : Hid (escOf (s[j]'hjs) = [92, 120, hexOf ((s[j]'hjs).toNat / 16), hexOf ((s[j]'hjs).toNat % 16)]) := Lib.hid (by unfold escOf; rw [if_neg n34, if_neg n92, if_neg n10, if_pos cx])
              clear n34 n92 n10
              have CX := Lib.hid cx
              clear cx
              rcases CX.out with c32 | c126
              all_goals
                go_wp2_with (first | (have tok := tok1; clear tok tok1; go_at_call 83; refine (rhex_at _ ((s[j]'hjs).toNat % 16) ?_ (by omega) _).mono ?_; (focus (first | omega | (rw [Int.tmod_eq_emod_of_nonneg (by omega)]; omega))); rintro e w3 ⟨rfl, rfl⟩) | (go_at_call 83; refine (rhex_at _ ((s[j]'hjs).toNat / 16) ?_ (by omega) _).mono ?_; (focus (first | omega | (rw [u8_keep _ (by omega) (by omega)]; omega))); rintro e w2 ⟨rfl, rfl⟩; have tok1 : True := trivial) | (at_builtin; refine wpList_append_own _ rfl _ _ 60 rfl w.heap.size 5 i0 (.int .u8 0) 1 1 Tryz.underlying60 hin hz0 hz1 hz2 rfl (by decide) _ _ _ rfl (HR.out.own.alloc _) ⟨wr.heap.size, 0, none⟩ 4 4 [.int .u8 92, .int .u8 120, .int .u8 ((hexOf ((s[j]'hjs).toNat / 16)).toNat : Int), .int .u8 ((hexOf ((s[j]'hjs).toNat % 16)).toNat : Int)] rfl rfl ?q5c1 ?q5c2 ?q5c3 ?q5c4 ?q5c5 ?_))
                case q5c1 =>
                  intro t u hj
                  match t, hj with
                  | 0, hj => simp at hj; subst hj; simp [Addr.add]
                  | 1, hj => simp at hj; subst hj; simp [Addr.add]
                  | 2, hj => simp at hj; subst hj; simp [Addr.add]
                  | 3, hj => simp at hj; subst hj; simp [Addr.add]
                case q5c2 => intro u hu; simp at hu; rcases hu with rfl | rfl | rfl | rfl <;> rfl
                case q5c3 => unfold maxLen; omega
                case q5c4 => omega
                case q5c5 => simp; omega
                intro v' w3 hown' hgrow _
                obtain ⟨sa', sc', rfl, hr3⟩ := RowB.app ([92, 120, hexOf ((s[j]'hjs).toNat / 16), hexOf ((s[j]'hjs).toNat % 16)]) (pre.length + 4) HR.out rfl (by first | rfl | simp) rfl hown' hgrow
                have HR3 := Lib.hid hr3
                clear hown' hr3
                go_wp2_with fail
                go_roundw
                · exact ⟨j + 1, sa', sc', by rw [HS.out, he.out]; simp, by go_num, by omega, by rw [HS.out, he.out]; exact HR3.out⟩
                · simp [intOf]; omega
            · have he : Hid (escOf (s[j]'hjs) = [s[j]'hjs]) := Lib.hid (by unfold escOf; rw [if_neg n34, if_neg n92, if_neg n10, if_neg cx])
              clear n34 n92 n10
              have b32 : ¬ ((s[j]'hjs).toNat : Int) < 32 := by omega
              have b126 : ¬ (126 : Int) < ((s[j]'hjs).toNat : Int) := by omega
              clear cx
              go_wp2_with (at_builtin; refine wpList_append_own _ rfl _ _ 60 rfl w.heap.size 5 i0 (.int .u8 0) 1 1 Tryz.underlying60 hin hz0 hz1 hz2 rfl (by decide) _ _ _ rfl (HR.out.own.alloc _) ⟨wr.heap.size, 0, none⟩ 1 1 [.int .u8 ((s[j]'hjs).toNat : Int)] rfl rfl ?q6c1 ?q6c2 ?q6c3 ?q6c4 ?q6c5 ?_)
              case q6c2 => rfl
              case q6c3 => unfold maxLen; omega
              case q6c4 => omega
              case q6c5 => omega
              intro v' w3 hown' hgrow _
              obtain ⟨sa', sc', rfl, hr3⟩ := RowB.app ([s[j]'hjs]) (pre.length + 1) HR.out rfl (by first | rfl | simp) rfl hown' hgrow
              have HR3 := Lib.hid hr3
              clear hown' hr3
              go_wp2_with fail
              go_roundw
              · exact ⟨j + 1, sa', sc', by rw [HS.out, he.out]; simp, by go_num, by omega, by rw [HS.out, he.out]; exact HR3.out⟩
              · simp [intOf]; omega
    · have HL : Hid (j = s.size) := Lib.hid (by omega)
      go_wp2_with (at_builtin; refine wpList_append_own _ rfl _ _ 60 rfl w.heap.size 5 i0 (.int .u8 0) 1 1 Tryz.underlying60 hin hz0 hz1 hz2 rfl (by decide) _ _ _ rfl (HR.out.own.alloc _) ⟨wr.heap.size, 0, none⟩ 1 1 [.int .u8 34] rfl rfl ?q7c1 ?q7c2 ?q7c3 ?q7c4 ?q7c5 ?_)
      case q7c1 =>
        intro t u hj
        match t, hj with
        | 0, hj => simp at hj; subst hj; simp [Addr.add]
      case q7c2 => intro u hu; simp at hu; rcases hu with rfl <;> rfl
      case q7c3 => unfold maxLen; omega
      case q7c4 => omega
      case q7c5 => simp; omega
      intro v' w3 hown' hgrow _
      obtain ⟨sa', sc', rfl, hr3⟩ := RowB.app ([34]) (pre.length + 1) HR.out rfl (by first | rfl | simp) rfl hown' hgrow
      have HR3 := Lib.hid hr3
      clear hown' hr3
      have hconv := HR3.out.conv (n := pre.length + 1) (by simp) (by simp)
      go_wp2_with fail
      go_ret
      refine ⟨?_, HR3.out.below⟩
      have e1 : pre ++ [34] = quoteL s.data.toList := by rw [HPRE.out, HL.out, quoteL, List.take_of_length_le (by simp)]; rfl
      rw [e1]; rfl
end Go.Proofs.YtmepjbjmjbpchaaGreatDoor
end
section
/- The reference: Value. -/
namespace Go.Proofs.YtmepjbjmjbpchaaGreatDoor
open Go Go.RowKit
set_option linter.unusedVariables false
set_option linter.unusedSimpArgs false

section
variable (nm : ByteArray) (n : Int) (tx : ByteArray) (ia : Option Addr) (il ic : Nat) (ta : Option Addr) (tl tc : Nat) (w : World)
theorem rval0 (h0 : -9223372036854775808 ≤ n) (h1 : n ≤ 9223372036854775807) : Calls Tryz.prog 33 #[av nm 0 n tx ia il ic ta tl tc] w fun e w' => e = .returned (.string (itoaB n)) ∧ Below w.heap.size w w' := by
  go_enter Tryz.func33, Tryz.ntmps33
  go_wp2_with (go_at_call 60; refine (rdigits_any n h0 h1 _).mono ?_; rintro e w1 ⟨rfl, rfl⟩)
  go_ret
  exact ⟨rfl, (Below.refl _ w).alloc (Nat.le_refl _) _⟩
theorem rval1 (hs : tx.size ≤ 1000) : Calls Tryz.prog 33 #[av nm 1 n tx ia il ic ta tl tc] w fun e w' => e = .returned (.string ⟨(quoteL tx.data.toList).toArray⟩) ∧ Below w.heap.size w w' := by
  go_enter Tryz.func33, Tryz.ntmps33
  go_wp2_with (go_at_call 61; refine (rquote_any tx _ (by omega)).mono ?_; rintro e w1 ⟨rfl, hb1⟩)
  go_ret
  exact ⟨rfl, below_own hb1⟩
theorem rval2 (hx : tx.size ≤ 140737488351232) : Calls Tryz.prog 33 #[av nm 2 n tx ia il ic ta tl tc] w fun e w' => e = .returned (.string (⟨#[64]⟩ ++ tx)) ∧ Below w.heap.size w w' := by
  go_enter Tryz.func33, Tryz.ntmps33
  go_wp2_with fail
  go_ret
  exact ⟨rfl, (Below.refl _ w).alloc (Nat.le_refl _) _⟩
theorem rval3 : Calls Tryz.prog 33 #[av nm 3 n tx ia il ic ta tl tc] w fun e w' => e = .returned (.string tx) ∧ Below w.heap.size w w' := by
  go_enter Tryz.func33, Tryz.ntmps33
  go_wp2_with fail
  go_ret
  exact ⟨rfl, (Below.refl _ w).alloc (Nat.le_refl _) _⟩
theorem rval5 (ls : List ByteArray) (hs : StrSl w ta ls) (hl : ls.length ≤ 1000) (hsz : ∀ s ∈ ls, s.size ≤ 1000) :
    Calls Tryz.prog 33 #[av nm 5 n tx ia il ic ta ls.length tc] w fun e w' => e = .returned (.string ⟨(40 :: joinS ls ++ [41]).toArray⟩) ∧ Below w.heap.size w w' := by
  have hb0 := (Below.refl w.heap.size w).alloc (Nat.le_refl _) (.cells (avCells nm 5 n tx ia il ic ta ls.length tc) 27)
  have HJ := Lib.hid (rjoin_any ta tc ls _ (hs.below hb0) hl hsz)
  have HB := Lib.hid hb0
  clear hb0 hs hsz
  go_enter Tryz.func33, Tryz.ntmps33
  go_wp2_with (go_at_call 62; refine HJ.out.mono ?_; rintro e w1 ⟨rfl, rfl⟩)
  go_ret
  exact ⟨rfl, HB.out⟩
set_option maxRecDepth 100000 in
set_option maxHeartbeats 2000000 in
theorem rval4 (zs : List Int) (hs : IntSl w ia zs) (hlen : zs.length ≤ 100) (hz : ∀ z ∈ zs, -9223372036854775808 ≤ z ∧ z ≤ 9223372036854775807) :
    Calls Tryz.prog 33 #[av nm 4 n tx ia zs.length ic ta tl tc] w fun e w' => e = .returned (.string ⟨(91 :: (Lib.join ((zs.map itoaB).map (·.data.toList)) [44, 32] ++ [93])).toArray⟩) ∧ Below w.heap.size w w' := by
  have HZ := Lib.hid hz
  obtain ⟨ls, hls⟩ : ∃ ls, ls = zs.map itoaB := ⟨_, rfl⟩
  obtain ⟨N, hN⟩ : ∃ N, N = zs.length := ⟨_, rfl⟩
  rw [← hls, ← hN]
  rw [← hN] at hlen
  have HLN : Hid (ls.length = N) := Lib.hid (by rw [hls, hN]; simp)
  have HLS := Lib.hid hls
  have HN := Lib.hid hN
  have hb0 := (Below.refl w.heap.size w).alloc (Nat.le_refl _) (.cells #[.string nm, .int .i64 4, .int .i64 n, .string tx, .slice ia N ic, .slice ta tl tc] 27)
  have HS := Lib.hid (hs.below hb0)
  have HB := Lib.hid hb0
  clear hb0 hs hz hls hN
  go_enter Tryz.func33, Tryz.ntmps33
  go_wp2_with fail
  go_loop [3, 4] (fun t i => ∃ (j : Nat) (st : ByteArray), j ≤ N ∧ i = .int .i64 j ∧ t = .string st ∧ st.data.toList = 91 :: joinS (ls.take j)) (fun _ i => N - (intOf i).toNat)
  case atStart => exact ⟨0, _, Nat.zero_le _, rfl, rfl, rfl⟩
  case round =>
    obtain ⟨j, st, hj, rfl, rfl, hst⟩ := hrel
    have hsts : st.size ≤ 1100000 := by
      have h1 := joinS_len (ls.take j) (fun s hs => by
        have := List.mem_of_mem_take hs
        rw [HLS.out] at this
        obtain ⟨z, hz, rfl⟩ := List.mem_map.1 this
        have := itoaB_size z (HZ.out z hz).1 (HZ.out z hz).2
        omega)
      have h2 : (ls.take j).length ≤ 100 := by simp; omega
      have h3 := congrArg List.length hst
      have h4 : st.data.toList.length = st.size := by simp
      rw [h4, List.length_cons] at h3
      omega
    have HST := Lib.hid hst
    clear hst
    rcases Nat.lt_or_ge j N with hlt | hge
    · have hl0 : j < zs.length := by rw [← HN.out]; exact hlt
      have hll : j < ls.length := by rw [HLN.out]; exact hlt
      obtain ⟨g, off, rfl, hg, hcell⟩ := HS.out.at hl0
      obtain ⟨z, hze⟩ : ∃ z, z = zs.getD j 0 := ⟨_, rfl⟩
      rw [← hze] at hcell
      have hzj : z = zs[j] := by rw [hze, List.getD_eq_getElem?_getD, List.getElem?_eq_getElem hl0]; rfl
      obtain ⟨z0, z1⟩ := HZ.out z (by rw [hzj]; exact List.getElem_mem _)
      have HX : Hid (itoaB z = ls[j]) := Lib.hid (by simp only [HLS.out, List.getElem_map, hzj])
      obtain ⟨x, hx⟩ : ∃ x, x = itoaB z := ⟨_, rfl⟩
      have hxs : x.size ≤ 21 := by rw [hx]; exact itoaB_size z z0 z1
      have HD : Hid (∀ W : World, Calls Tryz.prog 60 #[.int .i64 z] W fun e w' => e = .returned (.string x) ∧ W = w') := Lib.hid (fun W => by rw [hx]; exact rdigits_any z z0 z1 W)
      rw [← hx] at HX
      have hlt' : (j : Int) < (N : Int) := by omega
      clear hze hzj hx hg
      rcases Nat.eq_zero_or_pos j with h0 | h0
      · have hf := joinS_first (ls := ls) (by omega)
        have HF := Lib.hid hf
        clear hf
        subst h0
        rw [Nat.add_zero] at hcell
        go_wp2_with (go_at_call 60; refine (HD.out _).mono ?_; rintro e w1 ⟨rfl, rfl⟩)
        go_round
        case rel =>
          refine ⟨1, _, hlt, rfl, rfl, ?_⟩
          rw [HF.out, ← HX.out]
          simp [HST.out, joinS, Lib.join_nil]
        case measure => simp [intOf]; omega
      · have hf := joinS_snoc (ls := ls) hll h0
        have HF := Lib.hid hf
        have h0i : (0 : Int) < (j : Int) := by omega
        clear hf
        go_wp2_with (go_at_call 60; refine (HD.out _).mono ?_; rintro e w1 ⟨rfl, rfl⟩)
        go_round
        case rel =>
          refine ⟨j + 1, _, hlt, by simp, rfl, ?_⟩
          rw [HF.out, ← HX.out]
          simp [HST.out]
        case measure => simp [intOf]; omega
    · obtain rfl : N = j := by omega
      go_wp2_with fail
      go_ret
      refine ⟨?_, HB.out⟩
      have e1 : st ++ ⟨#[93]⟩ = ⟨(91 :: (Lib.join (ls.map (·.data.toList)) [44, 32] ++ [93])).toArray⟩ := by
        apply ByteArray.ext
        apply Array.ext'
        have := HST.out
        rw [List.take_of_length_le (by rw [HLN.out]; exact Nat.le_refl _)] at this
        simp [this, joinS]
      exact congrArg (fun t => Ending.returned (.string t)) e1
end
theorem rvalue_any (a : Atr) (w : World) (hl : a.Lies w) (hf : a.Fits) (hr : rightA a = true) :
    Calls Tryz.prog 33 #[a.val] w fun e w' => e = .returned (.string ⟨(valD a.dat).toArray⟩) ∧ Below w.heap.size w w' := by
  obtain ⟨k0, k5⟩ := av_kind_row hr
  have h6 : a.kind = 0 ∨ a.kind = 1 ∨ a.kind = 2 ∨ a.kind = 3 ∨ a.kind = 4 ∨ a.kind = 5 := by omega
  have hown : ownB a = true := by unfold rightA at hr; simp only [Bool.and_eq_true] at hr; exact hr.1.2
  have go : ∀ r : ByteArray, (Calls Tryz.prog 33 #[a.val] w fun e w' => e = .returned (.string r) ∧ Below w.heap.size w w') → r = ⟨(valD a.dat).toArray⟩ →
      Calls Tryz.prog 33 #[a.val] w fun e w' => e = .returned (.string ⟨(valD a.dat).toArray⟩) ∧ Below w.heap.size w w' := by
    intro r h1 h2; rw [← h2]; exact h1
  have hv : ∀ k : Int, a.kind = k → a.val = av a.name k a.num a.text a.ia a.ints.length a.ic a.ta a.texts.length a.tc := by rintro k rfl; rfl
  rcases h6 with h | h | h | h | h | h
  · refine go _ (by rw [hv _ h]; exact rval0 _ _ _ _ _ _ _ _ _ w hf.num.1 hf.num.2) ?_
    simp [valD, Atr.dat, h, itoaB]
  · refine go _ (by rw [hv _ h]; exact rval1 _ _ _ _ _ _ _ _ _ w (by simpa [ownB, h] using hown)) ?_
    simp [valD, Atr.dat, h]
  · refine go _ (by rw [hv _ h]; exact rval2 _ _ _ _ _ _ _ _ _ w hf.text) ?_
    apply ByteArray.ext; apply Array.ext'
    simp [valD, Atr.dat, h]
  · refine go _ (by rw [hv _ h]; exact rval3 _ _ _ _ _ _ _ _ _ w) ?_
    simp [valD, Atr.dat, h]
  · refine go _ (by rw [hv _ h]; exact rval4 _ _ _ _ _ _ _ _ w a.ints hl.ints (by simp [ownB, h] at hown; exact hown.1) hf.ints) ?_
    simp [valD, Atr.dat, h]
  · have h1 : a.texts.length ≤ 100 ∧ ∀ x ∈ a.texts, isTyB x = true := by simp [ownB, h] at hown; exact ⟨hown.1.1, hown.1.2⟩
    have h2 : ∀ s ∈ a.texts, s.size ≤ 1000 := fun s hs => by
      have := goodTy_len (s := s) (by rw [badTy_eq, h1.2 s hs]; rfl)
      simp at this; omega
    have h3 : a.texts.any badTy = false := by
      rw [List.any_eq_false]; intro x hx; rw [badTy_eq, h1.2 x hx]; simp
    refine go _ (by rw [hv _ h]; exact rval5 _ _ _ _ _ _ _ _ w a.texts hl.texts (by omega) h2) ?_
    have h4 : ¬ 100 < a.texts.length := by omega
    simp [valD, Atr.dat, h, joinOf, h3, h4, joinS]
end Go.Proofs.YtmepjbjmjbpchaaGreatDoor
end
section
/- A region that draws its order: a slot that only a late operation writes is read as it was. -/
set_option linter.unusedVariables false
set_option linter.unusedSimpArgs false
namespace Go.Proofs.YtmepjbjmjbpchaaGreatDoor
open Go

/-- Operation k has not come up. -/
def Late (k : Nat) (listed : Array Bool) : Prop := listed.getD k true = false
theorem late_start {k s : Nat} (h : k < s) : Late k (Array.replicate s false) := by simp [Late, h]
theorem late_set {i k : Nat} {listed : Array Bool} (h : Late k listed) (hne : i ≠ k) : Late k (listed.setIfInBounds i true) := by
  unfold Late at h ⊢
  rw [Array.getD_eq_getD_getElem?] at h ⊢
  rw [Array.getElem?_setIfInBounds_ne hne]; exact h
def onlyDst (ops : Array Oper) (d k : Nat) : Bool := (List.range ops.size).all fun j => j == k || (ops[j]?.bind (·.dst)) != some d
theorem Agrees.eval_late {ops : Array Oper} {V : Nat → Value} {a0 a : Act} {listed : Array Bool} (h : Agrees ops V a0 listed a) {d k : Nat} (ho : onlyDst ops d k = true) (hl : Late k listed) : a.eval (.tmp d) = a0.eval (.tmp d) := by
  have := h.old d fun j o hj hlj hd => by
    have hjs : j < ops.size := (Array.getElem?_eq_some_iff.1 hj).1
    have h1 := List.all_eq_true.1 ho j (List.mem_range.2 hjs)
    rw [hj] at h1
    simp [hd] at h1
    subst h1
    unfold Late at hl
    rw [getD_both hl] at hlj; cases hlj
  simp only [Act.eval, Array.getD_eq_getD_getElem?, this]
end Go.Proofs.YtmepjbjmjbpchaaGreatDoor
end
