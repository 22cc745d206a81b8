/- Texts of this claim, laid together: Br3, Br4. -/
import Derived.Test.YtmepjbjmjbpchaaGreatDoorMg14
import Derived.Test.YtmepjbjmjbpchaaGreatDoorMg16
import Derived.Test.YtmepjbjmjbpchaaGreatDoorMg25
import Derived.Test.YtmepjbjmjbpchaaGreatDoorMg26
import Derived.Test.YtmepjbjmjbpchaaGreatDoorMg27
section
/- The reference's numbers at any string. -/
namespace Go.Proofs.YtmepjbjmjbpchaaGreatDoor
open Go Go.RowKit Go.Sort
set_option linter.unusedVariables false
set_option linter.unusedSimpArgs false

/-- What numbers answers. -/
def RnPost (s : ByteArray) (w : World) (e : Ending) (w' : World) : Prop :=
  Below w.heap.size w w' ∧ ∃ (sa : Option Addr) (sc : Nat) (l : List Int) (ok : Bool), e = .returned (.tuple #[.slice sa l.length sc, .bool ok]) ∧ IntSl w' sa l ∧ (l.length ≤ sc ∧ ∀ x, sa = some x → w.heap.size ≤ x.block ∧ x.block < w'.heap.size) ∧ (∀ z ∈ l, I64 z) ∧ l.length ≤ s.size ∧
    (ok = true → s.data.toList = 91 :: (joinI l ++ [93])) ∧ (∀ l', (∀ z ∈ l', I64 z) → s.data.toList = 91 :: (joinI l' ++ [93]) → ok = true)
theorem rn_no {s : ByteArray} {w w' : World} {e : Ending} (hb : Below w.heap.size w w') (he : e = .returned (.tuple #[.slice none 0 0, .bool false])) (h : ∀ l', (∀ z ∈ l', I64 z) → ¬ s.data.toList = 91 :: (joinI l' ++ [93])) : RnPost s w e w' :=
  ⟨hb, none, 0, [], false, he, .inl rfl, ⟨Nat.le_refl _, fun x hx => by cases hx⟩, (by simp), Nat.zero_le _, (fun h => by cases h), fun l' h1 h2 => absurd h2 (h l' h1)⟩
/-- The world and what is known at the head of the loop over the numbers; b0: what stands between the brackets. -/
structure RnI (w : World) (b0 : List UInt8) (zs : List Int) (sa : Option Addr) (sc : Nat) (rs : ByteArray) (wr : World) : Prop where
  sound : b0 = sepd zs ++ rs.data.toList
  way : ∀ l', (∀ z ∈ l', I64 z) → b0 = joinI l' → ∃ l2, l' = zs ++ l2 ∧ rs.data.toList = joinI l2 ∧ (zs ≠ [] → l2 ≠ [])
  rng : ∀ z ∈ zs, I64 z
  sz : zs.length + rs.size ≤ b0.length
  own : wr.ownsRow w.heap.size 2 1 (.slice sa zs.length sc) zs.length (zs.map (.int .i64))
  below : Below w.heap.size w wr
/-- The last number: what is left holds no comma. -/
theorem RnI.last {w wr : World} {b0 : List UInt8} {zs : List Int} {sa : Option Addr} {sc : Nat} {rs : ByteArray} (h : RnI w b0 zs sa sc rs wr) (hcut : cutOf 44 rs.data.toList = none) (hne : rs.data.toList ≠ [] ∨ zs ≠ []) :
    (rintB rs.data.toList = false → ∀ l', (∀ z ∈ l', I64 z) → ¬ b0 = joinI l') ∧ (rintB rs.data.toList = true → b0 = joinI (zs ++ [rintN rs.data.toList])) := by
  refine ⟨fun hb l' hl' hj => ?_, fun hb => ?_⟩
  · obtain ⟨l2, h1, h2, h3⟩ := h.way l' hl' hj
    cases l2 with
    | nil =>
      rcases hne with h4 | h4
      · exact h4 h2
      · exact h3 h4 rfl
    | cons n l2 =>
      rcases joinI_head h2 with ⟨-, -, h5⟩ | ⟨m, l3, -, h5⟩
      · have := (rint_itoa (hl' n (by rw [h1]; simp))).1
        rw [← h5, hb] at this
        cases this
      · rw [hcut] at h5; cases h5
  · rw [joinI_snoc, rint_yes hb]; exact h.sound
/-- A number with more behind it. -/
theorem RnI.more {w wr : World} {b0 : List UInt8} {zs : List Int} {sa : Option Addr} {sc : Nat} {rs : ByteArray} (h : RnI w b0 zs sa sc rs wr) {x y : List UInt8} (hcut : cutOf 44 rs.data.toList = some (x, y)) :
    (rintB x = false → ∀ l', (∀ z ∈ l', I64 z) → ¬ b0 = joinI l') ∧ (y.head? ≠ some 32 → ∀ l', (∀ z ∈ l', I64 z) → ¬ b0 = joinI l') ∧
    (rintB x = true → y.head? = some 32 → ∀ (rs' : ByteArray) (sa' : Option Addr) (sc' : Nat) (w3 : World), rs'.data.toList = y.tail → w3.ownsRow w.heap.size 2 1 (.slice sa' (zs.length + 1) sc') (zs.length + 1) ((zs ++ [rintN x]).map (.int .i64)) → Below w.heap.size w w3 → RnI w b0 (zs ++ [rintN x]) sa' sc' rs' w3) := by
  have key : ∀ l', (∀ z ∈ l', I64 z) → b0 = joinI l' → ∃ n l2, l' = zs ++ n :: l2 ∧ l2 ≠ [] ∧ x = Lib.itoa n ∧ y = 32 :: joinI l2 := by
    intro l' hl' hj
    obtain ⟨l2, h1, h2, h3⟩ := h.way l' hl' hj
    cases l2 with
    | nil =>
      rw [h2] at hcut
      have : cutOf 44 (joinI []) = none := rfl
      rw [this] at hcut; cases hcut
    | cons n l2 =>
      rcases joinI_head h2 with ⟨-, h5, -⟩ | ⟨m, l3, h4, h5⟩
      · rw [hcut] at h5; cases h5
      · rw [hcut] at h5
        have h6 := Option.some.inj h5
        exact ⟨n, l2, h1, by rw [h4]; simp, (Prod.mk.inj h6).1, (Prod.mk.inj h6).2⟩
  refine ⟨fun hb l' hl' hj => ?_, fun hy l' hl' hj => ?_, fun hb hy rs' sa' sc' w3 hrs' hown hbel => ?_⟩
  · obtain ⟨n, l2, h1, h2, h3, h4⟩ := key l' hl' hj
    have := (rint_itoa (hl' n (by rw [h1]; simp))).1
    rw [← h3, hb] at this
    cases this
  · obtain ⟨n, l2, h1, h2, h3, h4⟩ := key l' hl' hj
    exact hy (by rw [h4]; rfl)
  · obtain ⟨-, hxy, -⟩ := cutOf_some _ _ _ _ hcut
    have hy2 : y = 32 :: y.tail := by
      cases y with
      | nil => simp at hy
      | cons c y => simp at hy; rw [hy]; rfl
    refine ⟨?_, fun l' hl' hj => ?_, ?_, ?_, by simpa using hown, hbel⟩
    · rw [sepd_snoc, rint_yes hb, h.sound, hxy, hrs', hy2]; simp
    · obtain ⟨n, l2, h1, h2, h3, h4⟩ := key l' hl' hj
      have hn : rintN x = n := by rw [h3]; exact (rint_itoa (hl' n (by rw [h1]; simp))).2
      refine ⟨l2, by rw [h1, hn]; simp, by rw [hrs', h4]; rfl, fun _ => h2⟩
    · intro z hz
      rcases List.mem_append.1 hz with hz | hz
      · exact h.rng z hz
      · rw [List.mem_singleton.1 hz]; exact rintN_I64 _
    · have h5 := h.sz
      have h6 := congrArg List.length hxy
      have h7 := congrArg List.length hrs'
      simp at h6 h7
      simp
      omega
theorem rn_end {s b : ByteArray} {w w' : World} {e : Ending} {zs : List Int} {sa : Option Addr} {sc : Nat} (he : s.data.toList = 91 :: (b.data.toList ++ [93])) (hb : Below w.heap.size w w') (hr : e = .returned (.tuple #[.slice sa zs.length sc, .bool true]))
    (hj : b.data.toList = joinI zs) (ho : w'.ownsRow w.heap.size 2 1 (.slice sa zs.length sc) zs.length (zs.map (.int .i64))) (hz : ∀ z ∈ zs, I64 z) (hl : zs.length ≤ s.size) : RnPost s w e w' :=
  ⟨hb, sa, sc, zs, true, hr, own_ints ho, own_at ho, hz, hl, fun _ => by rw [he, hj], fun _ _ _ => rfl⟩
theorem rn_none {s b : ByteArray} {w w' : World} {e : Ending} (he : s.data.toList = 91 :: (b.data.toList ++ [93])) (hb : Below w.heap.size w w') (hr : e = .returned (.tuple #[.slice none 0 0, .bool false]))
    (h : ∀ l', (∀ z ∈ l', I64 z) → ¬ b.data.toList = joinI l') : RnPost s w e w' :=
  rn_no hb hr fun l' h1 h2 => h l' h1 (by
    rw [he] at h2
    have h3 := (List.cons.inj h2).2
    exact List.append_cancel_right h3)
set_option maxRecDepth 100000 in
set_option maxHeartbeats 8000000 in
theorem rnbs_loop (s b : ByteArray) (w : World) (hs : s.size ≤ 4294967280) (h2 : 2 ≤ s.size) (hb : s.extract 1 (s.size - 1) = b) (he : s.data.toList = 91 :: (b.data.toList ++ [93])) : Calls Tryz.prog 47 #[.string s] w (RnPost s w) := by
  have hp0 : 0 < s.size := by omega
  have hpl : s.size - 1 < s.size := by omega
  have hq2 : (2 : Int) ≤ (s.size : Int) := by omega
  have hg0 := bytes_get s 0 hp0
  have hgl := bytes_get s (s.size - 1) hpl
  have hbl : b.data.toList.length = s.size - 2 := by
    have := congrArg List.length he
    simp at this
    have h3 : b.data.toList.length = b.size := by simp
    omega
  have h91 : (((s[0]'hp0).toNat : Int) != 91) = false := by
    rw [he] at hg0
    have : s[0]'hp0 = 91 := by simpa using hg0.symm
    rw [this]; rfl
  have h93 : (((s[s.size - 1]'hpl).toNat : Int) != 93) = false := by
    have hsz1 : s.size - 1 = b.data.toList.length + 1 := by omega
    have hl93 : s.data.toList[s.size - 1]? = some 93 := by
      rw [hsz1, he, List.getElem?_cons_succ, List.getElem?_append_right (Nat.le_refl _)]
      simp
    rw [hl93] at hgl
    have : s[s.size - 1]'hpl = 93 := (Option.some.inj hgl).symm
    rw [this]; rfl
  have hi0 : RnI w b.data.toList [] none 0 b w := ⟨by simp [sepd], fun l' _ h => ⟨l', rfl, h, fun h => absurd rfl h⟩, by simp, by simp, World.ownsRow_nil _ _ _ _, Below.refl _ _⟩
  have HI0 := Lib.hid hi0
  have HE := Lib.hid he
  have HEX := Lib.hid hb
  have HBL := Lib.hid hbl
  have hbs : b.size ≤ 4294967280 := by have : b.data.toList.length = b.size := by simp
                                       omega
  obtain ⟨i0, hin, hz0, hz1, hz2⟩ := info_parts (show (Tryz.prog.info? 2).map (fun i => (i.zero, i.size, i.bytes)) = some (some (.int .i64 0), 1, 8) by kernel_rfl)
  clear hi0 he hb hg0 hgl hbl
  go_enter Tryz.func47, Tryz.ntmps47
  go_wp2_with fail
  go_loopw [0, 4] (fun rv ov wr => ∃ (zs : List Int) (sa : Option Addr) (sc : Nat) (rs : ByteArray), rv = .string rs ∧ ov = .slice sa zs.length sc ∧ RnI w b.data.toList zs sa sc rs wr) (fun rv _ _ => strLen rv)
  case atStart =>
    exact ⟨[], none, 0, b, by rw [HEX.out], rfl, HI0.out⟩
  case round =>
    clear h91 h93 HI0
    obtain ⟨zs, sa, sc, rs, rfl, rfl, hi⟩ := hrel
    have hsz := hi.sz
    rw [HBL.out] at hsz
    have HI := Lib.hid hi
    clear hi
    have hrs : rs.size ≤ 4294967296 := by omega
    by_cases hrz : rs.size = 0
    · have hr0 : rs = ⟨#[]⟩ := by
        apply ByteArray.ext
        exact Array.eq_empty_of_size_eq_zero hrz
      subst hr0
      clear hrz
      by_cases hzs : zs = []
      · subst hzs
        go_wp2_with fail
        go_ret2
        exact rn_end HE.out HI.out.below rfl HI.out.sound HI.out.own HI.out.rng (Nat.zero_le _)
      · have hzl : (0 : Int) < (zs.length : Int) := by have := List.length_pos_iff.2 hzs; omega
        have HNO := Lib.hid ((HI.out.last rfl (.inr hzs)).1 rfl)
        clear hzs
        go_wp2_with fail
        go_loop [5] (fun i => i = .int .i64 0) (fun i => 0)
        case atStart => rfl
        case round =>
          subst hrel
          go_wp2_with fail
          refine (rint_any ByteArray.empty _ (by decide)).mono ?_
          rintro e w1 ⟨rfl, n, rfl, hn, hnn⟩
          rw [show rintB ByteArray.empty.data.toList = false from rfl]
          clear hn hnn
          go_wp2_with fail
          go_ret2
          exact rn_none HE.out HI.out.below rfl HNO.out
    · have hemp := not_empty (show 0 < rs.size by omega)
      have hrne : rs.data.toList ≠ [] := by intro h; have := congrArg List.length h; rw [list_size, List.length_nil] at this; omega
      have HRNE := Lib.hid hrne
      clear hrz hrne
      go_wp2_with fail
      go_loop [5] (fun i => ∃ j : Nat, j ≤ rs.size ∧ i = .int .i64 j ∧ ∀ x ∈ rs.data.toList.take j, x ≠ 44) (fun i => rs.size - (intOf i).toNat)
      case atStart => exact ⟨0, Nat.zero_le _, rfl, by simp⟩
      case round =>
        obtain ⟨j, hj, rfl, hx⟩ := hrel
        have HX := Lib.hid hx
        clear hx
        rcases Nat.lt_or_ge j rs.size with hlt | hge
        · have hget := Lib.hid (bytes_get rs j hlt)
          by_cases hc : ((rs[j]'hlt).toNat : Int) = 44
          · have hb : (((rs[j]'hlt).toNat : Int) != 44) = false := by rw [hc]; rfl
            have hcut : cutOf 44 rs.data.toList = some (rs.data.toList.take j, rs.data.toList.drop (j + 1)) := by
              rw [cutOf_take _ 44 j HX.out (fun x hx => by rw [hget.out] at hx; cases hx; exact byte_eq 44 (by omega) hc), if_pos (by simpa using hlt)]
            have hex : (rs.extract 0 j).data.toList = rs.data.toList.take j := by simp [ByteArray.data_extract]
            have hm := HI.out.more hcut
            have hj1 : (j : Int) + 1 ≤ (rs.size : Int) := by omega
            have hjn : ((j : Int) == (rs.size : Int)) = false := by rw [beq_eq_false_iff_ne]; omega
            have hxs : (rs.extract 0 j).size ≤ 4294967296 := by rw [ByteArray.size_extract]; omega
            have HEX := Lib.hid hex
            have HM := Lib.hid hm
            clear hc hex hcut hm
            cases hty : rintB (rs.data.toList.take j) with
            | false =>
              have HNO := Lib.hid (HM.out.1 hty)
              have HTY := Lib.hid hty
              clear hty
              go_wp2_with (go_at_call 49; refine (rint_any _ _ (by omega)).mono ?_; rintro e w1 ⟨rfl, n, rfl, hn, hnn⟩; clear hn hnn; rw [HEX.out, HTY.out])
              go_ret2
              exact rn_none HE.out HI.out.below rfl HNO.out
            | true =>
              have HTY := Lib.hid hty
              clear hty
              go_wp2_with fail
              refine (rint_any _ _ (by omega)).mono ?_
              rintro e w1 ⟨rfl, n, rfl, hn, hnn⟩
              rw [HEX.out, HTY.out]
              rw [HEX.out] at hnn
              have HNN := Lib.hid (hnn HTY.out)
              have hszw := HI.out.below.size
              clear hn hnn
              have hcs : ((rs.size : Int) ≤ (j : Int) + 1 ∧ (rs.data.toList.drop (j + 1)).head? ≠ some 32) ∨ (∃ hk : j + 1 < rs.size, (((rs[j + 1]'hk).toNat : Int) != 32) = true ∧ (rs.data.toList.drop (j + 1)).head? ≠ some 32) ∨ (∃ hk : j + 1 < rs.size, (((rs[j + 1]'hk).toNat : Int) != 32) = false ∧ (rs.data.toList.drop (j + 1)).head? = some 32) := by
                rcases Nat.lt_or_ge (j + 1) rs.size with hk | hk
                · have hd : (rs.data.toList.drop (j + 1)).head? = some (rs[j + 1]'hk) := by rw [List.head?_drop]; exact bytes_get rs (j + 1) hk
                  by_cases h32 : ((rs[j + 1]'hk).toNat : Int) = 32
                  · refine .inr (.inr ⟨hk, by rw [h32]; rfl, by rw [hd, byte_eq 32 (by omega) h32]; rfl⟩)
                  · refine .inr (.inl ⟨hk, by rw [bne_iff_ne]; exact h32, by rw [hd]; intro he; exact byte_ne 32 (by omega) h32 (Option.some.inj he)⟩)
                · refine .inl ⟨by omega, ?_⟩
                  rw [List.drop_of_length_le (by simp; omega)]
                  simp
              go_wp2_with (at_builtin; refine wpList_append_own _ rfl _ _ 24 rfl w.heap.size 2 i0 (.int .i64 0) 1 8 Tryz.underlying24 hin hz0 hz1 hz2 rfl (by decide) _ _ _ rfl (HI.out.own.alloc _) ⟨wr.heap.size, 0, none⟩ 1 1 [.int .i64 n] rfl rfl ?c1 ?c2 ?c3 ?c4 ?c5 ?_)
              case c1 =>
                intro t u hj
                match t, hj with
                | 0, hj => simp at hj; subst hj; simp [Addr.add]
              case c2 => intro u hu; simp at hu; subst hu; rfl
              case c3 => unfold maxLen; omega
              case c4 => omega
              case c5 => simp; omega
              intro v' w3 hown' hgrow _
              obtain ⟨sa', sc', rfl⟩ := own_slice hown'
              have HOWN3 := Lib.hid (show w3.ownsRow w.heap.size 2 1 (.slice sa' (zs.length + 1) sc') (zs.length + 1) ((zs ++ [rintN (rs.data.toList.take j)]).map (.int .i64)) by rw [← HNN.out]; simpa using hown')
              have HB3 := Lib.hid ((belowA HI.out.below (.cells #[.int .i64 n] 2)).grown hgrow (by simp; omega) (fun k hk => (HI.out.own.lt k hk).1))
              clear hown'
              rcases hcs with ⟨hk, h32⟩ | ⟨hk, hk2, h32⟩ | ⟨hk, hk2, h32⟩
              · have HNO := Lib.hid (HM.out.2.1 h32)
                clear h32
                go_wp2_with fail
                go_ret2
                exact rn_none HE.out HB3.out rfl HNO.out
              · have HNO := Lib.hid (HM.out.2.1 h32)
                have hk3 : (j : Int) + 1 < (rs.size : Int) := by omega
                clear h32
                go_wp2_with fail
                go_ret2
                exact rn_none HE.out HB3.out rfl HNO.out
              · have HNX := Lib.hid (HM.out.2.2 HTY.out h32)
                have hk3 : (j : Int) + 1 < (rs.size : Int) := by omega
                have hk4 : (j : Int) + 2 ≤ (rs.size : Int) := by omega
                clear h32
                go_wp2_with fail
                go_roundw
                · refine ⟨zs ++ [rintN (rs.data.toList.take j)], sa', sc', rs.extract (j + 2) rs.size, rfl, by simp, HNX.out _ _ _ _ ?_ HOWN3.out HB3.out⟩
                  simp [ByteArray.data_extract]
                  exact List.take_of_length_le (by simp)
                · simp [strLen]; omega
          · have hb : (((rs[j]'hlt).toNat : Int) != 44) = true := by rw [bne_iff_ne]; exact hc
            have hne := Lib.hid (byte_ne (c := rs[j]'hlt) 44 (by omega) hc)
            clear hc
            go_wp2_with fail
            go_round
            case rel => exact ⟨j + 1, by omega, by go_num, take_ne HX.out hget.out hne.out⟩
            case measure => simp [intOf]; omega
        · have hje : j = rs.size := by omega
          subst hje
          have hcut : cutOf 44 rs.data.toList = none := by
            rw [cutOf_take _ 44 rs.size HX.out (by simp), if_neg (by simp)]
          have HL := Lib.hid (HI.out.last hcut (.inl HRNE.out))
          cases hty : rintB rs.data.toList with
          | false =>
            have HNO := Lib.hid (HL.out.1 hty)
            have HTY := Lib.hid hty
            clear hty hcut
            go_wp2_with (go_at_call 49; refine (rint_any _ _ (by omega)).mono ?_; rintro e w1 ⟨rfl, n, rfl, hn, hnn⟩; clear hn hnn; rw [HTY.out])
            go_ret2
            exact rn_none HE.out HI.out.below rfl HNO.out
          | true =>
            have HJ := Lib.hid (HL.out.2 hty)
            have HTY := Lib.hid hty
            clear hty hcut
            go_wp2_with fail
            refine (rint_any _ _ (by omega)).mono ?_
            rintro e w1 ⟨rfl, n, rfl, hn, hnn⟩
            rw [HTY.out]
            have HNN := Lib.hid (hnn HTY.out)
            have HN64 := Lib.hid hn
            have hszw := HI.out.below.size
            clear hn hnn
            go_wp2_with (at_builtin; refine wpList_append_own _ rfl _ _ 24 rfl w.heap.size 2 i0 (.int .i64 0) 1 8 Tryz.underlying24 hin hz0 hz1 hz2 rfl (by decide) _ _ _ rfl (HI.out.own.alloc _) ⟨wr.heap.size, 0, none⟩ 1 1 [.int .i64 n] rfl rfl ?c1 ?c2 ?c3 ?c4 ?c5 ?_)
            case c1 =>
              intro t u hj
              match t, hj with
              | 0, hj => simp at hj; subst hj; simp [Addr.add]
            case c2 => intro u hu; simp at hu; subst hu; rfl
            case c3 => unfold maxLen; omega
            case c4 => omega
            case c5 => simp; omega
            intro v' w3 hown' hgrow _
            obtain ⟨sa', sc', rfl⟩ := own_slice hown'
            have HOWN3 := Lib.hid (show w3.ownsRow w.heap.size 2 1 (.slice sa' (zs.length + 1) sc') (zs.length + 1) ((zs ++ [n]).map (.int .i64)) by simpa using hown')
            have HB3 := Lib.hid ((belowA HI.out.below (.cells #[.int .i64 n] 2)).grown hgrow (by simp; omega) (fun k hk => (HI.out.own.lt k hk).1))
            clear hown'
            go_wp2_with fail
            go_ret2
            refine rn_end (zs := zs ++ [n]) (sa := sa') (sc := sc') HE.out HB3.out (by simp) (by rw [HNN.out]; exact HJ.out) (by simpa using HOWN3.out) ?_ (by simp; omega)
            intro z hz
            rcases List.mem_append.1 hz with hz | hz
            · exact HI.out.rng z hz
            · rw [List.mem_singleton.1 hz]; exact HN64.out
theorem rnbs_any (s : ByteArray) (w : World) (hs : s.size ≤ 4294967280) : Calls Tryz.prog 47 #[.string s] w (RnPost s w) := by
  by_cases h : 2 ≤ s.size ∧ s.data.toList.head? = some 91 ∧ s.data.toList.getLast? = some 93
  · obtain ⟨h2, h91, h93⟩ := h
    have hex : (s.extract 1 (s.size - 1)).data.toList = (s.data.toList.drop 1).take (s.size - 2) := by
      rw [Lib.extract_data, show s.size - 1 - 1 = s.size - 2 by omega]
    refine rnbs_loop s _ w hs h2 rfl ?_
    rw [hex]
    obtain ⟨l, hl⟩ : ∃ l, l = s.data.toList := ⟨_, rfl⟩
    have hsz : s.size = l.length := by rw [hl]; simp
    rw [← hl] at h91 h93 ⊢
    rw [hsz] at h2 ⊢
    clear hl hsz hex
    match l, h91, h93, h2 with
    | c :: r, h91, h93, h2 =>
      have hc : c = 91 := by simpa using h91
      have hr : r ≠ [] := by intro e; subst e; simp at h2
      rw [List.getLast?_cons_of_ne_nil hr, List.getLast?_eq_some_getLast hr] at h93
      have h4 := Option.some.inj h93
      rw [hc]
      congr 1
      have h5 := List.dropLast_concat_getLast hr
      rw [h4] at h5
      rw [show (91 :: r : List UInt8).drop 1 = r from rfl, show (91 :: r : List UInt8).length - 2 = r.length - 1 by simp, ← List.dropLast_eq_take]
      exact h5.symm
  · have HNO : Hid (∀ l', (∀ z ∈ l', I64 z) → ¬ s.data.toList = 91 :: (joinI l' ++ [93])) := Lib.hid (fun l' _ he => h (by
      have hsz : s.size = s.data.toList.length := by simp
      rw [he] at hsz ⊢
      exact ⟨by rw [hsz]; simp, rfl, List.getLast?_concat (l := 91 :: joinI l')⟩))
    by_cases h2 : s.size < 2
    · clear h
      go_enter Tryz.func47, Tryz.ntmps47
      go_wp2_with fail
      go_ret2
      exact rn_no (Below.refl _ _) rfl HNO.out
    · have hp0 : 0 < s.size := by omega
      have hpl : s.size - 1 < s.size := by omega
      have hq2 : (2 : Int) ≤ (s.size : Int) := by omega
      by_cases hc : (s[0]'hp0).toNat = 91
      · have hl : (s[s.size - 1]'hpl).toNat ≠ 93 := by
          intro hl
          refine h ⟨by omega, ?_, ?_⟩
          · rw [List.head?_eq_getElem?, bytes_get s 0 hp0, (UInt8.toNat_inj (b := 91)).1 hc]
          · rw [List.getLast?_eq_getElem?, show s.data.toList.length - 1 = s.size - 1 by simp, bytes_get s (s.size - 1) hpl, (UInt8.toNat_inj (b := 93)).1 hl]
        have b0 : (((s[0]'hp0).toNat : Int) != 91) = false := by rw [hc]; rfl
        have b1 : (((s[s.size - 1]'hpl).toNat : Int) != 93) = true := by rw [bne_iff_ne]; omega
        clear h hc hl
        go_enter Tryz.func47, Tryz.ntmps47
        go_wp2_with fail
        go_ret2
        exact rn_no (Below.refl _ _) rfl HNO.out
      · have b0 : (((s[0]'hp0).toNat : Int) != 91) = true := by rw [bne_iff_ne]; omega
        clear h hc
        go_enter Tryz.func47, Tryz.ntmps47
        go_wp2_with fail
        go_ret2
        exact rn_no (Below.refl _ _) rfl HNO.out
end Go.Proofs.YtmepjbjmjbpchaaGreatDoor
end
section
/- What ends makes of a printed value: it stops nowhere in it, and behind it. -/
namespace Go.Proofs.YtmepjbjmjbpchaaGreatDoor
open Go Go.RowKit Go.Sort
set_option linter.unusedVariables false
set_option linter.unusedSimpArgs false

/-- The depth behind bytes in which ends neither stops nor meets a quote. -/
def enRun (d : Int) : List UInt8 → Option Int
  | [] => some d
  | c :: r => if c = 34 ∨ ((c = 44 ∨ c = 125) ∧ d = 0) then none else enRun (if c = 91 ∨ c = 40 then d + 1 else if c = 93 ∨ c = 41 then d - 1 else d) r
theorem enRun_append (l m : List UInt8) : ∀ d, enRun d (l ++ m) = (enRun d l).bind fun t => enRun t m := by
  induction l with
  | nil => intro t; rfl
  | cons c r ih =>
    intro t
    show (if _ then none else enRun _ (r ++ m)) = (if _ then none else enRun _ r).bind _
    split
    · rfl
    · exact ih _
theorem en_plain : ∀ (l : List UInt8) (d : Int), (∀ c ∈ l, plainC c = true ∨ c = 60 ∨ c = 62) → enRun d l = some d
  | [], d, _ => rfl
  | c :: l, d, h => by
    have hc : c ≠ 34 ∧ c ≠ 44 ∧ c ≠ 125 ∧ c ≠ 91 ∧ c ≠ 40 ∧ c ≠ 93 ∧ c ≠ 41 := by
      rcases h c (List.mem_cons_self ..) with hc | rfl | rfl
      · simp only [plainC, Bool.and_eq_true, decide_eq_true_eq, Bool.not_eq_true', Bool.or_eq_false_iff, beq_eq_false_iff_ne, ne_eq] at hc
        obtain ⟨h128, ⟨⟨⟨⟨⟨⟨⟨h34, h40⟩, h41⟩, h44⟩, h60⟩, h62⟩, h91⟩, h93⟩, h125⟩ := hc
        exact ⟨h34, h44, h125, h91, h40, h93, h41⟩
      · decide
      · decide
    obtain ⟨h34, h44, h125, h91, h40, h93, h41⟩ := hc
    unfold enRun
    rw [if_neg (by simp [h34, h44, h125]), if_neg (by simp [h91, h40]), if_neg (by simp [h93, h41])]
    exact en_plain l d fun b hb => h b (List.mem_cons_of_mem _ hb)
theorem en_ty (d : Int) {l : List UInt8} (h : isTy l = true) : enRun d l = some d := by
  refine en_plain l d fun c hc => ?_
  rcases ty_form h with h | ⟨p, m, rfl, hp, hm⟩
  · exact .inl (h c hc)
  · rw [List.mem_append, List.mem_cons, List.mem_append, List.mem_singleton] at hc
    rcases hc with hc | rfl | hc | rfl
    · exact .inl (hp c hc)
    · exact .inr (.inl rfl)
    · exact .inl (hm c hc)
    · exact .inr (.inr rfl)
theorem en_sep {d : Int} (hd : d ≠ 0) (l : List UInt8) : enRun d (44 :: 32 :: l) = enRun d l := by
  rw [enRun, enRun]
  simp [hd]
theorem en_tail {d : Int} (hd : d ≠ 0) : ∀ ls : List (List UInt8), (∀ x ∈ ls, enRun d x = some d) → enRun d (Lib.joinTail [44, 32] ls) = some d
  | [], _ => rfl
  | x :: r, h => by
    have e : Lib.joinTail [44, 32] (x :: r) = 44 :: 32 :: (x ++ Lib.joinTail [44, 32] r) := by simp [Lib.joinTail]
    rw [e, en_sep hd, enRun_append, h x (List.mem_cons_self ..), Option.bind_some]
    exact en_tail hd r fun y hy => h y (List.mem_cons_of_mem _ hy)
theorem en_join {d : Int} (hd : d ≠ 0) (ls : List (List UInt8)) (h : ∀ x ∈ ls, enRun d x = some d) : enRun d (Lib.join ls [44, 32]) = some d := by
  cases ls with
  | nil => rfl
  | cons x r =>
    rw [Lib.join_cons, enRun_append, h x (List.mem_cons_self ..), Option.bind_some]
    exact en_tail hd r fun y hy => h y (List.mem_cons_of_mem _ hy)
theorem en_wrap {a b : UInt8} (hab : (a = 40 ∧ b = 41) ∨ (a = 91 ∧ b = 93)) {m : List UInt8} (hm : enRun 1 m = some 1) : enRun 0 (a :: (m ++ [b])) = some 0 := by
  have e : enRun 0 (a :: (m ++ [b])) = enRun 1 (m ++ [b]) := by
    rw [enRun]
    rcases hab with ⟨rfl, rfl⟩ | ⟨rfl, rfl⟩ <;> simp
  rw [e, enRun_append, hm, Option.bind_some]
  rcases hab with ⟨rfl, rfl⟩ | ⟨rfl, rfl⟩ <;> simp [enRun]
theorem en_val {d : Dat} (h : rightD d = true) : (d.kind = 1 ∧ valD d = quoteL d.text.data.toList) ∨ enRun 0 (valD d) = some 0 := by
  have hk := right_kinds h
  have hs := sym_name h
  clear h
  obtain ⟨nm, k, n, tx, is, ts⟩ := d
  dsimp only at hk hs
  rcases hk with ⟨rfl, rfl, rfl, rfl⟩ | ⟨rfl, rfl, rfl, rfl⟩ | ⟨rfl, rfl, rfl, rfl⟩ | ⟨rfl, rfl, rfl, rfl, ht⟩ | ⟨rfl, rfl, rfl, rfl, hl⟩ | ⟨rfl, rfl, rfl, rfl, hl, ht⟩
  · exact .inr (en_plain _ _ fun c hc => .inl (itoa_plain n c hc))
  · exact .inl ⟨rfl, rfl⟩
  · refine .inr (en_plain (64 :: tx.data.toList) 0 fun c hc => .inl ?_)
    rcases List.mem_cons.1 hc with rfl | hc
    · decide
    · exact name_plain (hs rfl) c hc
  · exact .inr (en_ty 0 ht)
  · refine .inr (en_wrap (a := 91) (b := 93) (.inr ⟨rfl, rfl⟩) (en_join (by decide) _ fun x hx => ?_))
    rw [List.map_map] at hx
    obtain ⟨z, -, rfl⟩ := List.mem_map.1 hx
    exact en_plain _ _ fun c hc => .inl (itoa_plain z c hc)
  · refine .inr ?_
    show enRun _ (joinOf ts).1 = _
    rw [joinOf_right ht hl]
    refine en_wrap (a := 40) (b := 41) (.inl ⟨rfl, rfl⟩) (en_join (by decide) _ fun x hx => ?_)
    obtain ⟨z, hz, rfl⟩ := List.mem_map.1 hx
    exact en_ty 1 (List.all_eq_true.1 ht z hz)
/-- What is known at a place of ends, if a printed value stands at the head of the string. -/
def EnI (l : List UInt8) (j : Nat) (deep : Int) : Prop :=
  ∀ (v : List UInt8) (c : UInt8) (r : List UInt8), l = v ++ c :: r → (c = 44 ∨ c = 125) →
    (enRun 0 v = some 0 → j ≤ v.length ∧ enRun 0 (l.take j) = some deep) ∧ (∀ t, v = quoteL t → (j = 0 ∨ j = v.length) ∧ deep = 0)
theorem EnI.start (l : List UInt8) : EnI l 0 0 := fun v c r h hc => ⟨fun _ => ⟨Nat.zero_le _, rfl⟩, fun t _ => ⟨.inl rfl, rfl⟩⟩
theorem en_one {t u : Int} {c : UInt8} {r : List UInt8} (h : enRun t (c :: r) = some u) : c ≠ 34 ∧ ¬ ((c = 44 ∨ c = 125) ∧ t = 0) ∧ enRun (if c = 91 ∨ c = 40 then t + 1 else if c = 93 ∨ c = 41 then t - 1 else t) r = some u := by
  unfold enRun at h
  split at h
  · cases h
  · rename_i hn
    exact ⟨fun e => hn (.inl e), fun e => hn (.inr e), h⟩
/-- A byte that is no quote and where ends does not stop. -/
theorem EnI.step {l : List UInt8} {j : Nat} {deep : Int} (h : EnI l j deep) {b : UInt8} (hb : l[j]? = some b) (h34 : b ≠ 34) (hs : ¬ ((b = 44 ∨ b = 125) ∧ deep = 0)) :
    EnI l (j + 1) (if b = 91 ∨ b = 40 then deep + 1 else if b = 93 ∨ b = 41 then deep - 1 else deep) := by
  intro v c r hl hc
  obtain ⟨h1, h2⟩ := h v c r hl hc
  refine ⟨fun hv => ?_, fun t ht => ?_⟩
  · obtain ⟨h3, h4⟩ := h1 hv
    have hj : j < v.length := by
      rcases Nat.lt_or_ge j v.length with h5 | h5
      · exact h5
      · exfalso
        have h6 : j = v.length := by omega
        subst h6
        have h7 : l.take v.length = v := by rw [hl]; simp
        rw [h7, hv] at h4
        have h8 : b = c := by rw [hl] at hb; simpa using hb.symm
        exact hs ⟨by rw [h8]; exact hc, (Option.some.inj h4).symm⟩
    refine ⟨hj, ?_⟩
    obtain ⟨hjl, hbb⟩ := List.getElem?_eq_some_iff.1 hb
    rw [List.take_succ_eq_append_getElem hjl, enRun_append, h4, Option.bind_some, hbb]
    unfold enRun
    rw [if_neg (by rintro (h5 | h5); exact h34 h5; exact hs h5)]
    rfl
  · obtain ⟨h3, h4⟩ := h2 t ht
    exfalso
    rcases h3 with h3 | h3
    · subst h3
      rw [hl, ht] at hb
      exact h34 (by simpa [quoteL] using hb.symm)
    · have h8 : b = c := by rw [hl, h3] at hb; simpa using hb.symm
      exact hs ⟨by rw [h8]; exact hc, h4⟩
/-- Where ends stops. -/
theorem EnI.stop {l : List UInt8} {j : Nat} (h : EnI l j 0) {b : UInt8} (hb : l[j]? = some b) (hs : b = 44 ∨ b = 125) (v : List UInt8) (c : UInt8) (r : List UInt8) (hl : l = v ++ c :: r) (hc : c = 44 ∨ c = 125) (hv : enRun 0 v = some 0 ∨ ∃ t, v = quoteL t) : j = v.length := by
  obtain ⟨h1, h2⟩ := h v c r hl hc
  rcases hv with hv | ⟨t, ht⟩
  · obtain ⟨h3, h4⟩ := h1 hv
    rcases Nat.lt_or_ge j v.length with h5 | h5
    · exfalso
      have h6 : l.take j = v.take j := by rw [hl, List.take_append_of_le_length (by omega)]
      have h7 : v = v.take j ++ b :: v.drop (j + 1) := by
        have hb2 : v[j]? = some b := by rw [hl, List.getElem?_append_left h5] at hb; exact hb
        obtain ⟨hjl, hbb⟩ := List.getElem?_eq_some_iff.1 hb2
        rw [← hbb, ← List.drop_eq_getElem_cons hjl, List.take_append_drop]
      rw [h6] at h4
      rw [h7, enRun_append, h4, Option.bind_some] at hv
      exact (en_one hv).2.1 ⟨hs, rfl⟩
    · omega
  · obtain ⟨h3, -⟩ := h2 t ht
    rcases h3 with h3 | h3
    · subst h3
      exfalso
      rw [hl, ht] at hb
      have : b = 34 := by simpa [quoteL] using hb.symm
      subst this
      rcases hs with h | h <;> exact absurd h (by decide)
    · exact h3
/-- Behind a quoted string. -/
theorem EnI.quote {l : List UInt8} {j : Nat} {deep : Int} (h : EnI l j deep) {b : UInt8} (hb : l[j]? = some b) (h34 : b = 34) {n : Nat} (hn : ∀ t' r, l.drop j = quoteL t' ++ r → n = (quoteL t').length) : EnI l (j + n) deep := by
  intro v c r hl hc
  obtain ⟨h1, h2⟩ := h v c r hl hc
  refine ⟨fun hv => ?_, fun t ht => ?_⟩
  · exfalso
    obtain ⟨h3, h4⟩ := h1 hv
    rcases Nat.lt_or_ge j v.length with h5 | h5
    · have h6 : l.take j = v.take j := by rw [hl, List.take_append_of_le_length (by omega)]
      have h7 : v = v.take j ++ b :: v.drop (j + 1) := by
        have hb2 : v[j]? = some b := by rw [hl, List.getElem?_append_left h5] at hb; exact hb
        obtain ⟨hjl, hbb⟩ := List.getElem?_eq_some_iff.1 hb2
        rw [← hbb, ← List.drop_eq_getElem_cons hjl, List.take_append_drop]
      rw [h6] at h4
      rw [h7, enRun_append, h4, Option.bind_some] at hv
      exact (en_one hv).1 h34
    · have h6 : j = v.length := by omega
      subst h6
      have h8 : b = c := by rw [hl] at hb; simpa using hb.symm
      rw [h8] at h34
      subst h34
      rcases hc with h | h <;> exact absurd h (by decide)
  · obtain ⟨h3, h4⟩ := h2 t ht
    refine ⟨?_, h4⟩
    rcases h3 with h3 | h3
    · subst h3
      have := hn t (c :: r) (by rw [List.drop_zero, hl, ht])
      right
      rw [this, ht]; omega
    · exfalso
      subst h3
      have h8 : b = c := by rw [hl] at hb; simpa using hb.symm
      rw [h8] at h34
      subst h34
      rcases hc with h | h <;> exact absurd h (by decide)
/-- The place where ends stops if it stops nowhere. -/
theorem EnI.none {l : List UInt8} {deep : Int} (h : EnI l l.length deep) (v : List UInt8) (c : UInt8) (r : List UInt8) (hl : l = v ++ c :: r) (hc : c = 44 ∨ c = 125) (hv : enRun 0 v = some 0 ∨ ∃ t, v = quoteL t) : False := by
  have hlen := congrArg List.length hl
  simp at hlen
  obtain ⟨h1, h2⟩ := h v c r hl hc
  rcases hv with hv | ⟨t, ht⟩
  · have := (h1 hv).1; omega
  · rcases (h2 t ht).1 with h3 | h3
    · omega
    · omega
end Go.Proofs.YtmepjbjmjbpchaaGreatDoor
end
