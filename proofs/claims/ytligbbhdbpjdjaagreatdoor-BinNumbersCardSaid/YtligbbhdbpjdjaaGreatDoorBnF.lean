/- The law's walk: BinNumbers. -/
import Derived.Test.YtligbbhdbpjdjaaGreatDoorBnE
namespace Go.Proofs.YtligbbhdbpjdjaaGreatDoor
open Go Go.RowKit Go.Sort
set_option linter.unusedVariables false
set_option linter.unusedSimpArgs false

set_option maxRecDepth 100000 in
set_option maxHeartbeats 8000000 in
theorem numbers_law (n : Nat) (k : Int) (w : World) (hn : n < 18446744073709551616) (h0 : -9223372036854775808 ≤ k) (h1 : k ≤ 9223372036854775807) (hh : HeadAt w) :
    Calls Tryz.prog 3 #[.int .u64 n, .int .i64 k] w fun e w' => e = .returned (.bool true) ∧ Below w.heap.size w w' := by
  have HH := Lib.hid hh
  clear hh
  obtain ⟨i0, hin, iz0, iz1, iz2⟩ := info_parts (show (Tryz.prog.info? 5).map (fun i => (i.zero, i.size, i.bytes)) = some (some (.int .u8 0), 1, 1) by kernel_rfl)
  have hln := numB_len64 hn
  have hlk := numB_len64 (foldN_lt h0 h1)
  have hpn : 0 < (numB n).length := List.length_pos_iff.2 (numB_ne n)
  go_enter Tryz.func3, Tryz.ntmps3
  go_wp2_with (first
    | (go_at_call 6
       refine (integer_b k h0 h1 w1).mono ?_
       rintro e w2 ⟨hb2, sb, cb, rfl, hownb⟩
       have HA2 := Lib.hid (bOwn_below HA1.out hb2)
       have HBb := Lib.hid (bytes_own hownb).1
       have HB2 := Lib.hid (bNext HB1.out hb2)
       clear hb2 hownb
       go_ways)
    | (go_at_call 5
       refine (number_b n hn w).mono ?_
       rintro e w1 ⟨hb1, sa, ca, rfl, howna⟩
       obtain ⟨ga, rfl, -, -, -⟩ := own_some howna hpn
       have HA1 := Lib.hid howna
       have HB1 := Lib.hid hb1
       clear hb1 howna
       go_ways)
    | (at_builtin; refine wpList_append_own _ rfl _ _ 23 rfl w2.heap.size 5 i0 (.int .u8 0) 1 1 Tryz.underlying23 hin iz0 iz1 iz2 rfl (by decide) _ _ _ rfl (World.ownsRow_nil _ _ _ _) ⟨ga, 0, none⟩ (numB n).length ca ((numB n).map byteV) rfl ?c0 ?c1 ?c2 ?c3 ?c4 ?c5 ?_))
  case c0 => simp
  case c1 => exact HA2.out.cells rfl
  case c2 => intro u hu; simp only [List.mem_map] at hu; obtain ⟨x, -, rfl⟩ := hu; rfl
  case c3 => unfold maxLen; omega
  case c4 => omega
  case c5 => simp
  intro v3 w3 hown3 hgrow3 _
  obtain ⟨s3, c3, rfl⟩ := bOwn_slice hown3
  have HB3 := Lib.hid ((Below.refl w2.heap.size w2).grown hgrow3 (Nat.le_refl _) (fun k hk => by cases hk))
  have HO3 := Lib.hid hown3
  have hz3 : w2.heap.size ≤ w3.heap.size := HB3.out.size
  clear hown3 hgrow3
  go_wp2_with (at_builtin; refine wpList_append_own _ rfl _ _ 23 rfl w2.heap.size 5 i0 (.int .u8 0) 1 1 Tryz.underlying23 hin iz0 iz1 iz2 rfl (by decide) _ _ _ rfl (HO3.out.alloc _) ⟨w3.heap.size, 0, none⟩ 2 2 [.int .u8 200, .int .u8 1] rfl rfl ?c1 ?c2 ?c3 ?c4 ?c5 ?_)
  case c1 => exact World.news_of_block (cs := #[.int .u8 200, .int .u8 1]) (t := 5) (fr := (0, 0)) (heap_alloc_new w3 _)
  case c2 => intro u hu; simp at hu; rcases hu with rfl | rfl <;> rfl
  case c3 => unfold maxLen; omega
  case c4 => omega
  case c5 => simp; omega
  intro v4 w4 hown4 hgrow4 _
  obtain ⟨s4, c4, rfl⟩ := bOwn_slice hown4
  have hb4 := (HB3.out.alloc hz3 (.cells #[.int .u8 200, .int .u8 1] 5)).grown hgrow4 (by simp; omega) (fun k hk => (HO3.out.lt k hk).1)
  have hmap : (numB n).map byteV ++ [.int .u8 200, .int .u8 1] = (numB n ++ [200, 1]).map byteV := by simp
  have hlen : (numB n).length + 2 = (numB n ++ [200, 1]).length := by simp
  have HS4 : RowKit.Hid (ByteSl w4 s4 (numB n ++ [200, 1])) := Lib.hid (by have h := hown4; rw [hmap] at h; exact (bytes_own h).1)
  have HBb4 := Lib.hid (HBb.out.below hb4)
  have HA4 := Lib.hid ((bytes_own HA2.out).1.below hb4)
  have HB4 := Lib.hid (bNext HB2.out hb4)
  have hrd : Calls Tryz.prog 7 #[.slice s4 ((numB n).length + 2) c4] w4 (ReadPostB (readB (numB n ++ [200, 1]) 0 0) w4) := by rw [hlen]; exact readNumber_b s4 c4 (numB n ++ [200, 1]) w4 HS4.out (by simp; omega)
  have hrd2 := readNumber_b sb cb (numB (foldN k)) w4 HBb4.out (by omega)
  have hz1 : readB (numB n ++ [200, 1]) 0 0 = some (n, (numB n).length) := by
    have h := readB_num 9 n 0 0 [200, 1] (by omega) (by omega) (by omega) (by decide)
    simpa using h
  have hz2 : readB (numB (foldN k)) 0 0 = some (foldN k, (numB (foldN k)).length) := by
    have hf := foldN_lt h0 h1
    have h := readB_num 9 (foldN k) 0 0 [] (by omega) (by omega) (by omega) (by decide)
    simpa using h
  rw [hz1] at hrd
  rw [hz2] at hrd2
  have hnk : 0 < (numB (foldN k)).length := List.length_pos_iff.2 (numB_ne _)
  clear hmap hlen hz1 hz2 hown4 hgrow4 hb4
  go_wp2_with (first
    | (go_at_call 11
       refine (awake_b w6 (HH.out.below HB6.out)).mono ?_
       rintro e w7 ⟨rfl, hb7⟩
       have HB7 := Lib.hid (bNext HB6.out hb7)
       clear hb7
       go_ways)
    | (go_at_call 8
       refine (same_b sb s6 cb c6 (numB (foldN k)) w6 (numB_ne _) HBb6.out HS6.out).mono ?_
       rintro e w8 ⟨rfl, rfl⟩
       go_ways)
    | (go_at_call 10
       refine (rinteger_b k h0 h1 w5).mono ?_
       rintro e w6 ⟨hb6, s6, c6, rfl, hown6⟩
       have HBb6 := Lib.hid (HBb5.out.below hb6)
       have HS6 := Lib.hid (bytes_own hown6).1
       have HB6 := Lib.hid (bNext HB5.out hb6)
       clear hb6 hown6
       go_ways)
    | (go_at_call 8
       refine (same_b (some ⟨ga, 0, none⟩) s5 ca c5 (numB n) w5 (numB_ne _) HA5.out HS5.out).mono ?_
       rintro e w8 ⟨rfl, rfl⟩
       go_ways)
    | (go_at_call 9
       refine (rnumber_any n hn w4).mono ?_
       rintro e w5 ⟨hb5, s5, c5, rfl, hown5⟩
       have HBb5 := Lib.hid (HBb4.out.below hb5)
       have HA5 := Lib.hid (HA4.out.below hb5)
       have HS5 := Lib.hid (bytes_own hown5).1
       have HB5 := Lib.hid (bNext HB4.out hb5)
       clear hb5 hown5
       go_ways)
    | (go_at_call 7; refine hrd.mono ?_; clear hrd; rintro e w9 ⟨rfl, rfl⟩; simp only [readRes]; go_ways)
    | (go_at_call 7; refine hrd2.mono ?_; clear hrd2; rintro e w9 ⟨rfl, rfl⟩; simp only [readRes]; go_ways))
  go_ret
  exact ⟨rfl, HB7.out⟩
end Go.Proofs.YtligbbhdbpjdjaaGreatDoor
