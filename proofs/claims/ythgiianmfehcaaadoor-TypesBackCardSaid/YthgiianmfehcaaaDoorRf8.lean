/- The reference of types: Read, the walk where the string may be a type with cells. -/
import Derived.Test.YthgiianmfehcaaaDoorRf7
namespace Go.Proofs.YthgiianmfehcaaaDoor
open Go Go.RowKit Go.Sort
set_option linter.unusedVariables false
set_option linter.unusedSimpArgs false

set_option maxRecDepth 100000 in
set_option maxHeartbeats 4000000 in
theorem rread_cells (s : ByteArray) (w : World) (k : Nat) (p : List UInt8) (hk : (k = 2 ∧ p = [109, 101, 109, 60]) ∨ (k = 3 ∧ p = [97, 114, 114, 60])) (hs : s.size ≤ 140737488355328) (h : elemOf s.data.toList = none)
    (h5 : 5 ≤ s.size) (hp : s.data.toList.take 4 = p) (hsf : s[s.size - 1]'(by omega) = 62) : Calls Tryd.prog 28 #[.string s] w (RReadPost s.data.toList w) := by
  have hp0 : 0 < s.size := by omega
  have hpl : s.size - 1 < s.size := by omega
  have hl : s.data.toList.length = s.size := by simp
  have hne : s.data.toList ≠ [] := by intro e; rw [e] at hl; simp at hl; omega
  have hsuf : Lib.hasSuffix s.data.toList [62] = true := by
    rw [suffix_iff hne, List.getLast_eq_getElem]
    simp only [beq_iff_eq]
    rw [← hsf]
    simp [ByteArray.getElem_eq_getElem_data]
  have hro := readOf_cells h hk (by omega) hp hsuf
  obtain ⟨r0, hr0⟩ : ∃ r0, r0 = (s.data.toList.take (s.data.toList.length - 1)).drop 4 := ⟨_, rfl⟩
  rw [← hr0] at hro
  have hex : (s.extract 4 (s.size - 1)).data.toList = r0 := by
    rw [hr0]; simp [ByteArray.data_extract, List.drop_take]
  have hex4 : (s.extract 0 4).toList = p := by
    rw [ByteArray.toList_eq, ← hp]; simp [ByteArray.data_extract]
  have hr0l : r0.length ≤ 140737488355328 := by rw [hr0]; simp; omega
  have h33 : (((s[0]'hp0).toNat : Int) == 33) = false := by
    rw [beq_eq_false_iff_ne]
    intro h'
    have hd := data_get s 0 hp0
    rw [List.drop_zero] at hd
    rw [hd] at hp
    rcases hk with ⟨-, rfl⟩ | ⟨-, rfl⟩
    · simp only [List.take_succ_cons, List.cons.injEq] at hp
      rw [hp.1] at h'; exact absurd h' (by decide)
    · simp only [List.take_succ_cons, List.cons.injEq] at hp
      rw [hp.1] at h'; exact absurd h' (by decide)
  have hq1 : (5 : Int) ≤ (s.size : Int) := by omega
  have hlast : (((s[s.size - 1]'hpl).toNat : Int) != 62) = false := by rw [hsf]; rfl
  have hq2 : decide ((s.size : Int) < 5) = false := by simp; omega
  have H := Lib.hid h
  have HRO := Lib.hid hro
  have HEX := Lib.hid hex
  have HL := Lib.hid hl
  clear h hro hr0 hex hl hne hsuf hp hsf
  rcases hk with ⟨rfl, rfl⟩ | ⟨rfl, rfl⟩
  all_goals
    go_enter Tryd.func28, Tryd.ntmps28
    go_wp2_with (go_at_call 50; refine (numT_none H.out _).mono ?_; rintro e w1 ⟨⟨v, rfl⟩, rfl⟩)
    go_loopw [8, 9] (fun rv cv wr => ∃ (k : Nat) (ext : List Nat) (v : Value) (rs : ByteArray), rv = .string rs ∧ cv = .int .i64 (prodN ext : Nat) ∧ RdI w s.data.toList k ext v rs.data.toList wr) (fun rv _ _ => strLen rv)
    case atStart =>
      have hb0 := belowA (belowA (Below.refl w.heap.size w) (.cells (tCells 0 0 (.slice none 0 0) ⟨#[]⟩) 54))
      first
        | exact ⟨2, [], .slice none 0 0, s.extract 4 (s.size - 1), rfl, rfl, .inl rfl, by rw [HEX.out]; exact HRO.out, by decide, by simp, by rw [HEX.out]; exact hr0l, allocPast _ (heap_alloc_new w _) (by simp), allocAt _ (by simp), World.ownsRow_nil _ _ _ _, hb0 _⟩
        | exact ⟨3, [], .slice none 0 0, s.extract 4 (s.size - 1), rfl, rfl, .inr rfl, by rw [HEX.out]; exact HRO.out, by decide, by simp, by rw [HEX.out]; exact hr0l, allocPast _ (heap_alloc_new w _) (by simp), allocAt _ (by simp), World.ownsRow_nil _ _ _ _, hb0 _⟩
    case round =>
      clear HRO HEX H hlast hq1 hq2 hex4 h33 HL hr0l
      obtain ⟨k, ext, v, rs, rfl, rfl, hi⟩ := hrel
      have hpn := prodN_le3 hi.len hi.all
      have hrs : rs.size ≤ 140737488355328 := by have := hi.sz; simpa using this
      have hlen := hi.len
      obtain ⟨sa, sc, rfl⟩ := own_slice hi.own
      have hall := Lib.hid hi.all
      have c2 := blkCell hi.res
      have f2 := blkFree hi.res
      have c7 := blkCell hi.tb
      have f7 := blkFree hi.tb
      have hz : w.heap.size + 1 < wr.heap.size := blkLt hi.tb
      have HI := Lib.hid hi
      clear hi
      by_cases hdg : isDig rs.data.toList = true
      · have hpos : 0 < rs.size := by
          rcases Nat.eq_zero_or_pos rs.size with h | h
          · rw [List.length_eq_zero_iff.1 ((show rs.data.toList.length = rs.size from by simp).trans h)] at hdg; simp [isDig] at hdg
          · exact h
        have hne : rs.toList.isEmpty = false := by rw [List.isEmpty_eq_false_iff]; intro h0; rw [toList_nil_iff] at h0; have := congrArg List.length h0; rw [show rs.data.toList.length = rs.size from by simp, List.length_nil] at this; omega
        have hd01 : 48 ≤ ((rs[0]'hpos).toNat : Int) ∧ ((rs[0]'hpos).toNat : Int) ≤ 57 := by
          rw [isDig_iff hpos] at hdg; exact of_decide_eq_true hdg
        obtain ⟨hd0, hd1⟩ := hd01
        have HDG := Lib.hid hdg
        clear hdg
        go_wp2_with fail
        go_loop [10] (fun i => ∃ j : Nat, j ≤ rs.size ∧ i = .int .i64 j ∧ ∀ x ∈ rs.data.toList.take j, x ≠ 120) (fun i => rs.size - (intOf i).toNat)
        case atStart => exact ⟨0, Nat.zero_le _, rfl, by simp⟩
        case round =>
          obtain ⟨j, hj, rfl, hx⟩ := hrel
          have HX := Lib.hid hx
          clear hx
          rcases Nat.lt_or_ge j rs.size with hlt | hge
          · have hget := Lib.hid (bytes_get rs j hlt)
            by_cases hc : ((rs[j]'hlt).toNat : Int) = 120
            · have hb : (((rs[j]'hlt).toNat : Int) != 120) = false := by rw [hc]; rfl
              have hcut : cutOf 120 rs.data.toList = some (rs.data.toList.take j, rs.data.toList.drop (j + 1)) := by
                rw [cutOf_take _ 120 j HX.out (fun x hx => by rw [hget.out] at hx; cases hx; exact byte_eq 120 (by omega) hc), if_pos (by simpa using hlt)]
              have hex : (rs.extract 0 j).data.toList = rs.data.toList.take j := by simp [ByteArray.data_extract]
              have hgo := HI.out.go
              rw [rshape_more HDG.out hcut] at hgo
              have hj1 : (j : Int) + 1 ≤ (rs.size : Int) := by omega
              have hjn : ((j : Int) == (rs.size : Int)) = false := by rw [beq_eq_false_iff_ne]; omega
              have HEX := Lib.hid hex
              clear hc hex hcut
              by_cases hgood : ∃ n, numOf (rs.data.toList.take j) = some n ∧ n ≤ 1000
              · obtain ⟨n, hn, hn1⟩ := hgood
                have hnr := num_good hn hn1
                rw [hn] at hgo
                have HNR := Lib.hid hnr
                clear hnr hn
                rcases Nat.lt_or_ge ext.length 3 with hl3 | hl3
                · dsimp only at hgo
                  rw [if_pos ⟨hn1, hl3⟩] at hgo
                  have hl3b : ((ext.length : Int) == 3) = false := by rw [beq_eq_false_iff_ne]; omega
                  have HGO := Lib.hid hgo
                  clear hgo
                  have hpm0 : (0 : Int) ≤ ((prodN ext : Nat) : Int) * (n : Int) := Int.mul_nonneg (by omega) (by omega)
                  have hpm1 : ((prodN ext : Nat) : Int) * (n : Int) ≤ 1000000000000 := by
                    have := Nat.mul_le_mul hpn hn1
                    rw [← Int.natCast_mul]; omega
                  obtain ⟨i0, hin, hz0, hz1, hz2⟩ := info_parts (show (Tryd.prog.info? 3).map (fun i => (i.zero, i.size, i.bytes)) = some (some (.int .i64 0), 1, 8) by kernel_rfl)
                  have HOWN := Lib.hid HI.out.own
                  go_wp2_with (first
                    | (go_at_call 58; refine (rnum_any _ _ _).mono ?_; rintro e w1 ⟨rfl, rfl⟩; rw [HEX.out, HNR.out])
                    | (at_builtin; refine wpList_append_own _ rfl _ _ 22 rfl (w.heap.size + 2) 3 i0 (.int .i64 0) 1 8 Tryd.underlying22 hin hz0 hz1 hz2 rfl (by decide) _ _ _ rfl (HOWN.out.alloc _) ⟨wr.heap.size, 0, none⟩ 1 1 [.int .i64 n] rfl rfl ?c1 ?c2 ?c3 ?c4 ?c5 ?_))
                  case c1 =>
                    intro t u hj
                    match t, hj with
                    | 0, hj => simp at hj; subst hj; simp [Addr.add]
                  case c2 => intro u hu; simp at hu; subst hu; rfl
                  case c3 => unfold maxLen; omega
                  case c4 => omega
                  case c5 => simp; omega
                  intro v' w3 hown' hgrow _
                  have hnew : ∀ b, b < w.heap.size + 2 → w3.heap[b]? = wr.heap[b]? := fun b hb => (hgrow.block b (by simp; omega) (fun he => by have := (HOWN.out.lt b he.symm).1; omega)).trans (Below.heap_alloc wr _ b (by omega))
                  have c7n := blkCell ((hnew (w.heap.size + 1) (by omega)).trans HI.out.tb)
                  have f7n := blkFree ((hnew (w.heap.size + 1) (by omega)).trans HI.out.tb)
                  have hres3 := (hnew w.heap.size (by omega)).trans HI.out.res
                  have htb3 := (hnew (w.heap.size + 1) (by omega)).trans HI.out.tb
                  have hbel3 := (belowA HI.out.below (.cells #[.int .i64 n] 3)).grown hgrow (by have := HI.out.below.size; simp; omega) (fun k hk => by have := (HOWN.out.lt k hk).1; omega)
                  obtain ⟨sa', sc', rfl⟩ := own_slice hown'
                  have HOWN3 := Lib.hid hown'
                  have HRES3 := Lib.hid hres3
                  have HTB3 := Lib.hid htb3
                  have HBEL3 := Lib.hid hbel3
                  clear hnew hres3 htb3 hbel3 hown' c7 f7 c2 f2
                  go_wp2_with fail
                  go_roundw
                  · refine ⟨k, ext ++ [n], .slice sa' (ext.length + 1) sc', rs.extract (j + 1) rs.size, rfl, by rw [prodN_snoc, Int.natCast_mul], HI.out.kind, ?_, by simp; omega, ?_, ?_, (heap_setCell_other _ _ _ _ (Nat.ne_of_lt (Nat.lt_succ_self _))).trans HRES3.out, heap_setCell_same _ _ 2 _ _ _ HTB3.out, ?_, HBEL3.out.setCell (p := ⟨w.heap.size + 1, 2, none⟩) (by simp) _⟩
                    · rw [HGO.out]
                      congr 3
                      simp [ByteArray.data_extract]
                      exact (List.take_of_length_le (by simp)).symm
                    · intro x hx
                      rw [List.mem_append, List.mem_singleton] at hx
                      rcases hx with hx | rfl
                      · exact hall.out x hx
                      · exact hn1
                    · simp; omega
                    · have := ownsRow_setCell_below HOWN3.out (a := ⟨w.heap.size + 1, 2, none⟩) (by simp) (.slice sa' (ext.length + 1) sc')
                      simpa using this
                  · simp [strLen]; omega
                · have hl3b : ((ext.length : Int) == 3) = true := by rw [beq_iff_eq]; omega
                  dsimp only at hgo
                  rw [if_neg (by omega)] at hgo
                  have HGO := Lib.hid hgo
                  clear hgo
                  go_wp2_with (go_at_call 58; refine (rnum_any _ _ _).mono ?_; rintro e w1 ⟨rfl, rfl⟩; rw [HEX.out, HNR.out])
                  refine bodyPost_ret (v := .tuple #[tv 0 0 (.slice none 0 0) ⟨#[]⟩, .bool false]) (by simp [results, Tryd.results28, go_sem, c2, c7, hz]) rfl ?_
                  have hbw := HI.out.below
                  exact rread_no HGO.out 0 0 ⟨#[]⟩ rfl (by repeat (with_reducible (first | exact hbw | refine below_set ?_ (Nat.le_refl _) _ _ | refine below_set ?_ (Nat.le_succ _) _ _ | refine belowA ?_ _)))
              · have hbad : ∀ n, numOf (rs.data.toList.take j) = some n → 1000 < n := fun n hn => by
                  rcases Nat.lt_or_ge 1000 n with h' | h'
                  · exact h'
                  · exact absurd ⟨n, hn, h'⟩ hgood
                obtain ⟨na, hnr⟩ := num_bad hbad
                have hno : readOf s.data.toList = none := by
                  rw [hgo]
                  cases hn : numOf (rs.data.toList.take j) with
                  | none => rfl
                  | some n => dsimp only; rw [if_neg (by have := hbad n hn; omega)]; rfl
                have HNR := Lib.hid hnr
                have HNO := Lib.hid hno
                clear hgo hbad hgood hnr hno
                go_wp2_with (go_at_call 58; refine (rnum_any _ _ _).mono ?_; rintro e w1 ⟨rfl, rfl⟩; rw [HEX.out, HNR.out])
                refine bodyPost_ret (v := .tuple #[tv 0 0 (.slice none 0 0) ⟨#[]⟩, .bool false]) (by simp [results, Tryd.results28, go_sem, c2, c7, hz]) rfl ?_
                have hbw := HI.out.below
                exact rread_no HNO.out 0 0 ⟨#[]⟩ rfl (by repeat (with_reducible (first | exact hbw | refine below_set ?_ (Nat.le_refl _) _ _ | refine below_set ?_ (Nat.le_succ _) _ _ | refine belowA ?_ _)))
            · have hb : (((rs[j]'hlt).toNat : Int) != 120) = true := by rw [bne_iff_ne]; exact hc
              have hne := Lib.hid (byte_ne (c := rs[j]'hlt) 120 (by omega) hc)
              clear hc
              go_wp2_with fail
              go_round
              case rel => exact ⟨j + 1, by omega, by go_num, take_ne HX.out hget.out hne.out⟩
              case measure => simp [intOf]; omega
          · have hje : j = rs.size := by omega
            subst hje
            have hcut : cutOf 120 rs.data.toList = none := by
              rw [cutOf_take _ 120 rs.size HX.out (by simp), if_neg (by simp)]
            have hno : readOf s.data.toList = none := by rw [HI.out.go, rshape_none HDG.out hcut]; rfl
            have HNO := Lib.hid hno
            clear hno hcut
            go_wp2_with fail
            refine (rnum_any _ _ _).mono ?_
            rintro e w1 ⟨rfl, rfl⟩
            obtain ⟨na, nb, hnr⟩ := numRes_form (rnumOf rs.data.toList) 1000
            rw [hnr]
            have HNR := Lib.hid hnr
            clear hnr
            cases nb
            all_goals
              go_wp2_with fail
              refine bodyPost_ret (v := .tuple #[tv 0 0 (.slice none 0 0) ⟨#[]⟩, .bool false]) (by simp [results, Tryd.results28, go_sem, c2, c7, hz]) rfl ?_
              have hbw := HI.out.below
              exact rread_no HNO.out 0 0 ⟨#[]⟩ rfl (by repeat (with_reducible (first | exact hbw | refine below_set ?_ (Nat.le_refl _) _ _ | refine below_set ?_ (Nat.le_succ _) _ _ | refine belowA ?_ _)))
      · have hdg' : isDig rs.data.toList = false := by simpa using hdg
        have hgo : readOf s.data.toList = (restOf (ext, rs.data.toList)).map fun r => ⟨k, r.2, r.1⟩ := by rw [HI.out.go, rshape_end hdg']; rfl
        have hcs : rs.toList.isEmpty = true ∨ (∃ h0 : 0 < rs.size, rs.toList.isEmpty = false ∧ ((rs[0]'h0).toNat : Int) < 48) ∨ (∃ h0 : 0 < rs.size, rs.toList.isEmpty = false ∧ 48 ≤ ((rs[0]'h0).toNat : Int) ∧ 57 < ((rs[0]'h0).toNat : Int)) := by
          by_cases h0 : rs.toList = []
          · exact .inl (by rw [h0]; rfl)
          · have h0' : rs.toList.isEmpty = false := by rw [List.isEmpty_eq_false_iff]; exact h0
            have hpos : 0 < rs.size := by
              rcases Nat.eq_zero_or_pos rs.size with h | h
              · exact absurd ((toList_nil_iff rs).2 (List.length_eq_zero_iff.1 ((show rs.data.toList.length = rs.size from by simp).trans h))) h0
              · exact h
            rw [isDig_iff hpos, decide_eq_false_iff_not] at hdg'
            by_cases h48 : ((rs[0]'hpos).toNat : Int) < 48
            · exact .inr (.inl ⟨hpos, h0', h48⟩)
            · exact .inr (.inr ⟨hpos, h0', by omega, by omega⟩)
        have HGO := Lib.hid hgo
        clear hgo hdg hdg'
        cases he : elemOf rs.data.toList with
        | none =>
          have hno : readOf s.data.toList = none := by rw [HGO.out]; simp [restOf, he]
          have HE := Lib.hid he
          have HNO := Lib.hid hno
          clear he hno
          rcases hcs with h1 | ⟨hpos, h1, h2⟩ | ⟨hpos, h1, h2, h3⟩
          all_goals
            go_wp2_with (go_at_call 50; refine (numT_none HE.out _).mono ?_; rintro e w1 ⟨⟨v, rfl⟩, rfl⟩)
            refine bodyPost_ret (v := .tuple #[tv 0 0 (.slice none 0 0) ⟨#[]⟩, .bool false]) (by simp [results, Tryd.results28, go_sem, c2, c7, hz]) rfl ?_
            have hbw := HI.out.below
            exact rread_no HNO.out 0 0 ⟨#[]⟩ rfl (by repeat (with_reducible (first | exact hbw | refine below_set ?_ (Nat.le_refl _) _ _ | refine below_set ?_ (Nat.le_succ _) _ _ | refine belowA ?_ _)))
        | some q =>
          have hstr := elemOf_str he
          have hqb : q.bits ≤ 64 := (elemOf_ok he).1.bits
          by_cases hpr : prodN ext ≤ 4096
          · have hyes : readOf s.data.toList = some ⟨k, if q.kind = 1 then 0 else q.bits, ext⟩ := by rw [HGO.out]; simp [restOf, he, hpr]
            have hb : bitsT ⟨k, if q.kind = 1 then 0 else q.bits, ext⟩ = 0 := by rcases HI.out.kind with h | h <;> simp [bitsT, h]
            have hel : elT ⟨k, if q.kind = 1 then 0 else q.bits, ext⟩ = rs.data.toList := by rw [hstr]; rcases HI.out.kind with h | h <;> simp [elT, h]
            have hp2 : decide (4096 < ((prodN ext : Nat) : Int)) = false := by simp; omega
            have HE := Lib.hid he
            have HY := Lib.hid hyes
            have HB := Lib.hid hb
            have HEL := Lib.hid hel
            clear he hyes hb hel hstr hpr
            rcases hcs with h1 | ⟨hpos, h1, h2⟩ | ⟨hpos, h1, h2, h3⟩
            all_goals
              go_wp2_with (go_at_call 50; refine (numT_some HE.out _).mono ?_; rintro e w1 ⟨rfl, rfl⟩)
              refine bodyPost_ret (v := .tuple #[tv k 0 (.slice sa ext.length sc) rs, .bool true]) (by simp [results, Tryd.results28, go_sem, c2, c7, hz]) rfl ?_
              have hbw := HI.out.below
              refine rread_yes HY.out (.slice sa ext.length sc) (by rw [HB.out, HEL.out]; simp) ?_ (by repeat (with_reducible (first | exact hbw | refine below_set ?_ (Nat.le_refl _) _ _ | refine below_set ?_ (Nat.le_succ _) _ _ | refine belowA ?_ _)))
              have hown := HI.out.own
              refine own_mono (base := w.heap.size + 2) (b2 := w.heap.size) ?_ (Nat.le_add_right _ _)
              repeat (with_reducible (first | exact hown | refine ownsRow_setCell_below ?_ (by simp) _ | refine World.ownsRow.alloc ?_ _))
          · have hno : readOf s.data.toList = none := by rw [HGO.out]; simp [restOf, he, hpr]
            have hp2 : decide (4096 < ((prodN ext : Nat) : Int)) = true := by simp; omega
            have HE := Lib.hid he
            have HNO := Lib.hid hno
            clear he hno hstr hpr
            rcases hcs with h1 | ⟨hpos, h1, h2⟩ | ⟨hpos, h1, h2, h3⟩
            all_goals
              go_wp2_with (go_at_call 50; refine (numT_some HE.out _).mono ?_; rintro e w1 ⟨rfl, rfl⟩)
              refine bodyPost_ret (v := .tuple #[tv 0 0 (.slice none 0 0) ⟨#[]⟩, .bool false]) (by simp [results, Tryd.results28, go_sem, c2, c7, hz]) rfl ?_
              have hbw := HI.out.below
              exact rread_no HNO.out 0 0 ⟨#[]⟩ rfl (by repeat (with_reducible (first | exact hbw | refine below_set ?_ (Nat.le_refl _) _ _ | refine below_set ?_ (Nat.le_succ _) _ _ | refine belowA ?_ _)))
end Go.Proofs.YthgiianmfehcaaaDoor
