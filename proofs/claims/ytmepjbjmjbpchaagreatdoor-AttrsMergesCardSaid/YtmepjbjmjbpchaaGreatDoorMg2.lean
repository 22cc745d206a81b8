/- Texts of this claim, laid together: Rf7, Rf8, Rf9, Ar0, Ar1, InvT, At4, Scope, At5, Ar2. -/
import Derived.IntWalk
import Derived.Scope
import Derived.WalkKit
import Derived.WalkMore
import Derived.WalkLawsBesides
import Derived.Test.YtmepjbjmjbpchaaGreatDoorMg0
import Derived.Test.YtmepjbjmjbpchaaGreatDoorMg1
section
/- The reference of types: Read, where the string may be a type with cells: the plain laws. -/
namespace Go.Proofs.YtmepjbjmjbpchaaGreatDoor
open Go Go.RowKit Go.Sort
set_option linter.unusedVariables false
set_option linter.unusedSimpArgs false

theorem suffix_iff {l : List UInt8} {c : UInt8} (h : l ≠ []) : Lib.hasSuffix l [c] = (l.getLast h == c) := by
  have hs := List.dropLast_concat_getLast h
  rw [Bool.eq_iff_iff]
  simp only [Lib.hasSuffix, List.isSuffixOf_iff_suffix, beq_iff_eq]
  constructor
  · rintro ⟨t, ht⟩
    have : (t ++ [c]).getLast (by simp) = l.getLast h := by congr 1
    simpa using this.symm
  · intro he
    exact ⟨l.dropLast, by rw [← he]; exact hs⟩
theorem prefix_take {l p : List UInt8} : Lib.hasPrefix l p = (l.take p.length == p) := by
  rw [Bool.eq_iff_iff]
  simp only [Lib.hasPrefix, List.isPrefixOf_iff_prefix, beq_iff_eq]
  rw [List.prefix_iff_eq_take]
  exact eq_comm
/-- What `Read` comes to where the string is a type with cells. -/
theorem readOf_cells {l : List UInt8} {k : Nat} {p : List UInt8} (he : elemOf l = none) (hk : (k = 2 ∧ p = [109, 101, 109, 60]) ∨ (k = 3 ∧ p = [97, 114, 114, 60])) (h5 : 5 ≤ l.length) (hp : l.take 4 = p) (hs : Lib.hasSuffix l [62] = true) :
    readOf l = ((rshape [] ((l.take (l.length - 1)).drop 4)).bind restOf).map fun r => ⟨k, r.2, r.1⟩ := by
  have ht : (l.take (l.length - 1)).take 4 = p := by rw [List.take_take, Nat.min_eq_left (by omega), hp]
  rw [← rshape_eq _ _ _ (Nat.le_refl _)]
  unfold readOf
  rw [he]
  dsimp only
  rw [if_pos hs]
  rcases hk with ⟨rfl, rfl⟩ | ⟨rfl, rfl⟩
  · rw [if_pos (by rw [prefix_take]; simpa using ht)]; rfl
  · rw [if_neg (by rw [prefix_take]; simp only [List.length_cons, List.length_nil, Nat.reduceAdd]; rw [ht]; decide), if_pos (by rw [prefix_take]; simpa using ht)]; rfl
theorem foreign_head {l : List UInt8} (h : l.head? ≠ some 33) : foreignOf l = none := by
  unfold foreignOf
  rw [if_neg]
  rintro ⟨h1, -⟩
  match l, h, h1 with
  | [], h, h1 => simp [Lib.hasPrefix, List.isPrefixOf] at h1
  | c :: l, h, h1 => simp [Lib.hasPrefix, List.isPrefixOf] at h1 h; exact h h1.symm
theorem foreign_one : foreignOf [33] = none := by rfl
/-- What `Read` comes to where the string is no type at all. -/
theorem readOf_no {l : List UInt8} (he : elemOf l = none) (h0 : l.head? ≠ some 33 ∨ l.length ≤ 1) (hn : l.length < 5 ∨ (l.take 4 ≠ [109, 101, 109, 60] ∧ l.take 4 ≠ [97, 114, 114, 60]) ∨ Lib.hasSuffix l [62] = false) : readOf l = none := by
  have hf : foreignOf l = none := by
    rcases h0 with h0 | h0
    · exact foreign_head h0
    · by_cases h : l.head? = some 33
      · match l, h, h0 with
        | [c], h, _ => simp at h; rw [h]; exact foreign_one
      · exact foreign_head h
  unfold readOf
  rw [he]
  dsimp only
  split
  · rename_i hs
    have hpre : ∀ p : List UInt8, p = [109, 101, 109, 60] ∨ p = [97, 114, 114, 60] → ¬ Lib.hasPrefix (l.take (l.length - 1)) p = true := by
      intro p hp h
      rw [prefix_take] at h
      have h4 : p.length = 4 := by rcases hp with rfl | rfl <;> rfl
      rw [h4] at h
      have h := eq_of_beq h
      have hl := congrArg List.length h
      rw [h4] at hl
      simp at hl
      rw [List.take_take, Nat.min_eq_left (by omega)] at h
      rcases hn with hn | ⟨hn, hn'⟩ | hn
      · omega
      · rcases hp with rfl | rfl
        · exact hn h
        · exact hn' h
      · rw [hs] at hn; cases hn
    rw [if_neg (hpre _ (.inl rfl)), if_neg (hpre _ (.inr rfl))]
    exact hf
  · exact hf

theorem prodN_snoc (ext : List Nat) (n : Nat) : prodN (ext ++ [n]) = prodN ext * n := by simp [prodN, List.foldl_append]
theorem prodN_le : ∀ (ext : List Nat), (∀ n ∈ ext, n ≤ 1000) → prodN ext ≤ 1000 ^ ext.length := by
  intro ext
  induction h : ext.length generalizing ext with
  | zero => intro _; rw [List.length_eq_zero_iff.1 h]; decide
  | succ m ih =>
    intro hm
    obtain ⟨l, x, rfl⟩ : ∃ l x, ext = l ++ [x] := ⟨ext.dropLast, ext.getLast (by intro e; subst e; simp at h), (List.dropLast_concat_getLast _).symm⟩
    rw [prodN_snoc, Nat.pow_succ]
    exact Nat.mul_le_mul (ih l (by simpa using h) (fun n hn => hm n (by simp [hn]))) (hm x (by simp))
theorem prodN_le3 {ext : List Nat} (h : ext.length ≤ 3) (ha : ∀ n ∈ ext, n ≤ 1000) : prodN ext ≤ 1000000000 :=
  Nat.le_trans (prodN_le ext ha) (Nat.le_trans (Nat.pow_le_pow_right (by omega) h) (by decide))

theorem numRes_form (o : Option Nat) (m : Int) : ∃ (a : Int) (b : Bool), numRes o m = .tuple #[.int .i64 a, .bool b] := by
  cases o with
  | none => exact ⟨0, false, rfl⟩
  | some n => exact ⟨n, _, rfl⟩
theorem num_good {l : List UInt8} {n : Nat} (h : numOf l = some n) (hn : n ≤ 1000) : numRes (rnumOf l) 1000 = .tuple #[.int .i64 n, .bool true] := by
  rw [(rnum_small hn).2 h]
  simp only [numRes]
  rw [show decide ((n : Int) ≤ 1000) = true by simp; omega]
theorem num_bad {l : List UInt8} (h : ∀ n, numOf l = some n → 1000 < n) : ∃ a : Int, numRes (rnumOf l) 1000 = .tuple #[.int .i64 a, .bool false] := by
  cases hr : rnumOf l with
  | none => exact ⟨0, rfl⟩
  | some n =>
    have hn : 1000 < n := by
      rcases Nat.lt_or_ge 1000 n with h' | h'
      · exact h'
      · have := h n ((rnum_small h').1 hr); omega
    refine ⟨n, ?_⟩
    simp only [numRes]
    rw [show decide ((n : Int) ≤ 1000) = false by simp; omega]
/-- The world at the head of the loop over the extents. -/
structure RdI (w : World) (l0 : List UInt8) (k : Nat) (ext : List Nat) (v : Value) (l : List UInt8) (wr : World) : Prop where
  kind : k = 2 ∨ k = 3
  go : readOf l0 = ((rshape ext l).bind restOf).map fun r => ⟨k, r.2, r.1⟩
  len : ext.length ≤ 3
  all : ∀ n ∈ ext, n ≤ 1000
  sz : l.length ≤ 140737488355328
  res : wr.heap[w.heap.size]? = some (.cells (tCells 0 0 (.slice none 0 0) ⟨#[]⟩) 97 (0, 0))
  tb : wr.heap[w.heap.size + 1]? = some (.cells (tCells k 0 v ⟨#[]⟩) 97 (0, 0))
  own : wr.ownsRow (w.heap.size + 2) 3 1 v ext.length (ext.map (fun (n : Nat) => Value.int .i64 n))
  below : Below w.heap.size w wr
theorem own_mono {W : World} {base b2 : Nat} {e : TypeId} {v : Value} {n : Nat} {xs : List Value} (h : W.ownsRow base e 1 v n xs) (hb : b2 ≤ base) : W.ownsRow b2 e 1 v n xs :=
  ⟨h.1, by
    rcases h.2 with h | ⟨g, c, cur, h1, h2, h3⟩
    · exact .inl h
    · exact .inr ⟨g, c, cur, h1, Nat.le_trans hb h2, h3⟩⟩
def strLen : Value → Nat
  | .string s => s.size
  | _ => 0
theorem isDig_iff {s : ByteArray} (h : 0 < s.size) : isDig s.data.toList = decide (48 ≤ ((s[0]'h).toNat : Int) ∧ ((s[0]'h).toNat : Int) ≤ 57) := by
  have hd := data_get s 0 h
  rw [List.drop_zero] at hd
  rw [hd]
  simp only [isDig]
  rw [Bool.eq_iff_iff]; simp; omega
end Go.Proofs.YtmepjbjmjbpchaaGreatDoor
end
section
/- The reference of types: Read, the walk where the string may be a type with cells. -/
namespace Go.Proofs.YtmepjbjmjbpchaaGreatDoor
open Go Go.RowKit Go.Sort
set_option linter.unusedVariables false
set_option linter.unusedSimpArgs false

set_option maxRecDepth 100000 in
set_option maxHeartbeats 4000000 in
theorem rread_cells (s : ByteArray) (w : World) (k : Nat) (p : List UInt8) (hk : (k = 2 ∧ p = [109, 101, 109, 60]) ∨ (k = 3 ∧ p = [97, 114, 114, 60])) (hs : s.size ≤ 140737488355328) (h : elemOf s.data.toList = none)
    (h5 : 5 ≤ s.size) (hp : s.data.toList.take 4 = p) (hsf : s[s.size - 1]'(by omega) = 62) : Calls Tryz.prog 66 #[.string s] w (RReadPost s.data.toList w) := by
  have hp0 : 0 < s.size := by omega
  have hpl : s.size - 1 < s.size := by omega
  have hl : s.data.toList.length = s.size := by simp
  have hne : s.data.toList ≠ [] := by intro e; rw [e] at hl; simp at hl; omega
  have hsuf : Lib.hasSuffix s.data.toList [62] = true := by
    rw [suffix_iff hne, List.getLast_eq_getElem]
    simp only [beq_iff_eq]
    rw [← hsf]
    simp [ByteArray.getElem_eq_getElem_data]
  have hro := readOf_cells h hk (by omega) hp hsuf
  obtain ⟨r0, hr0⟩ : ∃ r0, r0 = (s.data.toList.take (s.data.toList.length - 1)).drop 4 := ⟨_, rfl⟩
  rw [← hr0] at hro
  have hex : (s.extract 4 (s.size - 1)).data.toList = r0 := by
    rw [hr0]; simp [ByteArray.data_extract, List.drop_take]
  have hex4 : (s.extract 0 4).toList = p := by
    rw [ByteArray.toList_eq, ← hp]; simp [ByteArray.data_extract]
  have hr0l : r0.length ≤ 140737488355328 := by rw [hr0]; simp; omega
  have h33 : (((s[0]'hp0).toNat : Int) == 33) = false := by
    rw [beq_eq_false_iff_ne]
    intro h'
    have hd := data_get s 0 hp0
    rw [List.drop_zero] at hd
    rw [hd] at hp
    rcases hk with ⟨-, rfl⟩ | ⟨-, rfl⟩
    · simp only [List.take_succ_cons, List.cons.injEq] at hp
      rw [hp.1] at h'; exact absurd h' (by decide)
    · simp only [List.take_succ_cons, List.cons.injEq] at hp
      rw [hp.1] at h'; exact absurd h' (by decide)
  have hq1 : (5 : Int) ≤ (s.size : Int) := by omega
  have hlast : (((s[s.size - 1]'hpl).toNat : Int) != 62) = false := by rw [hsf]; rfl
  have hq2 : decide ((s.size : Int) < 5) = false := by simp; omega
  have H := Lib.hid h
  have HRO := Lib.hid hro
  have HEX := Lib.hid hex
  have HL := Lib.hid hl
  clear h hro hr0 hex hl hne hsuf hp hsf
  rcases hk with ⟨rfl, rfl⟩ | ⟨rfl, rfl⟩
  all_goals
    go_enter Tryz.func66, Tryz.ntmps66
    go_wp2_with (go_at_call 86; refine (numT_none H.out _).mono ?_; rintro e w1 ⟨⟨v, rfl⟩, rfl⟩)
    go_loopw [8, 9] (fun rv cv wr => ∃ (k : Nat) (ext : List Nat) (v : Value) (rs : ByteArray), rv = .string rs ∧ cv = .int .i64 (prodN ext : Nat) ∧ RdI w s.data.toList k ext v rs.data.toList wr) (fun rv _ _ => strLen rv)
    case atStart =>
      have hb0 := belowA (belowA (Below.refl w.heap.size w) (.cells (tCells 0 0 (.slice none 0 0) ⟨#[]⟩) 97))
      first
        | exact ⟨2, [], .slice none 0 0, s.extract 4 (s.size - 1), rfl, rfl, .inl rfl, by rw [HEX.out]; exact HRO.out, by decide, by simp, by rw [HEX.out]; exact hr0l, allocPast _ (heap_alloc_new w _) (by simp), allocAt _ (by simp), World.ownsRow_nil _ _ _ _, hb0 _⟩
        | exact ⟨3, [], .slice none 0 0, s.extract 4 (s.size - 1), rfl, rfl, .inr rfl, by rw [HEX.out]; exact HRO.out, by decide, by simp, by rw [HEX.out]; exact hr0l, allocPast _ (heap_alloc_new w _) (by simp), allocAt _ (by simp), World.ownsRow_nil _ _ _ _, hb0 _⟩
    case round =>
      clear HRO HEX H hlast hq1 hq2 hex4 h33 HL hr0l
      obtain ⟨k, ext, v, rs, rfl, rfl, hi⟩ := hrel
      have hpn := prodN_le3 hi.len hi.all
      have hrs : rs.size ≤ 140737488355328 := by have := hi.sz; simpa using this
      have hlen := hi.len
      obtain ⟨sa, sc, rfl⟩ := own_slice hi.own
      have hall := Lib.hid hi.all
      have c2 := blkCell hi.res
      have f2 := blkFree hi.res
      have c7 := blkCell hi.tb
      have f7 := blkFree hi.tb
      have hz : w.heap.size + 1 < wr.heap.size := blkLt hi.tb
      have HI := Lib.hid hi
      clear hi
      by_cases hdg : isDig rs.data.toList = true
      · have hpos : 0 < rs.size := by
          rcases Nat.eq_zero_or_pos rs.size with h | h
          · rw [List.length_eq_zero_iff.1 ((show rs.data.toList.length = rs.size from by simp).trans h)] at hdg; simp [isDig] at hdg
          · exact h
        have hne : rs.toList.isEmpty = false := by rw [List.isEmpty_eq_false_iff]; intro h0; rw [toList_nil_iff] at h0; have := congrArg List.length h0; rw [show rs.data.toList.length = rs.size from by simp, List.length_nil] at this; omega
        have hd01 : 48 ≤ ((rs[0]'hpos).toNat : Int) ∧ ((rs[0]'hpos).toNat : Int) ≤ 57 := by
          rw [isDig_iff hpos] at hdg; exact of_decide_eq_true hdg
        obtain ⟨hd0, hd1⟩ := hd01
        have HDG := Lib.hid hdg
        clear hdg
        go_wp2_with fail
        go_loop [10] (fun i => ∃ j : Nat, j ≤ rs.size ∧ i = .int .i64 j ∧ ∀ x ∈ rs.data.toList.take j, x ≠ 120) (fun i => rs.size - (intOf i).toNat)
        case atStart => exact ⟨0, Nat.zero_le _, rfl, by simp⟩
        case round =>
          obtain ⟨j, hj, rfl, hx⟩ := hrel
          have HX := Lib.hid hx
          clear hx
          rcases Nat.lt_or_ge j rs.size with hlt | hge
          · have hget := Lib.hid (bytes_get rs j hlt)
            by_cases hc : ((rs[j]'hlt).toNat : Int) = 120
            · have hb : (((rs[j]'hlt).toNat : Int) != 120) = false := by rw [hc]; rfl
              have hcut : cutOf 120 rs.data.toList = some (rs.data.toList.take j, rs.data.toList.drop (j + 1)) := by
                rw [cutOf_take _ 120 j HX.out (fun x hx => by rw [hget.out] at hx; cases hx; exact byte_eq 120 (by omega) hc), if_pos (by simpa using hlt)]
              have hex : (rs.extract 0 j).data.toList = rs.data.toList.take j := by simp [ByteArray.data_extract]
              have hgo := HI.out.go
              rw [rshape_more HDG.out hcut] at hgo
              have hj1 : (j : Int) + 1 ≤ (rs.size : Int) := by omega
              have hjn : ((j : Int) == (rs.size : Int)) = false := by rw [beq_eq_false_iff_ne]; omega
              have HEX := Lib.hid hex
              clear hc hex hcut
              by_cases hgood : ∃ n, numOf (rs.data.toList.take j) = some n ∧ n ≤ 1000
              · obtain ⟨n, hn, hn1⟩ := hgood
                have hnr := num_good hn hn1
                rw [hn] at hgo
                have HNR := Lib.hid hnr
                clear hnr hn
                rcases Nat.lt_or_ge ext.length 3 with hl3 | hl3
                · dsimp only at hgo
                  rw [if_pos ⟨hn1, hl3⟩] at hgo
                  have hl3b : ((ext.length : Int) == 3) = false := by rw [beq_eq_false_iff_ne]; omega
                  have HGO := Lib.hid hgo
                  clear hgo
                  have hpm0 : (0 : Int) ≤ ((prodN ext : Nat) : Int) * (n : Int) := Int.mul_nonneg (by omega) (by omega)
                  have hpm1 : ((prodN ext : Nat) : Int) * (n : Int) ≤ 1000000000000 := by
                    have := Nat.mul_le_mul hpn hn1
                    rw [← Int.natCast_mul]; omega
                  obtain ⟨i0, hin, hz0, hz1, hz2⟩ := info_parts (show (Tryz.prog.info? 3).map (fun i => (i.zero, i.size, i.bytes)) = some (some (.int .i64 0), 1, 8) by kernel_rfl)
                  have HOWN := Lib.hid HI.out.own
                  go_wp2_with (first
                    | (go_at_call 88; refine (rnum_any _ _ _).mono ?_; rintro e w1 ⟨rfl, rfl⟩; rw [HEX.out, HNR.out])
                    | (at_builtin; refine wpList_append_own _ rfl _ _ 95 rfl (w.heap.size + 2) 3 i0 (.int .i64 0) 1 8 Tryz.underlying95 hin hz0 hz1 hz2 rfl (by decide) _ _ _ rfl (HOWN.out.alloc _) ⟨wr.heap.size, 0, none⟩ 1 1 [.int .i64 n] rfl rfl ?c1 ?c2 ?c3 ?c4 ?c5 ?_))
                  case c1 =>
                    intro t u hj
                    match t, hj with
                    | 0, hj => simp at hj; subst hj; simp [Addr.add]
                  case c2 => intro u hu; simp at hu; subst hu; rfl
                  case c3 => unfold maxLen; omega
                  case c4 => omega
                  case c5 => simp; omega
                  intro v' w3 hown' hgrow _
                  have hnew : ∀ b, b < w.heap.size + 2 → w3.heap[b]? = wr.heap[b]? := fun b hb => (hgrow.block b (by simp; omega) (fun he => by have := (HOWN.out.lt b he.symm).1; omega)).trans (Below.heap_alloc wr _ b (by omega))
                  have c7n := blkCell ((hnew (w.heap.size + 1) (by omega)).trans HI.out.tb)
                  have f7n := blkFree ((hnew (w.heap.size + 1) (by omega)).trans HI.out.tb)
                  have hres3 := (hnew w.heap.size (by omega)).trans HI.out.res
                  have htb3 := (hnew (w.heap.size + 1) (by omega)).trans HI.out.tb
                  have hbel3 := (belowA HI.out.below (.cells #[.int .i64 n] 3)).grown hgrow (by have := HI.out.below.size; simp; omega) (fun k hk => by have := (HOWN.out.lt k hk).1; omega)
                  obtain ⟨sa', sc', rfl⟩ := own_slice hown'
                  have HOWN3 := Lib.hid hown'
                  have HRES3 := Lib.hid hres3
                  have HTB3 := Lib.hid htb3
                  have HBEL3 := Lib.hid hbel3
                  clear hnew hres3 htb3 hbel3 hown' c7 f7 c2 f2
                  go_wp2_with fail
                  go_roundw
                  · refine ⟨k, ext ++ [n], .slice sa' (ext.length + 1) sc', rs.extract (j + 1) rs.size, rfl, by rw [prodN_snoc, Int.natCast_mul], HI.out.kind, ?_, by simp; omega, ?_, ?_, (heap_setCell_other _ _ _ _ (Nat.ne_of_lt (Nat.lt_succ_self _))).trans HRES3.out, heap_setCell_same _ _ 2 _ _ _ HTB3.out, ?_, HBEL3.out.setCell (p := ⟨w.heap.size + 1, 2, none⟩) (by simp) _⟩
                    · rw [HGO.out]
                      congr 3
                      simp [ByteArray.data_extract]
                      exact (List.take_of_length_le (by simp)).symm
                    · intro x hx
                      rw [List.mem_append, List.mem_singleton] at hx
                      rcases hx with hx | rfl
                      · exact hall.out x hx
                      · exact hn1
                    · simp; omega
                    · have := ownsRow_setCell_below HOWN3.out (a := ⟨w.heap.size + 1, 2, none⟩) (by simp) (.slice sa' (ext.length + 1) sc')
                      simpa using this
                  · simp [strLen]; omega
                · have hl3b : ((ext.length : Int) == 3) = true := by rw [beq_iff_eq]; omega
                  dsimp only at hgo
                  rw [if_neg (by omega)] at hgo
                  have HGO := Lib.hid hgo
                  clear hgo
                  go_wp2_with (go_at_call 88; refine (rnum_any _ _ _).mono ?_; rintro e w1 ⟨rfl, rfl⟩; rw [HEX.out, HNR.out])
                  refine bodyPost_ret (v := .tuple #[tv 0 0 (.slice none 0 0) ⟨#[]⟩, .bool false]) (by simp [results, Tryz.results66, go_sem, c2, c7, hz]) rfl ?_
                  have hbw := HI.out.below
                  exact rread_no HGO.out 0 0 ⟨#[]⟩ rfl (by repeat (with_reducible (first | exact hbw | refine below_set ?_ (Nat.le_refl _) _ _ | refine below_set ?_ (Nat.le_succ _) _ _ | refine belowA ?_ _)))
              · have hbad : ∀ n, numOf (rs.data.toList.take j) = some n → 1000 < n := fun n hn => by
                  rcases Nat.lt_or_ge 1000 n with h' | h'
                  · exact h'
                  · exact absurd ⟨n, hn, h'⟩ hgood
                obtain ⟨na, hnr⟩ := num_bad hbad
                have hno : readOf s.data.toList = none := by
                  rw [hgo]
                  cases hn : numOf (rs.data.toList.take j) with
                  | none => rfl
                  | some n => dsimp only; rw [if_neg (by have := hbad n hn; omega)]; rfl
                have HNR := Lib.hid hnr
                have HNO := Lib.hid hno
                clear hgo hbad hgood hnr hno
                go_wp2_with (go_at_call 88; refine (rnum_any _ _ _).mono ?_; rintro e w1 ⟨rfl, rfl⟩; rw [HEX.out, HNR.out])
                refine bodyPost_ret (v := .tuple #[tv 0 0 (.slice none 0 0) ⟨#[]⟩, .bool false]) (by simp [results, Tryz.results66, go_sem, c2, c7, hz]) rfl ?_
                have hbw := HI.out.below
                exact rread_no HNO.out 0 0 ⟨#[]⟩ rfl (by repeat (with_reducible (first | exact hbw | refine below_set ?_ (Nat.le_refl _) _ _ | refine below_set ?_ (Nat.le_succ _) _ _ | refine belowA ?_ _)))
            · have hb : (((rs[j]'hlt).toNat : Int) != 120) = true := by rw [bne_iff_ne]; exact hc
              have hne := Lib.hid (byte_ne (c := rs[j]'hlt) 120 (by omega) hc)
              clear hc
              go_wp2_with fail
              go_round
              case rel => exact ⟨j + 1, by omega, by go_num, take_ne HX.out hget.out hne.out⟩
              case measure => simp [intOf]; omega
          · have hje : j = rs.size := by omega
            subst hje
            have hcut : cutOf 120 rs.data.toList = none := by
              rw [cutOf_take _ 120 rs.size HX.out (by simp), if_neg (by simp)]
            have hno : readOf s.data.toList = none := by rw [HI.out.go, rshape_none HDG.out hcut]; rfl
            have HNO := Lib.hid hno
            clear hno hcut
            go_wp2_with fail
            refine (rnum_any _ _ _).mono ?_
            rintro e w1 ⟨rfl, rfl⟩
            obtain ⟨na, nb, hnr⟩ := numRes_form (rnumOf rs.data.toList) 1000
            rw [hnr]
            have HNR := Lib.hid hnr
            clear hnr
            cases nb
            all_goals
              go_wp2_with fail
              refine bodyPost_ret (v := .tuple #[tv 0 0 (.slice none 0 0) ⟨#[]⟩, .bool false]) (by simp [results, Tryz.results66, go_sem, c2, c7, hz]) rfl ?_
              have hbw := HI.out.below
              exact rread_no HNO.out 0 0 ⟨#[]⟩ rfl (by repeat (with_reducible (first | exact hbw | refine below_set ?_ (Nat.le_refl _) _ _ | refine below_set ?_ (Nat.le_succ _) _ _ | refine belowA ?_ _)))
      · have hdg' : isDig rs.data.toList = false := by simpa using hdg
        have hgo : readOf s.data.toList = (restOf (ext, rs.data.toList)).map fun r => ⟨k, r.2, r.1⟩ := by rw [HI.out.go, rshape_end hdg']; rfl
        have hcs : rs.toList.isEmpty = true ∨ (∃ h0 : 0 < rs.size, rs.toList.isEmpty = false ∧ ((rs[0]'h0).toNat : Int) < 48) ∨ (∃ h0 : 0 < rs.size, rs.toList.isEmpty = false ∧ 48 ≤ ((rs[0]'h0).toNat : Int) ∧ 57 < ((rs[0]'h0).toNat : Int)) := by
          by_cases h0 : rs.toList = []
          · exact .inl (by rw [h0]; rfl)
          · have h0' : rs.toList.isEmpty = false := by rw [List.isEmpty_eq_false_iff]; exact h0
            have hpos : 0 < rs.size := by
              rcases Nat.eq_zero_or_pos rs.size with h | h
              · exact absurd ((toList_nil_iff rs).2 (List.length_eq_zero_iff.1 ((show rs.data.toList.length = rs.size from by simp).trans h))) h0
              · exact h
            rw [isDig_iff hpos, decide_eq_false_iff_not] at hdg'
            by_cases h48 : ((rs[0]'hpos).toNat : Int) < 48
            · exact .inr (.inl ⟨hpos, h0', h48⟩)
            · exact .inr (.inr ⟨hpos, h0', by omega, by omega⟩)
        have HGO := Lib.hid hgo
        clear hgo hdg hdg'
        cases he : elemOf rs.data.toList with
        | none =>
          have hno : readOf s.data.toList = none := by rw [HGO.out]; simp [restOf, he]
          have HE := Lib.hid he
          have HNO := Lib.hid hno
          clear he hno
          rcases hcs with h1 | ⟨hpos, h1, h2⟩ | ⟨hpos, h1, h2, h3⟩
          all_goals
            go_wp2_with (go_at_call 86; refine (numT_none HE.out _).mono ?_; rintro e w1 ⟨⟨v, rfl⟩, rfl⟩)
            refine bodyPost_ret (v := .tuple #[tv 0 0 (.slice none 0 0) ⟨#[]⟩, .bool false]) (by simp [results, Tryz.results66, go_sem, c2, c7, hz]) rfl ?_
            have hbw := HI.out.below
            exact rread_no HNO.out 0 0 ⟨#[]⟩ rfl (by repeat (with_reducible (first | exact hbw | refine below_set ?_ (Nat.le_refl _) _ _ | refine below_set ?_ (Nat.le_succ _) _ _ | refine belowA ?_ _)))
        | some q =>
          have hstr := elemOf_str he
          have hqb : q.bits ≤ 64 := (elemOf_ok he).1.bits
          by_cases hpr : prodN ext ≤ 4096
          · have hyes : readOf s.data.toList = some ⟨k, if q.kind = 1 then 0 else q.bits, ext⟩ := by rw [HGO.out]; simp [restOf, he, hpr]
            have hb : bitsT ⟨k, if q.kind = 1 then 0 else q.bits, ext⟩ = 0 := by rcases HI.out.kind with h | h <;> simp [bitsT, h]
            have hel : elT ⟨k, if q.kind = 1 then 0 else q.bits, ext⟩ = rs.data.toList := by rw [hstr]; rcases HI.out.kind with h | h <;> simp [elT, h]
            have hp2 : decide (4096 < ((prodN ext : Nat) : Int)) = false := by simp; omega
            have HE := Lib.hid he
            have HY := Lib.hid hyes
            have HB := Lib.hid hb
            have HEL := Lib.hid hel
            clear he hyes hb hel hstr hpr
            rcases hcs with h1 | ⟨hpos, h1, h2⟩ | ⟨hpos, h1, h2, h3⟩
            all_goals
              go_wp2_with (go_at_call 86; refine (numT_some HE.out _).mono ?_; rintro e w1 ⟨rfl, rfl⟩)
              refine bodyPost_ret (v := .tuple #[tv k 0 (.slice sa ext.length sc) rs, .bool true]) (by simp [results, Tryz.results66, go_sem, c2, c7, hz]) rfl ?_
              have hbw := HI.out.below
              refine rread_yes HY.out (.slice sa ext.length sc) (by rw [HB.out, HEL.out]; simp) ?_ (by repeat (with_reducible (first | exact hbw | refine below_set ?_ (Nat.le_refl _) _ _ | refine below_set ?_ (Nat.le_succ _) _ _ | refine belowA ?_ _)))
              have hown := HI.out.own
              refine own_mono (base := w.heap.size + 2) (b2 := w.heap.size) ?_ (Nat.le_add_right _ _)
              repeat (with_reducible (first | exact hown | refine ownsRow_setCell_below ?_ (by simp) _ | refine World.ownsRow.alloc ?_ _))
          · have hno : readOf s.data.toList = none := by rw [HGO.out]; simp [restOf, he, hpr]
            have hp2 : decide (4096 < ((prodN ext : Nat) : Int)) = true := by simp; omega
            have HE := Lib.hid he
            have HNO := Lib.hid hno
            clear he hno hstr hpr
            rcases hcs with h1 | ⟨hpos, h1, h2⟩ | ⟨hpos, h1, h2, h3⟩
            all_goals
              go_wp2_with (go_at_call 86; refine (numT_some HE.out _).mono ?_; rintro e w1 ⟨rfl, rfl⟩)
              refine bodyPost_ret (v := .tuple #[tv 0 0 (.slice none 0 0) ⟨#[]⟩, .bool false]) (by simp [results, Tryz.results66, go_sem, c2, c7, hz]) rfl ?_
              have hbw := HI.out.below
              exact rread_no HNO.out 0 0 ⟨#[]⟩ rfl (by repeat (with_reducible (first | exact hbw | refine below_set ?_ (Nat.le_refl _) _ _ | refine below_set ?_ (Nat.le_succ _) _ _ | refine belowA ?_ _)))
end Go.Proofs.YtmepjbjmjbpchaaGreatDoor
end
section
/- The reference of types: Read at any string; Is, IsNumber, Bits, Shaped. -/
namespace Go.Proofs.YtmepjbjmjbpchaaGreatDoor
open Go Go.RowKit Go.Sort
set_option linter.unusedVariables false
set_option linter.unusedSimpArgs false

set_option maxRecDepth 100000 in
set_option maxHeartbeats 2000000 in
theorem rread_none (s : ByteArray) (w : World) (hs : s.size ≤ 140737488355328) (he : elemOf s.data.toList = none) (hno : readOf s.data.toList = none)
    (h0 : s.size ≤ 1 ∨ ∃ h : 0 < s.size, 1 < s.size ∧ (((s[0]'h).toNat : Int) == 33) = false)
    (hn : s.size < 5 ∨ (5 ≤ s.size ∧ ¬ (s.extract 0 4).toList = [109, 101, 109, 60] ∧ ¬ (s.extract 0 4).toList = [97, 114, 114, 60]) ∨ (5 ≤ s.size ∧ ((s.extract 0 4).toList = [109, 101, 109, 60] ∨ (s.extract 0 4).toList = [97, 114, 114, 60]) ∧ ∃ h : s.size - 1 < s.size, ((((s[s.size - 1]'h).toNat : Int)) != 62) = true)) :
    Calls Tryz.prog 66 #[.string s] w (RReadPost s.data.toList w) := by
  have HE := Lib.hid he
  have HNO := Lib.hid hno
  clear he hno
  rcases h0 with h0 | ⟨hp, h1, h0⟩
  · have hq : ¬ (1 : Int) < (s.size : Int) := by omega
    have hq5 : decide ((s.size : Int) < 5) = true := by simp; omega
    clear hn
    go_enter Tryz.func66, Tryz.ntmps66
    go_wp2_with (go_at_call 86; refine (numT_none HE.out _).mono ?_; rintro e w1 ⟨⟨v, rfl⟩, rfl⟩)
    refine bodyPost_ret (v := .tuple #[tv 0 0 (.slice none 0 0) ⟨#[]⟩, .bool false]) (by simp [results, Tryz.results66, go_sem]) rfl ?_
    exact rread_no HNO.out 0 0 ⟨#[]⟩ rfl (by repeat (with_reducible (first | exact Below.refl _ _ | refine below_set ?_ (Nat.le_refl _) _ _ | refine belowA ?_ _)))
  · have hq : (1 : Int) < (s.size : Int) := by omega
    rcases hn with hn | ⟨h5, hx1, hx2⟩ | ⟨h5, hx1 | hx1, hpl, hl⟩
    · have hq5 : decide ((s.size : Int) < 5) = true := by simp; omega
      go_enter Tryz.func66, Tryz.ntmps66
      go_wp2_with (go_at_call 86; refine (numT_none HE.out _).mono ?_; rintro e w1 ⟨⟨v, rfl⟩, rfl⟩)
      refine bodyPost_ret (v := .tuple #[tv 0 0 (.slice none 0 0) ⟨#[]⟩, .bool false]) (by simp [results, Tryz.results66, go_sem]) rfl ?_
      exact rread_no HNO.out 0 0 ⟨#[]⟩ rfl (by repeat (with_reducible (first | exact Below.refl _ _ | refine below_set ?_ (Nat.le_refl _) _ _ | refine belowA ?_ _)))
    all_goals
      have hq5 : decide ((s.size : Int) < 5) = false := by simp; omega
      have hq6 : (5 : Int) ≤ (s.size : Int) := by omega
      go_enter Tryz.func66, Tryz.ntmps66
      go_wp2_with (go_at_call 86; refine (numT_none HE.out _).mono ?_; rintro e w1 ⟨⟨v, rfl⟩, rfl⟩)
      refine bodyPost_ret (v := .tuple #[tv 0 0 (.slice none 0 0) ⟨#[]⟩, .bool false]) (by simp [results, Tryz.results66, go_sem]) rfl ?_
      exact rread_no HNO.out 0 0 ⟨#[]⟩ rfl (by repeat (with_reducible (first | exact Below.refl _ _ | refine below_set ?_ (Nat.le_refl _) _ _ | refine belowA ?_ _)))

theorem rread_any (s : ByteArray) (w : World) (hs : s.size ≤ 140737488355328) : Calls Tryz.prog 66 #[.string s] w (RReadPost s.data.toList w) := by
  have hl : s.data.toList.length = s.size := by simp
  have hex4 : (s.extract 0 4).toList = s.data.toList.take 4 := by
    rw [ByteArray.toList_eq]; simp [ByteArray.data_extract]
  cases he : elemOf s.data.toList with
  | some q => exact rread_elem s q w he
  | none =>
    by_cases h33 : ∃ h : 1 < s.size, s[0]'(by omega) = 33
    · obtain ⟨h1, h0⟩ := h33
      exact rread_foreign s w he h1 h0
    · have h0a : s.size ≤ 1 ∨ ∃ h : 0 < s.size, 1 < s.size ∧ (((s[0]'h).toNat : Int) == 33) = false := by
        rcases Nat.lt_or_ge 1 s.size with h | h
        · refine .inr ⟨by omega, h, ?_⟩
          rw [beq_eq_false_iff_ne]
          intro h'
          exact h33 ⟨h, byte_eq 33 (by omega) h'⟩
        · exact .inl h
      have h0b : s.data.toList.head? ≠ some 33 ∨ s.data.toList.length ≤ 1 := by
        rcases h0a with h | ⟨h, -, h'⟩
        · exact .inr (by omega)
        · left
          have hd := data_get s 0 h
          rw [List.drop_zero] at hd
          rw [hd]
          intro h''
          simp at h''
          rw [h''] at h'
          exact absurd h' (by decide)
      rcases Nat.lt_or_ge s.size 5 with h5 | h5
      · exact rread_none s w hs he (readOf_no he h0b (.inl (by omega))) h0a (.inl h5)
      · have hpl : s.size - 1 < s.size := by omega
        have hne : s.data.toList ≠ [] := by intro e; rw [e] at hl; simp at hl; omega
        have hsuf : Lib.hasSuffix s.data.toList [62] = (s[s.size - 1]'hpl == 62) := by
          rw [suffix_iff hne, List.getLast_eq_getElem]
          simp [ByteArray.getElem_eq_getElem_data]
        by_cases hkw : s.data.toList.take 4 = [109, 101, 109, 60] ∨ s.data.toList.take 4 = [97, 114, 114, 60]
        · by_cases hlast : s[s.size - 1]'hpl = 62
          · rcases hkw with hkw | hkw
            · exact rread_cells s w 2 _ (.inl ⟨rfl, rfl⟩) hs he h5 hkw hlast
            · exact rread_cells s w 3 _ (.inr ⟨rfl, rfl⟩) hs he h5 hkw hlast
          · exact rread_none s w hs he (readOf_no he h0b (.inr (.inr (by rw [hsuf, beq_eq_false_iff_ne]; exact hlast)))) h0a (.inr (.inr ⟨h5, by rw [hex4]; exact hkw, hpl, by
              rw [bne_iff_ne]; intro h'; exact hlast (byte_eq 62 (by omega) h')⟩))
        · rw [not_or] at hkw
          exact rread_none s w hs he (readOf_no he h0b (.inr (.inl hkw))) h0a (.inr (.inl ⟨h5, by rw [hex4]; exact hkw.1, by rw [hex4]; exact hkw.2⟩))

set_option maxRecDepth 100000 in
theorem ris_any (s : ByteArray) (w : World) (hs : s.size ≤ 140737488355328) : Calls Tryz.prog 38 #[.string s] w fun e w' => e = .returned (.bool (readOf s.data.toList).isSome) ∧ Below w.heap.size w w' := by
  cases hr : readOf s.data.toList with
  | none =>
    have HR := Lib.hid hr
    clear hr
    go_enter Tryz.func38, Tryz.ntmps38
    go_wp2_with (go_at_call 66; refine (rread_any _ _ hs).mono ?_; rintro e w1 ⟨hb1, h1⟩; rw [HR.out] at h1; obtain ⟨k, b, el, rfl⟩ := h1)
    go_ret
    exact ⟨rfl, hb1.alloc hb1.size _⟩
  | some q =>
    have HR := Lib.hid hr
    clear hr
    go_enter Tryz.func38, Tryz.ntmps38
    go_wp2_with (go_at_call 66; refine (rread_any _ _ hs).mono ?_; rintro e w1 ⟨hb1, h1⟩; rw [HR.out] at h1; obtain ⟨sa, sc, rfl, hv⟩ := h1; have HV := Lib.hid hv; clear hv)
    go_ret
    exact ⟨rfl, hb1.alloc hb1.size _⟩
end Go.Proofs.YtmepjbjmjbpchaaGreatDoor
end
section
/- The reference: Right. -/
namespace Go.Proofs.YtmepjbjmjbpchaaGreatDoor
open Go Go.RowKit
set_option linter.unusedVariables false
set_option linter.unusedSimpArgs false

section
variable (nm : ByteArray) (k n : Int) (tx : ByteArray) (ia : Option Addr) (il ic : Nat) (ta : Option Addr) (tl tc : Nat) (w : World)
set_option maxRecDepth 100000 in
set_option maxHeartbeats 2000000 in
theorem rRight_no (h : nameOf nm.data.toList = false ∨ k < 0 ∨ 5 < k) : Calls Tryz.prog 15 #[av nm k n tx ia il ic ta tl tc] w fun e w' => e = .returned (.bool false) ∧ Below w.heap.size w w' := by
  obtain ⟨bn, hbn⟩ : ∃ bn, bn = nameOf nm.data.toList := ⟨_, rfl⟩
  rw [← hbn] at h
  have HBN := Lib.hid hbn
  clear hbn
  cases bn
  · clear h
    go_enter Tryz.func15, Tryz.ntmps15
    go_wp2_with (go_at_call 37; refine (risName_any _ _).mono ?_; rintro e w1 ⟨rfl, rfl⟩; rw [← HBN.out])
    go_ret
    exact ⟨rfl, by (repeat (first | (with_reducible refine below_set ?_ (by first | exact Nat.le_refl _ | omega) _ _) | with_reducible exact Below.refl _ _ | with_reducible refine belowA ?_ _ | with_reducible refine belowD ?_ | with_reducible refine belowN ?_ _))⟩
  · have h' : k < 0 ∨ (¬ k < 0 ∧ 5 < k) := by simp at h; omega
    clear h
    rcases h' with h | ⟨h, h2⟩
    all_goals
      go_enter Tryz.func15, Tryz.ntmps15
      go_wp2_with (go_at_call 37; refine (risName_any _ _).mono ?_; rintro e w1 ⟨rfl, rfl⟩; rw [← HBN.out])
      go_ret
      exact ⟨rfl, by (repeat (first | (with_reducible refine below_set ?_ (by first | exact Nat.le_refl _ | omega) _ _) | with_reducible exact Below.refl _ _ | with_reducible refine belowA ?_ _ | with_reducible refine belowD ?_ | with_reducible refine belowN ?_ _))⟩
set_option maxRecDepth 100000 in
set_option maxHeartbeats 4000000 in
theorem rRight_1 (h : nameOf nm.data.toList = true) : Calls Tryz.prog 15 #[av nm 1 n tx ia il ic ta tl tc] w fun e w' => e = .returned (.bool (decide (tx.size ≤ 1000) && noNumB n il tl)) ∧ Below w.heap.size w w' := by
  have H := Lib.hid h
  clear h
  go_enter Tryz.func15, Tryz.ntmps15
  go_wp2_with (go_at_call 37; refine (risName_any _ _).mono ?_; rintro e w1 ⟨rfl, rfl⟩; rw [H.out])
  all_goals go_ret
  all_goals (refine ⟨?_, by (repeat (first | (with_reducible refine below_set ?_ (by first | exact Nat.le_refl _ | omega) _ _) | with_reducible exact Below.refl _ _ | with_reducible refine belowA ?_ _ | with_reducible refine belowD ?_ | with_reducible refine belowN ?_ _))⟩)
  all_goals first | (simp_all [noNumB, noListsB, isTyB]; done) | (simp_all [noNumB, noListsB, isTyB]; omega)
set_option maxRecDepth 100000 in
set_option maxHeartbeats 4000000 in
theorem rRight_2 (h : nameOf nm.data.toList = true) : Calls Tryz.prog 15 #[av nm 2 n tx ia il ic ta tl tc] w fun e w' => e = .returned (.bool (nameOf tx.data.toList && noNumB n il tl)) ∧ Below w.heap.size w w' := by
  have H := Lib.hid h
  clear h
  go_enter Tryz.func15, Tryz.ntmps15
  go_wp2_with (first | (go_at_call 37; go_at_call_of 37 (Value.string nm); refine (risName_any _ _).mono ?_; rintro e w1 ⟨rfl, rfl⟩; rw [H.out]) | (go_at_call 37; refine (risName_any _ _).mono ?_; rintro e w2 ⟨rfl, rfl⟩))
  all_goals go_ret
  all_goals (refine ⟨?_, by (repeat (first | (with_reducible refine below_set ?_ (by first | exact Nat.le_refl _ | omega) _ _) | with_reducible exact Below.refl _ _ | with_reducible refine belowA ?_ _ | with_reducible refine belowD ?_ | with_reducible refine belowN ?_ _))⟩)
  all_goals first | (simp_all [noNumB, noListsB, isTyB]; done) | (simp_all [noNumB, noListsB, isTyB]; omega)
set_option maxRecDepth 100000 in
set_option maxHeartbeats 4000000 in
theorem rRight_3 (h : nameOf nm.data.toList = true) (hx : tx.size ≤ 140737488355328) : Calls Tryz.prog 15 #[av nm 3 n tx ia il ic ta tl tc] w fun e w' => e = .returned (.bool (isTyB tx && noNumB n il tl)) ∧ Below w.heap.size w w' := by
  have H := Lib.hid h
  clear h
  go_enter Tryz.func15, Tryz.ntmps15
  go_wp2_with (first | (go_at_call 37; refine (risName_any _ _).mono ?_; rintro e w1 ⟨rfl, rfl⟩; rw [H.out]) | (go_at_call 38; refine (ris_any _ _ hx).mono ?_; rintro e w2 ⟨rfl, hb2⟩))
  all_goals go_ret
  all_goals (refine ⟨?_, by (repeat (first | (with_reducible refine below_set ?_ (by first | exact Nat.le_refl _ | omega) _ _) | with_reducible exact Below.refl _ _ | with_reducible refine belowA ?_ _ | with_reducible refine below_own' ?_ hb2 | with_reducible refine belowD ?_ | with_reducible refine belowN ?_ _))⟩)
  all_goals first | (simp_all [noNumB, noListsB, isTyB]; done) | (simp_all [noNumB, noListsB, isTyB]; omega)
end
end Go.Proofs.YtmepjbjmjbpchaaGreatDoor
end
section
/- The reference: Right at the kinds whose texts are looked at. -/
namespace Go.Proofs.YtmepjbjmjbpchaaGreatDoor
open Go Go.RowKit
set_option linter.unusedVariables false
set_option linter.unusedSimpArgs false

section
variable (nm : ByteArray) (n : Int) (tx : ByteArray) (ia : Option Addr) (il ic : Nat) (ta : Option Addr) (tc : Nat) (w : World)
set_option maxRecDepth 100000 in
set_option maxHeartbeats 8000000 in
theorem rRight_0_some (h : nameOf nm.data.toList = true) (tl : Nat) (ht : tl ≠ 0) : Calls Tryz.prog 15 #[av nm 0 n tx ia il ic ta tl tc] w fun e w' => e = .returned (.bool false) ∧ Below w.heap.size w w' := by
  have H := Lib.hid h
  clear h
  have h1 : (((tl : Nat) : Int) != 0) = true := by simpa using ht
  have h2 : (((tl : Nat) : Int) == 0) = false := by simpa using ht
  go_enter Tryz.func15, Tryz.ntmps15
  go_wp2_with (go_at_call 37; refine (risName_any _ _).mono ?_; rintro e w1 ⟨rfl, rfl⟩; rw [H.out])
  all_goals go_ret
  all_goals exact ⟨rfl, by (repeat (first | (with_reducible refine below_set ?_ (by first | exact Nat.le_refl _ | omega) _ _) | with_reducible exact Below.refl _ _ | with_reducible refine belowA ?_ _ | with_reducible refine belowD ?_ | with_reducible refine belowN ?_ _))⟩
set_option maxRecDepth 100000 in
set_option maxHeartbeats 8000000 in
theorem rRight_4_some (h : nameOf nm.data.toList = true) (tl : Nat) (ht : tl ≠ 0) : Calls Tryz.prog 15 #[av nm 4 n tx ia il ic ta tl tc] w fun e w' => e = .returned (.bool false) ∧ Below w.heap.size w w' := by
  have H := Lib.hid h
  clear h
  have h1 : (((tl : Nat) : Int) != 0) = true := by simpa using ht
  have h2 : (((tl : Nat) : Int) == 0) = false := by simpa using ht
  go_enter Tryz.func15, Tryz.ntmps15
  go_wp2_with (go_at_call 37; refine (risName_any _ _).mono ?_; rintro e w1 ⟨rfl, rfl⟩; rw [H.out])
  all_goals go_ret
  all_goals exact ⟨rfl, by (repeat (first | (with_reducible refine below_set ?_ (by first | exact Nat.le_refl _ | omega) _ _) | with_reducible exact Below.refl _ _ | with_reducible refine belowA ?_ _ | with_reducible refine belowD ?_ | with_reducible refine belowN ?_ _))⟩
set_option maxRecDepth 100000 in
set_option maxHeartbeats 8000000 in
theorem rRight_0_none (h : nameOf nm.data.toList = true) : Calls Tryz.prog 15 #[av nm 0 n tx ia il ic ta 0 tc] w fun e w' => e = .returned (.bool (noTextB tx il 0)) ∧ Below w.heap.size w w' := by
  have H := Lib.hid h
  clear h
  go_enter Tryz.func15, Tryz.ntmps15
  go_wp2_with (go_at_call 37; refine (risName_any _ _).mono ?_; rintro e w1 ⟨rfl, rfl⟩; rw [H.out])
  all_goals first
    | (go_ret
       refine ⟨?_, by (repeat (first | (with_reducible refine below_set ?_ (by first | exact Nat.le_refl _ | omega) _ _) | with_reducible exact Below.refl _ _ | with_reducible refine belowA ?_ _ | with_reducible refine belowD ?_ | with_reducible refine belowN ?_ _))⟩
       first | (simp_all [noTextB, noneOfB, noListsB]; done) | (simp_all [noTextB, noneOfB, noListsB]; omega))
    | (refine wp_loop_rounds 1 ?_
       rw [rounds_succ]
       go_wp2_with fail
       all_goals go_ret
       all_goals (refine ⟨?_, by (repeat (first | (with_reducible refine below_set ?_ (by first | exact Nat.le_refl _ | omega) _ _) | with_reducible exact Below.refl _ _ | with_reducible refine belowA ?_ _ | with_reducible refine belowD ?_ | with_reducible refine belowN ?_ _))⟩)
       all_goals first | (simp_all [noTextB, noneOfB, noListsB]; done) | (simp_all [noTextB, noneOfB, noListsB]; omega))
set_option maxRecDepth 100000 in
set_option maxHeartbeats 8000000 in
theorem rRight_4_none (h : nameOf nm.data.toList = true) : Calls Tryz.prog 15 #[av nm 4 n tx ia il ic ta 0 tc] w fun e w' => e = .returned (.bool (decide (((il : Nat) : Int) ≤ 100) && noneOfB n tx)) ∧ Below w.heap.size w w' := by
  have H := Lib.hid h
  clear h
  go_enter Tryz.func15, Tryz.ntmps15
  go_wp2_with (go_at_call 37; refine (risName_any _ _).mono ?_; rintro e w1 ⟨rfl, rfl⟩; rw [H.out])
  all_goals first
    | (go_ret
       refine ⟨?_, by (repeat (first | (with_reducible refine below_set ?_ (by first | exact Nat.le_refl _ | omega) _ _) | with_reducible exact Below.refl _ _ | with_reducible refine belowA ?_ _ | with_reducible refine belowD ?_ | with_reducible refine belowN ?_ _))⟩
       first | (simp_all [noTextB, noneOfB, noListsB]; done) | (simp_all [noTextB, noneOfB, noListsB]; omega))
    | (refine wp_loop_rounds 1 ?_
       rw [rounds_succ]
       go_wp2_with fail
       all_goals go_ret
       all_goals (refine ⟨?_, by (repeat (first | (with_reducible refine below_set ?_ (by first | exact Nat.le_refl _ | omega) _ _) | with_reducible exact Below.refl _ _ | with_reducible refine belowA ?_ _ | with_reducible refine belowD ?_ | with_reducible refine belowN ?_ _))⟩)
       all_goals first | (simp_all [noTextB, noneOfB, noListsB]; done) | (simp_all [noTextB, noneOfB, noListsB]; omega))
set_option maxRecDepth 100000 in
set_option maxHeartbeats 8000000 in
theorem rRight_5 (h : nameOf nm.data.toList = true) (ls : List ByteArray) (hs : StrSl w ta ls) (hx : ∀ s ∈ ls, s.size ≤ 140737488355328) (hn : ls.length ≤ 9223372036854775807) : Calls Tryz.prog 15 #[av nm 5 n tx ia il ic ta ls.length tc] w fun e w' => e = .returned (.bool (decide (((ls.length : Nat) : Int) ≤ 100) && ls.all isTyB && (il == 0) && noneOfB n tx)) ∧ Below w.heap.size w w' := by
  have H := Lib.hid h
  have HS := Lib.hid hs
  have HX := Lib.hid hx
  clear h hs hx
  go_enter Tryz.func15, Tryz.ntmps15
  go_wp2_with (go_at_call 37; refine (risName_any _ _).mono ?_; rintro e w1 ⟨rfl, rfl⟩; rw [H.out])
  all_goals first
    | (go_ret
       refine ⟨?_, by (repeat (first | (with_reducible refine below_set ?_ (by first | exact Nat.le_refl _ | omega) _ _) | with_reducible exact Below.refl _ _ | with_reducible refine belowA ?_ _ | with_reducible refine belowD ?_ | with_reducible refine belowN ?_ _))⟩
       first | (simp_all [noTextB, noneOfB, noListsB]; done) | (simp_all [noTextB, noneOfB, noListsB]; omega))
    | (go_loopw [4] (fun i wr => ∃ j : Nat, i = .int .i64 j ∧ j ≤ ls.length ∧ Below (w.heap.size + 1) (w.alloc (.cells (avCells nm 5 n tx ia il ic ta ls.length tc) 27)) wr ∧ (ls.take j).all isTyB = true) (fun i _ => ls.length - (intOf i).toNat)
       case atStart => exact ⟨0, rfl, Nat.zero_le _, (by first | exact Below.refl _ _ | (simp only [avCells, *]; exact Below.refl _ _)), rfl⟩
       case round =>
         obtain ⟨j, rfl, hj, hb, ht⟩ := hrel
         have c0 := rdCell (W := w.alloc (.cells (avCells nm 5 n tx ia il ic ta ls.length tc) 27)) (hb.mono (by simp)) w.heap.size (by simp)
         have HB := Lib.hid hb
         have HT := Lib.hid ht
         clear hb ht
         rcases Nat.lt_or_ge j ls.length with hlt | hge
         · have hw0 : Below w.heap.size w wr := by
             refine below_own' ((Below.refl w.heap.size w).alloc (Nat.le_refl _) _) (HB.out.mono (by simp))
           obtain ⟨g, off, rfl, hcell⟩ := (HS.out.below hw0).at hlt
           have HW0 := Lib.hid hw0
           obtain ⟨s, hsj⟩ : ∃ s, s = ls[j] := ⟨_, rfl⟩
           rw [← hsj] at hcell
           have hq := HX.out s (by rw [hsj]; exact List.getElem_mem _)
           have HSJ := Lib.hid hsj
           obtain ⟨b, hbt⟩ : ∃ b, b = isTyB s := ⟨_, rfl⟩
           have HBT := Lib.hid hbt
           have hnx : Hid ((ls.take (j + 1)).all isTyB = ((ls.take j).all isTyB && b)) := Lib.hid (by rw [List.take_succ_eq_append_getElem hlt, List.all_append, hbt, hsj]; simp)
           clear hw0 hsj hbt
           cases b
           · go_wp2_with (go_at_call 38; refine (ris_any _ _ hq).mono ?_; rintro e w2 ⟨rfl, hb2⟩; rw [show (readOf s.data.toList).isSome = false from HBT.out.symm])
             go_ret
             refine ⟨?_, below_own' HW0.out hb2⟩
             have hall : ls.all isTyB = false := by
               rw [List.all_eq_false]; exact ⟨ls[j], List.getElem_mem _, by rw [← HSJ.out, ← HBT.out]; simp⟩
             rw [hall]; simp
           · go_wp2_with (go_at_call 38; refine (ris_any _ _ hq).mono ?_; rintro e w2 ⟨rfl, hb2⟩; rw [show (readOf s.data.toList).isSome = true from HBT.out.symm])
             go_roundw
             case rel => exact ⟨j + 1, by go_num, by omega, HB.out.trans (hb2.mono (by have := HB.out.size; simpa using this)), by rw [hnx.out, HT.out]; rfl⟩
             case measure => simp [intOf]; omega
         · obtain rfl : j = ls.length := by omega
           have hall : Hid (ls.all isTyB = true) := Lib.hid (by have := HT.out; rwa [List.take_length] at this)
           go_wp2_with fail
           all_goals go_ret
           all_goals (refine ⟨?_, below_own' ((Below.refl w.heap.size w).alloc (Nat.le_refl _) _) (HB.out.mono (by simp))⟩)
           all_goals (rw [hall.out]; simp_all [noneOfB]))
end
end Go.Proofs.YtmepjbjmjbpchaaGreatDoor
end
section
/- A region that draws its order: the operations ahead of m by an invariant, those from m on in the order of the text. -/
set_option linter.unusedVariables false
set_option linter.unusedSimpArgs false
namespace Go.Proofs.YtmepjbjmjbpchaaGreatDoor
open Go

section
variable {P : Program} {ops : Array Oper} {n : Nat} {Q : Exit → Act → World → Prop} {V : Nat → Value} {a0 : Act} {Inv : Array Bool → World → Prop}

def headsOf (m s : Nat) : Array Bool := Array.replicate m true ++ Array.replicate (s - m) false

theorem heads_of_count {m s : Nat} {listed : Array Bool} (hs : listed.size = s) (hm : m ≤ s) (ht : ∀ t, m ≤ t → t < s → listed.getD t true = false) (hc : listed.count false ≤ s - m) : listed = headsOf m s := by
  have h2 : listed = listed.extract 0 m ++ listed.extract m s := by
    rw [Array.extract_append_extract, show min 0 m = 0 by omega, show max m s = s by omega, ← hs]; simp
  have h3 : listed.extract m s = Array.replicate (s - m) false := by
    apply Array.ext
    · simp [hs]
    · intro i h1 h2
      simp [hs] at h1
      have := ht (m + i) (by omega) (by omega)
      rw [Array.getElem_extract, Array.getElem_replicate]
      simpa [hs, show m + i < s by omega] using this
  have hc2 : (listed.extract 0 m).count false = 0 := by
    rw [h2, Array.count_append, h3, Array.count_replicate] at hc
    simp at hc
    omega
  have h4 : listed.extract 0 m = Array.replicate m true := by
    apply Array.ext
    · simp [hs, hm]
    · intro i h1 h2
      rw [Array.getElem_replicate]
      have h5 : false ∉ listed.extract 0 m := by rw [← Array.count_eq_zero]; exact hc2
      have h3 : (listed.extract 0 m)[i] ∈ listed.extract 0 m := Array.getElem_mem h1
      cases hx : (listed.extract 0 m)[i] with
      | true => rfl
      | false => rw [hx] at h3; exact absurd h3 h5
  rw [h2, h3, h4, headsOf]

theorem headsOf_getD (m s j : Nat) (hm : m ≤ s) : (headsOf m s).getD j false = decide (j < m) := by
  unfold headsOf
  by_cases h : j < m
  · simp [Array.getElem?_append, h]
  · rcases Nat.lt_or_ge j s with h2 | h2
    · simp [Array.getElem?_append, h, show j - m < s - m by omega]
    · simp [Array.getElem?_append, h, show ¬ (j - m < s - m) by omega]
/-- The frame behind the first operations, put one by one. -/
def frameOf (ops : Array Oper) (V : Nat → Value) (a : Act) : Nat → Act
  | 0 => a
  | k + 1 => (frameOf ops V a k).put (ops[k]?.bind (·.dst)) (V k)
theorem headsOf_succ {k s : Nat} (h : k < s) : headsOf (k + 1) s = (headsOf k s).setIfInBounds k true := by
  apply Array.ext
  · simp [headsOf]; omega
  · intro i h1 h2
    have e1 := headsOf_getD (k + 1) s i (by omega)
    have e2 := headsOf_getD k s i (by omega)
    have h3 : i < s := by simp [headsOf] at h1; omega
    have h4 : i < (headsOf k s).size := by simp [headsOf]; omega
    simp [h1] at e1
    simp [h4] at e2
    rw [e1]
    by_cases hik : i = k
    · subst hik; simp
    · rw [Array.getElem_setIfInBounds_ne (by omega) (fun e => hik e.symm), e2]
      rw [decide_eq_decide]; omega
theorem frameOf_agrees (hok : regionOk ops a0.tmps.size = true) : ∀ k, k ≤ ops.size → Agrees ops V a0 (headsOf k ops.size) (frameOf ops V a0 k)
  | 0, _ => by
    have : headsOf 0 ops.size = Array.replicate ops.size false := by simp [headsOf]
    rw [this]; exact Agrees.start
  | k + 1, hk => by
    have ih := frameOf_agrees hok k (by omega)
    rw [headsOf_succ (by omega)]
    have ho : ops[k]? = some ops[k] := by simp [show k < ops.size by omega]
    have := Agrees.put hok ih (by simp [headsOf]; omega) ho
    simpa [frameOf, ho] using this
theorem Agrees.uniq {listed : Array Bool} {a b : Act} (ha : Agrees ops V a0 listed a) (hb : Agrees ops V a0 listed b) : a = b := by
  obtain ⟨t, ds⟩ := a
  obtain ⟨u, es⟩ := b
  have h1 : ds = es := ha.defers.trans hb.defers.symm
  have h2 : t = u := by
    apply Array.ext_getElem?
    intro d
    by_cases h : ∃ (j : Nat) (o : Oper), ops[j]? = some o ∧ listed.getD j false = true ∧ o.dst = some d
    · obtain ⟨j, o, ho, hl, hd⟩ := h
      exact (ha.got j o d ho hd hl).trans (hb.got j o d ho hd hl).symm
    · have hn : ∀ (j : Nat) (o : Oper), ops[j]? = some o → listed.getD j false = true → o.dst ≠ some d := fun j o ho hl hd => h ⟨j, o, ho, hl, hd⟩
      exact (ha.old d hn).trans (hb.old d hn).symm
  rw [h1, h2]
theorem frameOf_eq (hok : regionOk ops a0.tmps.size = true) {k : Nat} (hk : k ≤ ops.size) {a : Act} (ha : Agrees ops V a0 (headsOf k ops.size) a) : a = frameOf ops V a0 k := ha.uniq (frameOf_agrees hok k hk)

/-- THE LAW, in a fence as wide as can be. -/
theorem wpIn_region_inv_tail {F : Fence} {id : Nat} {w : World} (m : Nat) (V : Nat → Value) (Inv : Array Bool → World → Prop) (hm : P.follows .mixedOrders = true) (hok : regionOk ops a0.tmps.size = true)
    (hS : Region.sinkB .any ops m = true) (hC : Region.chainB .any ops m = true) (hn : m < ops.size) (hq : Region.seqB .any ops (ops.size - m) m (headsOf m ops.size) = true)
    (h0 : Inv (Array.replicate ops.size false) w.drew)
    (step : ∀ (i : Nat) (o : Oper) (listed : Array Bool) (a : Act) (w : World), ops[i]? = some o → listed.size = ops.size → listed.getD i false = false → (∀ e ∈ o.after, Region.binds .any e = true → listed.getD e.on false = true) → Agrees ops V a0 listed a → Inv listed w →
      (∀ j, listed.getD j false = true → (∃ p d, ops[j]? = some p ∧ p.dst = some d) → yielded ops a.tmps j = boolOf (V j)) → i < m →
      if Region.wanted o (yielded ops a.tmps) then o.wpIn F n P a w (fun a' w' => a' = a.put o.dst (V i) ∧ Inv (listed.setIfInBounds i true) w') Q else (∀ f, o.about P w a.eval = some f → F.fn f) ∧ a.put o.dst undef = a.put o.dst (V i) ∧ Inv (listed.setIfInBounds i true) w)
    (tail : ∀ w, Inv (headsOf m ops.size) w → wpListIn F n P ops Q (ops.toList.drop m) (frameOf ops V a0 m) w) :
    (Code.region id ops true).wpIn F n P Q a0 w := by
  refine wpIn_region_any hm ?_
  have main : ∀ (fuel : Nat) (listed : Array Bool) (a : Act) (w : World), listed.count false = fuel + (ops.size - m) → HeadInv .any ops m listed → Agrees ops V a0 listed a → Inv listed w → wpAnyIn F n P .any ops Q (fuel + (ops.size - m)) listed a w := by
    intro fuel
    induction fuel with
    | zero =>
      intro listed a w hc hH ha hi
      have hall := heads_of_count hH.size (Nat.le_of_lt hn) hH.tail (by omega)
      subst hall
      have htl := tail w hi
      rw [← frameOf_eq hok (Nat.le_of_lt hn) ha] at htl
      have := wpAnyIn_of_seq (md := .any) (F := F) (n := n) (Q := Q) (P := P) (ops.toList.drop m) m (headsOf m ops.size) a w (fun j => by simp [List.getElem?_drop]) (by simpa using hq) htl
      simpa using this
    | succ f ih =>
      intro listed a w hc hH ha hi
      have hs := hH.size
      have hx : ∃ i, i < m ∧ listed.getD i false = false := by
        by_cases hx : ∃ i, i < m ∧ listed.getD i false = false
        · exact hx
        · exfalso
          have hle : listed.count false ≤ ops.size - m := by
            have h2 : listed = listed.extract 0 m ++ listed.extract m ops.size := by
              rw [Array.extract_append_extract, show min 0 m = 0 by omega, show max m ops.size = ops.size by omega, ← hs]; simp
            have h5 : (listed.extract 0 m).count false = 0 := by
              rw [Array.count_eq_zero]
              intro hmem
              obtain ⟨i, hi1, hi2⟩ := Array.mem_iff_getElem.1 hmem
              simp at hi1
              refine hx ⟨i, by omega, ?_⟩
              rw [Array.getElem_extract] at hi2
              simp at hi2
              simp [show i < listed.size by omega, hi2]
            rw [h2, Array.count_append, h5]
            have := Array.count_le_size (a := false) (xs := listed.extract m ops.size)
            simp [hs] at this ⊢
            omega
          omega
      obtain ⟨i0, hi0, hl0⟩ := hx
      rw [show f + 1 + (ops.size - m) = (f + (ops.size - m)) + 1 by omega]
      refine ⟨fun he => ?_, fun i hir => ?_⟩
      · exact absurd he (ready_of_unlisted hok hs (i0 + 1) i0 (by omega) (by omega) hl0)
      · have him : i < m := by
          rcases Nat.lt_or_ge i m with h | h
          · exact h
          · exact absurd hir (tail_waits hS hC hn hH _ i0 rfl hi0 (getD_in (by rw [hs]; omega) hl0) i h)
        obtain ⟨hu, o, ho, hall⟩ := mem_ready.1 hir
        have hlt : i < listed.size := by rw [hs]; exact (Array.getElem?_eq_some_iff.1 ho).1
        have hu' : listed[i] = false := by simpa [hlt] using hu
        have hst := step i o listed a w ho hs (by simp [hlt, hu']) hall ha hi (fun j hj ⟨p, d, hp, hd⟩ => by simp only [yielded, hp, hd, Option.bind_some, ha.got j p d hp hd hj, boolOf]; cases V j <;> rfl) him
        have hst' : wpOpIn F n P ops Q i (fun a' w' => a' = a.put o.dst (V i) ∧ Inv (listed.setIfInBounds i true) w') a w := by unfold wpOpIn; rw [ho]; exact hst
        refine wpOpIn_mono (fun a' w' => ?_) hst'
        rintro ⟨rfl, hi'⟩
        refine ih _ _ _ ?_ (hH.set hir him) (ha.put hok hs ho) hi'
        have hpos : 0 < listed.count false := Array.count_pos_iff.2 (by rw [← hu']; exact Array.getElem_mem hlt)
        rw [Array.setIfInBounds, dif_pos hlt, Array.count_set]
        simp [hu']
        omega
  have hc0 : (Array.replicate ops.size false).count false = m + (ops.size - m) := by rw [Array.count_replicate]; simp; omega
  have := main m (Array.replicate ops.size false) a0 w.drew hc0 ⟨by simp, fun j oj _ hl => (by rw [getD_replicate_false] at hl; cases hl), fun t _ ht => getD_in (by simpa using ht) (getD_replicate_false _ _)⟩ Agrees.start h0
  rw [show m + (ops.size - m) = ops.size by omega] at this
  exact this
end
end Go.Proofs.YtmepjbjmjbpchaaGreatDoor
end
section
/- attrs.rising: the iterator. -/
namespace Go.Proofs.YtmepjbjmjbpchaaGreatDoor
open Go Go.RowKit
set_option linter.unusedVariables false
set_option linter.unusedSimpArgs false
attribute [local go_sem] Oper.semAt_some

theorem rising_any (p : Option Addr) (n c : Nat) (w : World) :
    Calls Tryz.prog 41 #[.slice p n c] w fun e w' => e = .returned (.func (.func 69) #[] #[.pointer (some ⟨w.heap.size, 0, none⟩)]) ∧ w.alloc (.cells #[.slice p n c] 22) = w' := by
  go_enter Tryz.func41, Tryz.ntmps41
  go_wp2_with fail
  go_ret
  exact ⟨rfl, rfl⟩

abbrev risEnc (l : List Atr) (j : Nat) : Array Value := #[((l[j]?.map Atr.val).getD undef), .bool (okAt l j)]
structure RisPre (B : Nat) (p : Option Addr) (c : Nat) (l : List Atr) (W : World) : Prop where
  box : W.heap[B]? = some (.cells #[.slice p l.length c] 22 (0, 0))
  lst : AtrSl W p l
theorem RisPre.below {B : Nat} {p : Option Addr} {c : Nat} {l : List Atr} {W W1 : World} (h : RisPre B p c l W) (hb : Below W.heap.size W W1) : RisPre B p c l W1 :=
  ⟨(hb.block _ (blkLt h.box)).trans h.box, h.lst.below hb⟩
theorem step_undef {o : Oper} {y : Nat → Option Bool} {X Y : Prop} {j : Nat} {b : Bool} (hg : o.guard = some (j, b)) (hy : y j = none) (h : Y) : if Region.wanted o y then X else Y := by rw [if_neg (by simp [Region.wanted, hg, hy])]; exact h
theorem grown_below {W W1 : World} (h : Below W.heap.size W W1) : W.grownBy W1 none := ⟨h.os, h.tape, h.output, h.size, fun k hk _ => h.block k hk⟩

set_option maxRecDepth 100000 in
set_option maxHeartbeats 8000000 in
theorem rising_seq (n B : Nat) (p : Option Addr) (c : Nat) (l : List Atr) (hl : l.length ≤ 100000000000000) (hn : 2 ≤ n) :
    SeqT Fence.wide n Tryz.prog 69 #[.pointer (some ⟨B, 0, none⟩)] (risEnc l) (fun W W' => RisPre B p c l W → RisPre B p c l W') (fun _ _ => False) (fun xs => xs = List.range l.length) (fun pre => ∃ k, k ≤ l.length ∧ pre = List.range k) (fun pre x => pre = List.range x ∧ x < l.length) (RisPre B p c l) := by
  intro yl J Jx W hW hJ hJx hY h0
  have hn1 : 1 ≤ n := by omega
  refine callsIn_of_wp Tryz.func69 rfl trivial ?_ rfl
  simp only [Tryz.ntmps69, List.size_toArray, List.length_cons, List.length_nil, Nat.reduceAdd, Nat.reduceSub, Array.replicate_succ, Array.replicate_zero, List.push_toArray, List.append_toArray, List.nil_append, List.cons_append]
  have cB := blkCell hW.box
  have HW := Lib.hid hW
  clear hW
  gi_wp2_with fail
  gi_loopw [7] (fun i wr => ∃ j : Nat, i = .int .i64 j ∧ j ≤ l.length ∧ RisPre B p c l wr ∧ J (List.range j) wr) (fun i _ => l.length - (intOf i).toNat)
  case atStart => exact ⟨0, rfl, Nat.zero_le _, HW.out, h0⟩
  case round =>
    obtain ⟨j, rfl, hj, hp, hjj⟩ := hrel
    clear cB
    rcases Nat.lt_or_ge j l.length with hlt | hge
    · obtain ⟨g, off, rfl, hg, hcell⟩ : ∃ g off, p = some ⟨g, off, none⟩ ∧ g < wr.heap.size ∧ ∀ j (hj : j < l.length) (i : Nat), i < 6 → wr.cell? ⟨g, off + j * 6 + i, none⟩ = l[j].cells[i]? := by
        rcases hp.lst.at' with h | h
        · subst h; simp at hlt
        · exact h
      obtain ⟨a0, ha0⟩ : ∃ a0, a0 = l[j] := ⟨_, rfl⟩
      have hcj := hcell j hlt
      rw [← ha0] at hcj
      have k0 : wr.cell? ⟨g, off + j * 6, none⟩ = some (.string a0.name) := hcj 0 (by omega)
      have k1 : wr.cell? ⟨g, off + j * 6 + 1, none⟩ = some (.int .i64 a0.kind) := hcj 1 (by omega)
      have k2 : wr.cell? ⟨g, off + j * 6 + 2, none⟩ = some (.int .i64 a0.num) := hcj 2 (by omega)
      have k3 : wr.cell? ⟨g, off + j * 6 + 3, none⟩ = some (.string a0.text) := hcj 3 (by omega)
      have k4 : wr.cell? ⟨g, off + j * 6 + 4, none⟩ = some (.slice a0.ia a0.ints.length a0.ic) := hcj 4 (by omega)
      have k5 : wr.cell? ⟨g, off + j * 6 + 5, none⟩ = some (.slice a0.ta a0.texts.length a0.tc) := hcj 5 (by omega)
      have HA0 := Lib.hid ha0
      have HC := Lib.hid hcell
      have HP := Lib.hid hp
      have HJJ := Lib.hid hjj
      clear ha0 hcell hcj hp hjj
      gi_wp2_with fail
      have hli : ∀ W, Below wr.heap.size wr W → a0.Lies W := fun W hb => (HP.out.lst.lies a0 (by rw [HA0.out]; exact List.getElem_mem _)).below hb
      have hfi : a0.Fits := HP.out.lst.fits a0 (by rw [HA0.out]; exact List.getElem_mem _)
      have HLI := Lib.hid hli
      have HFI := Lib.hid hfi
      clear hli hfi k0 k1 k2 k3 k4 k5
      refine wpIn_world (fun W => Below wr.heap.size wr W ∧ W.heap[wr.heap.size]? = some (.cells (avCells a0.name a0.kind a0.num a0.text a0.ia a0.ints.length a0.ic a0.ta a0.texts.length a0.tc) 27 (0, 0))) ⟨(Below.refl _ _).alloc (Nat.le_refl _) _, heap_alloc_new _ _⟩ ?_
      rintro W0 ⟨hbW0, hcW0⟩
      have hzc := blkLt hcW0
      have hB0 : W0.heap[B]? = _ := (hbW0.block _ (blkLt HP.out.box)).trans HP.out.box
      have hzB := blkLt hB0
      have hzg : g < W0.heap.size := Nat.lt_of_lt_of_le hg hbW0.size
      have HBW := Lib.hid hbW0
      clear hbW0
      generalize hops : (#[_, _, _, _, _, _, _, _, _, _, _, _, _, _, _, _, _, _, _, _, _] : Array Oper) = ops
      cases hr : rightA a0 with
      | false =>
        have HR := Lib.hid hr
        have HE : Hid (risEnc l j = #[a0.val, .bool false]) := Lib.hid (by unfold risEnc okAt; rw [List.getElem?_eq_getElem hlt, ← HA0.out]; simp [hr])
        clear hr
        refine wpIn_region_inv_tail 19 (fun i => match i with | 0 => .func (.yield yl) #[] #[] | 1 => a0.val | 2 => a0.val | 3 => .bool false | 4 => .bool false | 18 => .bool false | _ => undef)
          (fun _ Wy => Below W0.heap.size W0 Wy) (by kernel_rfl) (by rw [← hops]; kernel_rfl) (by rw [← hops]; kernel_rfl) (by rw [← hops]; kernel_rfl) (by rw [← hops]; decide) (by rw [← hops]; kernel_rfl) ((Below.refl _ _).drew) ?step ?tail
        case step =>
          intro i o listed a Wy ho hs hu hall ha hi hy hlt
          have old0 : a.eval (.tmp 0) = .func (.yield yl) #[] #[] := by rw [ha.eval_old (noDst_spec (by rw [← hops]; kernel_rfl))]; rfl
          have old1 : a.eval (.tmp 1) = .pointer (some ⟨B, 0, none⟩) := by rw [ha.eval_old (noDst_spec (by rw [← hops]; kernel_rfl))]; rfl
          have old3 : a.eval (.tmp 3) = .int .i64 (j : Int) := by rw [ha.eval_old (noDst_spec (by rw [← hops]; kernel_rfl))]; rfl
          have old4 : a.eval (.tmp 4) = .pointer (some ⟨wr.heap.size, 0, none⟩) := by rw [ha.eval_old (noDst_spec (by rw [← hops]; kernel_rfl))]; rfl
          have hcase : i = 0 ∨ i = 1 ∨ i = 2 ∨ i = 3 ∨ i = 4 ∨ i = 5 ∨ i = 6 ∨ i = 7 ∨ i = 8 ∨ i = 9 ∨ i = 10 ∨ i = 11 ∨ i = 12 ∨ i = 13 ∨ i = 14 ∨ i = 15 ∨ i = 16 ∨ i = 17 ∨ i = 18 := by omega
          rcases hcase with rfl | rfl | rfl | rfl | rfl | rfl | rfl | rfl | rfl | rfl | rfl | rfl | rfl | rfl | rfl | rfl | rfl | rfl | rfl
          all_goals (have ho' := ho; rw [← hops] at ho'; simp only [List.getElem?_toArray, List.getElem?_cons_zero, List.getElem?_cons_succ, Option.some.injEq] at ho'; subst ho')
          · refine step_none rfl ?_
            refine opIn_value wideAt_plain (fun c h => by cases h) (v := .func (.yield yl) #[] #[]) (W' := Wy) ?_ ⟨rfl, hi⟩
            simp only [execOp, old0]
            simp only [Sem.run_pure]
          · refine step_none rfl ?_
            refine opIn_value wideAt_plain (fun c h => by cases h) (v := a0.val) (W' := Wy) ?_ ⟨rfl, hi⟩
            simp only [execOp, old4]
            have hx := run_loadVar_row (P := Tryz.prog) Wy _ _ 27 _ _ _ ((hi.block _ hzc).trans hcW0) Tryz.underlying27 rfl (by kernel_rfl)
            simp only [Instr.loadAt, Instr.sureAddr, Sem.run_bind, Sem.run_pure, Result.andThen_ok, hx]
          · refine step_none rfl ?_
            refine opIn_value wideAt_plain (fun c h => by cases h) (v := a0.val) (W' := Wy) ?_ ⟨rfl, hi⟩
            simp only [execOp, old4]
            have hx := run_loadVar_row (P := Tryz.prog) Wy _ _ 27 _ _ _ ((hi.block _ hzc).trans hcW0) Tryz.underlying27 rfl (by kernel_rfl)
            simp only [Instr.loadAt, Instr.sureAddr, Sem.run_bind, Sem.run_pure, Result.andThen_ok, hx]
          · refine step_none rfl ?_
            have h14 : a.eval (.tmp 14) = a0.val := ha.eval_got (j := 2) (by rw [← hops]; rfl) rfl (hall ⟨2, .data⟩ (by simp) rfl)
            refine opIn_call wideAt_plain (fun c h => by cases h) (f := 44) (args := #[a0.val]) (W' := Wy) ?_ (isRight_any a0 Wy (HLI.out Wy (HBW.out.trans (hi.mono HBW.out.size))) HFI.out) ?_
            · simp only [execOp, h14]
              simp [go_sem]
              simpa [Act.eval] using h14
            · rintro e W1 ⟨rfl, hb⟩
              exact ⟨_, rfl, by rw [HR.out]; rfl, below_own' hi hb⟩
          · refine step_none rfl ?_
            have h15 : a.eval (.tmp 15) = .bool false := ha.eval_got (j := 3) (by rw [← hops]; rfl) rfl (hall ⟨3, .data⟩ (by simp) rfl)
            refine opIn_value wideAt_plain (fun c h => by cases h) (v := .bool false) (W' := Wy) ?_ ⟨rfl, hi⟩
            simp only [execOp, h15]
            simp only [Sem.run_pure]
          · refine step_no rfl (hy 4 (hall ⟨4, .guard⟩ (by simp) rfl) ⟨_, _, by rw [← hops]; rfl, rfl⟩) ⟨fun _ _ => trivial, rfl, ?_⟩
            exact hi
          · refine step_no rfl (hy 4 (hall ⟨4, .guard⟩ (by simp) rfl) ⟨_, _, by rw [← hops]; rfl, rfl⟩) ⟨fun _ _ => trivial, rfl, ?_⟩
            exact hi
          · refine step_no rfl (hy 4 (hall ⟨4, .guard⟩ (by simp) rfl) ⟨_, _, by rw [← hops]; rfl, rfl⟩) ⟨fun _ _ => trivial, rfl, ?_⟩
            exact hi
          · refine step_undef rfl (hy 7 (hall ⟨7, .guard⟩ (by simp) rfl) ⟨_, _, by rw [← hops]; rfl, rfl⟩) ⟨fun _ _ => trivial, rfl, ?_⟩
            exact hi
          · refine step_undef rfl (hy 7 (hall ⟨7, .guard⟩ (by simp) rfl) ⟨_, _, by rw [← hops]; rfl, rfl⟩) ⟨fun _ _ => trivial, rfl, ?_⟩
            exact hi
          · refine step_undef rfl (hy 7 (hall ⟨7, .guard⟩ (by simp) rfl) ⟨_, _, by rw [← hops]; rfl, rfl⟩) ⟨fun _ _ => trivial, rfl, ?_⟩
            exact hi
          · refine step_undef rfl (hy 7 (hall ⟨7, .guard⟩ (by simp) rfl) ⟨_, _, by rw [← hops]; rfl, rfl⟩) ⟨fun _ _ => trivial, rfl, ?_⟩
            exact hi
          · refine step_undef rfl (hy 7 (hall ⟨7, .guard⟩ (by simp) rfl) ⟨_, _, by rw [← hops]; rfl, rfl⟩) ⟨fun _ _ => trivial, rfl, ?_⟩
            exact hi
          · refine step_undef rfl (hy 7 (hall ⟨7, .guard⟩ (by simp) rfl) ⟨_, _, by rw [← hops]; rfl, rfl⟩) ⟨fun _ _ => trivial, rfl, ?_⟩
            exact hi
          · refine step_undef rfl (hy 7 (hall ⟨7, .guard⟩ (by simp) rfl) ⟨_, _, by rw [← hops]; rfl, rfl⟩) ⟨fun _ _ => trivial, rfl, ?_⟩
            exact hi
          · refine step_undef rfl (hy 7 (hall ⟨7, .guard⟩ (by simp) rfl) ⟨_, _, by rw [← hops]; rfl, rfl⟩) ⟨fun _ _ => trivial, rfl, ?_⟩
            exact hi
          · refine step_undef rfl (hy 7 (hall ⟨7, .guard⟩ (by simp) rfl) ⟨_, _, by rw [← hops]; rfl, rfl⟩) ⟨fun _ _ => trivial, rfl, ?_⟩
            exact hi
          · refine step_no rfl (hy 4 (hall ⟨4, .guard⟩ (by simp) rfl) ⟨_, _, by rw [← hops]; rfl, rfl⟩) ⟨fun _ _ => trivial, rfl, ?_⟩
            exact hi
          · refine step_none rfl ?_
            have h16 : a.eval (.tmp 16) = .bool false := ha.eval_got (j := 4) (by rw [← hops]; rfl) rfl (hall ⟨4, .data⟩ (by simp) rfl)
            have h29 : True := trivial
            refine opIn_value wideAt_plain (fun c h => by cases h) (v := .bool false) (W' := Wy) ?_ ⟨rfl, hi⟩
            simp only [execOp, h16]
            simp [go_sem]
        case tail =>
          intro Wz hz
          subst hops
          have hbz := HBW.out.trans (hz.mono HBW.out.size)
          have hjz := hJ _ _ _ none HJJ.out (grown_below hbz) (fun r e => by cases e)
          have hpz := HP.out.below hbz
          have hyy := hY (List.range j) j Wz hjz ⟨rfl, hlt⟩
          rw [show risEnc l j = #[a0.val, .bool false] from HE.out] at hyy
          obtain ⟨fn, tmps, assign, body, hy, hR⟩ := hyy
          simp only [frameOf, Act.put, Option.bind_some, List.getElem?_toArray, List.getElem?_cons_zero, List.getElem?_cons_succ, List.setIfInBounds_toArray, List.set_cons_zero, List.set_cons_succ, List.drop_succ_cons, List.drop_zero]
          gi_wp2_with fail
          refine hR.mono ?_
          rintro e W' (⟨rfl, hJ3, hk3⟩ | ⟨rfl, hJx3⟩)
          · have hpw := hk3 hpz
            have HPW := Lib.hid hpw
            rw [← List.range_succ] at hJ3
            clear hpw hpz hk3
            gi_wp2
            go_roundw
            case rel => exact ⟨j + 1, by go_num, by omega, HPW.out, hJ3⟩
            case measure => simp [intOf]; omega
          · rw [← List.range_succ] at hJx3
            gi_wp2
            refine bodyPost_ret (results_none rfl _ _ _) rfl ?_
            exact ⟨⟨_, rfl⟩, .inr ⟨_, ⟨_, by omega, rfl⟩, hJx3⟩⟩
      | true =>
        have HR := Lib.hid hr
        cases j with
        | zero =>
          have HE : Hid (risEnc l 0 = #[a0.val, .bool true]) := Lib.hid (by unfold risEnc okAt; rw [List.getElem?_eq_getElem hlt, ← HA0.out]; simp [hr])
          clear hr
          refine wpIn_region_inv_tail 19 (fun i => match i with | 0 => .func (.yield yl) #[] #[] | 1 => a0.val | 2 => a0.val | 3 => .bool true | 4 => .bool true | 5 => .int .i64 ((0 : Nat) : Int) | 6 => .bool true | 7 => .bool true | 17 => .bool true | 18 => .bool true | _ => undef)
            (fun _ Wy => Below W0.heap.size W0 Wy) (by kernel_rfl) (by rw [← hops]; kernel_rfl) (by rw [← hops]; kernel_rfl) (by rw [← hops]; kernel_rfl) (by rw [← hops]; decide) (by rw [← hops]; kernel_rfl) ((Below.refl _ _).drew) ?step ?tail
          case step =>
            intro i o listed a Wy ho hs hu hall ha hi hy hlt
            have old0 : a.eval (.tmp 0) = .func (.yield yl) #[] #[] := by rw [ha.eval_old (noDst_spec (by rw [← hops]; kernel_rfl))]; rfl
            have old1 : a.eval (.tmp 1) = .pointer (some ⟨B, 0, none⟩) := by rw [ha.eval_old (noDst_spec (by rw [← hops]; kernel_rfl))]; rfl
            have old3 : a.eval (.tmp 3) = .int .i64 ((0 : Nat) : Int) := by rw [ha.eval_old (noDst_spec (by rw [← hops]; kernel_rfl))]; rfl
            have old4 : a.eval (.tmp 4) = .pointer (some ⟨wr.heap.size, 0, none⟩) := by rw [ha.eval_old (noDst_spec (by rw [← hops]; kernel_rfl))]; rfl
            have hcase : i = 0 ∨ i = 1 ∨ i = 2 ∨ i = 3 ∨ i = 4 ∨ i = 5 ∨ i = 6 ∨ i = 7 ∨ i = 8 ∨ i = 9 ∨ i = 10 ∨ i = 11 ∨ i = 12 ∨ i = 13 ∨ i = 14 ∨ i = 15 ∨ i = 16 ∨ i = 17 ∨ i = 18 := by omega
            rcases hcase with rfl | rfl | rfl | rfl | rfl | rfl | rfl | rfl | rfl | rfl | rfl | rfl | rfl | rfl | rfl | rfl | rfl | rfl | rfl
            all_goals (have ho' := ho; rw [← hops] at ho'; simp only [List.getElem?_toArray, List.getElem?_cons_zero, List.getElem?_cons_succ, Option.some.injEq] at ho'; subst ho')
            · refine step_none rfl ?_
              refine opIn_value wideAt_plain (fun c h => by cases h) (v := .func (.yield yl) #[] #[]) (W' := Wy) ?_ ⟨rfl, hi⟩
              simp only [execOp, old0]
              simp only [Sem.run_pure]
            · refine step_none rfl ?_
              refine opIn_value wideAt_plain (fun c h => by cases h) (v := a0.val) (W' := Wy) ?_ ⟨rfl, hi⟩
              simp only [execOp, old4]
              have hx := run_loadVar_row (P := Tryz.prog) Wy _ _ 27 _ _ _ ((hi.block _ hzc).trans hcW0) Tryz.underlying27 rfl (by kernel_rfl)
              simp only [Instr.loadAt, Instr.sureAddr, Sem.run_bind, Sem.run_pure, Result.andThen_ok, hx]
            · refine step_none rfl ?_
              refine opIn_value wideAt_plain (fun c h => by cases h) (v := a0.val) (W' := Wy) ?_ ⟨rfl, hi⟩
              simp only [execOp, old4]
              have hx := run_loadVar_row (P := Tryz.prog) Wy _ _ 27 _ _ _ ((hi.block _ hzc).trans hcW0) Tryz.underlying27 rfl (by kernel_rfl)
              simp only [Instr.loadAt, Instr.sureAddr, Sem.run_bind, Sem.run_pure, Result.andThen_ok, hx]
            · refine step_none rfl ?_
              have h14 : a.eval (.tmp 14) = a0.val := ha.eval_got (j := 2) (by rw [← hops]; rfl) rfl (hall ⟨2, .data⟩ (by simp) rfl)
              refine opIn_call wideAt_plain (fun c h => by cases h) (f := 44) (args := #[a0.val]) (W' := Wy) ?_ (isRight_any a0 Wy (HLI.out Wy (HBW.out.trans (hi.mono HBW.out.size))) HFI.out) ?_
              · simp only [execOp, h14]
                simp [go_sem]
                simpa [Act.eval] using h14
              · rintro e W1 ⟨rfl, hb⟩
                exact ⟨_, rfl, by rw [HR.out]; rfl, below_own' hi hb⟩
            · refine step_none rfl ?_
              have h15 : a.eval (.tmp 15) = .bool true := ha.eval_got (j := 3) (by rw [← hops]; rfl) rfl (hall ⟨3, .data⟩ (by simp) rfl)
              refine opIn_value wideAt_plain (fun c h => by cases h) (v := .bool true) (W' := Wy) ?_ ⟨rfl, hi⟩
              simp only [execOp, h15]
              simp only [Sem.run_pure]
            · refine step_yes rfl (hy 4 (hall ⟨4, .guard⟩ (by simp) rfl) ⟨_, _, by rw [← hops]; rfl, rfl⟩) ?_
              refine opIn_value wideAt_plain (fun c h => by cases h) (v := .int .i64 ((0 : Nat) : Int)) (W' := Wy) ?_ ⟨rfl, hi⟩
              simp only [execOp, old3]
              simp only [Sem.run_pure]
            · refine step_yes rfl (hy 4 (hall ⟨4, .guard⟩ (by simp) rfl) ⟨_, _, by rw [← hops]; rfl, rfl⟩) ?_
              have h17 : a.eval (.tmp 17) = .int .i64 ((0 : Nat) : Int) := ha.eval_got (j := 5) (by rw [← hops]; rfl) rfl (hall ⟨5, .data⟩ (by simp) rfl)
              refine opIn_value wideAt_plain (fun c h => by cases h) (v := .bool true) (W' := Wy) ?_ ⟨rfl, hi⟩
              simp only [execOp, h17]
              simp [go_sem]
            · refine step_yes rfl (hy 4 (hall ⟨4, .guard⟩ (by simp) rfl) ⟨_, _, by rw [← hops]; rfl, rfl⟩) ?_
              have h18 : a.eval (.tmp 18) = .bool true := ha.eval_got (j := 6) (by rw [← hops]; rfl) rfl (hall ⟨6, .data⟩ (by simp) rfl)
              refine opIn_value wideAt_plain (fun c h => by cases h) (v := .bool true) (W' := Wy) ?_ ⟨rfl, hi⟩
              simp only [execOp, h18]
              simp only [Sem.run_pure]
            · refine step_no rfl (hy 7 (hall ⟨7, .guard⟩ (by simp) rfl) ⟨_, _, by rw [← hops]; rfl, rfl⟩) ⟨fun _ _ => trivial, rfl, ?_⟩
              exact hi
            · refine step_no rfl (hy 7 (hall ⟨7, .guard⟩ (by simp) rfl) ⟨_, _, by rw [← hops]; rfl, rfl⟩) ⟨fun _ _ => trivial, rfl, ?_⟩
              exact hi
            · refine step_no rfl (hy 7 (hall ⟨7, .guard⟩ (by simp) rfl) ⟨_, _, by rw [← hops]; rfl, rfl⟩) ⟨fun _ _ => trivial, rfl, ?_⟩
              exact hi
            · refine step_no rfl (hy 7 (hall ⟨7, .guard⟩ (by simp) rfl) ⟨_, _, by rw [← hops]; rfl, rfl⟩) ⟨fun _ _ => trivial, rfl, ?_⟩
              exact hi
            · refine step_no rfl (hy 7 (hall ⟨7, .guard⟩ (by simp) rfl) ⟨_, _, by rw [← hops]; rfl, rfl⟩) ⟨fun _ _ => trivial, rfl, ?_⟩
              exact hi
            · refine step_no rfl (hy 7 (hall ⟨7, .guard⟩ (by simp) rfl) ⟨_, _, by rw [← hops]; rfl, rfl⟩) ⟨fun _ _ => trivial, rfl, ?_⟩
              exact hi
            · refine step_no rfl (hy 7 (hall ⟨7, .guard⟩ (by simp) rfl) ⟨_, _, by rw [← hops]; rfl, rfl⟩) ⟨fun _ _ => trivial, rfl, ?_⟩
              exact hi
            · refine step_no rfl (hy 7 (hall ⟨7, .guard⟩ (by simp) rfl) ⟨_, _, by rw [← hops]; rfl, rfl⟩) ⟨fun _ _ => trivial, rfl, ?_⟩
              exact hi
            · refine step_no rfl (hy 7 (hall ⟨7, .guard⟩ (by simp) rfl) ⟨_, _, by rw [← hops]; rfl, rfl⟩) ⟨fun _ _ => trivial, rfl, ?_⟩
              exact hi
            · refine step_yes rfl (hy 4 (hall ⟨4, .guard⟩ (by simp) rfl) ⟨_, _, by rw [← hops]; rfl, rfl⟩) ?_
              have h19 : a.eval (.tmp 19) = .bool true := ha.eval_got (j := 7) (by rw [← hops]; rfl) rfl (hall ⟨7, .data⟩ (by simp) rfl)
              have h28 : True := trivial
              refine opIn_value wideAt_plain (fun c h => by cases h) (v := .bool true) (W' := Wy) ?_ ⟨rfl, hi⟩
              simp only [execOp, h19]
              simp [go_sem]
            · refine step_none rfl ?_
              have h16 : a.eval (.tmp 16) = .bool true := ha.eval_got (j := 4) (by rw [← hops]; rfl) rfl (hall ⟨4, .data⟩ (by simp) rfl)
              have h29 : a.eval (.tmp 29) = .bool true := ha.eval_got (j := 17) (by rw [← hops]; rfl) rfl (hall ⟨17, .data⟩ (by simp) rfl)
              refine opIn_value wideAt_plain (fun c h => by cases h) (v := .bool true) (W' := Wy) ?_ ⟨rfl, hi⟩
              simp only [execOp, h16, h29]
              simp [go_sem]
          case tail =>
            intro Wz hz
            subst hops
            have hbz := HBW.out.trans (hz.mono HBW.out.size)
            have hjz := hJ _ _ _ none HJJ.out (grown_below hbz) (fun r e => by cases e)
            have hpz := HP.out.below hbz
            have hyy := hY (List.range 0) 0 Wz hjz ⟨rfl, hlt⟩
            rw [show risEnc l 0 = #[a0.val, .bool true] from HE.out] at hyy
            obtain ⟨fn, tmps, assign, body, hy, hR⟩ := hyy
            simp only [frameOf, Act.put, Option.bind_some, List.getElem?_toArray, List.getElem?_cons_zero, List.getElem?_cons_succ, List.setIfInBounds_toArray, List.set_cons_zero, List.set_cons_succ, List.drop_succ_cons, List.drop_zero]
            gi_wp2_with fail
            refine hR.mono ?_
            rintro e W' (⟨rfl, hJ3, hk3⟩ | ⟨rfl, hJx3⟩)
            · have hpw := hk3 hpz
              have HPW := Lib.hid hpw
              rw [← List.range_succ] at hJ3
              clear hpw hpz hk3
              gi_wp2
              go_roundw
              case rel => exact ⟨0 + 1, by go_num, by omega, HPW.out, hJ3⟩
              case measure => simp [intOf]; omega
            · rw [← List.range_succ] at hJx3
              gi_wp2
              refine bodyPost_ret (results_none rfl _ _ _) rfl ?_
              exact ⟨⟨_, rfl⟩, .inr ⟨_, ⟨_, by omega, rfl⟩, hJx3⟩⟩
        | succ k =>
          have hkl' : k < l.length := by omega
          obtain ⟨b0, hb0⟩ : ∃ b0, b0 = l[k] := ⟨_, rfl⟩
          have hprev : W0.cell? ⟨g, off + k * 6, none⟩ = some (.string b0.name) := by
            have := HC.out k hkl' 0 (by omega)
            rw [← hb0] at this
            exact (rdCell HBW.out g hg _).trans this
          have hkl : ((k : Int) < (l.length : Int)) := by omega
          have hk0 : (0 : Int) ≤ (k : Int) := by omega
          have hj0 : (((k + 1 : Nat) : Int) == 0) = false := by rw [beq_eq_false_iff_ne]; omega
          have hsub : IntKind.i64.wrap (((k + 1 : Nat) : Int) - 1) = (k : Int) := by
            rw [show ((k + 1 : Nat) : Int) - 1 = (k : Int) by omega]; exact IntWalk.i64_in _ (by omega)
          have HE : Hid (risEnc l (k + 1) = #[a0.val, .bool (nmLt b0.name a0.name)]) := Lib.hid (by unfold risEnc okAt; rw [List.getElem?_eq_getElem hlt, ← HA0.out]; simp [hr, List.getElem?_eq_getElem hkl', hb0])
          clear hr hb0
          refine wpIn_region_inv_tail 19 (fun i => match i with | 0 => .func (.yield yl) #[] #[] | 1 => a0.val | 2 => a0.val | 3 => .bool true | 4 => .bool true | 5 => .int .i64 ((k + 1 : Nat) : Int) | 6 => .bool false | 7 => .bool false | 8 => .slice (some ⟨g, off, none⟩) l.length c | 9 => .int .i64 ((k + 1 : Nat) : Int) | 10 => .int .i64 (k : Int) | 11 => .pointer (some ⟨g, off + k * 6, none⟩) | 12 => .pointer (some ⟨g, off + k * 6, none⟩) | 13 => .string b0.name | 14 => .pointer (some ⟨wr.heap.size, 0, none⟩) | 15 => .string a0.name | 16 => .bool (nmLt b0.name a0.name) | 17 => .bool (nmLt b0.name a0.name) | 18 => .bool (nmLt b0.name a0.name) | _ => undef)
            (fun _ Wy => Below W0.heap.size W0 Wy) (by kernel_rfl) (by rw [← hops]; kernel_rfl) (by rw [← hops]; kernel_rfl) (by rw [← hops]; kernel_rfl) (by rw [← hops]; decide) (by rw [← hops]; kernel_rfl) ((Below.refl _ _).drew) ?step ?tail
          case step =>
            intro i o listed a Wy ho hs hu hall ha hi hy hlt
            have old0 : a.eval (.tmp 0) = .func (.yield yl) #[] #[] := by rw [ha.eval_old (noDst_spec (by rw [← hops]; kernel_rfl))]; rfl
            have old1 : a.eval (.tmp 1) = .pointer (some ⟨B, 0, none⟩) := by rw [ha.eval_old (noDst_spec (by rw [← hops]; kernel_rfl))]; rfl
            have old3 : a.eval (.tmp 3) = .int .i64 ((k + 1 : Nat) : Int) := by rw [ha.eval_old (noDst_spec (by rw [← hops]; kernel_rfl))]; rfl
            have old4 : a.eval (.tmp 4) = .pointer (some ⟨wr.heap.size, 0, none⟩) := by rw [ha.eval_old (noDst_spec (by rw [← hops]; kernel_rfl))]; rfl
            have hcase : i = 0 ∨ i = 1 ∨ i = 2 ∨ i = 3 ∨ i = 4 ∨ i = 5 ∨ i = 6 ∨ i = 7 ∨ i = 8 ∨ i = 9 ∨ i = 10 ∨ i = 11 ∨ i = 12 ∨ i = 13 ∨ i = 14 ∨ i = 15 ∨ i = 16 ∨ i = 17 ∨ i = 18 := by omega
            rcases hcase with rfl | rfl | rfl | rfl | rfl | rfl | rfl | rfl | rfl | rfl | rfl | rfl | rfl | rfl | rfl | rfl | rfl | rfl | rfl
            all_goals (have ho' := ho; rw [← hops] at ho'; simp only [List.getElem?_toArray, List.getElem?_cons_zero, List.getElem?_cons_succ, Option.some.injEq] at ho'; subst ho')
            · refine step_none rfl ?_
              refine opIn_value wideAt_plain (fun c h => by cases h) (v := .func (.yield yl) #[] #[]) (W' := Wy) ?_ ⟨rfl, hi⟩
              simp only [execOp, old0]
              simp only [Sem.run_pure]
            · refine step_none rfl ?_
              refine opIn_value wideAt_plain (fun c h => by cases h) (v := a0.val) (W' := Wy) ?_ ⟨rfl, hi⟩
              simp only [execOp, old4]
              have hx := run_loadVar_row (P := Tryz.prog) Wy _ _ 27 _ _ _ ((hi.block _ hzc).trans hcW0) Tryz.underlying27 rfl (by kernel_rfl)
              simp only [Instr.loadAt, Instr.sureAddr, Sem.run_bind, Sem.run_pure, Result.andThen_ok, hx]
            · refine step_none rfl ?_
              refine opIn_value wideAt_plain (fun c h => by cases h) (v := a0.val) (W' := Wy) ?_ ⟨rfl, hi⟩
              simp only [execOp, old4]
              have hx := run_loadVar_row (P := Tryz.prog) Wy _ _ 27 _ _ _ ((hi.block _ hzc).trans hcW0) Tryz.underlying27 rfl (by kernel_rfl)
              simp only [Instr.loadAt, Instr.sureAddr, Sem.run_bind, Sem.run_pure, Result.andThen_ok, hx]
            · refine step_none rfl ?_
              have h14 : a.eval (.tmp 14) = a0.val := ha.eval_got (j := 2) (by rw [← hops]; rfl) rfl (hall ⟨2, .data⟩ (by simp) rfl)
              refine opIn_call wideAt_plain (fun c h => by cases h) (f := 44) (args := #[a0.val]) (W' := Wy) ?_ (isRight_any a0 Wy (HLI.out Wy (HBW.out.trans (hi.mono HBW.out.size))) HFI.out) ?_
              · simp only [execOp, h14]
                simp [go_sem]
                simpa [Act.eval] using h14
              · rintro e W1 ⟨rfl, hb⟩
                exact ⟨_, rfl, by rw [HR.out]; rfl, below_own' hi hb⟩
            · refine step_none rfl ?_
              have h15 : a.eval (.tmp 15) = .bool true := ha.eval_got (j := 3) (by rw [← hops]; rfl) rfl (hall ⟨3, .data⟩ (by simp) rfl)
              refine opIn_value wideAt_plain (fun c h => by cases h) (v := .bool true) (W' := Wy) ?_ ⟨rfl, hi⟩
              simp only [execOp, h15]
              simp only [Sem.run_pure]
            · refine step_yes rfl (hy 4 (hall ⟨4, .guard⟩ (by simp) rfl) ⟨_, _, by rw [← hops]; rfl, rfl⟩) ?_
              refine opIn_value wideAt_plain (fun c h => by cases h) (v := .int .i64 ((k + 1 : Nat) : Int)) (W' := Wy) ?_ ⟨rfl, hi⟩
              simp only [execOp, old3]
              simp only [Sem.run_pure]
            · refine step_yes rfl (hy 4 (hall ⟨4, .guard⟩ (by simp) rfl) ⟨_, _, by rw [← hops]; rfl, rfl⟩) ?_
              have h17 : a.eval (.tmp 17) = .int .i64 ((k + 1 : Nat) : Int) := ha.eval_got (j := 5) (by rw [← hops]; rfl) rfl (hall ⟨5, .data⟩ (by simp) rfl)
              refine opIn_value wideAt_plain (fun c h => by cases h) (v := .bool false) (W' := Wy) ?_ ⟨rfl, hi⟩
              simp only [execOp, h17]
              simp [go_sem]
              omega
            · refine step_yes rfl (hy 4 (hall ⟨4, .guard⟩ (by simp) rfl) ⟨_, _, by rw [← hops]; rfl, rfl⟩) ?_
              have h18 : a.eval (.tmp 18) = .bool false := ha.eval_got (j := 6) (by rw [← hops]; rfl) rfl (hall ⟨6, .data⟩ (by simp) rfl)
              refine opIn_value wideAt_plain (fun c h => by cases h) (v := .bool false) (W' := Wy) ?_ ⟨rfl, hi⟩
              simp only [execOp, h18]
              simp only [Sem.run_pure]
            · refine step_yes rfl (hy 7 (hall ⟨7, .guard⟩ (by simp) rfl) ⟨_, _, by rw [← hops]; rfl, rfl⟩) ?_
              refine opIn_value wideAt_plain (fun c h => by cases h) (v := .slice (some ⟨g, off, none⟩) l.length c) (W' := Wy) ?_ ⟨rfl, hi⟩
              simp only [execOp, old1]
              simp [go_sem, blkCell ((hi.block _ hzB).trans hB0)]
            · refine step_yes rfl (hy 7 (hall ⟨7, .guard⟩ (by simp) rfl) ⟨_, _, by rw [← hops]; rfl, rfl⟩) ?_
              refine opIn_value wideAt_plain (fun c h => by cases h) (v := .int .i64 ((k + 1 : Nat) : Int)) (W' := Wy) ?_ ⟨rfl, hi⟩
              simp only [execOp, old3]
              simp only [Sem.run_pure]
            · refine step_yes rfl (hy 7 (hall ⟨7, .guard⟩ (by simp) rfl) ⟨_, _, by rw [← hops]; rfl, rfl⟩) ?_
              have h21 : a.eval (.tmp 21) = .int .i64 ((k + 1 : Nat) : Int) := ha.eval_got (j := 9) (by rw [← hops]; rfl) rfl (hall ⟨9, .data⟩ (by simp) rfl)
              refine opIn_value wideAt_plain (fun c h => by cases h) (v := .int .i64 (k : Int)) (W' := Wy) ?_ ⟨rfl, hi⟩
              simp only [execOp, h21]
              simp [go_sem]
              exact IntWalk.i64_in _ (by omega)
            · refine step_yes rfl (hy 7 (hall ⟨7, .guard⟩ (by simp) rfl) ⟨_, _, by rw [← hops]; rfl, rfl⟩) ?_
              have h20 : a.eval (.tmp 20) = .slice (some ⟨g, off, none⟩) l.length c := ha.eval_got (j := 8) (by rw [← hops]; rfl) rfl (hall ⟨8, .data⟩ (by simp) rfl)
              have h22 : a.eval (.tmp 22) = .int .i64 (k : Int) := ha.eval_got (j := 10) (by rw [← hops]; rfl) rfl (hall ⟨10, .data⟩ (by simp) rfl)
              refine opIn_value wideAt_plain (fun c h => by cases h) (v := .pointer (some ⟨g, off + k * 6, none⟩)) (W' := Wy) ?_ ⟨rfl, hi⟩
              simp only [execOp, h20, h22]
              simp [go_sem, hkl, hk0]
            · refine step_yes rfl (hy 7 (hall ⟨7, .guard⟩ (by simp) rfl) ⟨_, _, by rw [← hops]; rfl, rfl⟩) ?_
              have h23 : a.eval (.tmp 23) = .pointer (some ⟨g, off + k * 6, none⟩) := ha.eval_got (j := 11) (by rw [← hops]; rfl) rfl (hall ⟨11, .data⟩ (by simp) rfl)
              refine opIn_value wideAt_plain (fun c h => by cases h) (v := .pointer (some ⟨g, off + k * 6, none⟩)) (W' := Wy) ?_ ⟨rfl, hi⟩
              simp only [execOp, h23]
              simp [go_sem]
            · refine step_yes rfl (hy 7 (hall ⟨7, .guard⟩ (by simp) rfl) ⟨_, _, by rw [← hops]; rfl, rfl⟩) ?_
              have h24 : a.eval (.tmp 24) = .pointer (some ⟨g, off + k * 6, none⟩) := ha.eval_got (j := 12) (by rw [← hops]; rfl) rfl (hall ⟨12, .data⟩ (by simp) rfl)
              refine opIn_value wideAt_plain (fun c h => by cases h) (v := .string b0.name) (W' := Wy) ?_ ⟨rfl, hi⟩
              simp only [execOp, h24]
              simp [go_sem, rdCell hi g hzg, hprev]
            · refine step_yes rfl (hy 7 (hall ⟨7, .guard⟩ (by simp) rfl) ⟨_, _, by rw [← hops]; rfl, rfl⟩) ?_
              refine opIn_value wideAt_plain (fun c h => by cases h) (v := .pointer (some ⟨wr.heap.size, 0, none⟩)) (W' := Wy) ?_ ⟨rfl, hi⟩
              simp only [execOp, old4]
              simp [go_sem]
            · refine step_yes rfl (hy 7 (hall ⟨7, .guard⟩ (by simp) rfl) ⟨_, _, by rw [← hops]; rfl, rfl⟩) ?_
              have h26 : a.eval (.tmp 26) = .pointer (some ⟨wr.heap.size, 0, none⟩) := ha.eval_got (j := 14) (by rw [← hops]; rfl) rfl (hall ⟨14, .data⟩ (by simp) rfl)
              refine opIn_value wideAt_plain (fun c h => by cases h) (v := .string a0.name) (W' := Wy) ?_ ⟨rfl, hi⟩
              simp only [execOp, h26]
              simp [go_sem, blkCell ((hi.block _ hzc).trans hcW0)]
            · refine step_yes rfl (hy 7 (hall ⟨7, .guard⟩ (by simp) rfl) ⟨_, _, by rw [← hops]; rfl, rfl⟩) ?_
              have h25 : a.eval (.tmp 25) = .string b0.name := ha.eval_got (j := 13) (by rw [← hops]; rfl) rfl (hall ⟨13, .data⟩ (by simp) rfl)
              have h27 : a.eval (.tmp 27) = .string a0.name := ha.eval_got (j := 15) (by rw [← hops]; rfl) rfl (hall ⟨15, .data⟩ (by simp) rfl)
              refine opIn_value wideAt_plain (fun c h => by cases h) (v := .bool (nmLt b0.name a0.name)) (W' := Wy) ?_ ⟨rfl, hi⟩
              simp only [execOp, h25, h27]
              simp [go_sem, nmLt]
            · refine step_yes rfl (hy 4 (hall ⟨4, .guard⟩ (by simp) rfl) ⟨_, _, by rw [← hops]; rfl, rfl⟩) ?_
              have h19 : a.eval (.tmp 19) = .bool false := ha.eval_got (j := 7) (by rw [← hops]; rfl) rfl (hall ⟨7, .data⟩ (by simp) rfl)
              have h28 : a.eval (.tmp 28) = .bool (nmLt b0.name a0.name) := ha.eval_got (j := 16) (by rw [← hops]; rfl) rfl (hall ⟨16, .data⟩ (by simp) rfl)
              refine opIn_value wideAt_plain (fun c h => by cases h) (v := .bool (nmLt b0.name a0.name)) (W' := Wy) ?_ ⟨rfl, hi⟩
              simp only [execOp, h19, h28]
              simp [go_sem]
            · refine step_none rfl ?_
              have h16 : a.eval (.tmp 16) = .bool true := ha.eval_got (j := 4) (by rw [← hops]; rfl) rfl (hall ⟨4, .data⟩ (by simp) rfl)
              have h29 : a.eval (.tmp 29) = .bool (nmLt b0.name a0.name) := ha.eval_got (j := 17) (by rw [← hops]; rfl) rfl (hall ⟨17, .data⟩ (by simp) rfl)
              refine opIn_value wideAt_plain (fun c h => by cases h) (v := .bool (nmLt b0.name a0.name)) (W' := Wy) ?_ ⟨rfl, hi⟩
              simp only [execOp, h16, h29]
              simp [go_sem]
          case tail =>
            intro Wz hz
            subst hops
            have hbz := HBW.out.trans (hz.mono HBW.out.size)
            have hjz := hJ _ _ _ none HJJ.out (grown_below hbz) (fun r e => by cases e)
            have hpz := HP.out.below hbz
            have hyy := hY (List.range (k + 1)) (k + 1) Wz hjz ⟨rfl, hlt⟩
            rw [show risEnc l (k + 1) = #[a0.val, .bool (nmLt b0.name a0.name)] from HE.out] at hyy
            obtain ⟨fn, tmps, assign, body, hy, hR⟩ := hyy
            simp only [frameOf, Act.put, Option.bind_some, List.getElem?_toArray, List.getElem?_cons_zero, List.getElem?_cons_succ, List.setIfInBounds_toArray, List.set_cons_zero, List.set_cons_succ, List.drop_succ_cons, List.drop_zero]
            gi_wp2_with fail
            refine hR.mono ?_
            rintro e W' (⟨rfl, hJ3, hk3⟩ | ⟨rfl, hJx3⟩)
            · have hpw := hk3 hpz
              have HPW := Lib.hid hpw
              rw [← List.range_succ] at hJ3
              clear hpw hpz hk3
              gi_wp2
              go_roundw
              case rel => exact ⟨(k + 1) + 1, by go_num, by omega, HPW.out, hJ3⟩
              case measure => simp [intOf]; omega
            · rw [← List.range_succ] at hJx3
              gi_wp2
              refine bodyPost_ret (results_none rfl _ _ _) rfl ?_
              exact ⟨⟨_, rfl⟩, .inr ⟨_, ⟨_, by omega, rfl⟩, hJx3⟩⟩
    · obtain rfl : j = l.length := by omega
      have HJJ := Lib.hid hjj
      clear hp hjj
      gi_wp2
      go_end0
      exact ⟨⟨_, rfl⟩, .inl ⟨_, rfl, HJJ.out⟩⟩
end Go.Proofs.YtmepjbjmjbpchaaGreatDoor
end
section
/- A labelled statement's scope, in a fence. -/
namespace Go.Proofs.YtmepjbjmjbpchaaGreatDoor
open Go
section
variable {F : Fence} {n : Nat} {P : Program} {Q : Exit → Act → World → Prop} {a : Act} {w : World} {b : Frame} {k : List Item} {cs : List Frame}
theorem stepR_scope {c : Code} : step P (lone (b.atR a (.code (.scope c) :: k)) cs w) = .next (lone (b.atR a (.code c :: .inScope c :: k)) cs w) :=
  step_lone_go (by simp [stepG, stepG.exec, Frame.atR])
theorem stepR_inScope {c : Code} : step P (lone (b.atR a (.inScope c :: k)) cs w) = .next (lone (b.atR a k) cs w) :=
  step_lone_go (by simp [stepG, stepG.exec, Frame.atR])
theorem wpIn_scope {c : Code} (h : c.wpIn F n P (Exit.noGoto Q) a w) : (Code.scope c).wpIn F n P Q a w := by
  intro b k cs hro hb hr
  have h0 : (lone (b.atR a (.code (.scope c) :: k)) cs w).fenced P F := fenced_calm hb hr rfl
  obtain ⟨e, a₁, w₁, hq, harr⟩ := h b (.inScope c :: k) cs hro hb hr
  cases e with
  | normal => exact ⟨.normal, a₁, w₁, hq, .head h0 stepR_scope (StepsIn.trans harr (.one (fenced_calm hb hr rfl) stepR_inScope))⟩
  | exit id' =>
    have hx : exitTo id' (.inScope c :: k) = exitTo id' k := by simp [exitTo]
    exact ⟨.exit id', a₁, w₁, hq, fun k' hk => .head h0 stepR_scope (harr.1 k' (by rw [hx]; exact hk)),
        fun hr' hk => let ⟨k₁, h1, h2⟩ := harr.2 hr' (by rw [hx]; exact hk); ⟨k₁, h1, .head h0 stepR_scope h2⟩⟩
  | goto l => exact hq.elim
  | ret => exact ⟨_, a₁, w₁, hq, .of_steps (.one h0 stepR_scope) harr⟩
  | panic ch => exact ⟨_, a₁, w₁, hq, .of_steps (.one h0 stepR_scope) harr⟩
  | outgrown => exact ⟨_, a₁, w₁, hq, .of_steps (.one h0 stepR_scope) harr⟩
end
end Go.Proofs.YtmepjbjmjbpchaaGreatDoor
end
section
/- attrs.Check. -/
namespace Go.Proofs.YtmepjbjmjbpchaaGreatDoor
open Go Go.RowKit
set_option linter.unusedVariables false
set_option linter.unusedSimpArgs false
attribute [local go_sem] Oper.semAt_some

theorem cell_put_keep {W : World} {k : Nat} {o o' : Obj} (h : W.heap[k]? = some o) (hc : o.isCells = false) {a : Addr} {v : Value} (ha : W.cell? a = some v) : (W.putObj k o').cell? a = some v := by
  by_cases hk : a.block = k
  · subst hk
    unfold World.cell? at ha
    rw [h] at ha
    cases o <;> simp [Obj.isCells] at hc ha
  · unfold World.cell? at ha ⊢
    rw [World.putObj_heap_other (w := W) (r := k) (k := a.block) (fun e => hk e)]
    exact ha
structure KeepsCells (W W' : World) : Prop where
  size : W.heap.size ≤ W'.heap.size
  cell : ∀ a v, W.cell? a = some v → W'.cell? a = some v
theorem IntSl.keeps {W W' : World} {a : Option Addr} {zs : List Int} (h : IntSl W a zs) (hk : KeepsCells W W') : IntSl W' a zs := by
  rcases h with h | ⟨g, off, h1, h2, h3⟩
  · exact .inl h
  · exact .inr ⟨g, off, h1, Nat.lt_of_lt_of_le h2 hk.size, fun j hj => hk.cell _ _ (h3 j hj)⟩
theorem StrSl.keeps {W W' : World} {a : Option Addr} {zs : List ByteArray} (h : StrSl W a zs) (hk : KeepsCells W W') : StrSl W' a zs := by
  rcases h with h | ⟨g, off, h1, h2, h3⟩
  · exact .inl h
  · exact .inr ⟨g, off, h1, Nat.lt_of_lt_of_le h2 hk.size, fun j hj => hk.cell _ _ (h3 j hj)⟩
theorem cells_len (a : Atr) : a.cells.length = 6 := rfl
theorem AtrSl.keeps {W W' : World} {p : Option Addr} {l : List Atr} (h : AtrSl W p l) (hk : KeepsCells W W') : AtrSl W' p l := by
  refine ⟨?_, fun a ha => ⟨(h.lies a ha).ints.keeps hk, (h.lies a ha).texts.keeps hk⟩, h.fits⟩
  rcases h.at' with h | ⟨g, off, h1, h2, h3⟩
  · exact .inl h
  · refine .inr ⟨g, off, h1, Nat.lt_of_lt_of_le h2 hk.size, fun j hj i hi => ?_⟩
    have := h3 j hj i hi
    have hx : l[j].cells[i]? = some (l[j].cells[i]'(by rw [cells_len]; exact hi)) := List.getElem?_eq_getElem _
    rw [hx] at this ⊢
    exact hk.cell _ _ this
theorem keeps_put {W : World} {k : Nat} {o o' : Obj} (h : W.heap[k]? = some o) (hc : o.isCells = false) : KeepsCells W (W.putObj k o') :=
  ⟨by simp [World.putObj], fun a v ha => cell_put_keep h hc ha⟩

theorem heap_alloc_new' (w : World) (o : Obj) {k : Nat} (h : k = w.heap.size) : (w.alloc o).heap[k]? = some o := by subst h; exact heap_alloc_new w o
def CkPost (l : List Atr) (w : World) (e : Ending) (w' : World) : Prop := e = .returned (.int .i64 (if rightL l then 0 else 20)) ∧ Below w.heap.size w w'
structure CkI (w : World) (l : List Atr) (pre : List Nat) (W : World) : Prop where
  all : ∀ x ∈ pre, okAt l x = true
  res : W.heap[w.heap.size]? = some (.cells #[.int .i64 0] 28 (0, 0))
  below : Below w.heap.size w W
structure CkX (w : World) (l : List Atr) (W : World) : Prop where
  bad : (List.range l.length).all (okAt l) = false
  res : W.heap[w.heap.size]? = some (.cells #[.int .i64 20] 28 (0, 0))
  below : Below w.heap.size w W

set_option maxRecDepth 100000 in
set_option maxHeartbeats 4000000 in
theorem check_any' (p : Option Addr) (c : Nat) (l : List Atr) (w : World) (hs : AtrSl w p l) (hl : l.length ≤ 100000000000000) :
    Calls Tryz.prog 19 #[.slice p l.length c] w (CkPost l w) := by
  by_cases h100 : 100 < l.length
  · have hr : rightL l = false := by unfold rightL; simp; omega
    have HR := Lib.hid hr
    have h1 : (100 : Int) < (l.length : Int) := by omega
    clear hr
    go_enter Tryz.func19, Tryz.ntmps19
    go_wp2_with fail
    go_step3
    go_wp2_with fail
    rw [Exit.noGoto_ret]
    refine bodyPost_ret (v := .int .i64 20) (by simp [results, Tryz.results19, go_sem]) rfl ⟨by rw [HR.out]; rfl, ?_⟩
    (repeat (first | (with_reducible refine below_set ?_ (by first | exact Nat.le_refl _ | omega) _ _) | with_reducible exact Below.refl _ _ | with_reducible refine belowA ?_ _ | with_reducible refine belowD ?_ | with_reducible refine belowN ?_ _))
  · have h1 : ((l.length : Int)) ≤ 100 := by omega
    have h1d : decide ((100 : Int) < (l.length : Int)) = false := by simp; omega
    have HS := Lib.hid hs
    clear hs
    refine (callsIn_wide (n := 6)).1 ?_
    refine callsIn_of_wp_marks Tryz.func19 rfl trivial ?_ rfl
    simp only [Tryz.ntmps19, List.size_toArray, List.length_cons, List.length_nil, Nat.reduceAdd, Nat.reduceSub, Array.replicate_succ, Array.replicate_zero, List.push_toArray, List.append_toArray, List.nil_append, List.cons_append]
    gi_wp2_with fail
    refine wpIn_scope ?_
    gi_wp2_with fail
    refine wpIn_label ?_
    gi_wp2_with (refine ⟨trivial, ?_⟩; gi_at_call 41; refine (callsIn_wide.2 (rising_any _ _ _ _)).mono ?_; rintro e w' ⟨rfl, rfl⟩)
    refine wpIn_range_outer rfl (by omega) (gf := 69) (lb := #[.pointer (some ⟨w.heap.size + 1, 0, none⟩)]) rfl trivial (enters_of Tryz.func69 (by kernel_rfl) rfl)
      (rising_seq 5 (w.heap.size + 1) p c l hl (by omega)) (fun W r h => h.elim) ?pre (fun h k hp => k (h hp)) ?kb (fun _ => rfl)
      (fun pre W => CkI w l pre W) (fun c pre W => c = .ret ∧ CkX w l W) ?hI ?hIx ?h0
      (fun x a' _ => a' = { tmps := #[.slice p l.length c, undef, .pointer (some ⟨w.heap.size, 0, none⟩), undef, .bool (okAt l x), .slice p l.length c, .int .i64 l.length, .bool false, .slice p l.length c, .func (.func 69) #[] #[.pointer (some ⟨w.heap.size + 1, 0, none⟩)], (l[x]?.map Atr.val).getD undef, .bool (okAt l x), undef], defers := [] }) (fun x a' _ _ _ _ h _ _ => h) ?assign ?body ?done ?stop
    case pre => exact fun W1 hb => ⟨(hb.block _ (by simp)).trans (heap_alloc_new' _ _ (by simp)), HS.out.below (((((Below.refl _ w).alloc (Nat.le_refl _) _).alloc (by simp) _).trans (hb.mono (by simp <;> omega))))⟩
    case kb => exact fun W m o o' hm ho hc _ hp => ⟨(World.putObj_heap_other (by simp at hm; omega)).trans hp.box, hp.lst.keeps (keeps_put ho hc)⟩
    case hI =>
      rintro pre W W' row h hg hr
      exact ⟨h.all, turn_keeps hg hr (fun _ _ h => h.elim) h.res, turn_below h.below hg hr (fun _ _ h => h.elim) (Nat.le_refl _) (by simp; omega)⟩
    case hIx =>
      rintro c pre W W' row ⟨hc, h⟩ hg hr
      exact ⟨hc, h.bad, turn_keeps hg hr (fun _ _ h => h.elim) h.res, turn_below h.below hg hr (fun _ _ h => h.elim) (Nat.le_refl _) (by simp; omega)⟩
    case h0 =>
      refine ⟨by simp, ?_, ?_⟩
      · exact allocPast _ (heap_alloc_new _ _) (by simp)
      · (repeat (first | (with_reducible refine below_set ?_ (by first | exact Nat.le_refl _ | omega) _ _) | with_reducible exact Below.refl _ _ | with_reducible refine belowA ?_ _ | with_reducible refine belowD ?_ | with_reducible refine belowN ?_ _))
    case assign =>
      intro yl pre x W K hi hK
      gi_wp2_with fail
      exact hK _ _ (KeepsFrom.refl _ _) (fun h => h) hi rfl
    case body =>
      rintro yl pre x a' W hyl hrec hi rfl ⟨rfl, hlt⟩
      cases ho : okAt l x with
      | true =>
        have HO := Lib.hid ho
        have HI := Lib.hid hi
        clear ho hi
        gi_wp2_with fail
        exact ⟨KeepsFrom.refl _ _, fun h => h, fun y hy => by
          rcases List.mem_append.1 hy with hy | hy
          · exact HI.out.all y hy
          · rw [List.mem_singleton.1 hy]; exact HO.out, HI.out.res, HI.out.below⟩
      | false =>
        have HO := Lib.hid ho
        have c0 := blkCell hi.res; have f0 := blkFree hi.res
        have HI := Lib.hid hi
        clear ho hi
        gi_wp2_with fail
        exact ⟨(KeepsOthers.setCell _ _ _).from _, rfl, by
          rw [List.all_eq_false]; exact ⟨x, List.mem_range.2 hlt, by rw [HO.out]; simp⟩, one_setCell HI.out.res, below_set HI.out.below (Nat.le_refl _) _ _⟩
    case done =>
      rintro D xs W hD rfl hi hK
      have c0 := blkCell hi.res; have f0 := blkFree hi.res
      have HI := Lib.hid hi
      have HK : Hid ((W.setCell ⟨w.heap.size, 0, none⟩ (.int .i64 0)).heap[D]? = some (.deferred (some []))) := (heap_setCell_other _ _ _ _ (by simp at hD ⊢; omega)).trans hK
      have HR : Hid (rightL l = true) := by
        unfold Hid rightL
        rw [Bool.and_eq_true]
        exact ⟨by simp; omega, List.all_eq_true.2 hi.all⟩
      clear hi hK
      gi_wp2
      rw [Exit.noGoto_ret]
      have c1 := one_setCell (u := .int .i64 0) HI.out.res
      have c2 := blkCell ((World.putObj_heap_other (by simp at hD; omega)).trans c1 : ((W.setCell ⟨w.heap.size, 0, none⟩ (.int .i64 0)).putObj D (.deferred none)).heap[w.heap.size]? = _)
      refine ⟨by simp, .inl ⟨_, _, rfl, run_takeDeferred HK.out, ?_⟩⟩
      refine ⟨.int .i64 0, ?_, by rw [HR.out]; rfl, ?_⟩
      · simp [results, Tryz.results19, go_sem, c2]
      · exact (below_set HI.out.below (Nat.le_refl _) 0 (.int .i64 0)).grown (grownBy_putObj' _ D _) (by simpa [World.setCell] using HI.out.below.size) (fun k e => by cases e; simp at hD; omega)
    case stop =>
      rintro D c pre W hD _ ⟨rfl, hx⟩ hK
      have hx0 : (W.putObj D (.deferred none)).heap[w.heap.size]? = _ := (World.putObj_heap_other (by simp at hD; omega)).trans hx.res
      have HX := Lib.hid hx
      have c0 := blkCell hx0
      have HK := Lib.hid hK
      have HB : Hid (Below w.heap.size w (W.putObj D (.deferred none))) := hx.below.grown (grownBy_putObj' W D _) hx.below.size (fun k e => by cases e; simp at hD; omega)
      have HR : Hid (rightL l = false) := by
        unfold Hid rightL
        rw [hx.bad]; simp
      clear hx hx0 hK
      gi_wp2
      rw [Exit.noGoto_ret]
      refine ⟨by simp, .inl ⟨_, _, rfl, run_takeDeferred HK.out, ?_⟩⟩
      refine ⟨.int .i64 20, ?_, by rw [HR.out]; rfl, HB.out⟩
      simp [results, Tryz.results19, go_sem, c0]
end Go.Proofs.YtmepjbjmjbpchaaGreatDoor
end
section
/- The reference: Right at an attribute, RightList. -/
namespace Go.Proofs.YtmepjbjmjbpchaaGreatDoor
open Go Go.RowKit
set_option linter.unusedVariables false
set_option linter.unusedSimpArgs false
attribute [local go_sem] Oper.semAt_some

theorem rRight_any (a : Atr) (w : World) (hl : a.Lies w) (hf : a.Fits) : Calls Tryz.prog 15 #[a.val] w fun e w' => e = .returned (.bool (rightA a)) ∧ Below w.heap.size w w' := by
  cases hb : nameOf a.name.data.toList with
  | false =>
    have e : rightA a = false := by unfold rightA; rw [hb]; simp
    rw [e]; exact rRight_no _ _ _ _ _ _ _ _ _ _ w (.inl hb)
  | true =>
    by_cases hk : 0 ≤ a.kind ∧ a.kind ≤ 5
    · have h6 : a.kind = 0 ∨ a.kind = 1 ∨ a.kind = 2 ∨ a.kind = 3 ∨ a.kind = 4 ∨ a.kind = 5 := by omega
      have hx : a.text.size ≤ 140737488355328 := by have := hf.text; omega
      have hq : ∀ s ∈ a.texts, s.size ≤ 140737488355328 := fun s hs => by have := hf.texts s hs; omega
      have hn : a.texts.length ≤ 9223372036854775807 := by have := hf.tl; omega
      have e0 : rightA a = (ownB a && aloneB a) := by unfold rightA; rw [hb]; simp [hk]
      have sm : ∀ t : Nat, (((t : Nat) : Int) == 0) = (t == 0) := fun t => by rw [Bool.eq_iff_iff]; simp
      have s100 : ∀ t : Nat, decide (((t : Nat) : Int) ≤ 100) = decide (t ≤ 100) := fun t => by rw [decide_eq_decide]; omega
      obtain ⟨nm, k, n, tx, ia, il, ic, ta, tl, tc⟩ := a
      simp only at h6 hx hq hn hb
      rw [e0]
      rcases h6 with rfl | rfl | rfl | rfl | rfl | rfl
      · cases tl with
        | nil => exact (rRight_0_none nm n tx ia il.length ic ta tc w hb).mono fun e w' ⟨he, hw⟩ => ⟨by rw [he]; simp [ownB, aloneB], hw⟩
        | cons s tl => exact (rRight_0_some nm n tx ia il.length ic ta tc w hb _ (by simp)).mono fun e w' ⟨he, hw⟩ => ⟨by rw [he]; simp [ownB, aloneB, noTextB, noListsB]; omega, hw⟩
      · exact (rRight_1 nm n tx ia il.length ic ta tl.length tc w hb).mono fun e w' ⟨he, hw⟩ => ⟨by rw [he]; simp [ownB, aloneB], hw⟩
      · exact (rRight_2 nm n tx ia il.length ic ta tl.length tc w hb).mono fun e w' ⟨he, hw⟩ => ⟨by rw [he]; simp [ownB, aloneB], hw⟩
      · exact (rRight_3 nm n tx ia il.length ic ta tl.length tc w hb hx).mono fun e w' ⟨he, hw⟩ => ⟨by rw [he]; simp [ownB, aloneB], hw⟩
      · cases tl with
        | nil => exact (rRight_4_none nm n tx ia il.length ic ta tc w hb).mono fun e w' ⟨he, hw⟩ => ⟨by rw [he, s100]; simp [ownB, aloneB], hw⟩
        | cons s tl => exact (rRight_4_some nm n tx ia il.length ic ta tc w hb _ (by simp)).mono fun e w' ⟨he, hw⟩ => ⟨by rw [he]; simp [ownB, aloneB], hw⟩
      · exact (rRight_5 nm n tx ia il.length ic ta tc w hb tl hl.texts hq hn).mono fun e w' ⟨he, hw⟩ => ⟨by rw [he, s100]; simp [ownB, aloneB], hw⟩
    · have e : rightA a = false := by unfold rightA; simp [hk]
      rw [e]; exact rRight_no _ _ _ _ _ _ _ _ _ _ w (.inr (by omega))

/-- The six cells of an attribute. -/
structure AtCells (w : World) (g o : Nat) (a : Atr) : Prop where
  c0 : w.cell? ⟨g, o, none⟩ = some (.string a.name)
  c1 : w.cell? ⟨g, o + 1, none⟩ = some (.int .i64 a.kind)
  c2 : w.cell? ⟨g, o + 2, none⟩ = some (.int .i64 a.num)
  c3 : w.cell? ⟨g, o + 3, none⟩ = some (.string a.text)
  c4 : w.cell? ⟨g, o + 4, none⟩ = some (.slice a.ia a.ints.length a.ic)
  c5 : w.cell? ⟨g, o + 5, none⟩ = some (.slice a.ta a.texts.length a.tc)
theorem AtrSl.row {w : World} {p : Option Addr} {l : List Atr} (h : AtrSl w p l) {j : Nat} (hj : j < l.length) : ∃ g off, p = some ⟨g, off, none⟩ ∧ g < w.heap.size ∧ ∀ k (hk : k < l.length), AtCells w g (off + k * 6) l[k] := by
  rcases h.at' with h | ⟨g, off, h1, h2, h3⟩
  · subst h; simp at hj
  · exact ⟨g, off, h1, h2, fun k hk => ⟨h3 k hk 0 (by omega), h3 k hk 1 (by omega), h3 k hk 2 (by omega), h3 k hk 3 (by omega), h3 k hk 4 (by omega), h3 k hk 5 (by omega)⟩⟩
theorem AtCells.below {w w1 : World} {g o : Nat} {a : Atr} (h : AtCells w g o a) (hg : g < w.heap.size) (hb : Below w.heap.size w w1) : AtCells w1 g o a :=
  ⟨(rdCell hb g hg _).trans h.c0, (rdCell hb g hg _).trans h.c1, (rdCell hb g hg _).trans h.c2, (rdCell hb g hg _).trans h.c3, (rdCell hb g hg _).trans h.c4, (rdCell hb g hg _).trans h.c5⟩

theorem not_ge_nmLt (s t : ByteArray) : (!Op.bytesLess s.toList t.toList) = !nmLt s t := rfl
theorem all_range_succ (P : Nat → Bool) (j : Nat) : (List.range (j + 1)).all P = ((List.range j).all P && P j) := by
  rw [List.range_succ, List.all_append]; simp
theorem all_range_false {P : Nat → Bool} {n j : Nat} (hj : j < n) (h : P j = false) : (List.range n).all P = false := by
  rw [List.all_eq_false]; exact ⟨j, List.mem_range.2 hj, by rw [h]; simp⟩

set_option maxRecDepth 100000 in
set_option maxHeartbeats 8000000 in
theorem rRightList_any (p : Option Addr) (c : Nat) (l : List Atr) (w : World) (hs : AtrSl w p l) (hl : l.length ≤ 100000000000000) :
    Calls Tryz.prog 14 #[.slice p l.length c] w fun e w' => e = .returned (.bool (rightL l)) ∧ Below w.heap.size w w' := by
  have HS := Lib.hid hs
  clear hs
  refine (callsIn_wide (n := 6)).1 ?_
  refine callsIn_of_wp Tryz.func14 rfl trivial ?_ rfl
  simp only [Tryz.ntmps14, List.size_toArray, List.length_cons, List.length_nil, Nat.reduceAdd, Nat.reduceSub, Array.replicate_succ, Array.replicate_zero, List.push_toArray, List.append_toArray, List.nil_append, List.cons_append]
  gi_wp2_with fail
  gi_loopw [3] (fun i wr => ∃ j : Nat, i = .int .i64 j ∧ j ≤ l.length ∧ Below w.heap.size w wr ∧ (List.range j).all (okAt l) = true) (fun i _ => l.length - (intOf i).toNat)
  case atStart => exact ⟨0, rfl, Nat.zero_le _, Below.refl _ _, rfl⟩
  case round =>
    obtain ⟨j, rfl, hj, hb, ht⟩ := hrel
    have HB := Lib.hid hb
    have HT := Lib.hid ht
    clear hb ht
    rcases Nat.lt_or_ge j l.length with hlt | hge
    · have hsw := HS.out.below HB.out
      obtain ⟨g, off, rfl, hzg, hrow⟩ := hsw.row hlt
      obtain ⟨a0, ha0⟩ : ∃ a0, a0 = l[j] := ⟨_, rfl⟩
      have hcj := hrow j hlt
      rw [← ha0] at hcj
      have HA0 := Lib.hid ha0
      have HLI := Lib.hid (fun (W : World) (hb : Below wr.heap.size wr W) => (hsw.lies a0 (by rw [ha0]; exact List.getElem_mem _)).below hb)
      have HFI := Lib.hid (hsw.fits a0 (by rw [ha0]; exact List.getElem_mem _))
      have HROW := Lib.hid hrow
      have hj0 : (0 : Int) ≤ (j : Int) := by omega
      have hjl : (j : Int) < (l.length : Int) := by omega
      clear ha0 hrow hsw
      obtain ⟨k0, k1, k2, k3, k4, k5⟩ := hcj
      cases hr : rightA a0 with
      | false =>
        have HE : Hid (okAt l j = false) := Lib.hid (by unfold okAt; rw [List.getElem?_eq_getElem hlt, ← HA0.out]; simp [hr])
        have HR := Lib.hid hr
        clear hr
        gi_wp2_with fail
        generalize hops : (#[_, _, _, _, _, _, _, _, _, _, _, _, _, _, _, _, _, _, _, _, _, _, _, _] : Array Oper) = ops
        refine wpIn_region_inv_tail 23 (fun i => match i with | 0 => .slice (some ⟨g, off, none⟩) l.length c | 1 => .int .i64 (j : Int) | 2 => .pointer (some ⟨g, off + j * 6, none⟩) | 3 => a0.val | 4 => .bool false | 5 => .bool true | 6 => .bool true | _ => undef)
          (fun _ Wy => Below wr.heap.size wr Wy) (by kernel_rfl) (by rw [← hops]; kernel_rfl) (by rw [← hops]; kernel_rfl) (by rw [← hops]; kernel_rfl) (by rw [← hops]; decide) (by rw [← hops]; kernel_rfl) ((Below.refl _ _).drew) ?step ?tail
        case step =>
          intro i o listed a Wy ho hs hu hall ha hi hy hlt
          have old0 : a.eval (.tmp 0) = .slice (some ⟨g, off, none⟩) l.length c := by rw [ha.eval_old (noDst_spec (by rw [← hops]; kernel_rfl))]; rfl
          have old3 : a.eval (.tmp 3) = .int .i64 (j : Int) := by rw [ha.eval_old (noDst_spec (by rw [← hops]; kernel_rfl))]; rfl
          have hcase : i = 0 ∨ i = 1 ∨ i = 2 ∨ i = 3 ∨ i = 4 ∨ i = 5 ∨ i = 6 ∨ i = 7 ∨ i = 8 ∨ i = 9 ∨ i = 10 ∨ i = 11 ∨ i = 12 ∨ i = 13 ∨ i = 14 ∨ i = 15 ∨ i = 16 ∨ i = 17 ∨ i = 18 ∨ i = 19 ∨ i = 20 ∨ i = 21 ∨ i = 22 := by omega
          rcases hcase with rfl | rfl | rfl | rfl | rfl | rfl | rfl | rfl | rfl | rfl | rfl | rfl | rfl | rfl | rfl | rfl | rfl | rfl | rfl | rfl | rfl | rfl | rfl
          all_goals (have ho' := ho; rw [← hops] at ho'; simp only [List.getElem?_toArray, List.getElem?_cons_zero, List.getElem?_cons_succ, Option.some.injEq] at ho'; subst ho')
          · refine step_none rfl ?_
            refine opIn_value wideAt_plain (fun c h => by cases h) (v := .slice (some ⟨g, off, none⟩) l.length c) (W' := Wy) ?_ ⟨rfl, hi⟩
            simp only [execOp, old0]
            simp only [Sem.run_pure]
          · refine step_none rfl ?_
            refine opIn_value wideAt_plain (fun c h => by cases h) (v := .int .i64 (j : Int)) (W' := Wy) ?_ ⟨rfl, hi⟩
            simp only [execOp, old3]
            simp only [Sem.run_pure]
          · refine step_none rfl ?_
            have h10 : a.eval (.tmp 10) = .slice (some ⟨g, off, none⟩) l.length c := ha.eval_got (j := 0) (by rw [← hops]; rfl) rfl (hall ⟨0, .data⟩ (by simp) rfl)
            have h11 : a.eval (.tmp 11) = .int .i64 (j : Int) := ha.eval_got (j := 1) (by rw [← hops]; rfl) rfl (hall ⟨1, .data⟩ (by simp) rfl)
            refine opIn_value wideAt_plain (fun c h => by cases h) (v := .pointer (some ⟨g, off + j * 6, none⟩)) (W' := Wy) ?_ ⟨rfl, hi⟩
            simp only [execOp, h10, h11]
            simp [go_sem, hjl, hj0] <;> (intro h; exfalso; first | omega | (have := h (by omega); omega) | (subst h; simp at hlt))
          · refine step_none rfl ?_
            have h12 : a.eval (.tmp 12) = .pointer (some ⟨g, off + j * 6, none⟩) := ha.eval_got (j := 2) (by rw [← hops]; rfl) rfl (hall ⟨2, .data⟩ (by simp) rfl)
            refine opIn_value wideAt_plain (fun c h => by cases h) (v := a0.val) (W' := Wy) ?_ ⟨rfl, hi⟩
            simp only [execOp, h12]
            simp [go_sem, rdCell hi g hzg, k0, k1, k2, k3, k4, k5]
          · refine step_none rfl ?_
            have h13 : a.eval (.tmp 13) = a0.val := ha.eval_got (j := 3) (by rw [← hops]; rfl) rfl (hall ⟨3, .data⟩ (by simp) rfl)
            refine opIn_call wideAt_plain (fun c h => by cases h) (f := 15) (args := #[a0.val]) (W' := Wy) ?_ (rRight_any a0 Wy (HLI.out Wy hi) HFI.out) ?_
            · simp only [execOp, h13]
              simp [go_sem]
              simpa [Act.eval] using h13
            · rintro e W1 ⟨rfl, hb⟩
              exact ⟨_, rfl, by rw [HR.out]; rfl, below_own' hi hb⟩
          · refine step_none rfl ?_
            have h14 : a.eval (.tmp 14) = .bool false := ha.eval_got (j := 4) (by rw [← hops]; rfl) rfl (hall ⟨4, .data⟩ (by simp) rfl)
            refine opIn_value wideAt_plain (fun c h => by cases h) (v := .bool true) (W' := Wy) ?_ ⟨rfl, hi⟩
            simp only [execOp, h14]
            simp [go_sem]
          · refine step_none rfl ?_
            have h15 : a.eval (.tmp 15) = .bool true := ha.eval_got (j := 5) (by rw [← hops]; rfl) rfl (hall ⟨5, .data⟩ (by simp) rfl)
            refine opIn_value wideAt_plain (fun c h => by cases h) (v := .bool true) (W' := Wy) ?_ ⟨rfl, hi⟩
            simp only [execOp, h15]
            simp only [Sem.run_pure]
          · refine step_no rfl (hy 6 (hall ⟨6, .guard⟩ (by simp) rfl) ⟨_, _, by rw [← hops]; rfl, rfl⟩) ⟨fun _ _ => trivial, rfl, ?_⟩
            exact hi
          · refine step_no rfl (hy 6 (hall ⟨6, .guard⟩ (by simp) rfl) ⟨_, _, by rw [← hops]; rfl, rfl⟩) ⟨fun _ _ => trivial, rfl, ?_⟩
            exact hi
          · refine step_no rfl (hy 6 (hall ⟨6, .guard⟩ (by simp) rfl) ⟨_, _, by rw [← hops]; rfl, rfl⟩) ⟨fun _ _ => trivial, rfl, ?_⟩
            exact hi
          · refine step_undef rfl (hy 9 (hall ⟨9, .guard⟩ (by simp) rfl) ⟨_, _, by rw [← hops]; rfl, rfl⟩) ⟨fun _ _ => trivial, rfl, ?_⟩
            exact hi
          · refine step_undef rfl (hy 9 (hall ⟨9, .guard⟩ (by simp) rfl) ⟨_, _, by rw [← hops]; rfl, rfl⟩) ⟨fun _ _ => trivial, rfl, ?_⟩
            exact hi
          · refine step_undef rfl (hy 9 (hall ⟨9, .guard⟩ (by simp) rfl) ⟨_, _, by rw [← hops]; rfl, rfl⟩) ⟨fun _ _ => trivial, rfl, ?_⟩
            exact hi
          · refine step_undef rfl (hy 9 (hall ⟨9, .guard⟩ (by simp) rfl) ⟨_, _, by rw [← hops]; rfl, rfl⟩) ⟨fun _ _ => trivial, rfl, ?_⟩
            exact hi
          · refine step_undef rfl (hy 9 (hall ⟨9, .guard⟩ (by simp) rfl) ⟨_, _, by rw [← hops]; rfl, rfl⟩) ⟨fun _ _ => trivial, rfl, ?_⟩
            exact hi
          · refine step_undef rfl (hy 9 (hall ⟨9, .guard⟩ (by simp) rfl) ⟨_, _, by rw [← hops]; rfl, rfl⟩) ⟨fun _ _ => trivial, rfl, ?_⟩
            exact hi
          · refine step_undef rfl (hy 9 (hall ⟨9, .guard⟩ (by simp) rfl) ⟨_, _, by rw [← hops]; rfl, rfl⟩) ⟨fun _ _ => trivial, rfl, ?_⟩
            exact hi
          · refine step_undef rfl (hy 9 (hall ⟨9, .guard⟩ (by simp) rfl) ⟨_, _, by rw [← hops]; rfl, rfl⟩) ⟨fun _ _ => trivial, rfl, ?_⟩
            exact hi
          · refine step_undef rfl (hy 9 (hall ⟨9, .guard⟩ (by simp) rfl) ⟨_, _, by rw [← hops]; rfl, rfl⟩) ⟨fun _ _ => trivial, rfl, ?_⟩
            exact hi
          · refine step_undef rfl (hy 9 (hall ⟨9, .guard⟩ (by simp) rfl) ⟨_, _, by rw [← hops]; rfl, rfl⟩) ⟨fun _ _ => trivial, rfl, ?_⟩
            exact hi
          · refine step_undef rfl (hy 9 (hall ⟨9, .guard⟩ (by simp) rfl) ⟨_, _, by rw [← hops]; rfl, rfl⟩) ⟨fun _ _ => trivial, rfl, ?_⟩
            exact hi
          · refine step_undef rfl (hy 9 (hall ⟨9, .guard⟩ (by simp) rfl) ⟨_, _, by rw [← hops]; rfl, rfl⟩) ⟨fun _ _ => trivial, rfl, ?_⟩
            exact hi
          · refine step_no rfl (hy 6 (hall ⟨6, .guard⟩ (by simp) rfl) ⟨_, _, by rw [← hops]; rfl, rfl⟩) ⟨fun _ _ => trivial, rfl, ?_⟩
            exact hi
        case tail =>
          intro Wz hz
          subst hops
          simp only [frameOf, Act.put, Option.bind_some, List.getElem?_toArray, List.getElem?_cons_zero, List.getElem?_cons_succ, List.setIfInBounds_toArray, List.set_cons_zero, List.set_cons_succ, List.drop_succ_cons, List.drop_zero]
          have HZ := Lib.hid hz
          clear hz
          gi_wp2_with fail
          go_ret
          have hrl : rightL l = false := by unfold rightL; rw [all_range_false hlt HE.out]; simp
          exact ⟨by rw [hrl]; rfl, below_own' HB.out HZ.out⟩
      | true =>
        have HR := Lib.hid hr
        cases j with
        | zero =>
          have HE : Hid (okAt l 0 = true) := Lib.hid (by unfold okAt; rw [List.getElem?_eq_getElem hlt, ← HA0.out]; simp [hr])
          clear hr
          simp only [Nat.zero_mul, Nat.add_zero] at k0 k1 k2 k3 k4 k5
          gi_wp2_with fail
          generalize hops : (#[_, _, _, _, _, _, _, _, _, _, _, _, _, _, _, _, _, _, _, _, _, _, _, _] : Array Oper) = ops
          refine wpIn_region_inv_tail 23 (fun i => match i with | 0 => .slice (some ⟨g, off, none⟩) l.length c | 1 => .int .i64 ((0 : Nat) : Int) | 2 => .pointer (some ⟨g, off, none⟩) | 3 => a0.val | 4 => .bool true | 5 => .bool false | 6 => .bool false | 7 => .int .i64 ((0 : Nat) : Int) | 8 => .bool false | 9 => .bool false | 22 => .bool false | _ => undef)
            (fun _ Wy => Below wr.heap.size wr Wy) (by kernel_rfl) (by rw [← hops]; kernel_rfl) (by rw [← hops]; kernel_rfl) (by rw [← hops]; kernel_rfl) (by rw [← hops]; decide) (by rw [← hops]; kernel_rfl) ((Below.refl _ _).drew) ?step ?tail
          case step =>
            intro i o listed a Wy ho hs hu hall ha hi hy hlt
            have old0 : a.eval (.tmp 0) = .slice (some ⟨g, off, none⟩) l.length c := by rw [ha.eval_old (noDst_spec (by rw [← hops]; kernel_rfl))]; rfl
            have old3 : a.eval (.tmp 3) = .int .i64 ((0 : Nat) : Int) := by rw [ha.eval_old (noDst_spec (by rw [← hops]; kernel_rfl))]; rfl
            have hcase : i = 0 ∨ i = 1 ∨ i = 2 ∨ i = 3 ∨ i = 4 ∨ i = 5 ∨ i = 6 ∨ i = 7 ∨ i = 8 ∨ i = 9 ∨ i = 10 ∨ i = 11 ∨ i = 12 ∨ i = 13 ∨ i = 14 ∨ i = 15 ∨ i = 16 ∨ i = 17 ∨ i = 18 ∨ i = 19 ∨ i = 20 ∨ i = 21 ∨ i = 22 := by omega
            rcases hcase with rfl | rfl | rfl | rfl | rfl | rfl | rfl | rfl | rfl | rfl | rfl | rfl | rfl | rfl | rfl | rfl | rfl | rfl | rfl | rfl | rfl | rfl | rfl
            all_goals (have ho' := ho; rw [← hops] at ho'; simp only [List.getElem?_toArray, List.getElem?_cons_zero, List.getElem?_cons_succ, Option.some.injEq] at ho'; subst ho')
            · refine step_none rfl ?_
              refine opIn_value wideAt_plain (fun c h => by cases h) (v := .slice (some ⟨g, off, none⟩) l.length c) (W' := Wy) ?_ ⟨rfl, hi⟩
              simp only [execOp, old0]
              simp only [Sem.run_pure]
            · refine step_none rfl ?_
              refine opIn_value wideAt_plain (fun c h => by cases h) (v := .int .i64 ((0 : Nat) : Int)) (W' := Wy) ?_ ⟨rfl, hi⟩
              simp only [execOp, old3]
              simp only [Sem.run_pure]
            · refine step_none rfl ?_
              have h10 : a.eval (.tmp 10) = .slice (some ⟨g, off, none⟩) l.length c := ha.eval_got (j := 0) (by rw [← hops]; rfl) rfl (hall ⟨0, .data⟩ (by simp) rfl)
              have h11 : a.eval (.tmp 11) = .int .i64 ((0 : Nat) : Int) := ha.eval_got (j := 1) (by rw [← hops]; rfl) rfl (hall ⟨1, .data⟩ (by simp) rfl)
              refine opIn_value wideAt_plain (fun c h => by cases h) (v := .pointer (some ⟨g, off, none⟩)) (W' := Wy) ?_ ⟨rfl, hi⟩
              simp only [execOp, h10, h11]
              simp [go_sem, hjl, hj0] <;> (intro h; exfalso; first | omega | (have := h (by omega); omega) | (subst h; simp at hlt))
            · refine step_none rfl ?_
              have h12 : a.eval (.tmp 12) = .pointer (some ⟨g, off, none⟩) := ha.eval_got (j := 2) (by rw [← hops]; rfl) rfl (hall ⟨2, .data⟩ (by simp) rfl)
              refine opIn_value wideAt_plain (fun c h => by cases h) (v := a0.val) (W' := Wy) ?_ ⟨rfl, hi⟩
              simp only [execOp, h12]
              simp [go_sem, rdCell hi g hzg, k0, k1, k2, k3, k4, k5]
            · refine step_none rfl ?_
              have h13 : a.eval (.tmp 13) = a0.val := ha.eval_got (j := 3) (by rw [← hops]; rfl) rfl (hall ⟨3, .data⟩ (by simp) rfl)
              refine opIn_call wideAt_plain (fun c h => by cases h) (f := 15) (args := #[a0.val]) (W' := Wy) ?_ (rRight_any a0 Wy (HLI.out Wy hi) HFI.out) ?_
              · simp only [execOp, h13]
                simp [go_sem]
                simpa [Act.eval] using h13
              · rintro e W1 ⟨rfl, hb⟩
                exact ⟨_, rfl, by rw [HR.out]; rfl, below_own' hi hb⟩
            · refine step_none rfl ?_
              have h14 : a.eval (.tmp 14) = .bool true := ha.eval_got (j := 4) (by rw [← hops]; rfl) rfl (hall ⟨4, .data⟩ (by simp) rfl)
              refine opIn_value wideAt_plain (fun c h => by cases h) (v := .bool false) (W' := Wy) ?_ ⟨rfl, hi⟩
              simp only [execOp, h14]
              simp [go_sem]
            · refine step_none rfl ?_
              have h15 : a.eval (.tmp 15) = .bool false := ha.eval_got (j := 5) (by rw [← hops]; rfl) rfl (hall ⟨5, .data⟩ (by simp) rfl)
              refine opIn_value wideAt_plain (fun c h => by cases h) (v := .bool false) (W' := Wy) ?_ ⟨rfl, hi⟩
              simp only [execOp, h15]
              simp only [Sem.run_pure]
            · refine step_yes rfl (hy 6 (hall ⟨6, .guard⟩ (by simp) rfl) ⟨_, _, by rw [← hops]; rfl, rfl⟩) ?_
              refine opIn_value wideAt_plain (fun c h => by cases h) (v := .int .i64 ((0 : Nat) : Int)) (W' := Wy) ?_ ⟨rfl, hi⟩
              simp only [execOp, old3]
              simp only [Sem.run_pure]
            · refine step_yes rfl (hy 6 (hall ⟨6, .guard⟩ (by simp) rfl) ⟨_, _, by rw [← hops]; rfl, rfl⟩) ?_
              have h17 : a.eval (.tmp 17) = .int .i64 ((0 : Nat) : Int) := ha.eval_got (j := 7) (by rw [← hops]; rfl) rfl (hall ⟨7, .data⟩ (by simp) rfl)
              refine opIn_value wideAt_plain (fun c h => by cases h) (v := .bool false) (W' := Wy) ?_ ⟨rfl, hi⟩
              simp only [execOp, h17]
              simp [go_sem]
            · refine step_yes rfl (hy 6 (hall ⟨6, .guard⟩ (by simp) rfl) ⟨_, _, by rw [← hops]; rfl, rfl⟩) ?_
              have h18 : a.eval (.tmp 18) = .bool false := ha.eval_got (j := 8) (by rw [← hops]; rfl) rfl (hall ⟨8, .data⟩ (by simp) rfl)
              refine opIn_value wideAt_plain (fun c h => by cases h) (v := .bool false) (W' := Wy) ?_ ⟨rfl, hi⟩
              simp only [execOp, h18]
              simp only [Sem.run_pure]
            · refine step_no rfl (hy 9 (hall ⟨9, .guard⟩ (by simp) rfl) ⟨_, _, by rw [← hops]; rfl, rfl⟩) ⟨fun _ _ => trivial, rfl, ?_⟩
              exact hi
            · refine step_no rfl (hy 9 (hall ⟨9, .guard⟩ (by simp) rfl) ⟨_, _, by rw [← hops]; rfl, rfl⟩) ⟨fun _ _ => trivial, rfl, ?_⟩
              exact hi
            · refine step_no rfl (hy 9 (hall ⟨9, .guard⟩ (by simp) rfl) ⟨_, _, by rw [← hops]; rfl, rfl⟩) ⟨fun _ _ => trivial, rfl, ?_⟩
              exact hi
            · refine step_no rfl (hy 9 (hall ⟨9, .guard⟩ (by simp) rfl) ⟨_, _, by rw [← hops]; rfl, rfl⟩) ⟨fun _ _ => trivial, rfl, ?_⟩
              exact hi
            · refine step_no rfl (hy 9 (hall ⟨9, .guard⟩ (by simp) rfl) ⟨_, _, by rw [← hops]; rfl, rfl⟩) ⟨fun _ _ => trivial, rfl, ?_⟩
              exact hi
            · refine step_no rfl (hy 9 (hall ⟨9, .guard⟩ (by simp) rfl) ⟨_, _, by rw [← hops]; rfl, rfl⟩) ⟨fun _ _ => trivial, rfl, ?_⟩
              exact hi
            · refine step_no rfl (hy 9 (hall ⟨9, .guard⟩ (by simp) rfl) ⟨_, _, by rw [← hops]; rfl, rfl⟩) ⟨fun _ _ => trivial, rfl, ?_⟩
              exact hi
            · refine step_no rfl (hy 9 (hall ⟨9, .guard⟩ (by simp) rfl) ⟨_, _, by rw [← hops]; rfl, rfl⟩) ⟨fun _ _ => trivial, rfl, ?_⟩
              exact hi
            · refine step_no rfl (hy 9 (hall ⟨9, .guard⟩ (by simp) rfl) ⟨_, _, by rw [← hops]; rfl, rfl⟩) ⟨fun _ _ => trivial, rfl, ?_⟩
              exact hi
            · refine step_no rfl (hy 9 (hall ⟨9, .guard⟩ (by simp) rfl) ⟨_, _, by rw [← hops]; rfl, rfl⟩) ⟨fun _ _ => trivial, rfl, ?_⟩
              exact hi
            · refine step_no rfl (hy 9 (hall ⟨9, .guard⟩ (by simp) rfl) ⟨_, _, by rw [← hops]; rfl, rfl⟩) ⟨fun _ _ => trivial, rfl, ?_⟩
              exact hi
            · refine step_no rfl (hy 9 (hall ⟨9, .guard⟩ (by simp) rfl) ⟨_, _, by rw [← hops]; rfl, rfl⟩) ⟨fun _ _ => trivial, rfl, ?_⟩
              exact hi
            · refine step_yes rfl (hy 6 (hall ⟨6, .guard⟩ (by simp) rfl) ⟨_, _, by rw [← hops]; rfl, rfl⟩) ?_
              have h19 : a.eval (.tmp 19) = .bool false := ha.eval_got (j := 9) (by rw [← hops]; rfl) rfl (hall ⟨9, .data⟩ (by simp) rfl)
              have h31 : True := trivial
              refine opIn_value wideAt_plain (fun c h => by cases h) (v := .bool false) (W' := Wy) ?_ ⟨rfl, hi⟩
              simp only [execOp, h19]
              simp [go_sem]
          case tail =>
            intro Wz hz
            subst hops
            simp only [frameOf, Act.put, Option.bind_some, List.getElem?_toArray, List.getElem?_cons_zero, List.getElem?_cons_succ, List.setIfInBounds_toArray, List.set_cons_zero, List.set_cons_succ, List.drop_succ_cons, List.drop_zero]
            have HZ := Lib.hid hz
            clear hz
            gi_wp2_with fail
            go_roundw
            case rel => exact ⟨1, by go_num, by omega, below_own' HB.out HZ.out, by rw [all_range_succ, HT.out, HE.out]; rfl⟩
            case measure => simp [intOf]; omega
        | succ k =>
          have hkl' : k < l.length := by omega
          obtain ⟨b0, hb0⟩ : ∃ b0, b0 = l[k] := ⟨_, rfl⟩
          have hprev := (HROW.out k hkl').c0
          rw [← hb0] at hprev
          have hkl : ((k : Int) < (l.length : Int)) := by omega
          have hk0 : (0 : Int) ≤ (k : Int) := by omega
          have HE : Hid (okAt l (k + 1) = nmLt b0.name a0.name) := Lib.hid (by unfold okAt; rw [List.getElem?_eq_getElem hlt, ← HA0.out]; simp [hr, List.getElem?_eq_getElem hkl', hb0])
          clear hr hb0
          gi_wp2_with fail
          generalize hops : (#[_, _, _, _, _, _, _, _, _, _, _, _, _, _, _, _, _, _, _, _, _, _, _, _] : Array Oper) = ops
          refine wpIn_region_inv_tail 23 (fun i => match i with | 0 => .slice (some ⟨g, off, none⟩) l.length c | 1 => .int .i64 ((k + 1 : Nat) : Int) | 2 => .pointer (some ⟨g, off + (k + 1) * 6, none⟩) | 3 => a0.val | 4 => .bool true | 5 => .bool false | 6 => .bool false | 7 => .int .i64 ((k + 1 : Nat) : Int) | 8 => .bool true | 9 => .bool true | 10 => .slice (some ⟨g, off, none⟩) l.length c | 11 => .int .i64 ((k + 1 : Nat) : Int) | 12 => .int .i64 (k : Int) | 13 => .pointer (some ⟨g, off + k * 6, none⟩) | 14 => .pointer (some ⟨g, off + k * 6, none⟩) | 15 => .string b0.name | 16 => .slice (some ⟨g, off, none⟩) l.length c | 17 => .int .i64 ((k + 1 : Nat) : Int) | 18 => .pointer (some ⟨g, off + (k + 1) * 6, none⟩) | 19 => .pointer (some ⟨g, off + (k + 1) * 6, none⟩) | 20 => .string a0.name | 21 => .bool (!nmLt b0.name a0.name) | 22 => .bool (!nmLt b0.name a0.name) | _ => undef)
            (fun _ Wy => Below wr.heap.size wr Wy) (by kernel_rfl) (by rw [← hops]; kernel_rfl) (by rw [← hops]; kernel_rfl) (by rw [← hops]; kernel_rfl) (by rw [← hops]; decide) (by rw [← hops]; kernel_rfl) ((Below.refl _ _).drew) ?step ?tail
          case step =>
            intro i o listed a Wy ho hs hu hall ha hi hy hlt
            have old0 : a.eval (.tmp 0) = .slice (some ⟨g, off, none⟩) l.length c := by rw [ha.eval_old (noDst_spec (by rw [← hops]; kernel_rfl))]; rfl
            have old3 : a.eval (.tmp 3) = .int .i64 ((k + 1 : Nat) : Int) := by rw [ha.eval_old (noDst_spec (by rw [← hops]; kernel_rfl))]; rfl
            have hcase : i = 0 ∨ i = 1 ∨ i = 2 ∨ i = 3 ∨ i = 4 ∨ i = 5 ∨ i = 6 ∨ i = 7 ∨ i = 8 ∨ i = 9 ∨ i = 10 ∨ i = 11 ∨ i = 12 ∨ i = 13 ∨ i = 14 ∨ i = 15 ∨ i = 16 ∨ i = 17 ∨ i = 18 ∨ i = 19 ∨ i = 20 ∨ i = 21 ∨ i = 22 := by omega
            rcases hcase with rfl | rfl | rfl | rfl | rfl | rfl | rfl | rfl | rfl | rfl | rfl | rfl | rfl | rfl | rfl | rfl | rfl | rfl | rfl | rfl | rfl | rfl | rfl
            all_goals (have ho' := ho; rw [← hops] at ho'; simp only [List.getElem?_toArray, List.getElem?_cons_zero, List.getElem?_cons_succ, Option.some.injEq] at ho'; subst ho')
            · refine step_none rfl ?_
              refine opIn_value wideAt_plain (fun c h => by cases h) (v := .slice (some ⟨g, off, none⟩) l.length c) (W' := Wy) ?_ ⟨rfl, hi⟩
              simp only [execOp, old0]
              simp only [Sem.run_pure]
            · refine step_none rfl ?_
              refine opIn_value wideAt_plain (fun c h => by cases h) (v := .int .i64 ((k + 1 : Nat) : Int)) (W' := Wy) ?_ ⟨rfl, hi⟩
              simp only [execOp, old3]
              simp only [Sem.run_pure]
            · refine step_none rfl ?_
              have h10 : a.eval (.tmp 10) = .slice (some ⟨g, off, none⟩) l.length c := ha.eval_got (j := 0) (by rw [← hops]; rfl) rfl (hall ⟨0, .data⟩ (by simp) rfl)
              have h11 : a.eval (.tmp 11) = .int .i64 ((k + 1 : Nat) : Int) := ha.eval_got (j := 1) (by rw [← hops]; rfl) rfl (hall ⟨1, .data⟩ (by simp) rfl)
              refine opIn_value wideAt_plain (fun c h => by cases h) (v := .pointer (some ⟨g, off + (k + 1) * 6, none⟩)) (W' := Wy) ?_ ⟨rfl, hi⟩
              simp only [execOp, h10, h11]
              simp [go_sem, hjl, hj0] <;> (intro h; exfalso; first | omega | (have := h (by omega); omega) | (subst h; simp at hlt))
            · refine step_none rfl ?_
              have h12 : a.eval (.tmp 12) = .pointer (some ⟨g, off + (k + 1) * 6, none⟩) := ha.eval_got (j := 2) (by rw [← hops]; rfl) rfl (hall ⟨2, .data⟩ (by simp) rfl)
              refine opIn_value wideAt_plain (fun c h => by cases h) (v := a0.val) (W' := Wy) ?_ ⟨rfl, hi⟩
              simp only [execOp, h12]
              simp [go_sem, rdCell hi g hzg, k0, k1, k2, k3, k4, k5]
            · refine step_none rfl ?_
              have h13 : a.eval (.tmp 13) = a0.val := ha.eval_got (j := 3) (by rw [← hops]; rfl) rfl (hall ⟨3, .data⟩ (by simp) rfl)
              refine opIn_call wideAt_plain (fun c h => by cases h) (f := 15) (args := #[a0.val]) (W' := Wy) ?_ (rRight_any a0 Wy (HLI.out Wy hi) HFI.out) ?_
              · simp only [execOp, h13]
                simp [go_sem]
                simpa [Act.eval] using h13
              · rintro e W1 ⟨rfl, hb⟩
                exact ⟨_, rfl, by rw [HR.out]; rfl, below_own' hi hb⟩
            · refine step_none rfl ?_
              have h14 : a.eval (.tmp 14) = .bool true := ha.eval_got (j := 4) (by rw [← hops]; rfl) rfl (hall ⟨4, .data⟩ (by simp) rfl)
              refine opIn_value wideAt_plain (fun c h => by cases h) (v := .bool false) (W' := Wy) ?_ ⟨rfl, hi⟩
              simp only [execOp, h14]
              simp [go_sem]
            · refine step_none rfl ?_
              have h15 : a.eval (.tmp 15) = .bool false := ha.eval_got (j := 5) (by rw [← hops]; rfl) rfl (hall ⟨5, .data⟩ (by simp) rfl)
              refine opIn_value wideAt_plain (fun c h => by cases h) (v := .bool false) (W' := Wy) ?_ ⟨rfl, hi⟩
              simp only [execOp, h15]
              simp only [Sem.run_pure]
            · refine step_yes rfl (hy 6 (hall ⟨6, .guard⟩ (by simp) rfl) ⟨_, _, by rw [← hops]; rfl, rfl⟩) ?_
              refine opIn_value wideAt_plain (fun c h => by cases h) (v := .int .i64 ((k + 1 : Nat) : Int)) (W' := Wy) ?_ ⟨rfl, hi⟩
              simp only [execOp, old3]
              simp only [Sem.run_pure]
            · refine step_yes rfl (hy 6 (hall ⟨6, .guard⟩ (by simp) rfl) ⟨_, _, by rw [← hops]; rfl, rfl⟩) ?_
              have h17 : a.eval (.tmp 17) = .int .i64 ((k + 1 : Nat) : Int) := ha.eval_got (j := 7) (by rw [← hops]; rfl) rfl (hall ⟨7, .data⟩ (by simp) rfl)
              refine opIn_value wideAt_plain (fun c h => by cases h) (v := .bool true) (W' := Wy) ?_ ⟨rfl, hi⟩
              simp only [execOp, h17]
              simp [go_sem] <;> omega
            · refine step_yes rfl (hy 6 (hall ⟨6, .guard⟩ (by simp) rfl) ⟨_, _, by rw [← hops]; rfl, rfl⟩) ?_
              have h18 : a.eval (.tmp 18) = .bool true := ha.eval_got (j := 8) (by rw [← hops]; rfl) rfl (hall ⟨8, .data⟩ (by simp) rfl)
              refine opIn_value wideAt_plain (fun c h => by cases h) (v := .bool true) (W' := Wy) ?_ ⟨rfl, hi⟩
              simp only [execOp, h18]
              simp only [Sem.run_pure]
            · refine step_yes rfl (hy 9 (hall ⟨9, .guard⟩ (by simp) rfl) ⟨_, _, by rw [← hops]; rfl, rfl⟩) ?_
              refine opIn_value wideAt_plain (fun c h => by cases h) (v := .slice (some ⟨g, off, none⟩) l.length c) (W' := Wy) ?_ ⟨rfl, hi⟩
              simp only [execOp, old0]
              simp only [Sem.run_pure]
            · refine step_yes rfl (hy 9 (hall ⟨9, .guard⟩ (by simp) rfl) ⟨_, _, by rw [← hops]; rfl, rfl⟩) ?_
              refine opIn_value wideAt_plain (fun c h => by cases h) (v := .int .i64 ((k + 1 : Nat) : Int)) (W' := Wy) ?_ ⟨rfl, hi⟩
              simp only [execOp, old3]
              simp only [Sem.run_pure]
            · refine step_yes rfl (hy 9 (hall ⟨9, .guard⟩ (by simp) rfl) ⟨_, _, by rw [← hops]; rfl, rfl⟩) ?_
              have h21 : a.eval (.tmp 21) = .int .i64 ((k + 1 : Nat) : Int) := ha.eval_got (j := 11) (by rw [← hops]; rfl) rfl (hall ⟨11, .data⟩ (by simp) rfl)
              refine opIn_value wideAt_plain (fun c h => by cases h) (v := .int .i64 (k : Int)) (W' := Wy) ?_ ⟨rfl, hi⟩
              simp only [execOp, h21]
              simp [go_sem]
              exact IntWalk.i64_in _ (by omega)
            · refine step_yes rfl (hy 9 (hall ⟨9, .guard⟩ (by simp) rfl) ⟨_, _, by rw [← hops]; rfl, rfl⟩) ?_
              have h20 : a.eval (.tmp 20) = .slice (some ⟨g, off, none⟩) l.length c := ha.eval_got (j := 10) (by rw [← hops]; rfl) rfl (hall ⟨10, .data⟩ (by simp) rfl)
              have h22 : a.eval (.tmp 22) = .int .i64 (k : Int) := ha.eval_got (j := 12) (by rw [← hops]; rfl) rfl (hall ⟨12, .data⟩ (by simp) rfl)
              refine opIn_value wideAt_plain (fun c h => by cases h) (v := .pointer (some ⟨g, off + k * 6, none⟩)) (W' := Wy) ?_ ⟨rfl, hi⟩
              simp only [execOp, h20, h22]
              simp [go_sem, hkl, hk0] <;> (intro h; exfalso; first | omega | (have := h (by omega); omega) | (subst h; simp at hlt))
            · refine step_yes rfl (hy 9 (hall ⟨9, .guard⟩ (by simp) rfl) ⟨_, _, by rw [← hops]; rfl, rfl⟩) ?_
              have h23 : a.eval (.tmp 23) = .pointer (some ⟨g, off + k * 6, none⟩) := ha.eval_got (j := 13) (by rw [← hops]; rfl) rfl (hall ⟨13, .data⟩ (by simp) rfl)
              refine opIn_value wideAt_plain (fun c h => by cases h) (v := .pointer (some ⟨g, off + k * 6, none⟩)) (W' := Wy) ?_ ⟨rfl, hi⟩
              simp only [execOp, h23]
              simp [go_sem]
            · refine step_yes rfl (hy 9 (hall ⟨9, .guard⟩ (by simp) rfl) ⟨_, _, by rw [← hops]; rfl, rfl⟩) ?_
              have h24 : a.eval (.tmp 24) = .pointer (some ⟨g, off + k * 6, none⟩) := ha.eval_got (j := 14) (by rw [← hops]; rfl) rfl (hall ⟨14, .data⟩ (by simp) rfl)
              refine opIn_value wideAt_plain (fun c h => by cases h) (v := .string b0.name) (W' := Wy) ?_ ⟨rfl, hi⟩
              simp only [execOp, h24]
              simp [go_sem, rdCell hi g hzg, hprev]
            · refine step_yes rfl (hy 9 (hall ⟨9, .guard⟩ (by simp) rfl) ⟨_, _, by rw [← hops]; rfl, rfl⟩) ?_
              refine opIn_value wideAt_plain (fun c h => by cases h) (v := .slice (some ⟨g, off, none⟩) l.length c) (W' := Wy) ?_ ⟨rfl, hi⟩
              simp only [execOp, old0]
              simp only [Sem.run_pure]
            · refine step_yes rfl (hy 9 (hall ⟨9, .guard⟩ (by simp) rfl) ⟨_, _, by rw [← hops]; rfl, rfl⟩) ?_
              refine opIn_value wideAt_plain (fun c h => by cases h) (v := .int .i64 ((k + 1 : Nat) : Int)) (W' := Wy) ?_ ⟨rfl, hi⟩
              simp only [execOp, old3]
              simp only [Sem.run_pure]
            · refine step_yes rfl (hy 9 (hall ⟨9, .guard⟩ (by simp) rfl) ⟨_, _, by rw [← hops]; rfl, rfl⟩) ?_
              have h26 : a.eval (.tmp 26) = .slice (some ⟨g, off, none⟩) l.length c := ha.eval_got (j := 16) (by rw [← hops]; rfl) rfl (hall ⟨16, .data⟩ (by simp) rfl)
              have h27 : a.eval (.tmp 27) = .int .i64 ((k + 1 : Nat) : Int) := ha.eval_got (j := 17) (by rw [← hops]; rfl) rfl (hall ⟨17, .data⟩ (by simp) rfl)
              refine opIn_value wideAt_plain (fun c h => by cases h) (v := .pointer (some ⟨g, off + (k + 1) * 6, none⟩)) (W' := Wy) ?_ ⟨rfl, hi⟩
              simp only [execOp, h26, h27]
              simp [go_sem, hjl, hj0] <;> (intro h; exfalso; first | omega | (have := h (by omega); omega) | (subst h; simp at hlt))
            · refine step_yes rfl (hy 9 (hall ⟨9, .guard⟩ (by simp) rfl) ⟨_, _, by rw [← hops]; rfl, rfl⟩) ?_
              have h28 : a.eval (.tmp 28) = .pointer (some ⟨g, off + (k + 1) * 6, none⟩) := ha.eval_got (j := 18) (by rw [← hops]; rfl) rfl (hall ⟨18, .data⟩ (by simp) rfl)
              refine opIn_value wideAt_plain (fun c h => by cases h) (v := .pointer (some ⟨g, off + (k + 1) * 6, none⟩)) (W' := Wy) ?_ ⟨rfl, hi⟩
              simp only [execOp, h28]
              simp [go_sem]
            · refine step_yes rfl (hy 9 (hall ⟨9, .guard⟩ (by simp) rfl) ⟨_, _, by rw [← hops]; rfl, rfl⟩) ?_
              have h29 : a.eval (.tmp 29) = .pointer (some ⟨g, off + (k + 1) * 6, none⟩) := ha.eval_got (j := 19) (by rw [← hops]; rfl) rfl (hall ⟨19, .data⟩ (by simp) rfl)
              refine opIn_value wideAt_plain (fun c h => by cases h) (v := .string a0.name) (W' := Wy) ?_ ⟨rfl, hi⟩
              simp only [execOp, h29]
              simp [go_sem, rdCell hi g hzg, k0, k1, k2, k3, k4, k5]
            · refine step_yes rfl (hy 9 (hall ⟨9, .guard⟩ (by simp) rfl) ⟨_, _, by rw [← hops]; rfl, rfl⟩) ?_
              have h25 : a.eval (.tmp 25) = .string b0.name := ha.eval_got (j := 15) (by rw [← hops]; rfl) rfl (hall ⟨15, .data⟩ (by simp) rfl)
              have h30 : a.eval (.tmp 30) = .string a0.name := ha.eval_got (j := 20) (by rw [← hops]; rfl) rfl (hall ⟨20, .data⟩ (by simp) rfl)
              refine opIn_value wideAt_plain (fun c h => by cases h) (v := .bool (!nmLt b0.name a0.name)) (W' := Wy) ?_ ⟨rfl, hi⟩
              simp only [execOp, h25, h30]
              simp [go_sem, nmLt]
            · refine step_yes rfl (hy 6 (hall ⟨6, .guard⟩ (by simp) rfl) ⟨_, _, by rw [← hops]; rfl, rfl⟩) ?_
              have h19 : a.eval (.tmp 19) = .bool true := ha.eval_got (j := 9) (by rw [← hops]; rfl) rfl (hall ⟨9, .data⟩ (by simp) rfl)
              have h31 : a.eval (.tmp 31) = .bool (!nmLt b0.name a0.name) := ha.eval_got (j := 21) (by rw [← hops]; rfl) rfl (hall ⟨21, .data⟩ (by simp) rfl)
              refine opIn_value wideAt_plain (fun c h => by cases h) (v := .bool (!nmLt b0.name a0.name)) (W' := Wy) ?_ ⟨rfl, hi⟩
              simp only [execOp, h19, h31]
              simp [go_sem]
          case tail =>
            intro Wz hz
            subst hops
            simp only [frameOf, Act.put, Option.bind_some, List.getElem?_toArray, List.getElem?_cons_zero, List.getElem?_cons_succ, List.setIfInBounds_toArray, List.set_cons_zero, List.set_cons_succ, List.drop_succ_cons, List.drop_zero]
            have HZ := Lib.hid hz
            clear hz
            gi_wp2_with fail
            · go_ret
              have hq : nmLt b0.name a0.name = false := by simpa using (by assumption : (!nmLt b0.name a0.name) = true)
              have hrl : rightL l = false := by unfold rightL; rw [all_range_false hlt (by rw [HE.out, hq])]; simp
              exact ⟨by rw [hrl]; rfl, below_own' HB.out HZ.out⟩
            · have hq : nmLt b0.name a0.name = true := by simpa using (by assumption : (!nmLt b0.name a0.name) = false)
              go_roundw
              case rel => exact ⟨k + 2, by go_num, by omega, below_own' HB.out HZ.out, by rw [all_range_succ, HT.out, HE.out, hq]; rfl⟩
              case measure => simp [intOf]; omega
    · obtain rfl : j = l.length := by omega
      have h100 : decide (((l.length : Nat) : Int) ≤ 100) = rightL l := by unfold rightL; rw [HT.out, Bool.and_true, decide_eq_decide]; omega
      have H100 := Lib.hid h100
      clear h100
      gi_wp2_with fail
      go_ret
      exact ⟨by rw [← H100.out]; rfl, HB.out⟩
end Go.Proofs.YtmepjbjmjbpchaaGreatDoor
end
