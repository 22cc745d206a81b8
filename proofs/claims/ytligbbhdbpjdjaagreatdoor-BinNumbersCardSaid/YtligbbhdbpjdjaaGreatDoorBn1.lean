/- Numbers and sums of bytes: the walks. -/
import Derived.Test.YtligbbhdbpjdjaaGreatDoorBn0
import Derived.Test.YtligbbhdbpjdjaaGreatDoorShelf
import Derived.WalkKit
import Derived.WalkSpells
import Derived.BigQuiet
import Derived.Deep.QuietTactic
namespace Go.Proofs.YtligbbhdbpjdjaaGreatDoor
open Go Go.RowKit Go.Sort
set_option linter.unusedVariables false
set_option linter.unusedSimpArgs false

theorem bRdCell {W w1 : World} (hb : Below W.heap.size W w1) (A : Nat) (hA : A < W.heap.size) : ∀ j, w1.cell? ⟨A, j, none⟩ = W.cell? ⟨A, j, none⟩ := fun j => hb.cell (p := ⟨A, j, none⟩) hA
theorem bNext {w W w2 : World} (h : Below w.heap.size w W) (hb : Below W.heap.size W w2) : Below w.heap.size w w2 := h.trans (hb.mono h.size)
theorem bAlloc {w W : World} (h : Below w.heap.size w W) (o : Obj) : Below w.heap.size w (W.alloc o) := h.alloc h.size o
abbrev byteV (b : UInt8) : Value := .int .u8 b.toNat
/-- A slice of bytes that is read. -/
def ByteSl (w : World) (a : Option Addr) (bs : List UInt8) : Prop :=
  bs = [] ∨ ∃ g off, a = some ⟨g, off, none⟩ ∧ g < w.heap.size ∧ ∀ j (hj : j < bs.length), w.cell? ⟨g, off + j, none⟩ = some (byteV bs[j])
theorem ByteSl.below {w w1 : World} {a : Option Addr} {bs : List UInt8} (h : ByteSl w a bs) (hb : Below w.heap.size w w1) : ByteSl w1 a bs := by
  rcases h with h | ⟨g, off, h1, h2, h3⟩
  · exact .inl h
  · exact .inr ⟨g, off, h1, Nat.lt_of_lt_of_le h2 hb.size, fun j hj => (bRdCell hb g h2 (off + j)).trans (h3 j hj)⟩
theorem ByteSl.at {w : World} {a : Option Addr} {bs : List UInt8} (h : ByteSl w a bs) {j : Nat} (hj : j < bs.length) : ∃ g off, a = some ⟨g, off, none⟩ ∧ g < w.heap.size ∧ w.cell? ⟨g, off + j, none⟩ = some (.int .u8 (bs[j]).toNat) := by
  rcases h with rfl | ⟨g, off, h1, h2, h3⟩
  · simp at hj
  · exact ⟨g, off, h1, h2, h3 j hj⟩

def sumStep (out : Int) (c : UInt8) (i : Nat) : Int := (out + (c.toNat : Int) * (((i : Int) + 1) % 4294967296) % 4294967296) % 4294967296
def sumB : List UInt8 → Nat → Int → Int
  | [], _, s => s
  | c :: r, i, s => sumB r (i + 1) (sumStep s c i)

set_option maxRecDepth 100000 in
set_option maxHeartbeats 2000000 in
theorem sum_any (a : Option Addr) (c : Nat) (bs : List UInt8) (w : World) (hs : ByteSl w a bs) (hl : bs.length ≤ 9223372036854775807) :
    Calls Tryz.prog 13 #[.slice a bs.length c] w fun e w' => e = .returned (.int .u32 (sumB bs 0 0)) ∧ w = w' := by
  have HS := Lib.hid hs
  clear hs
  go_enter Tryz.func13, Tryz.ntmps13
  go_wp2_with fail
  go_loop [3, 8] (fun ov iv => ∃ (j : Nat) (so : Int), j ≤ bs.length ∧ iv = .int .i64 j ∧ ov = .int .u32 so ∧ sumB (bs.drop j) j so = sumB bs 0 0) (fun _ iv => bs.length - (intOf iv).toNat)
  case atStart => exact ⟨0, 0, Nat.zero_le _, rfl, rfl, rfl⟩
  case round =>
    obtain ⟨j, so, hj, rfl, rfl, hsum⟩ := hrel
    have HSUM := Lib.hid hsum
    clear hsum
    rcases Nat.lt_or_ge j bs.length with hlt | hge
    · obtain ⟨g, off, rfl, hg, hcell⟩ := HS.out.at hlt
      obtain ⟨x, hx⟩ : ∃ x, x = bs[j] := ⟨_, rfl⟩
      rw [← hx] at hcell
      have hd : bs.drop j = x :: bs.drop (j + 1) := by rw [hx]; exact List.drop_eq_getElem_cons hlt
      have HD := Lib.hid hd
      have hlt' : (j : Int) < (bs.length : Int) := by omega
      have hx256 : (x.toNat : Int) < 256 := by have := x.toNat_lt; omega
      obtain ⟨st, hst⟩ : ∃ st, sumStep so x j = st := ⟨_, rfl⟩
      unfold sumStep at hst
      have HST := Lib.hid hst
      clear hx hd hg hst
      go_wp2_with fail
      go_round
      case rel =>
        refine ⟨j + 1, st, hlt, by simp, ?_, ?_⟩
        · exact congrArg (Value.int .u32) HST.out
        · have h := HSUM.out
          rw [HD.out, sumB] at h
          rw [← h]
          congr 1
          exact HST.out.symm
      case measure => simp [intOf]; omega
    · have hje : j = bs.length := by omega
      subst hje
      go_wp2_with fail
      go_ret
      refine ⟨?_, rfl⟩
      have h := HSUM.out
      rw [List.drop_length, sumB] at h
      exact congrArg (fun x => Ending.returned (.int .u32 x)) h
set_option maxRecDepth 100000 in
set_option maxHeartbeats 2000000 in
theorem rsum_any (a : Option Addr) (c : Nat) (bs : List UInt8) (w : World) (hs : ByteSl w a bs) (hl : bs.length ≤ 9223372036854775807) :
    Calls Tryz.prog 14 #[.slice a bs.length c] w fun e w' => e = .returned (.int .u32 (sumB bs 0 0)) ∧ w = w' := by
  have HS := Lib.hid hs
  clear hs
  go_enter Tryz.func14, Tryz.ntmps14
  go_wp2_with fail
  go_loop [3, 4] (fun ov iv => ∃ (j : Nat) (so : Int), j ≤ bs.length ∧ iv = .int .i64 j ∧ ov = .int .u32 so ∧ sumB (bs.drop j) j so = sumB bs 0 0) (fun _ iv => bs.length - (intOf iv).toNat)
  case atStart => exact ⟨0, 0, Nat.zero_le _, rfl, rfl, rfl⟩
  case round =>
    obtain ⟨j, so, hj, rfl, rfl, hsum⟩ := hrel
    have HSUM := Lib.hid hsum
    clear hsum
    rcases Nat.lt_or_ge j bs.length with hlt | hge
    · obtain ⟨g, off, rfl, hg, hcell⟩ := HS.out.at hlt
      obtain ⟨x, hx⟩ : ∃ x, x = bs[j] := ⟨_, rfl⟩
      rw [← hx] at hcell
      have hd : bs.drop j = x :: bs.drop (j + 1) := by rw [hx]; exact List.drop_eq_getElem_cons hlt
      have HD := Lib.hid hd
      have hlt' : (j : Int) < (bs.length : Int) := by omega
      have hx256 : (x.toNat : Int) < 256 := by have := x.toNat_lt; omega
      obtain ⟨st, hst⟩ : ∃ st, sumStep so x j = st := ⟨_, rfl⟩
      unfold sumStep at hst
      have HST := Lib.hid hst
      clear hx hd hg hst
      go_wp2_with fail
      go_round
      case rel =>
        refine ⟨j + 1, st, hlt, by simp, ?_, ?_⟩
        · exact congrArg (Value.int .u32) HST.out
        · have h := HSUM.out
          rw [HD.out, sumB] at h
          rw [← h]
          congr 1
          exact HST.out.symm
      case measure => simp [intOf]; omega
    · have hje : j = bs.length := by omega
      subst hje
      go_wp2_with fail
      go_ret
      refine ⟨?_, rfl⟩
      have h := HSUM.out
      rw [List.drop_length, sumB] at h
      exact congrArg (fun x => Ending.returned (.int .u32 x)) h

theorem bOwn_slice {W : World} {base : Nat} {e : TypeId} {v : Value} {n : Nat} {xs : List Value} (h : W.ownsRow base e 1 v n xs) : ∃ sa sc, v = .slice sa n sc := by
  rcases h.2 with ⟨h1, h2⟩ | ⟨g, c, cur, h1, -⟩
  · exact ⟨none, 0, by rw [h1, h2]⟩
  · exact ⟨_, _, h1⟩
theorem bOwn_below {W W1 : World} {base : Nat} {e : TypeId} {v : Value} {n : Nat} {xs : List Value} (h : W.ownsRow base e 1 v n xs) (hb : Below W.heap.size W W1) : W1.ownsRow base e 1 v n xs :=
  ⟨h.1, by
    rcases h.2 with h | ⟨g, c, cur, h1, h2, h3, h4⟩
    · exact .inl h
    · exact .inr ⟨g, c, cur, h1, h2, (hb.block g (Array.getElem?_eq_some_iff.1 h3).1).trans h3, h4⟩⟩
theorem bRow {W : World} {b : Nat} {c : Array Value} {t : TypeId} (h : W.heap[b]? = some (.cells c t (0, 0))) : ∀ j, W.cell? ⟨b, j, none⟩ = c[j]? := fun j => cell_of_row W b j c t (0, 0) h
theorem bytes_own {W : World} {base : Nat} {sa : Option Addr} {sc n : Nat} {bs : List UInt8} (h : W.ownsRow base 5 1 (.slice sa n sc) n (bs.map byteV)) : ByteSl W sa bs ∧ bs.length = n := by
  have hln : bs.length = n := by have := h.1; simpa using this
  refine ⟨?_, hln⟩
  rcases h.2 with ⟨h1, h2⟩ | ⟨g, cap, cur, h1, h2, h3, h4, h5, h6, h7⟩
  · exact .inl (List.length_eq_zero_iff.1 (by omega))
  · cases h1
    refine .inr ⟨g, 0, rfl, (Array.getElem?_eq_some_iff.1 h3).1, fun j hj => ?_⟩
    rw [Nat.zero_add, bRow h3]
    have h8 : (cur.toList.take (n * 1))[j]? = some (byteV bs[j]) := by rw [h7]; simp [hj]
    rw [List.getElem?_take_of_lt (by omega)] at h8
    simpa using h8
/-- A call's answer: bytes in memory of its own. -/
def BytesPost (bs : List UInt8) (w : World) (e : Ending) (w' : World) : Prop :=
  Below w.heap.size w w' ∧ ∃ sa sc, e = .returned (.slice sa bs.length sc) ∧ w'.ownsRow w.heap.size 5 1 (.slice sa bs.length sc) bs.length (bs.map byteV)
theorem bytesPost {bs : List UInt8} {w w' : World} {e : Ending} {v : Value} {n : Nat} (hn : bs.length = n) (he : e = .returned v) (h : w'.ownsRow w.heap.size 5 1 v n (bs.map byteV)) (hb : Below w.heap.size w w') : BytesPost bs w e w' := by
  subst hn
  obtain ⟨sa, sc, rfl⟩ := bOwn_slice h
  exact ⟨hb, sa, sc, he, h⟩
set_option maxRecDepth 100000 in
set_option maxHeartbeats 4000000 in
theorem number_b (n : Nat) (hn : n < 18446744073709551616) (w : World) :
    Calls Tryz.prog 5 #[.int .u64 n] w (BytesPost (numB n) w) := by
  have hlen := numB_len64 hn
  have HLEN := Lib.hid hlen
  clear hlen
  obtain ⟨i0, hin, hz0, hz1, hz2⟩ := info_parts (show (Tryz.prog.info? 5).map (fun i => (i.zero, i.size, i.bytes)) = some (some (.int .u8 0), 1, 1) by kernel_rfl)
  go_enter Tryz.func5, Tryz.ntmps5
  go_wp2_with fail
  go_loopw [0, 3] (fun nv ov wr => ∃ (m : Nat) (pre : List UInt8) (sa : Option Addr) (sc : Nat), nv = .int .u64 m ∧ m < 18446744073709551616 ∧ ov = .slice sa pre.length sc ∧ pre ++ numB m = numB n ∧ wr.ownsRow w.heap.size 5 1 (.slice sa pre.length sc) pre.length (pre.map byteV) ∧ Below w.heap.size w wr) (fun nv _ _ => (intOf nv).toNat)
  case atStart => exact ⟨n, [], none, 0, rfl, hn, rfl, rfl, World.ownsRow_nil _ _ _ _, Below.refl _ _⟩
  case round =>
    obtain ⟨m, pre, sa, sc, rfl, hm, rfl, hpre, hown, hbw⟩ := hrel
    have hpl : pre.length ≤ 10 := by have := HLEN.out; rw [← hpre] at this; simp at this; omega
    have HPRE := Lib.hid hpre
    have HOWN := Lib.hid hown
    have HBW := Lib.hid hbw
    have hszw := hbw.size
    clear hpre hown hbw
    rcases Nat.lt_or_ge m 128 with hlt | hge
    · have hlt' : (m : Int) < 128 := by omega
      have hnb := numB_small hlt
      have hmt : (UInt8.ofNat m).toNat = m := by rw [UInt8.toNat_ofNat']; omega
      have HNB := Lib.hid hnb
      have HMT := Lib.hid hmt
      clear hnb hmt
      go_wp2_with (at_builtin; refine wpList_append_own _ rfl _ _ 23 rfl w.heap.size 5 i0 (.int .u8 0) 1 1 Tryz.underlying23 hin hz0 hz1 hz2 rfl (by decide) _ _ _ rfl (HOWN.out.alloc _) ⟨wr.heap.size, 0, none⟩ 1 1 [.int .u8 m] rfl rfl ?c1 ?c2 ?c3 ?c4 ?c5 ?_)
      case c1 =>
        intro t u hj
        match t, hj with
        | 0, hj => simp at hj; subst hj; simp [Addr.add]
      case c2 => intro u hu; simp at hu; subst hu; rfl
      case c3 => unfold maxLen; omega
      case c4 => omega
      case c5 => simp; omega
      intro v' w3 hown' hgrow _
      have HOWN3 := Lib.hid hown'
      have HB3 := Lib.hid ((bAlloc HBW.out (.cells #[.int .u8 m] 5)).grown hgrow (by simp; omega) (fun k hk => (HOWN.out.lt k hk).1))
      clear hown'
      go_wp2_with fail
      go_ret
      refine bytesPost (n := pre.length + 1) (by rw [← HPRE.out, HNB.out]; simp) rfl ?_ HB3.out
      rw [← HPRE.out, HNB.out, List.map_append]
      have h3 := HOWN3.out
      simpa [byteV, HMT.out] using h3
    · have hge' : (128 : Int) ≤ (m : Int) := by omega
      obtain ⟨y, hy⟩ : ∃ y, y = UInt8.ofNat (m % 128 + 128) := ⟨_, rfl⟩
      have hyt : y.toNat = m % 128 + 128 := by rw [hy, UInt8.toNat_ofNat']; omega
      have hnb := numB_big hge
      rw [← hy] at hnb
      have hor : bits .or .u8 ((m : Int) % 256) 128 = (y.toNat : Int) := by
        rw [or128_of (by omega) (by omega), hyt]; omega
      have HNB := Lib.hid hnb
      clear hnb hyt hy
      go_wp2_with (at_builtin; refine wpList_append_own _ rfl _ _ 23 rfl w.heap.size 5 i0 (.int .u8 0) 1 1 Tryz.underlying23 hin hz0 hz1 hz2 rfl (by decide) _ _ _ rfl (HOWN.out.alloc _) ⟨wr.heap.size, 0, none⟩ 1 1 [.int .u8 y.toNat] rfl rfl ?c1 ?c2 ?c3 ?c4 ?c5 ?_)
      case c1 =>
        intro t u hj
        match t, hj with
        | 0, hj => simp at hj; subst hj; simp [Addr.add]
      case c2 => intro u hu; simp at hu; subst hu; rfl
      case c3 => unfold maxLen; omega
      case c4 => omega
      case c5 => simp; omega
      intro v' w3 hown' hgrow _
      obtain ⟨sa', sc', rfl⟩ := bOwn_slice hown'
      have HOWN3 := Lib.hid hown'
      have HB3 := Lib.hid ((bAlloc HBW.out (.cells #[.int .u8 y.toNat] 5)).grown hgrow (by simp; omega) (fun k hk => (HOWN.out.lt k hk).1))
      clear hown' hor
      go_wp2_with fail
      go_roundw
      · refine ⟨m / 128, pre ++ [y], sa', sc', by simp, by omega, by simp, by rw [← HPRE.out, HNB.out]; simp, by simpa [byteV] using HOWN3.out, HB3.out⟩
      · simp [intOf]; omega
end Go.Proofs.YtligbbhdbpjdjaaGreatDoor
