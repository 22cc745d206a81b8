/- Texts of this claim, laid together: Br2. -/
import Derived.BigQuiet
import Derived.Deep.QuietTactic
import Derived.Test.YtmepjbjmjbpchaaGreatDoorMg27
section
/- The reference's Unquote at any string. -/
namespace Go.Proofs.YtmepjbjmjbpchaaGreatDoor
open Go Go.RowKit Go.Sort
set_option linter.unusedVariables false
set_option linter.unusedSimpArgs false

/-- What the reference's Unquote answers: what is read is written so, and what is written is read. -/
def RuPost (s : ByteArray) (w : World) (e : Ending) (w' : World) : Prop :=
  Below w.heap.size w w' ∧ ∃ (t : ByteArray) (n : Nat) (ok : Bool), e = .returned (.tuple #[.string t, .int .i64 (n : Int), .bool ok]) ∧ n ≤ s.size ∧ t.size ≤ s.size ∧ (ok = true → s.data.toList.take n = quoteL t.data.toList ∧ 2 ≤ n) ∧
    (∀ t' r, s.data.toList = quoteL t' ++ r → ok = true ∧ t.data.toList = t' ∧ n = (quoteL t').length)
theorem ru_no {s : ByteArray} {w w' : World} {e : Ending} (hb : Below w.heap.size w w') (he : e = .returned (.tuple #[.string ⟨#[]⟩, .int .i64 0, .bool false])) (h : ∀ t' r, ¬ s.data.toList = quoteL t' ++ r) : RuPost s w e w' :=
  ⟨hb, ⟨#[]⟩, 0, false, he, Nat.zero_le _, Nat.zero_le _, (fun h => by cases h), fun t' r h2 => absurd h2 (h t' r)⟩
/-- The world and what is known at the head of the loop. -/
structure UrI (s : ByteArray) (w : World) (sa : Option Addr) (sc j : Nat) (pre : List UInt8) (wr : World) : Prop where
  row : RowB w sa sc pre wr
  len : pre.length + 1 ≤ j
  sz : j ≤ s.size
  way : ∀ t' r, s.data.toList = quoteL t' ++ r → ∃ t2, t' = pre ++ t2 ∧ s.data.toList.drop j = escL t2 ++ 34 :: r
theorem quote_parts (t r : List UInt8) : quoteL t ++ r = 34 :: (escL t ++ 34 :: r) := by simp [quoteL]
theorem UrI.start {s : ByteArray} {w : World} (h0 : 0 < s.size) : UrI s w none 0 1 [] w :=
  ⟨⟨World.ownsRow_nil _ _ _ _, Below.refl _ _⟩, Nat.le_refl _, h0, fun t' r h => ⟨t', rfl, by rw [h, quote_parts]; rfl⟩⟩
theorem drop_cons {s : ByteArray} {j : Nat} (hj : j < s.size) : s.data.toList.drop j = s[j]'hj :: s.data.toList.drop (j + 1) := by
  have h := bytes_get s j hj
  obtain ⟨h1, h2⟩ := List.getElem?_eq_some_iff.1 h
  rw [← h2]
  exact List.drop_eq_getElem_cons h1
/-- A byte that stands for itself. -/
theorem UrI.plain {s : ByteArray} {w : World} {sa : Option Addr} {sc j : Nat} {pre : List UInt8} {wr : World} (h : UrI s w sa sc j pre wr) (hj : j < s.size) (h34 : (s[j]'hj).toNat ≠ 34) (h92 : (s[j]'hj).toNat ≠ 92) {sa' : Option Addr} {sc' : Nat} {w3 : World} (hr : RowB w sa' sc' (pre ++ [s[j]'hj]) w3) :
    UrI s w sa' sc' (j + 1) (pre ++ [s[j]'hj]) w3 := by
  refine ⟨hr, by have := h.len; simp; omega, hj, fun t' r ht => ?_⟩
  obtain ⟨t2, h1, h2⟩ := h.way t' r ht
  obtain ⟨x, t3, rfl, hx⟩ := esc_step h2 (drop_cons hj) (fun e => h34 (by rw [e]; rfl))
  rcases hx with ⟨-, rfl, h3⟩ | ⟨h3, -⟩
  · exact ⟨t3, by rw [h1]; simp, h3⟩
  · exact absurd (by rw [h3]; rfl) h92
/-- The end of a string with a backslash at its end. -/
theorem UrI.cut {s : ByteArray} {w : World} {sa : Option Addr} {sc j : Nat} {pre : List UInt8} {wr : World} (h : UrI s w sa sc j pre wr) (hj : j < s.size) (h92 : (s[j]'hj).toNat = 92) (hj1 : s.size ≤ j + 1) : ∀ t' r, ¬ s.data.toList = quoteL t' ++ r := by
  intro t' r ht
  obtain ⟨t2, h1, h2⟩ := h.way t' r ht
  have hc : s[j]'hj = 92 := UInt8.toNat_inj.1 h92
  obtain ⟨x, t3, rfl, hx⟩ := esc_step h2 (drop_cons hj) (by rw [hc]; decide)
  rcases hx with ⟨h3, -⟩ | ⟨-, d, rest2, h3, -⟩
  · exact h3 hc
  · have := congrArg List.length h3
    simp at this
    omega
theorem UrI.out {s : ByteArray} {w : World} {sa : Option Addr} {sc j : Nat} {pre : List UInt8} {wr : World} (h : UrI s w sa sc j pre wr) (hj : s.size ≤ j) : ∀ t' r, ¬ s.data.toList = quoteL t' ++ r := by
  intro t' r ht
  obtain ⟨t2, h1, h2⟩ := h.way t' r ht
  rw [List.drop_of_length_le (by simp; omega)] at h2
  have := congrArg List.length h2
  simp at this
/-- What stands behind a backslash. -/
theorem UrI.esc {s : ByteArray} {w : World} {sa : Option Addr} {sc j : Nat} {pre : List UInt8} {wr : World} (h : UrI s w sa sc j pre wr) (hj : j < s.size) (h92 : (s[j]'hj).toNat = 92) (hj1 : j + 1 < s.size) (t' r : List UInt8) (ht : s.data.toList = quoteL t' ++ r) :
    ∃ x t3, t' = pre ++ x :: t3 ∧ (((s[j + 1]'hj1).toNat = 110 ∧ x = 10 ∧ s.data.toList.drop (j + 2) = escL t3 ++ 34 :: r) ∨ ((s[j + 1]'hj1).toNat = 34 ∧ x = s[j + 1]'hj1 ∧ s.data.toList.drop (j + 2) = escL t3 ++ 34 :: r) ∨ ((s[j + 1]'hj1).toNat = 92 ∧ x = s[j + 1]'hj1 ∧ s.data.toList.drop (j + 2) = escL t3 ++ 34 :: r) ∨
      ((s[j + 1]'hj1).toNat = 120 ∧ ∃ (h3 : j + 3 < s.size), nbI (s[j + 2]'(by omega)) = ((x.toNat / 16 : Nat) : Int) ∧ nbI (s[j + 3]'h3) = ((x.toNat % 16 : Nat) : Int) ∧ s.data.toList.drop (j + 4) = escL t3 ++ 34 :: r)) := by
  obtain ⟨t2, h1, h2⟩ := h.way t' r ht
  have hc : s[j]'hj = 92 := UInt8.toNat_inj.1 h92
  obtain ⟨x, t3, rfl, hx⟩ := esc_step h2 (drop_cons hj) (by rw [hc]; decide)
  refine ⟨x, t3, h1, ?_⟩
  rcases hx with ⟨h3, -⟩ | ⟨-, d, rest2, h3, h4⟩
  · exact absurd hc h3
  · rw [drop_cons hj1] at h3
    obtain ⟨h5, h6⟩ := List.cons.inj h3
    rcases h4 with ⟨h7, h8, h9⟩ | ⟨h7, h8, h9⟩ | ⟨h7, h8, h9⟩ | ⟨h7, a, b, h9, h10, h11⟩
    · exact .inl ⟨by rw [h5, h7]; rfl, h8, by rw [← h9]; exact h6⟩
    · exact .inr (.inl ⟨by rw [h5, h7]; rfl, by rw [h5, h7, h8], by rw [← h9]; exact h6⟩)
    · exact .inr (.inr (.inl ⟨by rw [h5, h7]; rfl, by rw [h5, h7, h8], by rw [← h9]; exact h6⟩))
    · rw [h9] at h6
      have hl := congrArg List.length h6
      simp at hl
      have hj2 : j + 2 < s.size := by omega
      have hj3 : j + 3 < s.size := by omega
      have h12 : s.data.toList.drop (j + 2) = s[j + 2]'hj2 :: s[j + 3]'hj3 :: s.data.toList.drop (j + 4) := by rw [drop_cons hj2, drop_cons hj3]
      rw [show j + 1 + 1 = j + 2 from rfl, h12] at h6
      obtain ⟨g1, g2⟩ := List.cons.inj h6
      obtain ⟨g3, g4⟩ := List.cons.inj g2
      exact .inr (.inr (.inr ⟨by rw [h5, h7]; rfl, hj3, by rw [g1]; exact h10, by rw [g3]; exact h11, g4⟩))
theorem UrI.esc_n {s : ByteArray} {w : World} {sa : Option Addr} {sc j : Nat} {pre : List UInt8} {wr : World} (h : UrI s w sa sc j pre wr) (hj : j < s.size) (h92 : (s[j]'hj).toNat = 92) (hj1 : j + 1 < s.size) (hd : (s[j + 1]'hj1).toNat = 110) {sa' : Option Addr} {sc' : Nat} {w3 : World} (hr : RowB w sa' sc' (pre ++ [10]) w3) :
    UrI s w sa' sc' (j + 2) (pre ++ [10]) w3 := by
  refine ⟨hr, by have := h.len; simp; omega, hj1, fun t' r ht => ?_⟩
  obtain ⟨x, t3, h1, hx⟩ := h.esc hj h92 hj1 t' r ht
  rcases hx with ⟨-, rfl, h3⟩ | ⟨h3, -⟩ | ⟨h3, -⟩ | ⟨h3, -⟩
  · exact ⟨t3, by rw [h1]; simp, h3⟩
  all_goals omega
theorem UrI.esc_q {s : ByteArray} {w : World} {sa : Option Addr} {sc j : Nat} {pre : List UInt8} {wr : World} (h : UrI s w sa sc j pre wr) (hj : j < s.size) (h92 : (s[j]'hj).toNat = 92) (hj1 : j + 1 < s.size) (hd : (s[j + 1]'hj1).toNat = 34 ∨ (s[j + 1]'hj1).toNat = 92) {sa' : Option Addr} {sc' : Nat} {w3 : World} (hr : RowB w sa' sc' (pre ++ [s[j + 1]'hj1]) w3) :
    UrI s w sa' sc' (j + 2) (pre ++ [s[j + 1]'hj1]) w3 := by
  refine ⟨hr, by have := h.len; simp; omega, hj1, fun t' r ht => ?_⟩
  obtain ⟨x, t3, h1, hx⟩ := h.esc hj h92 hj1 t' r ht
  rcases hx with ⟨h3, -⟩ | ⟨-, rfl, h3⟩ | ⟨-, rfl, h3⟩ | ⟨h3, -⟩
  · omega
  · exact ⟨t3, by rw [h1]; simp, h3⟩
  · exact ⟨t3, by rw [h1]; simp, h3⟩
  · omega
theorem UrI.esc_x {s : ByteArray} {w : World} {sa : Option Addr} {sc j : Nat} {pre : List UInt8} {wr : World} (h : UrI s w sa sc j pre wr) (hj : j < s.size) (h92 : (s[j]'hj).toNat = 92) (hj3 : j + 3 < s.size) (hd : (s[j + 1]'(by omega)).toNat = 120) {x : UInt8} (hx : (x.toNat : Int) = 16 * nbI (s[j + 2]'(by omega)) + nbI (s[j + 3]'hj3)) {sa' : Option Addr} {sc' : Nat} {w3 : World} (hr : RowB w sa' sc' (pre ++ [x]) w3) :
    UrI s w sa' sc' (j + 4) (pre ++ [x]) w3 := by
  refine ⟨hr, by have := h.len; simp; omega, hj3, fun t' r ht => ?_⟩
  obtain ⟨y, t3, h1, hy⟩ := h.esc hj h92 (by omega) t' r ht
  rcases hy with ⟨h3, -⟩ | ⟨h3, -⟩ | ⟨h3, -⟩ | ⟨-, hj4, h4, h5, h6⟩
  · omega
  · omega
  · omega
  · have : x = y := by
      apply UInt8.toNat_inj.1
      rw [h4, h5] at hx
      omega
    subst this
    exact ⟨t3, by rw [h1]; simp, h6⟩
theorem UrI.esc_no {s : ByteArray} {w : World} {sa : Option Addr} {sc j : Nat} {pre : List UInt8} {wr : World} (h : UrI s w sa sc j pre wr) (hj : j < s.size) (h92 : (s[j]'hj).toNat = 92) (hj1 : j + 1 < s.size) (hd : (s[j + 1]'hj1).toNat ≠ 110 ∧ (s[j + 1]'hj1).toNat ≠ 34 ∧ (s[j + 1]'hj1).toNat ≠ 92) (hx : (s[j + 1]'hj1).toNat = 120 → ∀ (h3 : j + 3 < s.size), nbI (s[j + 2]'(by omega)) < 0 ∨ nbI (s[j + 3]'h3) < 0) :
    ∀ t' r, ¬ s.data.toList = quoteL t' ++ r := by
  intro t' r ht
  obtain ⟨y, t3, h1, hy⟩ := h.esc hj h92 (by omega) t' r ht
  rcases hy with ⟨h3, -⟩ | ⟨h3, -⟩ | ⟨h3, -⟩ | ⟨h2, h3, h4, h5, h6⟩
  · omega
  · omega
  · omega
  · have := hx h2 h3
    omega
theorem escOf_ne34 (x : UInt8) (l r : List UInt8) : escOf x ++ l ≠ 34 :: r := by
  unfold escOf
  split
  · intro h; exact absurd (List.cons.inj h).1 (by decide)
  · split
    · intro h; exact absurd (List.cons.inj h).1 (by decide)
    · split
      · intro h; exact absurd (List.cons.inj h).1 (by decide)
      · split
        · intro h; exact absurd (List.cons.inj h).1 (by decide)
        · rename_i h0 _ _ _
          intro h; exact h0 (List.cons.inj h).1
/-- The end of a quoted string. -/
theorem ru_end {s : ByteArray} {w : World} {sa : Option Addr} {sc j : Nat} {pre : List UInt8} {wr : World} (h : UrI s w sa sc j pre wr) (hj : j < s.size) (h34 : (s[j]'hj).toNat = 34) {t q : ByteArray} (ht : t = ⟨pre.toArray⟩) (hq : q.data.toList = quoteL t.data.toList) {e : Ending} {w' : World} (hb : Below w.heap.size w w')
    (he : e = .returned (.tuple #[.string t, .int .i64 ((j + 1 : Nat) : Int), .bool (q.toList == (s.extract 0 (j + 1)).toList)])) : RuPost s w e w' := by
  have hp : t.data.toList = pre := by rw [ht]
  have hx : (s.extract 0 (j + 1)).data.toList = s.data.toList.take (j + 1) := by simp [ByteArray.data_extract]
  have hpl := h.len
  have htz : t.size = pre.length := by rw [← hp, list_size]
  refine ⟨hb, t, j + 1, _, he, hj, by omega, fun hok => ?_, fun t' r hs => ?_⟩
  · have h1 := toList_inj.1 (eq_of_beq hok)
    exact ⟨by rw [← hx, ← h1, hq], by omega⟩
  · obtain ⟨t2, h1, h2⟩ := h.way t' r hs
    have hc : s[j]'hj = 34 := UInt8.toNat_inj.1 h34
    have h3 : t2 = [] := by
      cases t2 with
      | nil => rfl
      | cons x t3 =>
        exfalso
        rw [drop_cons hj, hc] at h2
        have : escL (x :: t3) = escOf x ++ escL t3 := rfl
        rw [this, List.append_assoc] at h2
        exact escOf_ne34 _ _ _ h2.symm
    subst h3
    rw [List.append_nil] at h1
    have hl1 := congrArg List.length h2
    have hl2 := congrArg List.length hs
    rw [List.length_drop, list_size] at hl1
    rw [list_size, List.length_append] at hl2
    simp [escL] at hl1
    have hn : j + 1 = (quoteL t').length := by omega
    refine ⟨?_, by rw [hp, h1], hn⟩
    have h4 : q = s.extract 0 (j + 1) := bytes_inj (by rw [hx, hq, hp, ← h1, hn, hs]; simp)
    rw [h4]; simp
theorem rowb_conv0 {w W : World} {sa : Option Addr} {sc n : Nat} {pre : List UInt8} (h : RowB w sa sc pre W) (hn : n = pre.length) : (convert 60 9 (.slice sa n sc)).run Tryz.prog W = .ok (.string ⟨pre.toArray⟩) W := by
  subst hn
  rcases h.own.2 with ⟨h1, h2⟩ | ⟨g, cap, cur, h1, hb, h2, h4, h5, h6, h7⟩
  · have hp : pre = [] := List.eq_nil_of_length_eq_zero h2
    subst hp
    cases h1
    simp [convert, go_sem, Conv.bytesToString]
    rfl
  · cases h1
    refine run_convert_bytes_back W 60 9 5 ⟨g, 0, none⟩ sc pre Tryz.underlying60 Tryz.underlying5 Tryz.underlying9 (fun j hj => ?_)
    refine h.own.cells (g := g) rfl j _ ?_
    rw [Lib.byteCells, List.getElem?_map, List.getElem?_eq_getElem hj]; rfl
theorem RowB.mono {w W W1 : World} {sa : Option Addr} {sc : Nat} {pre : List UInt8} (h : RowB w sa sc pre W) (hb : Below W.heap.size W W1) : RowB w sa sc pre W1 :=
  ⟨own_below h.own hb, below_own' h.below hb⟩
set_option maxRecDepth 100000 in
set_option maxHeartbeats 16000000 in
theorem runq_loop (s : ByteArray) (w : World) (h0 : 0 < s.size) (hs : s.size ≤ 4294967280) (hc : (s[0]'h0).toNat = 34) : Calls Tryz.prog 46 #[.string s] w (RuPost s w) := by
  obtain ⟨i0, hin, hz0, hz1, hz2⟩ := info_parts (show (Tryz.prog.info? 5).map (fun i => (i.zero, i.size, i.bytes)) = some (some (.int .u8 0), 1, 1) by kernel_rfl)
  have hemp := not_empty h0
  have h34 : (((s[0]'h0).toNat : Int) != 34) = false := by rw [hc]; rfl
  have hi0 := UrI.start (w := w) h0
  have HI0 := Lib.hid hi0
  clear hc hi0
  go_enter Tryz.func46, Tryz.ntmps46
  go_wp2_with fail
  go_loopw [5, 6] (fun v i wr => ∃ (j : Nat) (pre : List UInt8) (sa : Option Addr) (sc : Nat), v = .slice sa pre.length sc ∧ i = .int .i64 j ∧ UrI s w sa sc j pre wr) (fun _ i _ => s.size - (intOf i).toNat)
  case atStart => exact ⟨1, [], none, 0, rfl, rfl, HI0.out⟩
  case round =>
    clear HI0 hemp h34
    obtain ⟨j, pre, sa, sc, rfl, rfl, hI⟩ := hrel
    have HI := Lib.hid hI
    have HR := Lib.hid hI.row
    have hpl := hI.len
    have hjs' := hI.sz
    have hszw := hI.row.below.size
    clear hI
    rcases Nat.lt_or_ge j s.size with hjs | hge
    · have hx := (s[j]'hjs).toNat_lt
      by_cases c34 : (s[j]'hjs).toNat = 34
      · have b34 : (((s[j]'hjs).toNat : Int) != 34) = false := by rw [c34]; rfl
        have HC : Hid (∀ W, Below wr.heap.size wr W → (convert 60 9 (.slice sa pre.length sc)).run Tryz.prog W = .ok (.string ⟨pre.toArray⟩) W) := Lib.hid fun W h => rowb_conv0 (HR.out.mono h) rfl
        obtain ⟨t, ht⟩ : ∃ t : ByteArray, t = ⟨pre.toArray⟩ := ⟨_, rfl⟩
        rw [← ht] at HC
        have HT := Lib.hid ht
        have hc0 := HC.out _ (Below.refl _ _).drew
        have htz : t.size ≤ s.size := by rw [ht]; show pre.toArray.size ≤ _; rw [List.size_toArray]; omega
        have hj1 : (j : Int) + 1 ≤ (s.size : Int) := by omega
        have HQ : Hid (∀ W, Calls Tryz.prog 61 #[.string t] W fun e w' => ∃ q : ByteArray, e = .returned (.string q) ∧ Hid (q.data.toList = quoteL t.data.toList) ∧ Below W.heap.size W w') := Lib.hid fun W => (rquote_any t W (by omega)).mono fun e w' h => ⟨_, h.1, Lib.hid rfl, h.2⟩
        have C34 := Lib.hid c34
        clear ht c34
        go_wp2_with fail
        have hw1 : IntKind.i64.wrap ((j : Int) + 1) = (j : Int) + 1 := IntWalk.i64_in _ (by omega)
        have hp1 : (0 : Int) ≤ (j : Int) + 1 := by omega
        have hn1 : ((j : Int) + 1).toNat = j + 1 := by omega
        go_region_held3 (fun w' => (convert 60 9 (.slice sa pre.length sc)).run Tryz.prog w' = .ok (.string t) w') (first | exact hc0 | go_keep)
          ((first
            | (go_at_call 61; refine Calls.mono (HQ.out _) ?_; rintro e w2 ⟨q, rfl, hq, hb2⟩; have hb2w : Below wr.heap.size wr w2 := (by (repeat (first | (with_reducible refine below_set ?_ (by first | exact Nat.le_refl _ | omega) _ _) | with_reducible exact Below.refl _ _ | with_reducible refine belowA ?_ _ | with_reducible refine below_own' ?_ hb2 | with_reducible refine belowD ?_ | with_reducible refine belowN ?_ _))); have hc1 := HC.out _ hb2w)))
        go_wp2_with fail
        go_ret3
        exact ru_end HI.out hjs C34.out HT.out hq.out (by (repeat (first | (with_reducible refine below_set ?_ (by first | exact Nat.le_refl _ | omega) _ _) | with_reducible exact Below.refl _ _ | with_reducible refine belowA ?_ _ | with_reducible refine below_own' ?_ hb2 | with_reducible refine below_own' ?_ HR.out.below | with_reducible refine belowD ?_ | with_reducible refine belowN ?_ _))) rfl
      · have b34 : (((s[j]'hjs).toNat : Int) != 34) = true := by rw [bne_iff_ne]; omega
        by_cases c92 : (s[j]'hjs).toNat = 92
        · have b92 : (((s[j]'hjs).toNat : Int) == 92) = true := by rw [c92]; rfl
          rcases Nat.lt_or_ge (j + 1) s.size with hj1 | hge1
          · have hy := (s[j + 1]'hj1).toNat_lt
            have hj1i : (j : Int) + 1 < (s.size : Int) := by omega
            have C92 := Lib.hid c92
            clear c34 c92
            have hcs : (s[j + 1]'hj1).toNat = 110 ∨ ((s[j + 1]'hj1).toNat = 34 ∨ (s[j + 1]'hj1).toNat = 92) ∨ (s[j + 1]'hj1).toNat = 120 ∨ ((s[j + 1]'hj1).toNat ≠ 110 ∧ (s[j + 1]'hj1).toNat ≠ 34 ∧ (s[j + 1]'hj1).toNat ≠ 92 ∧ (s[j + 1]'hj1).toNat ≠ 120) := by omega
            rcases hcs with h110 | h3492 | h120 | ⟨n110, n34, n92, n120⟩
            · have d110 : (((s[j + 1]'hj1).toNat : Int) == 110) = true := by rw [h110]; rfl
              have HP := Lib.hid (fun (sa' : Option Addr) (sc' : Nat) (w3 : World) (hr : RowB w sa' sc' (pre ++ [10]) w3) => HI.out.esc_n hjs C92.out hj1 h110 hr)
              clear h110
              go_wp2_with (first | (at_builtin; refine wpList_append_own _ rfl _ _ 60 rfl w.heap.size 5 i0 (.int .u8 0) 1 1 Tryz.underlying60 hin hz0 hz1 hz2 rfl (by decide) _ _ _ rfl (HR.out.own.alloc _) ⟨wr.heap.size, 0, none⟩ 1 1 [.int .u8 10] rfl rfl ?q1c1 ?q1c2 ?q1c3 ?q1c4 ?q1c5 ?_))
              case q1c1 =>
                intro t u hj
                match t, hj with
                | 0, hj => simp at hj; subst hj; simp [Addr.add]
              case q1c2 => intro u hu; simp at hu; rcases hu with rfl <;> rfl
              case q1c3 => unfold maxLen; omega
              case q1c4 => omega
              case q1c5 => simp; omega
              intro v' w3 hown' hgrow _
              obtain ⟨sa', sc', rfl, hr3⟩ := RowB.app ([10]) (pre.length + 1) HR.out rfl (by first | rfl | simp) rfl hown' hgrow
              have HR3 := Lib.hid hr3
              clear hown' hr3
              go_wp2_with fail
              go_roundw
              · exact ⟨j + 2, pre ++ [10], sa', sc', by simp, by go_num, HP.out _ _ _ HR3.out⟩
              · simp [intOf]; omega
            · have d110 : (((s[j + 1]'hj1).toNat : Int) == 110) = false := by rw [beq_eq_false_iff_ne]; omega
              have d120 : (((s[j + 1]'hj1).toNat : Int) == 120) = false := by rw [beq_eq_false_iff_ne]; omega
              have HP := Lib.hid (fun (sa' : Option Addr) (sc' : Nat) (w3 : World) (hr : RowB w sa' sc' (pre ++ [s[j + 1]'hj1]) w3) => HI.out.esc_q hjs C92.out hj1 h3492 hr)
              have hd2 : (((s[j + 1]'hj1).toNat : Int) != 34) = false ∨ ((((s[j + 1]'hj1).toNat : Int) != 34) = true ∧ (((s[j + 1]'hj1).toNat : Int) != 92) = false) := by
                rcases h3492 with h | h
                · left; rw [h]; rfl
                · right; rw [h]; exact ⟨rfl, rfl⟩
              clear h3492
              rcases hd2 with d34 | ⟨d34, d92⟩
              all_goals
                go_wp2_with (first | (at_builtin; refine wpList_append_own _ rfl _ _ 60 rfl w.heap.size 5 i0 (.int .u8 0) 1 1 Tryz.underlying60 hin hz0 hz1 hz2 rfl (by decide) _ _ _ rfl (HR.out.own.alloc _) ⟨wr.heap.size, 0, none⟩ 1 1 [.int .u8 ((s[j + 1]'hj1).toNat : Int)] rfl rfl ?q2c1 ?q2c2 ?q2c3 ?q2c4 ?q2c5 ?_))
                case q2c1 =>
                  intro t u hj
                  match t, hj with
                  | 0, hj => simp at hj; subst hj; simp [Addr.add]
                case q2c2 => intro u hu; simp at hu; rcases hu with rfl <;> rfl
                case q2c3 => unfold maxLen; omega
                case q2c4 => omega
                case q2c5 => simp; omega
                intro v' w3 hown' hgrow _
                obtain ⟨sa', sc', rfl, hr3⟩ := RowB.app ([s[j + 1]'hj1]) (pre.length + 1) HR.out rfl (by first | rfl | simp) rfl hown' hgrow
                have HR3 := Lib.hid hr3
                clear hown' hr3
                go_wp2_with fail
                go_roundw
                · exact ⟨j + 2, pre ++ [s[j + 1]'hj1], sa', sc', by simp, by go_num, HP.out _ _ _ HR3.out⟩
                · simp [intOf]; omega
            · have d110 : (((s[j + 1]'hj1).toNat : Int) == 110) = false := by rw [h120]; rfl
              have d120 : (((s[j + 1]'hj1).toNat : Int) == 120) = true := by rw [h120]; rfl
              have d34 : (((s[j + 1]'hj1).toNat : Int) != 34) = true := by rw [h120]; rfl
              have d92 : (((s[j + 1]'hj1).toNat : Int) != 92) = true := by rw [h120]; rfl
              rcases Nat.lt_or_ge (j + 3) s.size with hj3 | hge3
              · have hx2 := nib_range (s[j + 1 + 1]'(by omega))
                have hx3 := nib_range (s[j + 1 + 1 + 1]'(by omega))
                obtain ⟨n1, hn1⟩ : ∃ n1, n1 = nbI (s[j + 1 + 1]'(by omega)) := ⟨_, rfl⟩
                obtain ⟨n2, hn2⟩ : ∃ n2, n2 = nbI (s[j + 1 + 1 + 1]'(by omega)) := ⟨_, rfl⟩
                have NQ1 : Hid (∀ W, Calls Tryz.prog 76 #[.int .u8 ((s[j + 1 + 1]'(by omega)).toNat : Int)] W fun e w' => e = .returned (.int .i64 n1) ∧ W = w') := Lib.hid fun W => (rnib_any _ W).mono fun e w' h => ⟨by rw [h.1, hn1], h.2⟩
                have NQ2 : Hid (∀ W, Calls Tryz.prog 76 #[.int .u8 ((s[j + 1 + 1 + 1]'(by omega)).toNat : Int)] W fun e w' => e = .returned (.int .i64 n2) ∧ W = w') := Lib.hid fun W => (rnib_any _ W).mono fun e w' h => ⟨by rw [h.1, hn2], h.2⟩
                rw [← hn1] at hx2
                rw [← hn2] at hx3
                have hj2i : (j : Int) + 1 + 1 < (s.size : Int) := by omega
                have hj3i : (j : Int) + 1 + 1 + 1 < (s.size : Int) := by omega
                have HN1 := Lib.hid hn1
                have HN2 := Lib.hid hn2
                clear hn1 hn2
                by_cases h1 : 0 ≤ n1
                · by_cases h2 : 0 ≤ n2
                  · obtain ⟨x, hx⟩ : ∃ x : UInt8, (x.toNat : Int) = 16 * n1 + n2 := ⟨UInt8.ofNat (16 * n1 + n2).toNat, by rw [UInt8.toNat_ofNat']; omega⟩
                    have HX := Lib.hid hx
                    have HP := Lib.hid (fun (sa' : Option Addr) (sc' : Nat) (w3 : World) (hr : RowB w sa' sc' (pre ++ [x]) w3) => HI.out.esc_x hjs C92.out hj3 h120 (by rw [HX.out, HN1.out, HN2.out]) hr)
                    clear h120 hx
                    go_wp2_with (first
                      | (go_at_call 76; (with_reducible refine Calls.mono (NQ2.out _) ?_); rintro e w1 ⟨rfl, rfl⟩)
                      | (go_at_call 76; (with_reducible refine Calls.mono (NQ1.out _) ?_); rintro e w1 ⟨rfl, rfl⟩))
                    have g1 : IntKind.i64.wrap ((j : Int) + 1 + 1 + 1) = (j : Int) + 1 + 1 + 1 := IntWalk.i64_in _ (by omega)
                    have g2 : IntKind.i64.wrap (16 * n1) = 16 * n1 := IntWalk.i64_in _ (by omega)
                    have g3 : IntKind.i64.wrap (16 * n1 + n2) = 16 * n1 + n2 := IntWalk.i64_in _ (by omega)
                    have g4 : IntKind.u8.wrap (16 * n1 + n2) = 16 * n1 + n2 := IntWalk.u8_in _ (by omega)
                    have g5 : (0 : Int) ≤ (j : Int) + 1 + 1 := by omega
                    have g6 : (0 : Int) ≤ (j : Int) + 1 + 1 + 1 := by omega
                    have g7 : ((j : Int) + 1 + 1).toNat = j + 1 + 1 := by omega
                    have g8 : ((j : Int) + 1 + 1 + 1).toNat = j + 1 + 1 + 1 := by omega
                    go_quiet ((first | (go_at_call 76; with_reducible exact Calls.quiet_of_same ((NQ1.out _).mono fun _ _ h => ⟨h.1, h.2.symm⟩)) | (go_at_call 76; with_reducible exact Calls.quiet_of_same ((NQ2.out _).mono fun _ _ h => ⟨h.1, h.2.symm⟩))))
                    clear g1 g2 g3 g4
                    have HRQ := Lib.hid (HR.out.mono (below_drewN (Below.refl wr.heap.size wr) nq))
                    have hszq := HRQ.out.below.size
                    generalize wr.drewN nq = wq at HRQ hszq ⊢
                    go_wp2_with (first | (at_builtin; refine wpList_append_own _ rfl _ _ 60 rfl w.heap.size 5 i0 (.int .u8 0) 1 1 Tryz.underlying60 hin hz0 hz1 hz2 rfl (by decide) _ _ _ rfl (HRQ.out.own.alloc _) ⟨wq.heap.size, 0, none⟩ 1 1 [.int .u8 (16 * n1 + n2)] rfl rfl ?q3c1 ?q3c2 ?q3c3 ?q3c4 ?q3c5 ?_))
                    case q3c1 =>
                      intro t u hj
                      match t, hj with
                      | 0, hj => simp at hj; subst hj; simp [Addr.add]
                    case q3c2 => intro u hu; simp at hu; rcases hu with rfl <;> rfl
                    case q3c3 => unfold maxLen; omega
                    case q3c4 => omega
                    case q3c5 => simp; omega
                    intro v' w3 hown' hgrow _
                    rw [← HX.out] at hown'
                    obtain ⟨sa', sc', rfl, hr3⟩ := RowB.app ([x]) (pre.length + 1) HRQ.out rfl (by first | rfl | simp) rfl hown' hgrow
                    have HR3 := Lib.hid hr3
                    clear hown' hr3
                    go_wp2_with fail
                    go_roundw
                    · exact ⟨j + 4, pre ++ [x], sa', sc', by simp, by go_num, HP.out _ _ _ HR3.out⟩
                    · simp [intOf]; omega
                  · have HNO := Lib.hid (HI.out.esc_no hjs C92.out hj1 ⟨by omega, by omega, by omega⟩ (fun _ h => by have := HN2.out; right; show nbI (s[j + 1 + 1 + 1]) < 0; omega))
                    clear h120
                    go_wp2_with (first
                      | (go_at_call 76; (with_reducible refine Calls.mono (NQ2.out _) ?_); rintro e w1 ⟨rfl, rfl⟩)
                      | (go_at_call 76; (with_reducible refine Calls.mono (NQ1.out _) ?_); rintro e w1 ⟨rfl, rfl⟩))
                    go_ret3
                    exact ru_no HR.out.below rfl HNO.out
                · have HNO := Lib.hid (HI.out.esc_no hjs C92.out hj1 ⟨by omega, by omega, by omega⟩ (fun _ h => by have := HN1.out; left; show nbI (s[j + 1 + 1]) < 0; omega))
                  clear h120
                  go_wp2_with (go_at_call 76; (with_reducible refine Calls.mono (NQ1.out _) ?_); rintro e w1 ⟨rfl, rfl⟩)
                  go_ret3
                  exact ru_no HR.out.below rfl HNO.out
              · have HNO := Lib.hid (HI.out.esc_no hjs C92.out hj1 ⟨by omega, by omega, by omega⟩ (fun _ h => by omega))
                have hge4 : ¬ ((j : Int) + 3 < (s.size : Int)) := by omega
                clear h120
                go_wp2_with fail
                go_ret3
                exact ru_no HR.out.below rfl HNO.out
            · have d110 : (((s[j + 1]'hj1).toNat : Int) == 110) = false := by rw [beq_eq_false_iff_ne]; omega
              have d120 : (((s[j + 1]'hj1).toNat : Int) == 120) = false := by rw [beq_eq_false_iff_ne]; omega
              have d34 : (((s[j + 1]'hj1).toNat : Int) != 34) = true := by rw [bne_iff_ne]; omega
              have d92 : (((s[j + 1]'hj1).toNat : Int) != 92) = true := by rw [bne_iff_ne]; omega
              have HNO := Lib.hid (HI.out.esc_no hjs C92.out hj1 ⟨n110, n34, n92⟩ (fun h => absurd h n120))
              clear n110 n34 n92 n120
              go_wp2_with fail
              go_ret3
              exact ru_no HR.out.below rfl HNO.out
          · have HNO := Lib.hid (HI.out.cut hjs c92 hge1)
            clear c92 c34
            go_wp2_with fail
            go_ret3
            exact ru_no HR.out.below rfl HNO.out
        · have b92 : (((s[j]'hjs).toNat : Int) == 92) = false := by rw [beq_eq_false_iff_ne]; omega
          have HP := Lib.hid (fun (sa' : Option Addr) (sc' : Nat) (w3 : World) (hr : RowB w sa' sc' (pre ++ [s[j]'hjs]) w3) => HI.out.plain hjs c34 c92 hr)
          clear c92 c34
          go_wp2_with (first | (at_builtin; refine wpList_append_own _ rfl _ _ 60 rfl w.heap.size 5 i0 (.int .u8 0) 1 1 Tryz.underlying60 hin hz0 hz1 hz2 rfl (by decide) _ _ _ rfl (HR.out.own.alloc _) ⟨wr.heap.size, 0, none⟩ 1 1 [.int .u8 ((s[j]'hjs).toNat : Int)] rfl rfl ?q4c1 ?q4c2 ?q4c3 ?q4c4 ?q4c5 ?_))
          case q4c1 =>
            intro t u hj
            match t, hj with
            | 0, hj => simp at hj; subst hj; simp [Addr.add]
          case q4c2 => intro u hu; simp at hu; rcases hu with rfl <;> rfl
          case q4c3 => unfold maxLen; omega
          case q4c4 => omega
          case q4c5 => simp; omega
          intro v' w3 hown' hgrow _
          obtain ⟨sa', sc', rfl, hr3⟩ := RowB.app ([s[j]'hjs]) (pre.length + 1) HR.out rfl (by first | rfl | simp) rfl hown' hgrow
          have HR3 := Lib.hid hr3
          clear hown' hr3
          go_wp2_with fail
          go_roundw
          · exact ⟨j + 1, pre ++ [s[j]'hjs], sa', sc', by simp, by go_num, HP.out _ _ _ HR3.out⟩
          · simp [intOf]; omega
    · have HNO := Lib.hid (HI.out.out hge)
      go_wp2_with fail
      go_ret3
      exact ru_no HR.out.below rfl HNO.out

set_option maxRecDepth 100000 in
theorem runq_any (s : ByteArray) (w : World) (hs : s.size ≤ 4294967280) : Calls Tryz.prog 46 #[.string s] w (RuPost s w) := by
  rcases Nat.eq_zero_or_pos s.size with h0 | h0
  · have hs0 : s = ⟨#[]⟩ := by apply ByteArray.ext; exact Array.eq_empty_of_size_eq_zero h0
    subst hs0
    go_enter Tryz.func46, Tryz.ntmps46
    go_wp2_with fail
    go_ret3
    exact ru_no (Below.refl _ _) rfl (fun t' r h => by rw [quote_parts] at h; cases h)
  · by_cases hc : (s[0]'h0).toNat = 34
    · exact runq_loop s w h0 hs hc
    · have HNO : Hid (∀ t' r, ¬ s.data.toList = quoteL t' ++ r) := Lib.hid (fun t' r h => by
        have hg := bytes_get s 0 h0
        rw [h, quote_parts] at hg
        have h2 : (34 : UInt8) = s[0]'h0 := by simpa using hg
        exact hc (by rw [← h2]; rfl))
      have hemp := not_empty h0
      have h34 : (((s[0]'h0).toNat : Int) != 34) = true := by rw [bne_iff_ne]; omega
      clear hc
      go_enter Tryz.func46, Tryz.ntmps46
      go_wp2_with fail
      go_ret3
      exact ru_no (Below.refl _ _) rfl HNO.out
end Go.Proofs.YtmepjbjmjbpchaaGreatDoor
end
