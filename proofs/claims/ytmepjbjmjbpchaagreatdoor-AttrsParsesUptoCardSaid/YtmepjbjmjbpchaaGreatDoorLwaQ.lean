/- AttrsParses: the law's walk. -/
import Derived.Test.YtmepjbjmjbpchaaGreatDoorMg23
import Derived.Test.YtmepjbjmjbpchaaGreatDoorMg27
import Derived.Test.YtmepjbjmjbpchaaGreatDoorMg32
namespace Go.Proofs.YtmepjbjmjbpchaaGreatDoor
open Go Go.RowKit Go.Sort
set_option linter.unusedVariables false
set_option linter.unusedSimpArgs false

theorem canL_uniq {s : ByteArray} {ds es : List Dat} (hs : s.size ≤ 1099511627) {w : World} (hg : GlobE w) (hd : CanL s ds) (he : CanL s es) : ds = es := by
  obtain ⟨o, -, -, h⟩ := parse_any s w hs hg
  have h1 := h ds hd
  rw [h es he] at h1
  exact (Option.some.inj h1).symm
set_option maxRecDepth 100000 in
set_option maxHeartbeats 8000000 in
theorem parses_law (s : ByteArray) (w : World) (hg : GlobE w) (hs : s.size ≤ 1048576) :
    Calls Tryz.prog 6 #[.string s] w fun e w' => e = .returned (.bool true) ∧ Below w.heap.size w w' := by
  have HG := Lib.hid hg
  clear hg
  by_cases hd : ∃ ds, CanL s ds
  · obtain ⟨ds, hd⟩ := hd
    have hlen := rightL_len hd.1
    rw [List.length_map] at hlen
    have HD := Lib.hid hd
    have HP : Hid (Calls Tryz.prog 25 #[.string s] w (LsPost ds w)) := Lib.hid (parse_yes s ds (by omega) hd w HG.out)
    have HR : Hid (∀ W, Calls Tryz.prog 26 #[.string s] W fun e w' => ∃ (sa : Option Addr) (sc n : Nat) (l : List Atr), e = .returned (.tuple #[.slice sa n sc, .bool true]) ∧ n = l.length ∧ AtrSl w' sa l ∧ l.map Atr.dat = ds ∧ Below W.heap.size W w') := Lib.hid fun W => (rparse_any s W hs).mono fun e w' h => by
      obtain ⟨hb, sa, sc, n, l, ok, he, hn, hsl, h1, h2⟩ := h
      have hk := h2 ds HD.out
      subst hk
      exact ⟨sa, sc, n, l, he, hn, hsl, canL_uniq (by omega) HG.out (h1 rfl) HD.out, hb⟩
    clear hd
    go_enter Tryz.func6, Tryz.ntmps6
    go_wp2_with (first
      | (go_at_call 20; refine Calls.mono (awake02 _ (HG.out.glob.below ?_)) ?_; (focus ((repeat (first | (with_reducible refine below_set ?_ (by first | exact Nat.le_refl _ | omega) _ _) | with_reducible exact Below.refl _ _ | with_reducible refine belowA ?_ _ | with_reducible refine below_own' ?_ hb3 | with_reducible refine below_own' ?_ hb2 | with_reducible refine below_own' ?_ hb1 | with_reducible refine belowD ?_ | with_reducible refine belowN ?_ _)); done)); rintro e w4 ⟨rfl, hb4⟩)
      | (go_at_call 17; refine Calls.mono (requalL_same sv1 sa cv1 sc n1 n lv1 l _ (HS1.out.below ?_) (HS2.out.below ?_) (HD1.out.trans HD2.out.symm) HN1.out HN2.out ?_) ?_; (focus ((repeat (first | (with_reducible refine below_set ?_ (by first | exact Nat.le_refl _ | omega) _ _) | with_reducible exact Below.refl _ _ | with_reducible refine belowA ?_ _ | with_reducible refine below_own' ?_ hb2 | with_reducible refine belowD ?_ | with_reducible refine belowN ?_ _)); done)); (focus ((repeat (first | (with_reducible refine below_set ?_ (by first | exact Nat.le_refl _ | omega) _ _) | with_reducible exact Below.refl _ _ | with_reducible refine belowA ?_ _ | with_reducible refine belowD ?_ | with_reducible refine belowN ?_ _)); done)); (focus (have h1 := congrArg List.length HD1.out; rw [List.length_map] at h1; omega)); rintro e w3 ⟨rfl, hb3⟩)
      | (go_at_call 26; refine Calls.mono (HR.out _) ?_; rintro e w2 ⟨sa, sc, n, l, rfl, hn2, hs2, hd2, hb2⟩; have HN2 := Lib.hid hn2; have HS2 := Lib.hid hs2; have HD2 := Lib.hid hd2; clear hn2 hs2 hd2)
      | (go_at_call 25; refine HP.out.mono ?_; rintro e w1 ⟨sv1, cv1, n1, lv1, rfl, hn1, hnc1, hs1, hd1, hb1⟩; have HN1 := Lib.hid hn1; have HS1 := Lib.hid hs1; have HD1 := Lib.hid hd1; clear hn1 hs1 hd1))
    go_ret
    exact ⟨rfl, by (repeat (first | (with_reducible refine below_set ?_ (by first | exact Nat.le_refl _ | omega) _ _) | with_reducible exact Below.refl _ _ | with_reducible refine belowA ?_ _ | with_reducible refine below_own' ?_ hb4 | with_reducible refine below_own' ?_ hb3 | with_reducible refine below_own' ?_ hb2 | with_reducible refine below_own' ?_ hb1 | with_reducible refine belowD ?_ | with_reducible refine belowN ?_ _))⟩
  · have hno : ∀ ds, ¬ CanL s ds := fun ds h => hd ⟨ds, h⟩
    have HP : Hid (Calls Tryz.prog 25 #[.string s] w fun e w' => e = .returned (.tuple #[.slice none 0 0, .int .i64 70]) ∧ Below w.heap.size w w') := Lib.hid (parse_no s (by omega) hno w HG.out)
    have HR : Hid (∀ W, Calls Tryz.prog 26 #[.string s] W fun e w' => ∃ (sa : Option Addr) (sc n : Nat), e = .returned (.tuple #[.slice sa n sc, .bool false]) ∧ Below W.heap.size W w') := Lib.hid fun W => (rparse_any s W hs).mono fun e w' h => by
      obtain ⟨hb, sa, sc, n, l, ok, he, hn, hsl, h1, h2⟩ := h
      cases ok with
      | true => exact absurd (h1 rfl) (hno _)
      | false => exact ⟨sa, sc, n, he, hb⟩
    clear hd hno
    go_enter Tryz.func6, Tryz.ntmps6
    go_wp2_with (first
      | (go_at_call 20; refine Calls.mono (awake02 _ (HG.out.glob.below ?_)) ?_; (focus ((repeat (first | (with_reducible refine below_set ?_ (by first | exact Nat.le_refl _ | omega) _ _) | with_reducible exact Below.refl _ _ | with_reducible refine belowA ?_ _ | with_reducible refine below_own' ?_ hb2 | with_reducible refine below_own' ?_ hb1 | with_reducible refine belowD ?_ | with_reducible refine belowN ?_ _)); done)); rintro e w4 ⟨rfl, hb4⟩)
      | (go_at_call 26; refine Calls.mono (HR.out _) ?_; rintro e w2 ⟨sa, sc, n, rfl, hb2⟩)
      | (go_at_call 25; refine HP.out.mono ?_; rintro e w1 ⟨rfl, hb1⟩))
    go_ret
    exact ⟨rfl, by (repeat (first | (with_reducible refine below_set ?_ (by first | exact Nat.le_refl _ | omega) _ _) | with_reducible exact Below.refl _ _ | with_reducible refine belowA ?_ _ | with_reducible refine below_own' ?_ hb4 | with_reducible refine below_own' ?_ hb2 | with_reducible refine below_own' ?_ hb1 | with_reducible refine belowD ?_ | with_reducible refine belowN ?_ _))⟩
end Go.Proofs.YtmepjbjmjbpchaaGreatDoor

