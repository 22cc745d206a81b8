/- AttrsBack: the law, by its cases. -/
import Derived.Test.YtmepjbjmjbpchaaGreatDoorLwb1
import Derived.Test.YtmepjbjmjbpchaaGreatDoorLwb2
import Derived.Test.YtmepjbjmjbpchaaGreatDoorLwb3
import Derived.Test.YtmepjbjmjbpchaaGreatDoorLwb4
namespace Go.Proofs.YtmepjbjmjbpchaaGreatDoor
open Go Go.RowKit Go.Sort
set_option linter.unusedVariables false
set_option linter.unusedSimpArgs false

theorem name_a' : nameOf (⟨#[97]⟩ : ByteArray).data.toList = true := by kernel_rfl
theorem right_each' {l : List Atr} (h : rightL l = true) : ∀ a ∈ l, rightA a = true := by
  intro a ha
  rw [rightL_D] at h
  exact rightL_each h a.dat (List.mem_map.2 ⟨a, ha, rfl⟩)
def emD : Dat := ⟨⟨#[]⟩, 0, 0, ⟨#[]⟩, [], []⟩
theorem back_law (p : Option Addr) (c : Nat) (l : List Atr) (s : ByteArray) (w : World) (hg : GlobE w) (hs : AtrSl w p l) (hl : l.length ≤ 100000000000000) (hz : s.size ≤ 1048576) :
    Calls Tryz.prog 10 #[.slice p l.length c, .string s] w fun e w' => e = .returned (.bool true) ∧ Below w.heap.size w w' := by
  have ha : (⟨#[97]⟩ : ByteArray).size ≤ 140737488351232 := by decide
  have hpr := print_any p c l w hs hl hg.glob.pow
  -- what the string is
  have RY : ∀ D, Can ⟨#[97]⟩ s D → ∀ W, Below w.heap.size w W → Calls Tryz.prog 22 #[.string ⟨#[97]⟩, .string s] W fun e w' => ∃ a : Atr, e = .returned (.tuple #[a.val, .int .i64 0]) ∧ a.Lies w' ∧ a.Fits ∧ a.dat = D ∧ Below W.heap.size W w' :=
    fun D h W hW => read_yes _ s D ha (by omega) h W (hg.below hW)
  have RV : ∀ D, Can ⟨#[97]⟩ s D → ∀ (a : Atr) (W : World), a.Lies W → a.Fits → a.dat = D → Below w.heap.size w W → Calls Tryz.prog 32 #[a.val] W fun e w' => e = .returned (.tuple #[.string s, .int .i64 0]) ∧ Below W.heap.size W w' :=
    fun D h a W h1 h2 h3 hW => value_back _ s D h a W h1 h2 h3 (hg.below hW).glob.pow
  have RN : (∀ D, ¬ Can ⟨#[97]⟩ s D) → ∀ W, Below w.heap.size w W → Calls Tryz.prog 22 #[.string ⟨#[97]⟩, .string s] W fun e w' => e = .returned (.tuple #[zAt, .int .i64 70]) ∧ Below W.heap.size W w' :=
    fun h W hW => read_no _ s ha (by omega) h name_a' W (hg.below hW)
  have PN : (∀ ds, ¬ CanL s ds) → ∀ W, Below w.heap.size w W → Calls Tryz.prog 25 #[.string s] W fun e w' => e = .returned (.tuple #[.slice none 0 0, .int .i64 70]) ∧ Below W.heap.size W w' :=
    fun h W hW => parse_no s (by omega) h W (hg.below hW)
  have PY : ∀ ds, CanL s ds → ∀ W, Below w.heap.size w W → Calls Tryz.prog 25 #[.string s] W (LsPost ds W) :=
    fun ds h W hW => parse_yes s ds (by omega) h W (hg.below hW)
  have P1 : s.size ≤ 262144 → ∀ ds, CanL s ds → ∀ (q : Option Addr) (n d : Nat) (m : List Atr) (W : World), AtrSl W q m → n = m.length → m.map Atr.dat = ds → Below w.heap.size w W → Calls Tryz.prog 30 #[.slice q n d] W fun e w' => e = .returned (.tuple #[.string s, .int .i64 0]) ∧ Below W.heap.size W w' :=
    fun hsz ds h q n d m W h1 h2 h3 hW => by
      have := print_back s ds h q n d m W h1 h2 h3 (hg.below hW).glob.pow
      rw [if_pos hsz] at this
      exact this
  have P2 : ¬ s.size ≤ 262144 → ∀ ds, CanL s ds → ∀ (q : Option Addr) (n d : Nat) (m : List Atr) (W : World), AtrSl W q m → n = m.length → m.map Atr.dat = ds → Below w.heap.size w W → Calls Tryz.prog 30 #[.slice q n d] W fun e w' => e = .returned (.tuple #[.string ⟨#[]⟩, .int .i64 2]) ∧ Below W.heap.size W w' :=
    fun hsz ds h q n d m W h1 h2 h3 hW => by
      have := print_back s ds h q n d m W h1 h2 h3 (hg.below hW).glob.pow
      rw [if_neg hsz] at this
      exact this
  have sz1 : s.size ≤ 262144 → (s.size : Int) ≤ 262144 := fun h => by omega
  have sz2 : ¬ s.size ≤ 262144 → ¬ (s.size : Int) ≤ 262144 := fun h => by omega
  have hD : (∃ D, Can ⟨#[97]⟩ s D) ∨ ∀ D, ¬ Can ⟨#[97]⟩ s D := by
    by_cases h : ∃ D, Can ⟨#[97]⟩ s D
    · exact .inl h
    · exact .inr fun D h2 => h ⟨D, h2⟩
  have hL : (∃ ds, CanL s ds ∧ s.size ≤ 262144) ∨ (∃ ds, CanL s ds ∧ ¬ s.size ≤ 262144) ∨ ∀ ds, ¬ CanL s ds := by
    by_cases h : ∃ ds, CanL s ds
    · obtain ⟨ds, h⟩ := h
      by_cases hk : s.size ≤ 262144
      · exact .inl ⟨ds, h, hk⟩
      · exact .inr (.inl ⟨ds, h, hk⟩)
    · exact .inr (.inr fun ds h2 => h ⟨ds, h2⟩)
  by_cases hok : rightL l = true ∧ (listD (l.map Atr.dat)).length ≤ 262144
  · obtain ⟨hr, hn⟩ := hok
    obtain ⟨vt, hvt⟩ : ∃ vt : ByteArray, vt = ⟨(listD (l.map Atr.dat)).toArray⟩ := ⟨_, rfl⟩
    have hvl : vt.data.toList = listD (l.map Atr.dat) := by rw [hvt]
    have hvz : vt.size ≤ 262144 := by rw [← list_size, hvl]; exact hn
    have HP : Hid (Calls Tryz.prog 30 #[.slice p l.length c] w fun e w' => e = .returned (.tuple #[.string vt, .int .i64 0]) ∧ Below w.heap.size w w') := Lib.hid (hpr.mono fun e w' h => by
      obtain ⟨h1, h2⟩ := h
      rw [hr, if_pos rfl, if_pos hn, ← hvt] at h1
      exact ⟨h1, h2⟩)
    have HPA : Hid (∀ W, Below w.heap.size w W → Calls Tryz.prog 25 #[.string vt] W (LsPost (l.map Atr.dat) W)) := Lib.hid fun W hW => parse_yes vt _ (by omega) (can_list hr hs.fits hvl) W (hg.below hW)
    have hm := right_each' hr
    rcases hL with ⟨ds, hc, hk⟩ | ⟨ds, hc, hk⟩ | hc <;> rcases hD with ⟨D, hd⟩ | hd
    · exact back_ok_B1D p c l s vt ds D w hg hs hl hm HP HPA (Lib.hid (PY ds hc)) (Lib.hid (P1 hk ds hc)) (sz1 hk) (Lib.hid (RY D hd)) (Lib.hid (RV D hd))
    · exact back_ok_B1C p c l s vt ds emD w hg hs hl hm HP HPA (Lib.hid (PY ds hc)) (Lib.hid (P1 hk ds hc)) (sz1 hk) (Lib.hid (RN hd))
    · exact back_ok_B2D p c l s vt ds D w hg hs hl hm HP HPA (Lib.hid (PY ds hc)) (Lib.hid (P2 hk ds hc)) (sz2 hk) (Lib.hid (RY D hd)) (Lib.hid (RV D hd))
    · exact back_ok_B2C p c l s vt ds emD w hg hs hl hm HP HPA (Lib.hid (PY ds hc)) (Lib.hid (P2 hk ds hc)) (sz2 hk) (Lib.hid (RN hd))
    · exact back_ok_AD p c l s vt [] D w hg hs hl hm HP HPA (Lib.hid (PN hc)) (Lib.hid (RY D hd)) (Lib.hid (RV D hd))
    · exact back_ok_AC p c l s vt [] emD w hg hs hl hm HP HPA (Lib.hid (PN hc)) (Lib.hid (RN hd))
  · obtain ⟨E, hE, HP⟩ : ∃ E : Int, (E == 0) = false ∧ Hid (Calls Tryz.prog 30 #[.slice p l.length c] w fun e w' => e = .returned (.tuple #[.string ⟨#[]⟩, .int .i64 E]) ∧ Below w.heap.size w w') := by
      by_cases hr : rightL l = true
      · have hn : ¬ (listD (l.map Atr.dat)).length ≤ 262144 := fun h => hok ⟨hr, h⟩
        refine ⟨2, rfl, Lib.hid (hpr.mono fun e w' h => ?_)⟩
        obtain ⟨h1, h2⟩ := h
        rw [hr, if_pos rfl, if_neg hn] at h1
        exact ⟨h1, h2⟩
      · refine ⟨20, rfl, Lib.hid (hpr.mono fun e w' h => ?_)⟩
        obtain ⟨h1, h2⟩ := h
        rw [if_neg hr] at h1
        exact ⟨h1, h2⟩
    rcases hL with ⟨ds, hc, hk⟩ | ⟨ds, hc, hk⟩ | hc <;> rcases hD with ⟨D, hd⟩ | hd
    · exact back_no_B1D p c l s ds D E w hg hE HP (Lib.hid (PY ds hc)) (Lib.hid (P1 hk ds hc)) (sz1 hk) (Lib.hid (RY D hd)) (Lib.hid (RV D hd))
    · exact back_no_B1C p c l s ds emD E w hg hE HP (Lib.hid (PY ds hc)) (Lib.hid (P1 hk ds hc)) (sz1 hk) (Lib.hid (RN hd))
    · exact back_no_B2D p c l s ds D E w hg hE HP (Lib.hid (PY ds hc)) (Lib.hid (P2 hk ds hc)) (sz2 hk) (Lib.hid (RY D hd)) (Lib.hid (RV D hd))
    · exact back_no_B2C p c l s ds emD E w hg hE HP (Lib.hid (PY ds hc)) (Lib.hid (P2 hk ds hc)) (sz2 hk) (Lib.hid (RN hd))
    · exact back_no_AD p c l s [] D E w hg hE HP (Lib.hid (PN hc)) (Lib.hid (RY D hd)) (Lib.hid (RV D hd))
    · exact back_no_AC p c l s [] emD E w hg hE HP (Lib.hid (PN hc)) (Lib.hid (RN hd))
end Go.Proofs.YtmepjbjmjbpchaaGreatDoor

