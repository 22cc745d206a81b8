/- AttrsSets: the list of a hundred attributes, and what Set, Merge and Check say of it. -/
import Derived.Test.YtmepjbjmjbpchaaGreatDoorAe2
import Derived.Laws.Runes
namespace Go.Proofs.YtmepjbjmjbpchaaGreatDoor
open Go Go.RowKit Go.Sort
set_option linter.unusedVariables false
set_option linter.unusedSimpArgs false

/-- A rune as a string, met by its bytes. -/
theorem wpList_rune {P : Program} {ops : Array Oper} {rest : List Oper} {o : Oper} {a : Act} {Q : Exit → Act → World → Prop} {w : World} (hgd : o.guard = none) (x : Operand) (src dst : TypeId) (ho : o.op = .convert src dst x) (k : IntKind) (n : Int) (hx : a.eval x = .int k n)
    (hs : (P.underlying src).isSome = true) (hd : P.underlying dst = some .string) (s : ByteArray) (he : Utf8.encode n = s) (h : wpList P ops Q rest (a.put o.dst (.string s)) w) : wpList P ops Q (o :: rest) a w := by
  refine wpList_plain hgd fun K hK => ?_
  have hrun := run_convert_int_string (P := P) w src dst k n hs hd
  rw [he] at hrun
  unfold Oper.wp
  simp [execOp, ho, hx, hrun, Result.andThen]
  exact hK _ _ h
/-- The name of an attribute of the long list. -/
def mName (i : Nat) : ByteArray := ⟨#[97, UInt8.ofNat (97 + i / 10), UInt8.ofNat (97 + i % 10)]⟩
def mAt (i : Nat) : Atr := ⟨mName i, 0, 0, ⟨#[]⟩, none, [], 0, none, [], 0⟩
def mL (k : Nat) : List Atr := (List.range k).map mAt
theorem mL_succ (k : Nat) : mL (k + 1) = mL k ++ [mAt k] := by unfold mL; rw [List.range_succ, List.map_append]; rfl
theorem mL_len (k : Nat) : (mL k).length = k := by simp [mL]
def atB : Atr := ⟨⟨#[98]⟩, 0, 0, ⟨#[]⟩, none, [], 0, none, [], 0⟩
def atA : Atr := ⟨⟨#[97, 97, 97]⟩, 0, 1, ⟨#[]⟩, none, [], 0, none, [], 0⟩
theorem mR : rightL (mL 100) = true := by kernel_rfl
theorem mRB : rightL [atB] = true := by kernel_rfl
theorem mRA : rightL [atA] = true := by kernel_rfl
theorem mMB : decide (100 < (mergeD ((mL 100).map Atr.dat) ([atB].map Atr.dat)).length) = true := by kernel_rfl
theorem mMA : decide ((mergeD ((mL 100).map Atr.dat) ([atA].map Atr.dat)).length = 100) = true := by kernel_rfl
theorem mMA0 : (mergeD ((mL 100).map Atr.dat) ([atA].map Atr.dat))[0]? = some atA.dat := by kernel_rfl
theorem plain_lies {a : Atr} (w : World) (h1 : a.ints = []) (h2 : a.texts = []) : a.Lies w := ⟨.inl h1, .inl h2⟩
theorem plain_fits {nm t : ByteArray} {k n : Int} (h1 : nm.size ≤ 140737488351232) (h2 : t.size ≤ 140737488351232) (h3 : -9223372036854775808 ≤ n ∧ n ≤ 9223372036854775807) (h4 : -9223372036854775808 ≤ k ∧ k ≤ 9223372036854775807) : (⟨nm, k, n, t, none, [], 0, none, [], 0⟩ : Atr).Fits :=
  ⟨h1, h2, h3, h4, Nat.le_refl _, by simp, by simp, Nat.le_refl _, by simp, by simp⟩
theorem mAt_fits (i : Nat) : (mAt i).Fits := plain_fits (by show 3 ≤ _; omega) (by decide) (by decide) (by decide)
theorem mL_mem {k : Nat} {a : Atr} (h : a ∈ mL k) : ∃ i, a = mAt i := by
  unfold mL at h
  obtain ⟨i, -, rfl⟩ := List.mem_map.1 h
  exact ⟨i, rfl⟩
theorem sl_of_own {w : World} {base : Nat} {p : Option Addr} {n c : Nat} {l : List Atr} (h : w.ownsRow base 27 6 (.slice p n c) n (l.flatMap Atr.cells)) (hn : n = l.length) (hl : ∀ a ∈ l, a.Lies w) (hf : ∀ a ∈ l, a.Fits) : AtrSl w p l := by
  refine ⟨?_, hl, hf⟩
  rcases h.2 with ⟨h1, h2⟩ | ⟨g, cap, cur, h1, hb, h2, h4, h5, h6, h7⟩
  · exact .inl (List.length_eq_zero_iff.1 (by omega))
  · cases h1
    refine .inr ⟨g, 0, rfl, blkLt h2, fun j hj i hi => ?_⟩
    rw [blkCell h2, Nat.zero_add, ← flat_at hj hi, ← h7, List.getElem?_take, if_pos (by omega)]
    simp
theorem mL_sl {w : World} {base : Nat} {p : Option Addr} {k c : Nat} (h : w.ownsRow base 27 6 (.slice p k c) k ((mL k).flatMap Atr.cells)) : AtrSl w p (mL k) :=
  sl_of_own h (mL_len k).symm (fun a ha => by obtain ⟨i, rfl⟩ := mL_mem ha; exact plain_lies w rfl rfl) (fun a ha => by obtain ⟨i, rfl⟩ := mL_mem ha; exact mAt_fits i)
section
variable (W : World) (p : Option Addr) (c : Nat) (hs : AtrSl W p (mL 100))
include hs
theorem many_set : Calls Tryz.prog 13 #[.slice p 100 c, av ⟨#[98]⟩ 0 0 ⟨#[]⟩ none 0 0 none 0 0] W fun e w' => e = .returned (.tuple #[.slice none 0 0, .int .i64 2]) ∧ Below W.heap.size W w' := by
  have h := set_any p c (mL 100) atB W hs (by rw [mL_len]; omega) ⟨.inl rfl, .inl rfl⟩ ⟨by decide, by decide, by decide, by decide, by decide, by decide, by decide, by decide, by decide, by decide⟩
  rw [mL_len] at h
  refine h.mono fun e w' h => ?_
  obtain ⟨hb, h2⟩ := h
  rw [mR, mRB, if_pos (show (true && true) = true from rfl), if_pos (of_decide_eq_true mMB)] at h2
  exact ⟨h2, hb⟩
theorem many_one : Calls Tryz.prog 13 #[.slice p 100 c, av ⟨#[97, 97, 97]⟩ 0 1 ⟨#[]⟩ none 0 0 none 0 0] W fun e w' => ∃ g c', e = .returned (.tuple #[.slice (some ⟨g, 0, none⟩) 100 c', .int .i64 0]) ∧ g < w'.heap.size ∧ w'.cell? ⟨g, 2, none⟩ = some (.int .i64 1) ∧ Below W.heap.size W w' := by
  have h := set_any p c (mL 100) atA W hs (by rw [mL_len]; omega) ⟨.inl rfl, .inl rfl⟩ ⟨by decide, by decide, by decide, by decide, by decide, by decide, by decide, by decide, by decide, by decide⟩
  rw [mL_len] at h
  refine h.mono fun e w' h => ?_
  obtain ⟨hb, h2⟩ := h
  have hl := of_decide_eq_true mMA
  rw [mR, mRA, if_pos (show (true && true) = true from rfl), if_neg (by omega)] at h2
  obtain ⟨v, l', he, ho, hd⟩ := h2
  have hl' : l'.length = 100 := by have := congrArg List.length hd; rw [List.length_map] at this; omega
  obtain ⟨g, c', cur, rfl, -, hgc, -⟩ := ho.form (by omega)
  obtain ⟨g2, off, h1, -, hrow⟩ := ho.sl.row (j := 0) (by omega)
  cases h1
  have h3 := (hrow 0 (by omega)).c2
  have h4 : l'[0].num = 1 := by
    have : (l'.map Atr.dat)[0]? = some atA.dat := by rw [hd]; exact mMA0
    rw [List.getElem?_map, List.getElem?_eq_getElem (by omega)] at this
    have := Option.some.inj this
    show l'[0].dat.num = _
    rw [this]; rfl
  rw [h4] at h3
  exact ⟨g, c', by rw [he, hl'], blkLt hgc, h3, hb⟩
theorem many_merge (g : Nat) (h : W.heap[g]? = some (.cells #[.string ⟨#[98]⟩, .int .i64 0, .int .i64 0, .string ⟨#[]⟩, .slice none 0 0, .slice none 0 0] 27 (0, 0))) : Calls Tryz.prog 18 #[.slice p 100 c, .slice (some ⟨g, 0, none⟩) 1 1] W fun e w' => e = .returned (.tuple #[.slice none 0 0, .int .i64 2]) ∧ Below W.heap.size W w' := by
  have hs2 : AtrSl W (some ⟨g, 0, none⟩) [atB] := atrSl_block h ⟨.inl rfl, .inl rfl⟩ ⟨by decide, by decide, by decide, by decide, by decide, by decide, by decide, by decide, by decide, by decide⟩
  have h := merge_any p (some ⟨g, 0, none⟩) c 1 (mL 100) [atB] W hs hs2 (by rw [mL_len]; omega) (by simp)
  rw [mL_len] at h
  refine h.mono fun e w' h => ?_
  obtain ⟨hb, h2⟩ := h
  rw [mR, mRB, if_pos (show (true && true) = true from rfl), if_pos (of_decide_eq_true mMB)] at h2
  exact ⟨h2, hb⟩
theorem many_check : Calls Tryz.prog 19 #[.slice p 100 c] W fun e w' => e = .returned (.int .i64 0) ∧ Below W.heap.size W w' := by
  have h := check_any' p c (mL 100) W hs (by rw [mL_len]; omega)
  rw [mL_len] at h
  refine h.mono fun e w' h => ⟨by rw [h.1, mR]; rfl, h.2⟩
end
/-- What Set gives, and the reference with it: an error or 0, and a list's data. -/
def setWant (l : List Atr) (a : Atr) : Int := if rightL l && rightA a then (if 100 < (setD (l.map Atr.dat) a.dat).length then 2 else 0) else 20
def setVal (l : List Atr) (a : Atr) : List Dat := if rightL l && rightA a then (if 100 < (setD (l.map Atr.dat) a.dat).length then [] else setD (l.map Atr.dat) a.dat) else []
theorem rightL_one (a : Atr) : rightL [a] = rightA a := by
  rw [Bool.eq_iff_iff]
  constructor
  · intro h; exact rightL_mem h a (by simp)
  · intro h; exact rightL_of (by simp) (fun b hb => by rw [List.mem_singleton.1 hb]; exact h) (fun i j hi hj => by simp at hj; omega)
theorem set_want (p : Option Addr) (c : Nat) (l : List Atr) (a : Atr) (w : World) (hs : AtrSl w p l) (hl : l.length ≤ 100000000000000) (ha : a.Lies w) (hf : a.Fits) :
    Calls Tryz.prog 13 #[.slice p l.length c, a.val] w fun e w' => ∃ sv n cv lv, e = .returned (.tuple #[.slice sv n cv, .int .i64 (setWant l a)]) ∧ n = lv.length ∧ AtrSl w' sv lv ∧ lv.map Atr.dat = setVal l a ∧ Below w.heap.size w w' := by
  refine (set_any p c l a w hs hl ha hf).mono fun e w' h => ?_
  obtain ⟨hb, h2⟩ := h
  have hm : mergeD (l.map Atr.dat) ([a].map Atr.dat) = setD (l.map Atr.dat) a.dat := rfl
  rw [rightL_one, hm] at h2
  unfold setWant setVal
  by_cases h1 : (rightL l && rightA a) = true
  · rw [if_pos h1] at h2
    rw [if_pos h1, if_pos h1]
    by_cases h3 : 100 < (setD (l.map Atr.dat) a.dat).length
    · rw [if_pos h3] at h2
      rw [if_pos h3, if_pos h3]
      exact ⟨none, 0, 0, [], h2, rfl, ⟨.inl rfl, by simp, by simp⟩, rfl, hb⟩
    · rw [if_neg h3] at h2
      rw [if_neg h3, if_neg h3]
      obtain ⟨v, lv, he, ho, hd⟩ := h2
      obtain ⟨sv, cv, rfl, -⟩ := own_form ho.own
      exact ⟨sv, lv.length, cv, lv, he, rfl, ho.sl, hd, hb⟩
  · rw [if_neg h1] at h2
    rw [if_neg h1, if_neg h1]
    exact ⟨none, 0, 0, [], h2, rfl, ⟨.inl rfl, by simp, by simp⟩, rfl, hb⟩
theorem setVal_len (l : List Atr) (a : Atr) : (setVal l a).length ≤ 100 := by
  unfold setVal
  split
  · split
    · simp
    · omega
  · simp
end Go.Proofs.YtmepjbjmjbpchaaGreatDoor

