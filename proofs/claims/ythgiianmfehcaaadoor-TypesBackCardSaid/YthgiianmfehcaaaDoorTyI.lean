/- Package types: lists of types, read by a property. -/
import Derived.Test.YthgiianmfehcaaaDoorTy9
namespace Go.Proofs.YthgiianmfehcaaaDoor
open Go Go.RowKit Go.Sort
set_option linter.unusedVariables false
set_option linter.unusedSimpArgs false

/-- A slice of strings that is read. -/
def StrSl (w : World) (a : Option Addr) (ls : List ByteArray) : Prop :=
  ls = [] ∨ ∃ g off, a = some ⟨g, off, none⟩ ∧ g < w.heap.size ∧ ∀ j (hj : j < ls.length), w.cell? ⟨g, off + j, none⟩ = some (.string ls[j])
theorem StrSl.below {w w1 : World} {a : Option Addr} {ls : List ByteArray} (h : StrSl w a ls) (hb : Below w.heap.size w w1) : StrSl w1 a ls := by
  rcases h with h | ⟨g, off, h1, h2, h3⟩
  · exact .inl h
  · exact .inr ⟨g, off, h1, Nat.lt_of_lt_of_le h2 hb.size, fun j hj => (rdCell hb g h2 (off + j)).trans (h3 j hj)⟩
theorem StrSl.at {w : World} {a : Option Addr} {ls : List ByteArray} (h : StrSl w a ls) {j : Nat} (hj : j < ls.length) : ∃ g off, a = some ⟨g, off, none⟩ ∧ w.cell? ⟨g, off + j, none⟩ = some (.string ls[j]) := by
  rcases h with rfl | ⟨g, off, h1, h2, h3⟩
  · simp at hj
  · exact ⟨g, off, h1, h3 j hj⟩
theorem below_own' {w W w2 : World} (h : Below w.heap.size w W) (hb : Below W.heap.size W w2) : Below w.heap.size w w2 := h.trans (hb.mono h.size)
def idxOf (P : ByteArray → Bool) (ls : List ByteArray) : Int := match ls.findIdx? P with | some i => i | none => -1

set_option maxRecDepth 100000 in
set_option maxHeartbeats 2000000 in
theorem indexFunc_any (P : ByteArray → Bool) (f : Nat) (hin : ∀ args w, (callFunc f args).run Tryd.prog w = .ok (.enter f args) w)
    (a : Option Addr) (c : Nat) (ls : List ByteArray) (hf : ∀ s ∈ ls, ∀ (w : World), Calls Tryd.prog f #[.string s] w fun e w' => e = .returned (.bool (P s)) ∧ Below w.heap.size w w')
    (w : World) (hs : StrSl w a ls) (hlen : ls.length ≤ 9223372036854775807) :
    Calls Tryd.prog 78 #[.slice a ls.length c, .func (.func f) #[] #[]] w fun e w' => e = .returned (.int .i64 (idxOf P ls)) ∧ Below w.heap.size w w' := by
  have HS := Lib.hid hs
  have HF := Lib.hid hf
  clear hs hf
  go_enter Tryd.func78, Tryd.ntmps78
  go_wp2_with fail
  go_loopw [8] (fun i wr => ∃ j : Nat, j ≤ ls.length ∧ i = .int .i64 j ∧ Below w.heap.size w wr ∧ ∀ t (ht : t < j) (hl : t < ls.length), P ls[t] = false) (fun i _ => ls.length - (intOf i).toNat)
  · exact ⟨0, Nat.zero_le _, rfl, Below.refl _ _, fun t ht => by omega⟩
  · obtain ⟨j, hj, rfl, hb, hno⟩ := hrel
    have HB := Lib.hid hb
    have HNO := Lib.hid hno
    clear hb hno
    rcases Nat.lt_or_ge j ls.length with hlt | hge
    · obtain ⟨g, off, rfl, hcell⟩ := (HS.out.below HB.out).at hlt
      obtain ⟨s, hs⟩ : ∃ s, s = ls[j] := ⟨_, rfl⟩
      rw [← hs] at hcell
      have hfs := HF.out s (by rw [hs]; exact List.getElem_mem _)
      have HFS := Lib.hid hfs
      have HSJ := Lib.hid hs
      clear hfs hs
      cases hp : P s with
      | true =>
        have HP := Lib.hid hp; clear hp
        go_wp2_with (refine (HFS.out _).mono ?_; rintro e w2 ⟨rfl, hb2⟩; rw [HP.out])
        go_ret
        refine ⟨?_, below_own' HB.out hb2⟩
        have : ls.findIdx? P = some j := by
          rw [List.findIdx?_eq_some_iff_getElem]
          exact ⟨hlt, by rw [← HSJ.out]; exact HP.out, fun t ht => by rw [HNO.out t ht (by omega)]; simp⟩
        simp only [idxOf, this]
        rfl
      | false =>
        have HP := Lib.hid hp; clear hp
        go_wp2_with (refine (HFS.out _).mono ?_; rintro e w2 ⟨rfl, hb2⟩; rw [HP.out])
        go_roundw
        · refine ⟨j + 1, hlt, by simp, below_own' HB.out hb2, fun t ht hl => ?_⟩
          rcases Nat.lt_or_ge t j with h | h
          · exact HNO.out t h hl
          · have : t = j := by omega
            subst this
            rw [← HSJ.out]; exact HP.out
        · simp [intOf]; omega
    · go_wp2_with fail
      go_ret
      refine ⟨?_, HB.out⟩
      have : ls.findIdx? P = none := by
        rw [List.findIdx?_eq_none_iff]
        intro x hx
        obtain ⟨t, ht, rfl⟩ := List.getElem_of_mem hx
        exact HNO.out t (by omega) ht
      simp only [idxOf, this]
      rfl

set_option maxRecDepth 100000 in
theorem containsFunc_any (P : ByteArray → Bool) (f : Nat) (hin : ∀ args w, (callFunc f args).run Tryd.prog w = .ok (.enter f args) w)
    (a : Option Addr) (c : Nat) (ls : List ByteArray) (hf : ∀ s ∈ ls, ∀ (w : World), Calls Tryd.prog f #[.string s] w fun e w' => e = .returned (.bool (P s)) ∧ Below w.heap.size w w')
    (w : World) (hs : StrSl w a ls) (hlen : ls.length ≤ 9223372036854775807) :
    Calls Tryd.prog 54 #[.slice a ls.length c, .func (.func f) #[] #[]] w fun e w' => e = .returned (.bool (ls.any P)) ∧ Below w.heap.size w w' := by
  have HI := Lib.hid (indexFunc_any P f hin a c ls hf w hs hlen)
  clear hf hs
  obtain ⟨i, hi⟩ : ∃ i, i = idxOf P ls := ⟨_, rfl⟩
  have hany : decide (0 ≤ i) = ls.any P := by
    rw [hi, idxOf]
    split
    · rename_i n hn
      rw [List.findIdx?_eq_some_iff_getElem] at hn
      obtain ⟨h1, h2, -⟩ := hn
      rw [Bool.eq_iff_iff]
      simp
      exact ⟨_, List.getElem_mem h1, h2⟩
    · rename_i hn
      rw [List.findIdx?_eq_none_iff] at hn
      rw [Bool.eq_iff_iff]
      simp
      exact hn
  rw [← hany]
  have HA := Lib.hid hi
  clear hi hany
  go_enter Tryd.func54, Tryd.ntmps54
  go_wp2_with (go_at_call 78; refine HI.out.mono ?_; rintro e w2 ⟨rfl, hb2⟩; rw [← HA.out])
  go_ret
  exact ⟨rfl, hb2⟩

/-- A type that is wrong. -/
def badTy (s : ByteArray) : Bool := decide ((askAny s.data.toList).2 ≠ 0)
set_option maxRecDepth 100000 in
theorem split1_any (s : ByteArray) (hs : s.size ≤ 140737488355328) (w : World) : Calls Tryd.prog 55 #[.string s] w fun e w' => e = .returned (.bool (badTy s)) ∧ Below w.heap.size w w' := by
  obtain ⟨n, hn⟩ : ∃ n, n = (askAny s.data.toList).2 := ⟨_, rfl⟩
  rw [show badTy s = decide (n ≠ 0) from by rw [badTy, hn]]
  have HN := Lib.hid hn; clear hn
  go_enter Tryd.func55, Tryd.ntmps55
  go_wp2_with (go_at_call 29; refine (check_any _ _ hs).mono ?_; rintro e w2 ⟨rfl, hb2⟩; rw [← HN.out])
  go_ret
  refine ⟨?_, hb2⟩
  show Ending.returned (.bool ((n : Int) != 0)) = _
  congr 2
  rw [Bool.eq_iff_iff]; simp
set_option maxRecDepth 100000 in
theorem join1_any (s : ByteArray) (hs : s.size ≤ 140737488355328) (w : World) : Calls Tryd.prog 67 #[.string s] w fun e w' => e = .returned (.bool (badTy s)) ∧ Below w.heap.size w w' := by
  obtain ⟨n, hn⟩ : ∃ n, n = (askAny s.data.toList).2 := ⟨_, rfl⟩
  rw [show badTy s = decide (n ≠ 0) from by rw [badTy, hn]]
  have HN := Lib.hid hn; clear hn
  go_enter Tryd.func67, Tryd.ntmps67
  go_wp2_with (go_at_call 29; refine (check_any _ _ hs).mono ?_; rintro e w2 ⟨rfl, hb2⟩; rw [← HN.out])
  go_ret
  refine ⟨?_, hb2⟩
  show Ending.returned (.bool ((n : Int) != 0)) = _
  congr 2
  rw [Bool.eq_iff_iff]; simp
theorem contains_split (a : Option Addr) (c : Nat) (ls : List ByteArray) (w : World) (hs : StrSl w a ls) (hlen : ls.length ≤ 9223372036854775807) (hl : ∀ s ∈ ls, s.size ≤ 140737488355328) :
    Calls Tryd.prog 54 #[.slice a ls.length c, .func (.func 55) #[] #[]] w fun e w' => e = .returned (.bool (ls.any badTy)) ∧ Below w.heap.size w w' :=
  containsFunc_any badTy _ (fun args w => callFunc_enters Tryd.func55 (by kernel_rfl) rfl args w) a c ls (fun s hm w => split1_any s (hl s hm) w) w hs hlen
theorem contains_join (a : Option Addr) (c : Nat) (ls : List ByteArray) (w : World) (hs : StrSl w a ls) (hlen : ls.length ≤ 9223372036854775807) (hl : ∀ s ∈ ls, s.size ≤ 140737488355328) :
    Calls Tryd.prog 54 #[.slice a ls.length c, .func (.func 67) #[] #[]] w fun e w' => e = .returned (.bool (ls.any badTy)) ∧ Below w.heap.size w w' :=
  containsFunc_any badTy _ (fun args w => callFunc_enters Tryd.func67 (by kernel_rfl) rfl args w) a c ls (fun s hm w => join1_any s (hl s hm) w) w hs hlen
end Go.Proofs.YthgiianmfehcaaaDoor
