/- Texts of this claim, laid together: Az2, Az3. -/
import Derived.Test.YtmepjbjmjbpchaaGreatDoorMg13
import Derived.Test.YtmepjbjmjbpchaaGreatDoorMg17
import Derived.Test.YtmepjbjmjbpchaaGreatDoorMg18
section
/- attrs.Read over what attrs.guess gives. -/
namespace Go.Proofs.YtmepjbjmjbpchaaGreatDoor
open Go Go.RowKit Go.Sort
set_option linter.unusedVariables false
set_option linter.unusedSimpArgs false

/-- What a call that gives an attribute with these data gives. -/
def GsPost (D : Dat) (w : World) (e : Ending) (w' : World) : Prop :=
  ∃ a : Atr, e = .returned a.val ∧ a.dat = D ∧ a.Lies w' ∧ a.Fits ∧ (∀ x, (a.ia = some x ∨ a.ta = some x) → w.heap.size ≤ x.block ∧ x.block < w'.heap.size) ∧ Below w.heap.size w w'
/-- .. or none, with an error. -/
def RdPost (o : Option Dat) (n : Int) (w : World) (e : Ending) (w' : World) : Prop :=
  match o with
  | some D => ∃ a : Atr, e = .returned (.tuple #[a.val, .int .i64 0]) ∧ a.dat = D ∧ a.Lies w' ∧ a.Fits ∧ (∀ x, (a.ia = some x ∨ a.ta = some x) → w.heap.size ≤ x.block ∧ x.block < w'.heap.size) ∧ Below w.heap.size w w'
  | none => e = .returned (.tuple #[zAt, .int .i64 n]) ∧ Below w.heap.size w w'
def readOk (D : Dat) (s : ByteArray) : Bool := rightD D && decide (valD D = s.data.toList)
set_option maxRecDepth 100000 in
set_option maxHeartbeats 8000000 in
theorem read_of (nm s : ByteArray) (D : Dat) (w : World) (hn : nameOf nm.data.toList = true) (hg : ∀ W, Below w.heap.size w W → Calls Tryz.prog 43 #[.string nm, .string s] W (GsPost D W)) (hp : Pow w) :
    Calls Tryz.prog 22 #[.string nm, .string s] w (RdPost (if readOk D s then some D else none) 70 w) := by
  have HN := Lib.hid hn
  have HG := Lib.hid hg
  have HP := Lib.hid hp
  obtain ⟨vs, hvs⟩ : ∃ vs : ByteArray, vs = ⟨(valD D).toArray⟩ := ⟨_, rfl⟩
  have hve : decide (valD D = s.data.toList) = decide (vs = s) := by
    rw [decide_eq_decide, hvs]
    constructor
    · intro h; rw [h]
    · intro h; rw [← h]
  obtain ⟨r, hr⟩ : ∃ r, r = rightD D := ⟨_, rfl⟩
  have hok : readOk D s = (r && decide (vs = s)) := by rw [readOk, hve, hr]
  rw [hok]
  have HVS := Lib.hid hvs
  have HR := Lib.hid hr
  have hzat : ∀ W : World, True := fun _ => trivial
  clear hn hg hp hvs hve hr hok hzat
  have hcs : r = false ∨ (r = true ∧ ¬ vs = s) ∨ (r = true ∧ vs = s) := by
    cases r
    · exact .inl rfl
    · by_cases h : vs = s
      · exact .inr (.inr ⟨rfl, h⟩)
      · exact .inr (.inl ⟨rfl, h⟩)
  rcases hcs with rfl | ⟨rfl, hv⟩ | ⟨rfl, hv⟩
  · go_enter Tryz.func22, Tryz.ntmps22
    go_wp2_with (first
      | (go_at_call 45; refine Calls.mono (textA_any x _ (HL.out.below ?_) HF.out (by rw [HRX.out]) (pow_below HP.out ?_)) ?_; (focus ((repeat (first | (with_reducible refine below_set ?_ (by first | exact Nat.le_refl _ | omega) _ _) | with_reducible exact Below.refl _ _ | with_reducible refine belowA ?_ _ | with_reducible refine below_own' ?_ hb3 | with_reducible refine belowD ?_ | with_reducible refine belowN ?_ _)); done)); (focus ((repeat (first | (with_reducible refine below_set ?_ (by first | exact Nat.le_refl _ | omega) _ _) | with_reducible exact Below.refl _ _ | with_reducible refine belowA ?_ _ | with_reducible refine below_own' ?_ hb3 | with_reducible refine below_own' ?_ hb2 | with_reducible refine belowD ?_ | with_reducible refine belowN ?_ _)); done)); rintro e w4 ⟨rfl, hb4⟩; rw [HTX.out]; have c4 := fun j => (rdCell hb4 w.heap.size (by omega) j).trans (c3 j); have f4 := fun j => (rdFree hb4 w.heap.size (by omega) j).trans (f3 j); have d4 := fun j => (rdCell hb4 w2.heap.size (by omega) j).trans (d3 j); have hzw4 : w2.heap.size < w4.heap.size := Nat.lt_of_lt_of_le hzw3 hb4.size)
      | (go_at_call 44; refine Calls.mono (isRight_any x _ (HL.out.below ?_) HF.out) ?_; (focus ((repeat (first | (with_reducible refine below_set ?_ (by first | exact Nat.le_refl _ | omega) _ _) | with_reducible exact Below.refl _ _ | with_reducible refine belowA ?_ _ | with_reducible refine belowD ?_ | with_reducible refine belowN ?_ _)); done)); rintro e w3 ⟨rfl, hb3⟩; rw [HRX.out]; have c3 := rdCell hb3 w.heap.size (by simp; omega); have f3 := rdFree hb3 w.heap.size (by simp; omega); have d3 := rdCell hb3 w2.heap.size (by simp); have hzw3 : w2.heap.size < w3.heap.size := (by have := Below.size hb3; simp at this; omega))
      | (go_at_call 43; refine Calls.mono (HG.out _ ?_) ?_; (focus ((repeat (first | (with_reducible refine below_set ?_ (by first | exact Nat.le_refl _ | omega) _ _) | with_reducible exact Below.refl _ _ | with_reducible refine belowA ?_ _ | with_reducible refine belowD ?_ | with_reducible refine belowN ?_ _)); done)); rintro e w2 ⟨x, rfl, hd, hl, hf, hfr, hb2⟩; have HRX : Hid (rightA x = _) := Lib.hid (by rw [rightA_D, hd, ← HR.out]); have HTX : Hid ((⟨(valD x.dat).toArray⟩ : ByteArray) = vs) := Lib.hid (by rw [hd, HVS.out]); have c2 := rdCell hb2 w.heap.size (by first | (simp; done) | (simp; omega)); have f2 := rdFree hb2 w.heap.size (by first | (simp; done) | (simp; omega)); have hzw2 : w.heap.size < w2.heap.size := (by have := Below.size hb2; simp at this; omega); have HL := Lib.hid hl; have HF := Lib.hid hf; have HD := Lib.hid hd; have HFR := Lib.hid hfr; clear hl hf hd hfr)
      | (go_at_call 42; refine (isName_any nm _).mono ?_; rintro e w1 ⟨rfl, rfl⟩; rw [HN.out]))
    refine bodyPost_ret (v := .tuple #[zAt, .int .i64 70]) (by simp [results, Tryz.results22, go_sem, c3, f3, c2, f2, hzw2, show w.heap.size < w3.heap.size by omega, zAt]) rfl ?_
    exact ⟨rfl, by (repeat (first | (with_reducible refine below_set ?_ (by first | exact Nat.le_refl _ | omega) _ _) | with_reducible exact Below.refl _ _ | with_reducible refine belowA ?_ _ | with_reducible refine below_own' ?_ hb3 | with_reducible refine below_own' ?_ hb2 | with_reducible refine belowD ?_ | with_reducible refine belowN ?_ _))⟩
  · have hvl : (vs.toList == s.toList) = false := by simpa [toList_inj] using hv
    rw [if_neg (by simpa using hv)]
    go_enter Tryz.func22, Tryz.ntmps22
    go_wp2_with (first
      | (go_at_call 45; refine Calls.mono (textA_any x _ (HL.out.below ?_) HF.out (by rw [HRX.out]) (pow_below HP.out ?_)) ?_; (focus ((repeat (first | (with_reducible refine below_set ?_ (by first | exact Nat.le_refl _ | omega) _ _) | with_reducible exact Below.refl _ _ | with_reducible refine belowA ?_ _ | with_reducible refine below_own' ?_ hb3 | with_reducible refine belowD ?_ | with_reducible refine belowN ?_ _)); done)); (focus ((repeat (first | (with_reducible refine below_set ?_ (by first | exact Nat.le_refl _ | omega) _ _) | with_reducible exact Below.refl _ _ | with_reducible refine belowA ?_ _ | with_reducible refine below_own' ?_ hb3 | with_reducible refine below_own' ?_ hb2 | with_reducible refine belowD ?_ | with_reducible refine belowN ?_ _)); done)); rintro e w4 ⟨rfl, hb4⟩; rw [HTX.out]; have c4 := fun j => (rdCell hb4 w.heap.size (by omega) j).trans (c3 j); have f4 := fun j => (rdFree hb4 w.heap.size (by omega) j).trans (f3 j); have d4 := fun j => (rdCell hb4 w2.heap.size (by omega) j).trans (d3 j); have hzw4 : w2.heap.size < w4.heap.size := Nat.lt_of_lt_of_le hzw3 hb4.size)
      | (go_at_call 44; refine Calls.mono (isRight_any x _ (HL.out.below ?_) HF.out) ?_; (focus ((repeat (first | (with_reducible refine below_set ?_ (by first | exact Nat.le_refl _ | omega) _ _) | with_reducible exact Below.refl _ _ | with_reducible refine belowA ?_ _ | with_reducible refine belowD ?_ | with_reducible refine belowN ?_ _)); done)); rintro e w3 ⟨rfl, hb3⟩; rw [HRX.out]; have c3 := rdCell hb3 w.heap.size (by simp; omega); have f3 := rdFree hb3 w.heap.size (by simp; omega); have d3 := rdCell hb3 w2.heap.size (by simp); have hzw3 : w2.heap.size < w3.heap.size := (by have := Below.size hb3; simp at this; omega))
      | (go_at_call 43; refine Calls.mono (HG.out _ ?_) ?_; (focus ((repeat (first | (with_reducible refine below_set ?_ (by first | exact Nat.le_refl _ | omega) _ _) | with_reducible exact Below.refl _ _ | with_reducible refine belowA ?_ _ | with_reducible refine belowD ?_ | with_reducible refine belowN ?_ _)); done)); rintro e w2 ⟨x, rfl, hd, hl, hf, hfr, hb2⟩; have HRX : Hid (rightA x = _) := Lib.hid (by rw [rightA_D, hd, ← HR.out]); have HTX : Hid ((⟨(valD x.dat).toArray⟩ : ByteArray) = vs) := Lib.hid (by rw [hd, HVS.out]); have c2 := rdCell hb2 w.heap.size (by first | (simp; done) | (simp; omega)); have f2 := rdFree hb2 w.heap.size (by first | (simp; done) | (simp; omega)); have hzw2 : w.heap.size < w2.heap.size := (by have := Below.size hb2; simp at this; omega); have HL := Lib.hid hl; have HF := Lib.hid hf; have HD := Lib.hid hd; have HFR := Lib.hid hfr; clear hl hf hd hfr)
      | (go_at_call 42; refine (isName_any nm _).mono ?_; rintro e w1 ⟨rfl, rfl⟩; rw [HN.out]))
    refine bodyPost_ret (v := .tuple #[zAt, .int .i64 70]) (by simp [results, Tryz.results22, go_sem, c4, f4, c2, f2, hzw2, show w.heap.size < w4.heap.size by omega, zAt]) rfl ?_
    exact ⟨rfl, by (repeat (first | (with_reducible refine below_set ?_ (by first | exact Nat.le_refl _ | omega) _ _) | with_reducible exact Below.refl _ _ | with_reducible refine belowA ?_ _ | with_reducible refine below_own' ?_ hb4 | with_reducible refine below_own' ?_ hb3 | with_reducible refine below_own' ?_ hb2 | with_reducible refine belowD ?_ | with_reducible refine belowN ?_ _))⟩
  · have hvl : (vs.toList == s.toList) = true := by simpa [toList_inj] using hv
    rw [if_pos (by simpa using hv)]
    go_enter Tryz.func22, Tryz.ntmps22
    go_wp2_with (first
      | (go_at_call 45; refine Calls.mono (textA_any x _ (HL.out.below ?_) HF.out (by rw [HRX.out]) (pow_below HP.out ?_)) ?_; (focus ((repeat (first | (with_reducible refine below_set ?_ (by first | exact Nat.le_refl _ | omega) _ _) | with_reducible exact Below.refl _ _ | with_reducible refine belowA ?_ _ | with_reducible refine below_own' ?_ hb3 | with_reducible refine belowD ?_ | with_reducible refine belowN ?_ _)); done)); (focus ((repeat (first | (with_reducible refine below_set ?_ (by first | exact Nat.le_refl _ | omega) _ _) | with_reducible exact Below.refl _ _ | with_reducible refine belowA ?_ _ | with_reducible refine below_own' ?_ hb3 | with_reducible refine below_own' ?_ hb2 | with_reducible refine belowD ?_ | with_reducible refine belowN ?_ _)); done)); rintro e w4 ⟨rfl, hb4⟩; rw [HTX.out]; have c4 := fun j => (rdCell hb4 w.heap.size (by omega) j).trans (c3 j); have f4 := fun j => (rdFree hb4 w.heap.size (by omega) j).trans (f3 j); have d4 := fun j => (rdCell hb4 w2.heap.size (by omega) j).trans (d3 j); have hzw4 : w2.heap.size < w4.heap.size := Nat.lt_of_lt_of_le hzw3 hb4.size)
      | (go_at_call 44; refine Calls.mono (isRight_any x _ (HL.out.below ?_) HF.out) ?_; (focus ((repeat (first | (with_reducible refine below_set ?_ (by first | exact Nat.le_refl _ | omega) _ _) | with_reducible exact Below.refl _ _ | with_reducible refine belowA ?_ _ | with_reducible refine belowD ?_ | with_reducible refine belowN ?_ _)); done)); rintro e w3 ⟨rfl, hb3⟩; rw [HRX.out]; have c3 := rdCell hb3 w.heap.size (by simp; omega); have f3 := rdFree hb3 w.heap.size (by simp; omega); have d3 := rdCell hb3 w2.heap.size (by simp); have hzw3 : w2.heap.size < w3.heap.size := (by have := Below.size hb3; simp at this; omega))
      | (go_at_call 43; refine Calls.mono (HG.out _ ?_) ?_; (focus ((repeat (first | (with_reducible refine below_set ?_ (by first | exact Nat.le_refl _ | omega) _ _) | with_reducible exact Below.refl _ _ | with_reducible refine belowA ?_ _ | with_reducible refine belowD ?_ | with_reducible refine belowN ?_ _)); done)); rintro e w2 ⟨x, rfl, hd, hl, hf, hfr, hb2⟩; have HRX : Hid (rightA x = _) := Lib.hid (by rw [rightA_D, hd, ← HR.out]); have HTX : Hid ((⟨(valD x.dat).toArray⟩ : ByteArray) = vs) := Lib.hid (by rw [hd, HVS.out]); have c2 := rdCell hb2 w.heap.size (by first | (simp; done) | (simp; omega)); have f2 := rdFree hb2 w.heap.size (by first | (simp; done) | (simp; omega)); have hzw2 : w.heap.size < w2.heap.size := (by have := Below.size hb2; simp at this; omega); have HL := Lib.hid hl; have HF := Lib.hid hf; have HD := Lib.hid hd; have HFR := Lib.hid hfr; clear hl hf hd hfr)
      | (go_at_call 42; refine (isName_any nm _).mono ?_; rintro e w1 ⟨rfl, rfl⟩; rw [HN.out]))
    refine bodyPost_ret (v := .tuple #[x.val, .int .i64 0]) (by simp [results, Tryz.results22, go_sem, c4, f4, c2, f2, hzw2, show w.heap.size < w4.heap.size by omega]) rfl ?_
    have hbw : Below w.heap.size w w4 := by (repeat (first | (with_reducible refine below_set ?_ (by first | exact Nat.le_refl _ | omega) _ _) | with_reducible exact Below.refl _ _ | with_reducible refine belowA ?_ _ | with_reducible refine below_own' ?_ hb4 | with_reducible refine below_own' ?_ hb3 | with_reducible refine below_own' ?_ hb2 | with_reducible refine belowD ?_ | with_reducible refine belowN ?_ _))
    have hgr := six_grown w4 w.heap.size 0 x
    have hb24 : Below w2.heap.size w2 w4 := below_own' (by (repeat (first | (with_reducible refine below_set ?_ (by first | exact Nat.le_refl _ | omega) _ _) | with_reducible exact Below.refl _ _ | with_reducible refine belowA ?_ _ | with_reducible refine below_own' ?_ hb3 | with_reducible refine belowD ?_ | with_reducible refine belowN ?_ _))) hb4
    refine ⟨x, rfl, HD.out, ((HL.out.below hb24).grown hgr fun y hy e => ?_), HF.out, fun y hy => ?_, hbw.grown hgr hbw.size (fun t e => by cases e; exact Nat.le_refl _)⟩
    · have h1 := HFR.out y hy
      have h2 := Option.some.inj e
      simp at h1; omega
    · have h1 := HFR.out y hy
      have h2 : (six w4 w.heap.size 0 x).heap.size = w4.heap.size := by simp [six, World.setCell]
      have h3 := hb24.size
      have h4 := h1.1
      have h5 := h1.2
      simp at h4
      refine ⟨by omega, ?_⟩
      show y.block < (six w4 w.heap.size 0 x).heap.size
      omega
end Go.Proofs.YtmepjbjmjbpchaaGreatDoor
end
section
/- attrs.Parse over what attrs.Read gives at the pieces. -/
namespace Go.Proofs.YtmepjbjmjbpchaaGreatDoor
open Go Go.RowKit Go.Sort
set_option linter.unusedVariables false
set_option linter.unusedSimpArgs false

/-- The name and the string of a value that a piece holds. -/
def nmOf (p : ByteArray) : ByteArray := ⟨(Lib.cut (Lib.trimPrefix p.data.toList [32]) [32, 61, 32]).1.toArray⟩
def vlOf (p : ByteArray) : ByteArray := ⟨(Lib.cut (Lib.trimPrefix p.data.toList [32]) [32, 61, 32]).2.1.toArray⟩
def RdAny (o : Option Dat) (w : World) (e : Ending) (w' : World) : Prop := ∃ n : Int, n ≠ 0 ∧ RdPost o n w e w'
def readAll (F : ByteArray → Option Dat) : List ByteArray → Option (List Dat)
  | [] => some []
  | p :: r => match F p with | none => none | some d => (readAll F r).map (d :: ·)
theorem readAll_snoc (F : ByteArray → Option Dat) (p : ByteArray) : ∀ l : List ByteArray, readAll F (l ++ [p]) = (readAll F l).bind fun ds => (F p).map fun d => ds ++ [d]
  | [] => by simp [readAll]; cases F p <;> rfl
  | q :: r => by
    rw [List.cons_append]
    unfold readAll
    cases F q with
    | none => rfl
    | some d =>
      rw [readAll_snoc F p r]
      cases readAll F r with
      | none => rfl
      | some ds => cases F p <;> rfl
theorem readAll_none (F : ByteArray → Option Dat) : ∀ (l m : List ByteArray), readAll F l = none → readAll F (l ++ m) = none
  | [], m, h => by cases h
  | q :: r, m, h => by
    rw [List.cons_append]
    unfold readAll at h ⊢
    cases hq : F q with
    | none => rfl
    | some d =>
      rw [hq] at h
      cases hr : readAll F r with
      | none => simp only [readAll_none F r m hr]; rfl
      | some ds => rw [hr] at h; cases h
def atrOf (d : Dat) : Atr := ⟨d.name, d.kind, d.num, d.text, none, d.ints, 0, none, d.texts, 0⟩
/-- What Parse answers at the attributes of all pieces. -/
def parseOk (o : Option (List Dat)) (s : ByteArray) : Option (List Dat) := o.bind fun ds => if rightL (ds.map atrOf) && decide (listD ds = s.data.toList) then some ds else none
theorem rightL_D (l : List Atr) : rightL l = rightL ((l.map Atr.dat).map atrOf) := by
  have h : ∀ j, okAt l j = okAt ((l.map Atr.dat).map atrOf) j := by
    intro j
    unfold okAt
    rw [List.map_map, List.getElem?_map]
    cases l[j]? with
    | none => rfl
    | some a =>
      cases j with
      | zero => rfl
      | succ k =>
        simp only [Option.map_some, List.getElem?_map]
        cases l[k]? <;> rfl
  unfold rightL
  rw [List.length_map, List.length_map, funext h]
def PsPost (o : Option (List Dat)) (w : World) (e : Ending) (w' : World) : Prop :=
  Below w.heap.size w w' ∧ match o with
  | some ds => ∃ v l, e = .returned (.tuple #[v, .int .i64 0]) ∧ AtrOwn w' w.heap.size v l ∧ l.map Atr.dat = ds
  | none => e = .returned (.tuple #[.slice none 0 0, .int .i64 70])
theorem pcs_len (s : ByteArray) : ∀ (n pos : Nat) (d : Int) (q : Bool) (f : Nat) (k : Bool), (pcs s n pos d q f k).length ≤ n + 1
  | 0, _, _, _, _, _ => by simp [pcs]
  | n + 1, pos, d, q, f, k => by
    unfold pcs
    have ih := pcs_len s n
    repeat' split
    all_goals first | (refine Nat.le_trans (ih _ _ _ _ _) (by omega)) | (simp only [List.length_cons]; exact Nat.succ_le_succ (ih _ _ _ _ _)) | simp
set_option maxRecDepth 100000 in
set_option maxHeartbeats 8000000 in
theorem parse_of (F : ByteArray → Option Dat) (s : ByteArray) (w : World) (h2 : 2 ≤ s.size) (hs : s.size ≤ 1099511627) (ha : (s[0]'(by omega)).toNat = 123) (hb : (s[s.size - 1]'(by omega)).toNat = 125) (hG : Glob w)
    (hR : ∀ p ∈ piecesB (s.extract 1 (s.size - 1)), p.size < 4294967281 ∧ ∀ W, Below w.heap.size w W → Calls Tryz.prog 22 #[.string (nmOf p), .string (vlOf p)] W (RdAny (F p) W)) :
    Calls Tryz.prog 25 #[.string s] w (PsPost (parseOk (readAll F (piecesB (s.extract 1 (s.size - 1)))) s) w) := by
  obtain ⟨i0, hin, hz0, hz1, hz2⟩ := info_parts (show (Tryz.prog.info? 27).map (fun i => (i.zero, i.size, i.bytes)) = some (some zAttr, 6, 96) by kernel_rfl)
  obtain ⟨b, hbd⟩ : ∃ b, b = s.extract 1 (s.size - 1) := ⟨_, rfl⟩
  rw [← hbd] at hR ⊢
  have hbz : b.size ≤ s.size := by rw [hbd]; simp; omega
  obtain ⟨N, hNd⟩ : ∃ N, N = (piecesB b).length := ⟨_, rfl⟩
  have hN9 : N ≤ 1099511628 := by rw [hNd]; have := pcs_len b b.size 0 0 false 0 false; unfold piecesB; omega
  have HR := Lib.hid hR
  have HG := Lib.hid hG
  have HBD := Lib.hid hbd
  have HN := Lib.hid hNd
  have hpc : Hid (∀ W, Calls Tryz.prog 50 #[.string b] W fun e w' => ∃ sa sc, e = .returned (.slice sa N sc) ∧ Hid (StrSl w' sa (piecesB b)) ∧ Below W.heap.size W w') := Lib.hid (fun W => (pieces_any b W (by omega)).mono fun e w' ⟨sa, sc, he, ho, hb⟩ => ⟨sa, sc, by rw [he, hNd], Lib.hid (own_strs ho), hb⟩)
  have hne := not_empty (show 0 < s.size by omega)
  have h1 : (1 : Int) ≤ (s.size : Int) := by omega
  have h20 : ¬ ((s.size : Int) < 2) := by omega
  have h21 : (2 : Int) ≤ (s.size : Int) := by omega
  have h22 : (1 : Int) ≤ (s.size : Int) - 1 := by omega
  have h23 : (0 : Int) < (s.size : Int) := by omega
  have hlast : ((s.size : Int) - 1).toNat = s.size - 1 := by omega
  clear hR hG hbd hNd
  go_enter Tryz.func25, Tryz.ntmps25
  go_wp2_with (go_at_call 50; rw [← HBD.out]; refine (hpc.out _).mono ?_; rintro e w1 ⟨sa, sc, rfl, hs1, hb1⟩)
  have HS1 := Lib.hid hs1.out
  have HB1 := Lib.hid hb1
  clear hs1 hb1
  have hzw1 : w.heap.size ≤ w1.heap.size := HB1.out.size
  go_loopw [4, 37] (fun v i wr => ∃ (j : Nat) (pa : Option Addr) (pc : Nat) (l' : List Atr), v = .slice pa j pc ∧ j = l'.length ∧ i = .int .i64 j ∧ j ≤ N ∧ AtrOwn wr w1.heap.size (.slice pa j pc) l' ∧ readAll F ((piecesB b).take j) = some (l'.map Atr.dat) ∧ Below w1.heap.size w1 wr) (fun _ i _ => N - (intOf i).toNat)
  case atStart => exact ⟨0, none, 0, [], rfl, rfl, rfl, Nat.zero_le _, AtrOwn.emp _ _, rfl, Below.refl _ _⟩
  case round =>
    obtain ⟨j, pa, pc, l', rfl, hn, rfl, hj, ho, hra, hb⟩ := hrel
    have HLN := Lib.hid hn
    have HO := Lib.hid ho
    have HRA := Lib.hid hra
    have HB := Lib.hid hb
    have HOW : Hid (∀ W, Below wr.heap.size wr W → W.ownsRow w1.heap.size 27 6 (.slice pa j pc) j (l'.flatMap Atr.cells)) := Lib.hid fun W h => by have := (HO.out.below h).own; rwa [← HLN.out] at this
    clear hn ho hra hb
    rcases Nat.lt_or_ge j N with hlt | hge
    · have hjl : j < (piecesB b).length := by rw [← HN.out]; exact hlt
      obtain ⟨g, off, rfl, hcell⟩ := (HS1.out.below HB.out).at hjl
      obtain ⟨p, hp⟩ : ∃ p, p = (piecesB b)[j] := ⟨_, rfl⟩
      rw [← hp] at hcell
      have hpm : p ∈ piecesB b := by rw [hp]; exact List.getElem_mem _
      obtain ⟨hpz, hrd⟩ := HR.out p hpm
      have hTK : Hid ((piecesB b).take (j + 1) = (piecesB b).take j ++ [p]) := Lib.hid (by rw [List.take_succ_eq_append_getElem hjl, hp])
      obtain ⟨tq, htq⟩ : ∃ tq : ByteArray, tq = ⟨(Lib.trimPrefix p.data.toList [32]).toArray⟩ := ⟨_, rfl⟩
      obtain ⟨nm, hnm⟩ : ∃ nm, nm = nmOf p := ⟨_, rfl⟩
      obtain ⟨vl, hvl⟩ : ∃ vl, vl = vlOf p := ⟨_, rfl⟩
      have HTRIM : Hid (∀ W, Calls Tryz.prog 52 #[.string p, .string ⟨#[32]⟩] W fun e w' => e = .returned (.string tq) ∧ W = w') := Lib.hid (fun W => (Tryz.strings_TrimPrefix p ⟨#[32]⟩ W).mono fun e w' ⟨he, hw⟩ => ⟨by rw [he, htq], hw.symm⟩)
      have htz : tq.size < 4294967281 := by
        have h1 : (Lib.trimPrefix p.data.toList [32]).length ≤ p.data.toList.length := by unfold Lib.trimPrefix; split <;> simp
        have h2 : tq.size = (Lib.trimPrefix p.data.toList [32]).length := by rw [htq]; rfl
        have h3 : p.data.toList.length = p.size := by rw [Array.length_toList]; rfl
        omega
      have HCUT : Hid (∀ W, Below w.heap.size w W → Calls Tryz.prog 51 #[.string tq, .string ⟨#[32, 61, 32]⟩] W fun e w' => ∃ f, e = .returned (.tuple #[.string nm, .string vl, .bool f]) ∧ Below W.heap.size W w') := Lib.hid (fun W hW => by
        obtain ⟨m, hm⟩ := (HG.out.below hW).len
        refine (Tryz.strings_Cut tq ⟨#[32, 61, 32]⟩ m W htz hm).mono ?_
        rintro e w' ⟨he, k, hw⟩
        refine ⟨(Lib.cut tq.data.toList [32, 61, 32]).2.2, ?_, by rw [hw]; exact below_drewN (Below.refl _ _) k⟩
        rw [he, hnm, hvl, htq]; rfl)
      rw [← hnm, ← hvl] at hrd
      have HRD := Lib.hid hrd
      have hj0 : (0 : Int) ≤ (j : Int) := by omega
      have hjN : (j : Int) < (N : Int) := by omega
      clear hrd hpm hp htq hnm hvl htz hpz
      obtain ⟨o, ho⟩ : ∃ o, o = F p := ⟨_, rfl⟩
      have HFO := Lib.hid ho
      rw [← ho] at HRD
      clear ho
      cases o with
      | none =>
        have HRN : Hid (∀ W, Below w.heap.size w W → Calls Tryz.prog 22 #[.string nm, .string vl] W fun e w' => ∃ n : Int, (n == 0) = false ∧ e = .returned (.tuple #[.agg #[.string ⟨#[]⟩, .int .i64 0, .int .i64 0, .string ⟨#[]⟩, .slice none 0 0, .slice none 0 0], .int .i64 n]) ∧ Below W.heap.size W w') := Lib.hid fun W hW => (HRD.out W hW).mono fun e w' ⟨n, h1, h2, h3⟩ => ⟨n, by simpa using h1, h2, h3⟩
        go_wp2_with (first
          | (go_at_call 22; refine Calls.mono (HRN.out _ ?_) ?_; (focus ((repeat (first | (with_reducible refine below_set ?_ (by first | exact Nat.le_refl _ | omega) _ _) | with_reducible exact Below.refl _ _ | with_reducible refine belowA ?_ _ | with_reducible refine below_own' ?_ hb3 | with_reducible refine below_own' ?_ HB.out | with_reducible refine below_own' ?_ HB1.out | with_reducible refine belowD ?_ | with_reducible refine belowN ?_ _)); done)); rintro e w4 ⟨n4, hn4, rfl, hb4⟩)
          | (go_at_call 51; refine Calls.mono (HCUT.out _ ?_) ?_; (focus ((repeat (first | (with_reducible refine below_set ?_ (by first | exact Nat.le_refl _ | omega) _ _) | with_reducible exact Below.refl _ _ | with_reducible refine belowA ?_ _ | with_reducible refine below_own' ?_ HB.out | with_reducible refine below_own' ?_ HB1.out | with_reducible refine belowD ?_ | with_reducible refine belowN ?_ _)); done)); rintro e w3 ⟨f3, rfl, hb3⟩)
          | (go_at_call 52; refine (HTRIM.out _).mono ?_; rintro e w2 ⟨rfl, rfl⟩))
        have HFN : Hid (readAll F (piecesB b) = none) := Lib.hid (by
          rw [← List.take_append_drop (j + 1) (piecesB b)]
          refine readAll_none F _ _ ?_
          rw [hTK.out, readAll_snoc, ← HFO.out]
          cases readAll F ((piecesB b).take j) <;> rfl)
        go_ret2
        refine ⟨by (repeat (first | (with_reducible refine below_set ?_ (by first | exact Nat.le_refl _ | omega) _ _) | with_reducible exact Below.refl _ _ | with_reducible refine belowA ?_ _ | with_reducible refine below_own' ?_ hb4 | with_reducible refine below_own' ?_ hb3 | with_reducible refine below_own' ?_ HB.out | with_reducible refine below_own' ?_ HB1.out | with_reducible refine belowD ?_ | with_reducible refine belowN ?_ _)), ?_⟩
        rw [HFN.out]
        rfl
      | some D =>
        have HRS : Hid (∀ W, Below w.heap.size w W → Calls Tryz.prog 22 #[.string nm, .string vl] W fun e w' => ∃ a : Atr, e = .returned (.tuple #[a.val, .int .i64 0]) ∧ a.dat = D ∧ a.Lies w' ∧ a.Fits ∧ (∀ x, (a.ia = some x ∨ a.ta = some x) → W.heap.size ≤ x.block ∧ x.block < w'.heap.size) ∧ Below W.heap.size W w') := Lib.hid fun W hW => (HRD.out W hW).mono fun e w' ⟨n, h1, h2⟩ => h2
        go_wp2_with (first
          | (at_builtin; refine wpList_append_own_at _ rfl _ _ 22 rfl w1.heap.size 27 i0 zAttr 6 96 Tryz.underlying22 hin hz0 hz1 hz2 rfl (by decide) (.slice pa j pc) j (l'.flatMap Atr.cells) (by simp [Act.eval]) (HOW.out _ (by (repeat (first | (with_reducible refine below_set ?_ (by first | exact Nat.le_refl _ | omega) _ _) | with_reducible exact Below.refl _ _ | with_reducible refine belowA ?_ _ | with_reducible refine below_own' ?_ hb4 | with_reducible refine below_own' ?_ hb3 | with_reducible refine belowD ?_ | with_reducible refine belowN ?_ _)))) ⟨w4.heap.size + 1, 0, none⟩ 1 1 [.string a0.name, .int .i64 a0.kind, .int .i64 a0.num, .string a0.text, .slice a0.ia a0.ints.length a0.ic, .slice a0.ta a0.texts.length a0.tc] (by simp [Act.eval]) rfl ?c1 ?c2 ?c3 ?c4 ?c5 ?_)
          | (go_at_call 22; refine Calls.mono (HRS.out _ ?_) ?_; (focus ((repeat (first | (with_reducible refine below_set ?_ (by first | exact Nat.le_refl _ | omega) _ _) | with_reducible exact Below.refl _ _ | with_reducible refine belowA ?_ _ | with_reducible refine below_own' ?_ hb3 | with_reducible refine below_own' ?_ HB.out | with_reducible refine below_own' ?_ HB1.out | with_reducible refine belowD ?_ | with_reducible refine belowN ?_ _)); done)); rintro e w4 ⟨a0, rfl, hd4, hl4, hf4, hfr4, hb4⟩)
          | (go_at_call 51; refine Calls.mono (HCUT.out _ ?_) ?_; (focus ((repeat (first | (with_reducible refine below_set ?_ (by first | exact Nat.le_refl _ | omega) _ _) | with_reducible exact Below.refl _ _ | with_reducible refine belowA ?_ _ | with_reducible refine below_own' ?_ HB.out | with_reducible refine below_own' ?_ HB1.out | with_reducible refine belowD ?_ | with_reducible refine belowN ?_ _)); done)); rintro e w3 ⟨f3, rfl, hb3⟩)
          | (go_at_call 52; refine (HTRIM.out _).mono ?_; rintro e w2 ⟨rfl, rfl⟩))
        case c1 =>
          intro t u hj
          have hlt6 : t < 6 := by have := (List.getElem?_eq_some_iff.1 hj).1; simpa using this
          have hadd : (⟨w4.heap.size + 1, 0, none⟩ : Addr).add t = ⟨w4.heap.size + 1, 0 + t, none⟩ := by
            unfold Addr.add; split
            · rename_i h; subst h; rfl
            · rfl
          rw [hadd, Nat.zero_add, blkCell (heap_alloc_new' _ _ (by simp))]
          have ht : t = 0 ∨ t = 1 ∨ t = 2 ∨ t = 3 ∨ t = 4 ∨ t = 5 := by omega
          rcases ht with rfl | rfl | rfl | rfl | rfl | rfl <;> simpa using hj
        case c2 =>
          intro u hu
          simp only [List.mem_cons, List.not_mem_nil, or_false] at hu
          rcases hu with rfl | rfl | rfl | rfl | rfl | rfl <;> rfl
        case c3 => unfold maxLen; omega
        case c4 => omega
        case c5 => have h3 := HB.out.size; have h4 := hb3.size; have h5 := hb4.size; simp; omega
        intro v' w7 hown' hgrow _ hat
        have hb6 : Below wr.heap.size wr ((w4.alloc (.cells #[.string a0.name, .int .i64 a0.kind, .int .i64 a0.num, .string a0.text, .slice a0.ia a0.ints.length a0.ic, .slice a0.ta a0.texts.length a0.tc] 27)).alloc (.cells #[.string a0.name, .int .i64 a0.kind, .int .i64 a0.num, .string a0.text, .slice a0.ia a0.ints.length a0.ic, .slice a0.ta a0.texts.length a0.tc] 27)) := by (repeat (first | (with_reducible refine below_set ?_ (by first | exact Nat.le_refl _ | omega) _ _) | with_reducible exact Below.refl _ _ | with_reducible refine belowA ?_ _ | with_reducible refine below_own' ?_ hb4 | with_reducible refine below_own' ?_ hb3 | with_reducible refine belowD ?_ | with_reducible refine belowN ?_ _))
        have hb46 : Below w4.heap.size w4 ((w4.alloc (.cells #[.string a0.name, .int .i64 a0.kind, .int .i64 a0.num, .string a0.text, .slice a0.ia a0.ints.length a0.ic, .slice a0.ta a0.texts.length a0.tc] 27)).alloc (.cells #[.string a0.name, .int .i64 a0.kind, .int .i64 a0.num, .string a0.text, .slice a0.ia a0.ints.length a0.ic, .slice a0.ta a0.texts.length a0.tc] 27)) := by (repeat (first | (with_reducible refine below_set ?_ (by first | exact Nat.le_refl _ | omega) _ _) | with_reducible exact Below.refl _ _ | with_reducible refine belowA ?_ _ | with_reducible refine belowD ?_ | with_reducible refine belowN ?_ _))
        have hlies : a0.Lies _ := hl4.below hb46
        have hszx : (((w4.alloc (.cells #[.string a0.name, .int .i64 a0.kind, .int .i64 a0.num, .string a0.text, .slice a0.ia a0.ints.length a0.ic, .slice a0.ta a0.texts.length a0.tc] 27)).alloc (.cells #[.string a0.name, .int .i64 a0.kind, .int .i64 a0.num, .string a0.text, .slice a0.ia a0.ints.length a0.ic, .slice a0.ta a0.texts.length a0.tc] 27))).heap.size = w4.heap.size + 2 := by simp
        have hnew := AtrOwn.snoc (a := a0) (HO.out.below hb6) hlies hf4 (fun x hx => ⟨by have := (hfr4 x hx).2; omega, fun e => by have h1 := (hfr4 x hx).1; have h2 := (HO.out.own.lt _ e).2; have h3 := hb3.size; omega⟩)
          (by rw [← HLN.out]; exact hown') hgrow hat (by simp)
        obtain ⟨pa', pc', rfl, -⟩ := own_form hown'
        have HNEW := Lib.hid hnew
        have hb7 : Below w1.heap.size w1 w7 := (below_own' HB.out hb6).grown hgrow (below_own' HB.out hb6).size (fun k hk => (HO.out.own.lt k hk).1)
        have HB7 := Lib.hid hb7
        have HRA7 : Hid (readAll F ((piecesB b).take (j + 1)) = some ((l' ++ [a0]).map Atr.dat)) := Lib.hid (by
          rw [hTK.out, readAll_snoc, HRA.out, ← HFO.out, List.map_append, ← hd4]; rfl)
        clear hnew hown' hgrow hat hb6 hb46 hlies hb7 hl4 hfr4
        go_wp2_with fail
        go_roundw
        case rel => exact ⟨j + 1, pa', pc', l' ++ [a0], rfl, by rw [List.length_append, ← HLN.out]; rfl, by go_num, by omega, HNEW.out, HRA7.out, HB7.out⟩
        case measure => simp [intOf]; omega
    · obtain rfl : N = j := by omega
      have HRALL : Hid (readAll F (piecesB b) = some (l'.map Atr.dat)) := Lib.hid (by
        have := HRA.out
        rwa [List.take_of_length_le (by rw [← HN.out]; exact Nat.le_refl _)] at this)
      have hsl := HO.out.sl
      have hck := check_any' pa pc l' wr hsl (by rw [← HLN.out]; omega)
      rw [← HLN.out] at hck
      obtain ⟨r, hr⟩ : ∃ r, r = rightL l' := ⟨_, rfl⟩
      unfold CkPost at hck
      rw [← hr] at hck
      have HCK := Lib.hid hck
      have HR2 := Lib.hid hr
      clear hr hck hsl
      have hpo : Hid (parseOk (readAll F (piecesB b)) s = if r && decide (listD (l'.map Atr.dat) = s.data.toList) then some (l'.map Atr.dat) else none) := Lib.hid (by
        rw [HRALL.out, parseOk, Option.bind_some, ← rightL_D, ← HR2.out])
      cases r with
      | false =>
        go_wp2_with (go_at_call 19; refine HCK.out.mono ?_; rintro e w2 ⟨rfl, hb2⟩; simp only [Bool.false_eq_true, if_false])
        go_ret2
        refine ⟨by (repeat (first | (with_reducible refine below_set ?_ (by first | exact Nat.le_refl _ | omega) _ _) | with_reducible exact Below.refl _ _ | with_reducible refine belowA ?_ _ | with_reducible refine below_own' ?_ hb2 | with_reducible refine below_own' ?_ HB.out | with_reducible refine below_own' ?_ HB1.out | with_reducible refine belowD ?_ | with_reducible refine belowN ?_ _)), ?_⟩
        rw [hpo.out, if_neg (by simp)]
        rfl
      | true =>
        have hmem := rightL_mem HR2.out.symm
        have hlen := rightL_len HR2.out.symm
        obtain ⟨vs, hvs⟩ : ∃ vs : ByteArray, vs = ⟨(listD (l'.map Atr.dat)).toArray⟩ := ⟨_, rfl⟩
        have hve : decide (listD (l'.map Atr.dat) = s.data.toList) = decide (vs = s) := by
          rw [decide_eq_decide, hvs]
          constructor
          · intro h; rw [h]
          · intro h; rw [← h]
        have hpv : Hid (parseOk (readAll F (piecesB b)) s = if true && decide (vs = s) then some (l'.map Atr.dat) else none) := Lib.hid (by rw [hpo.out, hve])
        have hli : ∀ W, Below wr.heap.size wr W → Calls Tryz.prog 53 #[.slice pa N pc] W fun e w' => e = .returned (.string vs) ∧ Below W.heap.size W w' := by
          intro W hW
          have := list_any pa pc l' W (HO.out.below hW).sl hmem hlen (pow_below HG.out.pow (by (repeat (first | (with_reducible refine below_set ?_ (by first | exact Nat.le_refl _ | omega) _ _) | with_reducible exact Below.refl _ _ | with_reducible refine belowA ?_ _ | with_reducible refine below_own' ?_ hW | with_reducible refine below_own' ?_ HB.out | with_reducible refine below_own' ?_ HB1.out | with_reducible refine belowD ?_ | with_reducible refine belowN ?_ _))))
          rw [← HLN.out, ← hvs] at this
          exact this
        have HLI := Lib.hid hli
        clear hmem hlen hvs hve hli
        by_cases hv : vs = s
        · have hvl : (vs.toList == s.toList) = true := by simpa [toList_inj] using hv
          go_wp2_with (first
            | (go_at_call 53; refine Calls.mono (HLI.out _ ?_) ?_; (focus ((repeat (first | (with_reducible refine below_set ?_ (by first | exact Nat.le_refl _ | omega) _ _) | with_reducible exact Below.refl _ _ | with_reducible refine belowA ?_ _ | with_reducible refine below_own' ?_ hb2 | with_reducible refine belowD ?_ | with_reducible refine belowN ?_ _)); done)); rintro e w3 ⟨rfl, hb3⟩)
            | (go_at_call 19; refine HCK.out.mono ?_; rintro e w2 ⟨rfl, hb2⟩; simp only [if_true]))
          go_ret2
          refine ⟨by (repeat (first | (with_reducible refine below_set ?_ (by first | exact Nat.le_refl _ | omega) _ _) | with_reducible exact Below.refl _ _ | with_reducible refine belowA ?_ _ | with_reducible refine below_own' ?_ hb3 | with_reducible refine below_own' ?_ hb2 | with_reducible refine below_own' ?_ HB.out | with_reducible refine below_own' ?_ HB1.out | with_reducible refine belowD ?_ | with_reducible refine belowN ?_ _)), ?_⟩
          rw [hpv.out, if_pos (by simpa using hv)]
          refine ⟨.slice pa N pc, l', rfl, ?_, rfl⟩
          have hbx : Below wr.heap.size wr w3 := by (repeat (first | (with_reducible refine below_set ?_ (by first | exact Nat.le_refl _ | omega) _ _) | with_reducible exact Below.refl _ _ | with_reducible refine belowA ?_ _ | with_reducible refine below_own' ?_ hb3 | with_reducible refine below_own' ?_ hb2 | with_reducible refine belowD ?_ | with_reducible refine belowN ?_ _))
          exact (HO.out.below hbx).mono hzw1
        · have hvl : (vs.toList == s.toList) = false := by simpa [toList_inj] using hv
          go_wp2_with (first
            | (go_at_call 53; refine Calls.mono (HLI.out _ ?_) ?_; (focus ((repeat (first | (with_reducible refine below_set ?_ (by first | exact Nat.le_refl _ | omega) _ _) | with_reducible exact Below.refl _ _ | with_reducible refine belowA ?_ _ | with_reducible refine below_own' ?_ hb2 | with_reducible refine belowD ?_ | with_reducible refine belowN ?_ _)); done)); rintro e w3 ⟨rfl, hb3⟩)
            | (go_at_call 19; refine HCK.out.mono ?_; rintro e w2 ⟨rfl, hb2⟩; simp only [if_true]))
          go_ret2
          refine ⟨by (repeat (first | (with_reducible refine below_set ?_ (by first | exact Nat.le_refl _ | omega) _ _) | with_reducible exact Below.refl _ _ | with_reducible refine belowA ?_ _ | with_reducible refine below_own' ?_ hb3 | with_reducible refine below_own' ?_ hb2 | with_reducible refine below_own' ?_ HB.out | with_reducible refine below_own' ?_ HB1.out | with_reducible refine belowD ?_ | with_reducible refine belowN ?_ _)), ?_⟩
          rw [hpv.out, if_neg (by simpa using hv)]
          rfl
end Go.Proofs.YtmepjbjmjbpchaaGreatDoor
end
