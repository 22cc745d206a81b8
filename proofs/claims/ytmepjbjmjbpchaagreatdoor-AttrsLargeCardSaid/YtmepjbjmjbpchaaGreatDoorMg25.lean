/- Texts of this claim, laid together: Rs0. -/
import Derived.OwnWalkIn
import Derived.Test.YtmepjbjmjbpchaaGreatDoorMg14
import Derived.Test.YtmepjbjmjbpchaaGreatDoorMg16
section
/- The reference: Set. -/
namespace Go.Proofs.YtmepjbjmjbpchaaGreatDoor
open Go Go.RowKit Go.Sort
set_option linter.unusedVariables false
set_option linter.unusedSimpArgs false
attribute [local go_sem] Oper.semAt_some

theorem own_belowG {W W1 : World} {base : Nat} {e : TypeId} {sz : Nat} {v : Value} {n : Nat} {xs : List Value} (h : W.ownsRow base e sz v n xs) (hb : Below W.heap.size W W1) : W1.ownsRow base e sz v n xs :=
  ⟨h.1, by
    rcases h.2 with h | ⟨g, c, cur, h1, h2, h3, h4⟩
    · exact .inl h
    · exact .inr ⟨g, c, cur, h1, h2, blkBelow h3 hb, h4⟩⟩
def stepD (d : Dat) (a : Dat) (r : List Dat × Bool) : List Dat × Bool := rsetD d [a] r
theorem rsetD_snoc (d b : Dat) : ∀ (l : List Dat) (r : List Dat × Bool), rsetD d (l ++ [b]) r = stepD d b (rsetD d l r)
  | [], r => rfl
  | a :: l, (out, done) => by
    rw [List.cons_append]
    unfold rsetD
    exact rsetD_snoc d b l _
/-- What the loop carries. -/
structure RsI (a : Atr) (l : List Atr) (w wr : World) (j n : Nat) (out : List Atr) (done : Bool) (v : Value) : Prop where
  own : wr.ownsRow (w.heap.size + 1) 27 6 v n (out.flatMap Atr.cells)
  len : n = out.length
  bel : Below w.heap.size w wr
  box : wr.heap[w.heap.size]? = some (.cells (avCells a.name a.kind a.num a.text a.ia a.ints.length a.ic a.ta a.texts.length a.tc) 27 (0, 0))
  mem : ∀ b ∈ out, b ∈ l ∨ b = a
  eq : (out.map Atr.dat, done) = rsetD a.dat ((l.take j).map Atr.dat) ([], false)
  few : n ≤ 2 * j
theorem RsI.below {a : Atr} {l : List Atr} {w wr W : World} {j n : Nat} {out : List Atr} {done : Bool} {v : Value} (h : RsI a l w wr j n out done v) (hb : Below wr.heap.size wr W) : RsI a l w W j n out done v :=
  ⟨own_belowG h.own hb, h.len, below_own' h.bel hb, blkBelow h.box hb, h.mem, h.eq, h.few⟩
/-- A row that an attribute has been put behind. -/
structure RsA (a : Atr) (l : List Atr) (w wr : World) (n : Nat) (out : List Atr) (v : Value) : Prop where
  own : wr.ownsRow (w.heap.size + 1) 27 6 v n (out.flatMap Atr.cells)
  len : n = out.length
  bel : Below w.heap.size w wr
  box : wr.heap[w.heap.size]? = some (.cells (avCells a.name a.kind a.num a.text a.ia a.ints.length a.ic a.ta a.texts.length a.tc) 27 (0, 0))
  mem : ∀ b ∈ out, b ∈ l ∨ b = a
theorem RsA.below {a : Atr} {l : List Atr} {w wr W : World} {n : Nat} {out : List Atr} {v : Value} (h : RsA a l w wr n out v) (hb : Below wr.heap.size wr W) : RsA a l w W n out v :=
  ⟨own_belowG h.own hb, h.len, below_own' h.bel hb, blkBelow h.box hb, h.mem⟩
theorem RsA.snoc {a b : Atr} {l : List Atr} {w W W' : World} {n : Nat} {out : List Atr} {v v' : Value} (h : RsA a l w W n out v) (hb : b ∈ l ∨ b = a)
    (ho : W'.ownsRow (w.heap.size + 1) 27 6 v' (n + 1) (out.flatMap Atr.cells ++ [.string b.name, .int .i64 b.kind, .int .i64 b.num, .string b.text, .slice b.ia b.ints.length b.ic, .slice b.ta b.texts.length b.tc]))
    {x : Obj} (hg : (W.alloc x).grownBy W' v.ownBlock) : RsA a l w W' (n + 1) (out ++ [b]) v' := by
  have hw : w.heap.size < W.heap.size := blkLt h.box
  have hlt := h.own.lt
  refine ⟨by rw [List.flatMap_append]; simpa [Atr.cells] using ho, by rw [h.len]; simp, (belowA h.bel x).grown hg (by simp; omega) (fun k hk => by have := (hlt k hk).1; omega), ?_, ?_⟩
  · have h1 : (W.alloc x).heap[w.heap.size]? = some _ := heap_alloc_old h.box x
    rw [hg.block w.heap.size (by simp; omega) (fun e => by have := (hlt _ e.symm).1; omega)]
    exact h1
  · intro c hc
    rcases List.mem_append.1 hc with hc | hc
    · exact h.mem c hc
    · rw [List.mem_singleton.1 hc]; exact hb
theorem RsA.sl {a : Atr} {l : List Atr} {w W : World} {n : Nat} {out : List Atr} {p : Option Addr} {c : Nat} (h : RsA a l w W n out (.slice p n c)) (hl : ∀ b ∈ l, b.Lies w) (hlf : ∀ b ∈ l, b.Fits) (ha : a.Lies w) (hf : a.Fits) : AtrSl W p out := by
  have hn := h.len
  refine ⟨?_, fun b hb => ?_, fun b hb => ?_⟩
  · rcases h.own.2 with ⟨h1, h2⟩ | ⟨g, cap, cur, h1, hb, h2, h4, h5, h6, h7⟩
    · exact .inl (List.length_eq_zero_iff.1 (by omega))
    · cases h1
      refine .inr ⟨g, 0, rfl, blkLt h2, fun j hj i hi => ?_⟩
      rw [blkCell h2, Nat.zero_add, ← flat_at hj hi, ← h7, List.getElem?_take, if_pos (by omega)]
      simp
  · rcases h.mem b hb with h1 | rfl
    · exact (hl b h1).below h.bel
    · exact ha.below h.bel
  · rcases h.mem b hb with h1 | rfl
    · exact hlf b h1
    · exact hf
set_option maxRecDepth 100000 in
set_option maxHeartbeats 16000000 in
theorem rset_any (p : Option Addr) (c : Nat) (l : List Atr) (x : Atr) (w : World) (hs : AtrSl w p l) (hl : l.length ≤ 100000) (ha : x.Lies w) (hf : x.Fits) :
    Calls Tryz.prog 16 #[.slice p l.length c, x.val] w fun e w' => ∃ sa sc l', e = .returned (.slice sa l'.length sc) ∧ AtrSl w' sa l' ∧ l'.length ≤ 2 * l.length + 1 ∧ l'.map Atr.dat = rsetAll (l.map Atr.dat) x.dat ∧ Below w.heap.size w w' := by
  obtain ⟨i0, hin, hz0, hz1, hz2⟩ := info_parts (show (Tryz.prog.info? 27).map (fun i => (i.zero, i.size, i.bytes)) = some (some zAttr, 6, 96) by kernel_rfl)
  have HS := Lib.hid hs
  have HA := Lib.hid ha
  have HF := Lib.hid hf
  clear hs ha hf
  refine (callsIn_wide (n := 6)).1 ?_
  refine callsIn_of_wp Tryz.func16 rfl trivial ?_ rfl
  simp only [Tryz.ntmps16, List.size_toArray, List.length_cons, List.length_nil, Nat.reduceAdd, Nat.reduceSub, Array.replicate_succ, Array.replicate_zero, List.push_toArray, List.append_toArray, List.nil_append, List.cons_append]
  gi_wp2_with fail
  gi_loopw [5, 6, 7] (fun v dv i wr => ∃ (j n : Nat) (out : List Atr) (done : Bool) (sa : Option Addr) (sc : Nat), v = .slice sa n sc ∧ dv = .bool done ∧ i = .int .i64 j ∧ j ≤ l.length ∧ RsI x l w wr j n out done (.slice sa n sc)) (fun _ _ i _ => l.length - (intOf i).toNat)
  case atStart => exact ⟨0, 0, [], false, none, 0, rfl, rfl, rfl, Nat.zero_le _, ⟨World.ownsRow_nil _ _ _ _, rfl, (Below.refl _ w).alloc (Nat.le_refl _) _, heap_alloc_new _ _, by simp, rfl, by omega⟩⟩
  case round =>
    obtain ⟨j, n, out, done, sa, sc, rfl, rfl, rfl, hj, hI⟩ := hrel
    have HI := Lib.hid hI
    have hzw : w.heap.size < wr.heap.size := blkLt hI.box
    have hq := blkCell hI.box
    have hfew := hI.few
    clear hI
    rcases Nat.lt_or_ge j l.length with hlt | hge
    · obtain ⟨g, off, rfl, hzg0, hrow⟩ := HS.out.row hlt
      obtain ⟨b0, hb0⟩ : ∃ b0, b0 = l[j] := ⟨_, rfl⟩
      have hcj := hrow j hlt
      rw [← hb0] at hcj
      have HMB : Hid (b0 ∈ l) := Lib.hid (by rw [hb0]; exact List.getElem_mem _)
      have HSTEP : Hid (rsetD x.dat ((l.take (j + 1)).map Atr.dat) ([], false) = stepD x.dat b0.dat (out.map Atr.dat, done)) := Lib.hid (by
        rw [List.take_succ_eq_append_getElem hlt, List.map_append, hb0]
        show rsetD x.dat (_ ++ [l[j].dat]) _ = _
        rw [rsetD_snoc, ← HI.out.eq])
      have hj0 : (0 : Int) ≤ (j : Int) := by omega
      have hjl : (j : Int) < (l.length : Int) := by omega
      have hzg : g < wr.heap.size := by omega
      obtain ⟨kw0, kw1, kw2, kw3, kw4, kw5⟩ := hcj
      have k0 := (rdCell HI.out.bel g hzg0 (off + j * 6)).trans kw0
      clear hb0 hrow
      have HEQD : Hid (True) := Lib.hid trivial
      have hlq : ∀ b, nmLt b0.name x.name = b → nmLt b0.dat.name x.dat.name = b := fun _ h => h
      have hnq : ∀ b, decide (b0.name = x.name) = b → decide (b0.dat.name = x.dat.name) = b := fun _ h => h
      have hirr : nmLt b0.name x.name = true → decide (b0.name = x.name) = false := by
        intro h
        cases hn : decide (b0.name = x.name) with
        | false => rfl
        | true => rw [of_decide_eq_true hn, nm_irrefl] at h; cases h
      have hcs : (done = true ∧ decide (b0.name = x.name) = true) ∨ (done = true ∧ decide (b0.name = x.name) = false) ∨ (done = false ∧ nmLt b0.name x.name = true ∧ decide (b0.name = x.name) = false) ∨ (done = false ∧ nmLt b0.name x.name = false ∧ decide (b0.name = x.name) = true) ∨ (done = false ∧ nmLt b0.name x.name = false ∧ decide (b0.name = x.name) = false) := by
        cases done <;> cases h1 : nmLt b0.name x.name <;> cases h2 : decide (b0.name = x.name) <;> simp_all
      rcases hcs with ⟨rfl, hn⟩ | ⟨rfl, hn⟩ | ⟨rfl, hb, hn⟩ | ⟨rfl, hb, hn⟩ | ⟨rfl, hb, hn⟩
      all_goals have hnD := hnq _ hn
      all_goals have hnl : (b0.name.toList == x.name.toList) = decide (b0.name = x.name) := by rw [Bool.eq_iff_iff]; simp [toList_inj]
      all_goals rw [hn] at hnl
      all_goals have hlD : True := trivial
      all_goals try replace hlD := hlq _ hb
      all_goals try have hbl : Op.bytesLess b0.name.toList x.name.toList = _ := hb
      all_goals simp only [decide_eq_true_eq, decide_eq_false_iff_not] at hnD
      all_goals clear hn hlq hnq hirr
      · gi_wp2_with fail
        generalize hops : (#[_, _, _, _, _, _, _, _, _, _, _, _] : Array Oper) = ops
        refine wpIn_region_inv_tail 11 (fun i => match i with | 0 => .bool true | 1 => .bool false | 2 => .bool false | _ => undef)
          (fun lst Wy => Below wr.heap.size wr Wy) (by kernel_rfl) (by rw [← hops]; kernel_rfl) (by rw [← hops]; kernel_rfl) (by rw [← hops]; kernel_rfl) (by rw [← hops]; decide) (by rw [← hops]; kernel_rfl) ((Below.refl _ _).drew) ?step ?tail
        case step =>
          intro i o listed a Wy ho hs hu hall ha hi hy hlt
          have old0 : a.eval (.tmp 0) = .slice (some ⟨g, off, none⟩) l.length c := by rw [ha.eval_old (noDst_spec (by rw [← hops]; kernel_rfl))]; rfl
          have old3 : a.eval (.tmp 3) = .pointer (some ⟨w.heap.size, 0, none⟩) := by rw [ha.eval_old (noDst_spec (by rw [← hops]; kernel_rfl))]; rfl
          have old6 : a.eval (.tmp 6) = .bool true := by rw [ha.eval_old (noDst_spec (by rw [← hops]; kernel_rfl))]; rfl
          have old7 : a.eval (.tmp 7) = .int .i64 (j : Int) := by rw [ha.eval_old (noDst_spec (by rw [← hops]; kernel_rfl))]; rfl
          have hcase : i = 0 ∨ i = 1 ∨ i = 2 ∨ i = 3 ∨ i = 4 ∨ i = 5 ∨ i = 6 ∨ i = 7 ∨ i = 8 ∨ i = 9 ∨ i = 10 := by omega
          rcases hcase with rfl | rfl | rfl | rfl | rfl | rfl | rfl | rfl | rfl | rfl | rfl
          all_goals (have ho' := ho; rw [← hops] at ho'; simp only [List.getElem?_toArray, List.getElem?_cons_zero, List.getElem?_cons_succ, Option.some.injEq] at ho'; subst ho')
          · refine step_none rfl ?_
            refine opIn_value wideAt_plain (fun c h => by cases h) (v := .bool true) (W' := Wy) ?_ ⟨rfl, hi⟩
            simp only [execOp, old6]
            simp only [Sem.run_pure]
          · refine step_none rfl ?_
            have h14 : a.eval (.tmp 14) = .bool true := ha.eval_got (j := 0) (by rw [← hops]; rfl) rfl (hall ⟨0, .data⟩ (by simp) rfl)
            refine opIn_value wideAt_plain (fun c h => by cases h) (v := .bool false) (W' := Wy) ?_ ⟨rfl, hi⟩
            simp only [execOp, h14]
            simp [go_sem]
          · refine step_none rfl ?_
            have h15 : a.eval (.tmp 15) = .bool false := ha.eval_got (j := 1) (by rw [← hops]; rfl) rfl (hall ⟨1, .data⟩ (by simp) rfl)
            refine opIn_value wideAt_plain (fun c h => by cases h) (v := .bool false) (W' := Wy) ?_ ⟨rfl, hi⟩
            simp only [execOp, h15]
            simp only [Sem.run_pure]
          · refine step_no rfl (hy 2 (hall ⟨2, .guard⟩ (by simp) rfl) ⟨_, _, by rw [← hops]; rfl, rfl⟩) ⟨fun _ _ => trivial, rfl, ?_⟩
            exact hi
          · refine step_no rfl (hy 2 (hall ⟨2, .guard⟩ (by simp) rfl) ⟨_, _, by rw [← hops]; rfl, rfl⟩) ⟨fun _ _ => trivial, rfl, ?_⟩
            exact hi
          · refine step_no rfl (hy 2 (hall ⟨2, .guard⟩ (by simp) rfl) ⟨_, _, by rw [← hops]; rfl, rfl⟩) ⟨fun _ _ => trivial, rfl, ?_⟩
            exact hi
          · refine step_no rfl (hy 2 (hall ⟨2, .guard⟩ (by simp) rfl) ⟨_, _, by rw [← hops]; rfl, rfl⟩) ⟨fun _ _ => trivial, rfl, ?_⟩
            exact hi
          · refine step_no rfl (hy 2 (hall ⟨2, .guard⟩ (by simp) rfl) ⟨_, _, by rw [← hops]; rfl, rfl⟩) ⟨fun _ _ => trivial, rfl, ?_⟩
            exact hi
          · refine step_no rfl (hy 2 (hall ⟨2, .guard⟩ (by simp) rfl) ⟨_, _, by rw [← hops]; rfl, rfl⟩) ⟨fun _ _ => trivial, rfl, ?_⟩
            exact hi
          · refine step_no rfl (hy 2 (hall ⟨2, .guard⟩ (by simp) rfl) ⟨_, _, by rw [← hops]; rfl, rfl⟩) ⟨fun _ _ => trivial, rfl, ?_⟩
            exact hi
          · refine step_no rfl (hy 2 (hall ⟨2, .guard⟩ (by simp) rfl) ⟨_, _, by rw [← hops]; rfl, rfl⟩) ⟨fun _ _ => trivial, rfl, ?_⟩
            exact hi
        case tail =>
          intro Wz hz
          subst hops
          simp only [frameOf, Act.put, Option.bind_some, List.getElem?_toArray, List.getElem?_cons_zero, List.getElem?_cons_succ, List.setIfInBounds_toArray, List.set_cons_zero, List.set_cons_succ, List.drop_succ_cons, List.drop_zero]
          have HI2 := Lib.hid (HI.out.below hz)
          have HA2 : Hid (RsA x l w Wz n out (.slice sa n sc)) := Lib.hid ⟨HI2.out.own, HI2.out.len, HI2.out.bel, HI2.out.box, HI2.out.mem⟩
          clear hz
          gi_wp2_with fail
          have hzwx : w.heap.size < Wz.heap.size := blkLt HA2.out.box
          have hzgx : g < Wz.heap.size := by omega
          have kx0 := (rdCell HA2.out.bel g hzg0 (off + j * 6)).trans kw0
          have qx := blkCell HA2.out.box
          gi_wp2_with fail
          generalize hops : (#[_, _, _, _, _, _, _, _] : Array Oper) = ops
          refine wpIn_region_inv_tail 7 (fun i => match i with | 0 => .slice (some ⟨g, off, none⟩) l.length c | 1 => .int .i64 (j : Int) | 2 => .pointer (some ⟨g, off + j * 6, none⟩) | 3 => .pointer (some ⟨g, off + j * 6, none⟩) | 4 => .string b0.name | 5 => .pointer (some ⟨w.heap.size, 0, none⟩) | 6 => .string x.name | _ => undef)
            (fun lst Wy => Below Wz.heap.size Wz Wy) (by kernel_rfl) (by rw [← hops]; kernel_rfl) (by rw [← hops]; kernel_rfl) (by rw [← hops]; kernel_rfl) (by rw [← hops]; decide) (by rw [← hops]; kernel_rfl) ((Below.refl _ _).drew) ?step ?tail9
          case step =>
            intro i o listed a Wy ho hs hu hall ha hi hy hlt
            have old0 : a.eval (.tmp 0) = .slice (some ⟨g, off, none⟩) l.length c := by rw [ha.eval_old (noDst_spec (by rw [← hops]; kernel_rfl))]; rfl
            have old3 : a.eval (.tmp 3) = .pointer (some ⟨w.heap.size, 0, none⟩) := by rw [ha.eval_old (noDst_spec (by rw [← hops]; kernel_rfl))]; rfl
            have old7 : a.eval (.tmp 7) = .int .i64 (j : Int) := by rw [ha.eval_old (noDst_spec (by rw [← hops]; kernel_rfl))]; rfl
            have hcase : i = 0 ∨ i = 1 ∨ i = 2 ∨ i = 3 ∨ i = 4 ∨ i = 5 ∨ i = 6 := by omega
            rcases hcase with rfl | rfl | rfl | rfl | rfl | rfl | rfl
            all_goals (have ho' := ho; rw [← hops] at ho'; simp only [List.getElem?_toArray, List.getElem?_cons_zero, List.getElem?_cons_succ, Option.some.injEq] at ho'; subst ho')
            · refine step_none rfl ?_
              refine opIn_value wideAt_plain (fun c h => by cases h) (v := .slice (some ⟨g, off, none⟩) l.length c) (W' := Wy) ?_ ⟨rfl, hi⟩
              simp only [execOp, old0]
              simp only [Sem.run_pure]
            · refine step_none rfl ?_
              refine opIn_value wideAt_plain (fun c h => by cases h) (v := .int .i64 (j : Int)) (W' := Wy) ?_ ⟨rfl, hi⟩
              simp only [execOp, old7]
              simp only [Sem.run_pure]
            · refine step_none rfl ?_
              have h30 : a.eval (.tmp 30) = .slice (some ⟨g, off, none⟩) l.length c := ha.eval_got (j := 0) (by rw [← hops]; rfl) rfl (hall ⟨0, .data⟩ (by simp) rfl)
              have h31 : a.eval (.tmp 31) = .int .i64 (j : Int) := ha.eval_got (j := 1) (by rw [← hops]; rfl) rfl (hall ⟨1, .data⟩ (by simp) rfl)
              refine opIn_value wideAt_plain (fun c h => by cases h) (v := .pointer (some ⟨g, off + j * 6, none⟩)) (W' := Wy) ?_ ⟨rfl, hi⟩
              simp only [execOp, h30, h31]
              simp [go_sem, hjl, hj0] <;> (intro h; exfalso; first | omega | (have := h (by omega); omega))
            · refine step_none rfl ?_
              have h32 : a.eval (.tmp 32) = .pointer (some ⟨g, off + j * 6, none⟩) := ha.eval_got (j := 2) (by rw [← hops]; rfl) rfl (hall ⟨2, .data⟩ (by simp) rfl)
              refine opIn_value wideAt_plain (fun c h => by cases h) (v := .pointer (some ⟨g, off + j * 6, none⟩)) (W' := Wy) ?_ ⟨rfl, hi⟩
              simp only [execOp, h32]
              simp [go_sem]
            · refine step_none rfl ?_
              have h33 : a.eval (.tmp 33) = .pointer (some ⟨g, off + j * 6, none⟩) := ha.eval_got (j := 3) (by rw [← hops]; rfl) rfl (hall ⟨3, .data⟩ (by simp) rfl)
              refine opIn_value wideAt_plain (fun c h => by cases h) (v := .string b0.name) (W' := Wy) ?_ ⟨rfl, hi⟩
              simp only [execOp, h33]
              simp [go_sem, rdCell hi g hzgx, kx0]
            · refine step_none rfl ?_
              refine opIn_value wideAt_plain (fun c h => by cases h) (v := .pointer (some ⟨w.heap.size, 0, none⟩)) (W' := Wy) ?_ ⟨rfl, hi⟩
              simp only [execOp, old3]
              simp [go_sem]
            · refine step_none rfl ?_
              have h35 : a.eval (.tmp 35) = .pointer (some ⟨w.heap.size, 0, none⟩) := ha.eval_got (j := 5) (by rw [← hops]; rfl) rfl (hall ⟨5, .data⟩ (by simp) rfl)
              refine opIn_value wideAt_plain (fun c h => by cases h) (v := .string x.name) (W' := Wy) ?_ ⟨rfl, hi⟩
              simp only [execOp, h35]
              simp [go_sem, rdCell hi w.heap.size hzwx, qx]
          case tail9 =>
            intro Wq hz
            subst hops
            simp only [frameOf, Act.put, Option.bind_some, List.getElem?_toArray, List.getElem?_cons_zero, List.getElem?_cons_succ, List.setIfInBounds_toArray, List.set_cons_zero, List.set_cons_succ, List.drop_succ_cons, List.drop_zero]
            have HA2N := Lib.hid (HA2.out.below hz)
            clear hz kx0 qx hzwx hzgx
            gi_wp2_with fail
            go_roundw
            case rel => exact ⟨j + 1, n, out, true, _, _, rfl, rfl, by go_num, by omega, ⟨HA2N.out.own, HA2N.out.len, HA2N.out.bel, HA2N.out.box, HA2N.out.mem, by rw [HSTEP.out]; simp [stepD, rsetD, HEQD.out, hlD, hnD, nm_irrefl], by have := HI.out.few; omega⟩⟩
            case measure => simp [intOf]; omega
      · gi_wp2_with fail
        generalize hops : (#[_, _, _, _, _, _, _, _, _, _, _, _] : Array Oper) = ops
        refine wpIn_region_inv_tail 11 (fun i => match i with | 0 => .bool true | 1 => .bool false | 2 => .bool false | _ => undef)
          (fun lst Wy => Below wr.heap.size wr Wy) (by kernel_rfl) (by rw [← hops]; kernel_rfl) (by rw [← hops]; kernel_rfl) (by rw [← hops]; kernel_rfl) (by rw [← hops]; decide) (by rw [← hops]; kernel_rfl) ((Below.refl _ _).drew) ?step ?tail
        case step =>
          intro i o listed a Wy ho hs hu hall ha hi hy hlt
          have old0 : a.eval (.tmp 0) = .slice (some ⟨g, off, none⟩) l.length c := by rw [ha.eval_old (noDst_spec (by rw [← hops]; kernel_rfl))]; rfl
          have old3 : a.eval (.tmp 3) = .pointer (some ⟨w.heap.size, 0, none⟩) := by rw [ha.eval_old (noDst_spec (by rw [← hops]; kernel_rfl))]; rfl
          have old6 : a.eval (.tmp 6) = .bool true := by rw [ha.eval_old (noDst_spec (by rw [← hops]; kernel_rfl))]; rfl
          have old7 : a.eval (.tmp 7) = .int .i64 (j : Int) := by rw [ha.eval_old (noDst_spec (by rw [← hops]; kernel_rfl))]; rfl
          have hcase : i = 0 ∨ i = 1 ∨ i = 2 ∨ i = 3 ∨ i = 4 ∨ i = 5 ∨ i = 6 ∨ i = 7 ∨ i = 8 ∨ i = 9 ∨ i = 10 := by omega
          rcases hcase with rfl | rfl | rfl | rfl | rfl | rfl | rfl | rfl | rfl | rfl | rfl
          all_goals (have ho' := ho; rw [← hops] at ho'; simp only [List.getElem?_toArray, List.getElem?_cons_zero, List.getElem?_cons_succ, Option.some.injEq] at ho'; subst ho')
          · refine step_none rfl ?_
            refine opIn_value wideAt_plain (fun c h => by cases h) (v := .bool true) (W' := Wy) ?_ ⟨rfl, hi⟩
            simp only [execOp, old6]
            simp only [Sem.run_pure]
          · refine step_none rfl ?_
            have h14 : a.eval (.tmp 14) = .bool true := ha.eval_got (j := 0) (by rw [← hops]; rfl) rfl (hall ⟨0, .data⟩ (by simp) rfl)
            refine opIn_value wideAt_plain (fun c h => by cases h) (v := .bool false) (W' := Wy) ?_ ⟨rfl, hi⟩
            simp only [execOp, h14]
            simp [go_sem]
          · refine step_none rfl ?_
            have h15 : a.eval (.tmp 15) = .bool false := ha.eval_got (j := 1) (by rw [← hops]; rfl) rfl (hall ⟨1, .data⟩ (by simp) rfl)
            refine opIn_value wideAt_plain (fun c h => by cases h) (v := .bool false) (W' := Wy) ?_ ⟨rfl, hi⟩
            simp only [execOp, h15]
            simp only [Sem.run_pure]
          · refine step_no rfl (hy 2 (hall ⟨2, .guard⟩ (by simp) rfl) ⟨_, _, by rw [← hops]; rfl, rfl⟩) ⟨fun _ _ => trivial, rfl, ?_⟩
            exact hi
          · refine step_no rfl (hy 2 (hall ⟨2, .guard⟩ (by simp) rfl) ⟨_, _, by rw [← hops]; rfl, rfl⟩) ⟨fun _ _ => trivial, rfl, ?_⟩
            exact hi
          · refine step_no rfl (hy 2 (hall ⟨2, .guard⟩ (by simp) rfl) ⟨_, _, by rw [← hops]; rfl, rfl⟩) ⟨fun _ _ => trivial, rfl, ?_⟩
            exact hi
          · refine step_no rfl (hy 2 (hall ⟨2, .guard⟩ (by simp) rfl) ⟨_, _, by rw [← hops]; rfl, rfl⟩) ⟨fun _ _ => trivial, rfl, ?_⟩
            exact hi
          · refine step_no rfl (hy 2 (hall ⟨2, .guard⟩ (by simp) rfl) ⟨_, _, by rw [← hops]; rfl, rfl⟩) ⟨fun _ _ => trivial, rfl, ?_⟩
            exact hi
          · refine step_no rfl (hy 2 (hall ⟨2, .guard⟩ (by simp) rfl) ⟨_, _, by rw [← hops]; rfl, rfl⟩) ⟨fun _ _ => trivial, rfl, ?_⟩
            exact hi
          · refine step_no rfl (hy 2 (hall ⟨2, .guard⟩ (by simp) rfl) ⟨_, _, by rw [← hops]; rfl, rfl⟩) ⟨fun _ _ => trivial, rfl, ?_⟩
            exact hi
          · refine step_no rfl (hy 2 (hall ⟨2, .guard⟩ (by simp) rfl) ⟨_, _, by rw [← hops]; rfl, rfl⟩) ⟨fun _ _ => trivial, rfl, ?_⟩
            exact hi
        case tail =>
          intro Wz hz
          subst hops
          simp only [frameOf, Act.put, Option.bind_some, List.getElem?_toArray, List.getElem?_cons_zero, List.getElem?_cons_succ, List.setIfInBounds_toArray, List.set_cons_zero, List.set_cons_succ, List.drop_succ_cons, List.drop_zero]
          have HI2 := Lib.hid (HI.out.below hz)
          have HA2 : Hid (RsA x l w Wz n out (.slice sa n sc)) := Lib.hid ⟨HI2.out.own, HI2.out.len, HI2.out.bel, HI2.out.box, HI2.out.mem⟩
          clear hz
          gi_wp2_with fail
          have hzwx : w.heap.size < Wz.heap.size := blkLt HA2.out.box
          have hzgx : g < Wz.heap.size := by omega
          have kx0 := (rdCell HA2.out.bel g hzg0 (off + j * 6)).trans kw0
          have qx := blkCell HA2.out.box
          gi_wp2_with fail
          generalize hops : (#[_, _, _, _, _, _, _, _] : Array Oper) = ops
          refine wpIn_region_inv_tail 7 (fun i => match i with | 0 => .slice (some ⟨g, off, none⟩) l.length c | 1 => .int .i64 (j : Int) | 2 => .pointer (some ⟨g, off + j * 6, none⟩) | 3 => .pointer (some ⟨g, off + j * 6, none⟩) | 4 => .string b0.name | 5 => .pointer (some ⟨w.heap.size, 0, none⟩) | 6 => .string x.name | _ => undef)
            (fun lst Wy => Below Wz.heap.size Wz Wy) (by kernel_rfl) (by rw [← hops]; kernel_rfl) (by rw [← hops]; kernel_rfl) (by rw [← hops]; kernel_rfl) (by rw [← hops]; decide) (by rw [← hops]; kernel_rfl) ((Below.refl _ _).drew) ?step ?tail9
          case step =>
            intro i o listed a Wy ho hs hu hall ha hi hy hlt
            have old0 : a.eval (.tmp 0) = .slice (some ⟨g, off, none⟩) l.length c := by rw [ha.eval_old (noDst_spec (by rw [← hops]; kernel_rfl))]; rfl
            have old3 : a.eval (.tmp 3) = .pointer (some ⟨w.heap.size, 0, none⟩) := by rw [ha.eval_old (noDst_spec (by rw [← hops]; kernel_rfl))]; rfl
            have old7 : a.eval (.tmp 7) = .int .i64 (j : Int) := by rw [ha.eval_old (noDst_spec (by rw [← hops]; kernel_rfl))]; rfl
            have hcase : i = 0 ∨ i = 1 ∨ i = 2 ∨ i = 3 ∨ i = 4 ∨ i = 5 ∨ i = 6 := by omega
            rcases hcase with rfl | rfl | rfl | rfl | rfl | rfl | rfl
            all_goals (have ho' := ho; rw [← hops] at ho'; simp only [List.getElem?_toArray, List.getElem?_cons_zero, List.getElem?_cons_succ, Option.some.injEq] at ho'; subst ho')
            · refine step_none rfl ?_
              refine opIn_value wideAt_plain (fun c h => by cases h) (v := .slice (some ⟨g, off, none⟩) l.length c) (W' := Wy) ?_ ⟨rfl, hi⟩
              simp only [execOp, old0]
              simp only [Sem.run_pure]
            · refine step_none rfl ?_
              refine opIn_value wideAt_plain (fun c h => by cases h) (v := .int .i64 (j : Int)) (W' := Wy) ?_ ⟨rfl, hi⟩
              simp only [execOp, old7]
              simp only [Sem.run_pure]
            · refine step_none rfl ?_
              have h30 : a.eval (.tmp 30) = .slice (some ⟨g, off, none⟩) l.length c := ha.eval_got (j := 0) (by rw [← hops]; rfl) rfl (hall ⟨0, .data⟩ (by simp) rfl)
              have h31 : a.eval (.tmp 31) = .int .i64 (j : Int) := ha.eval_got (j := 1) (by rw [← hops]; rfl) rfl (hall ⟨1, .data⟩ (by simp) rfl)
              refine opIn_value wideAt_plain (fun c h => by cases h) (v := .pointer (some ⟨g, off + j * 6, none⟩)) (W' := Wy) ?_ ⟨rfl, hi⟩
              simp only [execOp, h30, h31]
              simp [go_sem, hjl, hj0] <;> (intro h; exfalso; first | omega | (have := h (by omega); omega))
            · refine step_none rfl ?_
              have h32 : a.eval (.tmp 32) = .pointer (some ⟨g, off + j * 6, none⟩) := ha.eval_got (j := 2) (by rw [← hops]; rfl) rfl (hall ⟨2, .data⟩ (by simp) rfl)
              refine opIn_value wideAt_plain (fun c h => by cases h) (v := .pointer (some ⟨g, off + j * 6, none⟩)) (W' := Wy) ?_ ⟨rfl, hi⟩
              simp only [execOp, h32]
              simp [go_sem]
            · refine step_none rfl ?_
              have h33 : a.eval (.tmp 33) = .pointer (some ⟨g, off + j * 6, none⟩) := ha.eval_got (j := 3) (by rw [← hops]; rfl) rfl (hall ⟨3, .data⟩ (by simp) rfl)
              refine opIn_value wideAt_plain (fun c h => by cases h) (v := .string b0.name) (W' := Wy) ?_ ⟨rfl, hi⟩
              simp only [execOp, h33]
              simp [go_sem, rdCell hi g hzgx, kx0]
            · refine step_none rfl ?_
              refine opIn_value wideAt_plain (fun c h => by cases h) (v := .pointer (some ⟨w.heap.size, 0, none⟩)) (W' := Wy) ?_ ⟨rfl, hi⟩
              simp only [execOp, old3]
              simp [go_sem]
            · refine step_none rfl ?_
              have h35 : a.eval (.tmp 35) = .pointer (some ⟨w.heap.size, 0, none⟩) := ha.eval_got (j := 5) (by rw [← hops]; rfl) rfl (hall ⟨5, .data⟩ (by simp) rfl)
              refine opIn_value wideAt_plain (fun c h => by cases h) (v := .string x.name) (W' := Wy) ?_ ⟨rfl, hi⟩
              simp only [execOp, h35]
              simp [go_sem, rdCell hi w.heap.size hzwx, qx]
          case tail9 =>
            intro Wq hz
            subst hops
            simp only [frameOf, Act.put, Option.bind_some, List.getElem?_toArray, List.getElem?_cons_zero, List.getElem?_cons_succ, List.setIfInBounds_toArray, List.set_cons_zero, List.set_cons_succ, List.drop_succ_cons, List.drop_zero]
            have HA2N := Lib.hid (HA2.out.below hz)
            clear hz kx0 qx hzwx hzgx
            have kx0 := (rdCell HA2N.out.bel g hzg0 (off + j * 6)).trans kw0
            have kx1 := (rdCell HA2N.out.bel g hzg0 (off + j * 6 + 1)).trans kw1
            have kx2 := (rdCell HA2N.out.bel g hzg0 (off + j * 6 + 2)).trans kw2
            have kx3 := (rdCell HA2N.out.bel g hzg0 (off + j * 6 + 3)).trans kw3
            have kx4 := (rdCell HA2N.out.bel g hzg0 (off + j * 6 + 4)).trans kw4
            have kx5 := (rdCell HA2N.out.bel g hzg0 (off + j * 6 + 5)).trans kw5
            gi_wp2_with (gi_at_builtin; refine wpListIn_append_own _ rfl _ _ 22 rfl (w.heap.size + 1) 27 i0 zAttr 6 96 Tryz.underlying22 hin hz0 hz1 hz2 rfl (by decide) _ _ _ rfl (HA2N.out.own.alloc _) ⟨Wq.heap.size, 0, none⟩ 1 1 [.string b0.name, .int .i64 b0.kind, .int .i64 b0.num, .string b0.text, .slice b0.ia b0.ints.length b0.ic, .slice b0.ta b0.texts.length b0.tc] rfl rfl ?y1 ?y2 ?y3 ?y4 ?y5 ?_)
            case y1 =>
              intro t u hj
              have hlt6 : t < 6 := by have := (List.getElem?_eq_some_iff.1 hj).1; simpa using this
              have hadd : (⟨Wq.heap.size, 0, none⟩ : Addr).add t = ⟨Wq.heap.size, 0 + t, none⟩ := by
                unfold Addr.add; split
                · rename_i h; subst h; rfl
                · rfl
              rw [hadd, Nat.zero_add, blkCell (heap_alloc_new _ _)]
              have ht : t = 0 ∨ t = 1 ∨ t = 2 ∨ t = 3 ∨ t = 4 ∨ t = 5 := by omega
              rcases ht with rfl | rfl | rfl | rfl | rfl | rfl <;> simpa using hj
            case y2 =>
              intro u hu
              simp only [List.mem_cons, List.not_mem_nil, or_false] at hu
              rcases hu with rfl | rfl | rfl | rfl | rfl | rfl <;> rfl
            case y3 => unfold maxLen; omega
            case y4 => omega
            case y5 => have := blkLt HA2N.out.box; simp; omega
            intro v9 W9 hown hgr _
            obtain ⟨sav9, scv9, rfl, -⟩ := own_form hown
            have HA9 := Lib.hid (HA2N.out.snoc (.inl HMB.out) (by first | exact hown | simpa using hown) hgr)
            clear hown hgr
            clear kx0 kx1 kx2 kx3 kx4 kx5
            gi_wp2_with fail
            go_roundw
            case rel => exact ⟨j + 1, n + 1, out ++ [b0], true, _, _, rfl, rfl, by go_num, by omega, ⟨HA9.out.own, HA9.out.len, HA9.out.bel, HA9.out.box, HA9.out.mem, by rw [HSTEP.out]; simp [stepD, rsetD, HEQD.out, hlD, hnD, nm_irrefl], by have := HI.out.few; omega⟩⟩
            case measure => simp [intOf]; omega
      · gi_wp2_with fail
        generalize hops : (#[_, _, _, _, _, _, _, _, _, _, _, _] : Array Oper) = ops
        refine wpIn_region_inv_tail 11 (fun i => match i with | 0 => .bool false | 1 => .bool true | 2 => .bool true | 3 => .slice (some ⟨g, off, none⟩) l.length c | 4 => .int .i64 (j : Int) | 5 => .pointer (some ⟨g, off + j * 6, none⟩) | 6 => .pointer (some ⟨g, off + j * 6, none⟩) | 7 => .string b0.name | 8 => .pointer (some ⟨w.heap.size, 0, none⟩) | 9 => .string x.name | 10 => .bool false | _ => undef)
          (fun lst Wy => Below wr.heap.size wr Wy) (by kernel_rfl) (by rw [← hops]; kernel_rfl) (by rw [← hops]; kernel_rfl) (by rw [← hops]; kernel_rfl) (by rw [← hops]; decide) (by rw [← hops]; kernel_rfl) ((Below.refl _ _).drew) ?step ?tail
        case step =>
          intro i o listed a Wy ho hs hu hall ha hi hy hlt
          have old0 : a.eval (.tmp 0) = .slice (some ⟨g, off, none⟩) l.length c := by rw [ha.eval_old (noDst_spec (by rw [← hops]; kernel_rfl))]; rfl
          have old3 : a.eval (.tmp 3) = .pointer (some ⟨w.heap.size, 0, none⟩) := by rw [ha.eval_old (noDst_spec (by rw [← hops]; kernel_rfl))]; rfl
          have old6 : a.eval (.tmp 6) = .bool false := by rw [ha.eval_old (noDst_spec (by rw [← hops]; kernel_rfl))]; rfl
          have old7 : a.eval (.tmp 7) = .int .i64 (j : Int) := by rw [ha.eval_old (noDst_spec (by rw [← hops]; kernel_rfl))]; rfl
          have hcase : i = 0 ∨ i = 1 ∨ i = 2 ∨ i = 3 ∨ i = 4 ∨ i = 5 ∨ i = 6 ∨ i = 7 ∨ i = 8 ∨ i = 9 ∨ i = 10 := by omega
          rcases hcase with rfl | rfl | rfl | rfl | rfl | rfl | rfl | rfl | rfl | rfl | rfl
          all_goals (have ho' := ho; rw [← hops] at ho'; simp only [List.getElem?_toArray, List.getElem?_cons_zero, List.getElem?_cons_succ, Option.some.injEq] at ho'; subst ho')
          · refine step_none rfl ?_
            refine opIn_value wideAt_plain (fun c h => by cases h) (v := .bool false) (W' := Wy) ?_ ⟨rfl, hi⟩
            simp only [execOp, old6]
            simp only [Sem.run_pure]
          · refine step_none rfl ?_
            have h14 : a.eval (.tmp 14) = .bool false := ha.eval_got (j := 0) (by rw [← hops]; rfl) rfl (hall ⟨0, .data⟩ (by simp) rfl)
            refine opIn_value wideAt_plain (fun c h => by cases h) (v := .bool true) (W' := Wy) ?_ ⟨rfl, hi⟩
            simp only [execOp, h14]
            simp [go_sem]
          · refine step_none rfl ?_
            have h15 : a.eval (.tmp 15) = .bool true := ha.eval_got (j := 1) (by rw [← hops]; rfl) rfl (hall ⟨1, .data⟩ (by simp) rfl)
            refine opIn_value wideAt_plain (fun c h => by cases h) (v := .bool true) (W' := Wy) ?_ ⟨rfl, hi⟩
            simp only [execOp, h15]
            simp only [Sem.run_pure]
          · refine step_yes rfl (hy 2 (hall ⟨2, .guard⟩ (by simp) rfl) ⟨_, _, by rw [← hops]; rfl, rfl⟩) ?_
            refine opIn_value wideAt_plain (fun c h => by cases h) (v := .slice (some ⟨g, off, none⟩) l.length c) (W' := Wy) ?_ ⟨rfl, hi⟩
            simp only [execOp, old0]
            simp only [Sem.run_pure]
          · refine step_yes rfl (hy 2 (hall ⟨2, .guard⟩ (by simp) rfl) ⟨_, _, by rw [← hops]; rfl, rfl⟩) ?_
            refine opIn_value wideAt_plain (fun c h => by cases h) (v := .int .i64 (j : Int)) (W' := Wy) ?_ ⟨rfl, hi⟩
            simp only [execOp, old7]
            simp only [Sem.run_pure]
          · refine step_yes rfl (hy 2 (hall ⟨2, .guard⟩ (by simp) rfl) ⟨_, _, by rw [← hops]; rfl, rfl⟩) ?_
            have h17 : a.eval (.tmp 17) = .slice (some ⟨g, off, none⟩) l.length c := ha.eval_got (j := 3) (by rw [← hops]; rfl) rfl (hall ⟨3, .data⟩ (by simp) rfl)
            have h18 : a.eval (.tmp 18) = .int .i64 (j : Int) := ha.eval_got (j := 4) (by rw [← hops]; rfl) rfl (hall ⟨4, .data⟩ (by simp) rfl)
            refine opIn_value wideAt_plain (fun c h => by cases h) (v := .pointer (some ⟨g, off + j * 6, none⟩)) (W' := Wy) ?_ ⟨rfl, hi⟩
            simp only [execOp, h17, h18]
            simp [go_sem, hjl, hj0] <;> (intro h; exfalso; first | omega | (have := h (by omega); omega))
          · refine step_yes rfl (hy 2 (hall ⟨2, .guard⟩ (by simp) rfl) ⟨_, _, by rw [← hops]; rfl, rfl⟩) ?_
            have h19 : a.eval (.tmp 19) = .pointer (some ⟨g, off + j * 6, none⟩) := ha.eval_got (j := 5) (by rw [← hops]; rfl) rfl (hall ⟨5, .data⟩ (by simp) rfl)
            refine opIn_value wideAt_plain (fun c h => by cases h) (v := .pointer (some ⟨g, off + j * 6, none⟩)) (W' := Wy) ?_ ⟨rfl, hi⟩
            simp only [execOp, h19]
            simp [go_sem]
          · refine step_yes rfl (hy 2 (hall ⟨2, .guard⟩ (by simp) rfl) ⟨_, _, by rw [← hops]; rfl, rfl⟩) ?_
            have h20 : a.eval (.tmp 20) = .pointer (some ⟨g, off + j * 6, none⟩) := ha.eval_got (j := 6) (by rw [← hops]; rfl) rfl (hall ⟨6, .data⟩ (by simp) rfl)
            refine opIn_value wideAt_plain (fun c h => by cases h) (v := .string b0.name) (W' := Wy) ?_ ⟨rfl, hi⟩
            simp only [execOp, h20]
            simp [go_sem, rdCell hi g hzg, k0]
          · refine step_yes rfl (hy 2 (hall ⟨2, .guard⟩ (by simp) rfl) ⟨_, _, by rw [← hops]; rfl, rfl⟩) ?_
            refine opIn_value wideAt_plain (fun c h => by cases h) (v := .pointer (some ⟨w.heap.size, 0, none⟩)) (W' := Wy) ?_ ⟨rfl, hi⟩
            simp only [execOp, old3]
            simp [go_sem]
          · refine step_yes rfl (hy 2 (hall ⟨2, .guard⟩ (by simp) rfl) ⟨_, _, by rw [← hops]; rfl, rfl⟩) ?_
            have h22 : a.eval (.tmp 22) = .pointer (some ⟨w.heap.size, 0, none⟩) := ha.eval_got (j := 8) (by rw [← hops]; rfl) rfl (hall ⟨8, .data⟩ (by simp) rfl)
            refine opIn_value wideAt_plain (fun c h => by cases h) (v := .string x.name) (W' := Wy) ?_ ⟨rfl, hi⟩
            simp only [execOp, h22]
            simp [go_sem, rdCell hi w.heap.size hzw, hq]
          · refine step_yes rfl (hy 2 (hall ⟨2, .guard⟩ (by simp) rfl) ⟨_, _, by rw [← hops]; rfl, rfl⟩) ?_
            have h21 : a.eval (.tmp 21) = .string b0.name := ha.eval_got (j := 7) (by rw [← hops]; rfl) rfl (hall ⟨7, .data⟩ (by simp) rfl)
            have h23 : a.eval (.tmp 23) = .string x.name := ha.eval_got (j := 9) (by rw [← hops]; rfl) rfl (hall ⟨9, .data⟩ (by simp) rfl)
            refine opIn_value wideAt_plain (fun c h => by cases h) (v := .bool false) (W' := Wy) ?_ ⟨rfl, hi⟩
            simp only [execOp, h21, h23]
            simp [go_sem, hbl]
        case tail =>
          intro Wz hz
          subst hops
          simp only [frameOf, Act.put, Option.bind_some, List.getElem?_toArray, List.getElem?_cons_zero, List.getElem?_cons_succ, List.setIfInBounds_toArray, List.set_cons_zero, List.set_cons_succ, List.drop_succ_cons, List.drop_zero]
          have HI2 := Lib.hid (HI.out.below hz)
          have HA2 : Hid (RsA x l w Wz n out (.slice sa n sc)) := Lib.hid ⟨HI2.out.own, HI2.out.len, HI2.out.bel, HI2.out.box, HI2.out.mem⟩
          clear hz
          gi_wp2_with fail
          have hzwx : w.heap.size < Wz.heap.size := blkLt HA2.out.box
          have hzgx : g < Wz.heap.size := by omega
          have kx0 := (rdCell HA2.out.bel g hzg0 (off + j * 6)).trans kw0
          have qx := blkCell HA2.out.box
          gi_wp2_with fail
          generalize hops : (#[_, _, _, _, _, _, _, _] : Array Oper) = ops
          refine wpIn_region_inv_tail 7 (fun i => match i with | 0 => .slice (some ⟨g, off, none⟩) l.length c | 1 => .int .i64 (j : Int) | 2 => .pointer (some ⟨g, off + j * 6, none⟩) | 3 => .pointer (some ⟨g, off + j * 6, none⟩) | 4 => .string b0.name | 5 => .pointer (some ⟨w.heap.size, 0, none⟩) | 6 => .string x.name | _ => undef)
            (fun lst Wy => Below Wz.heap.size Wz Wy) (by kernel_rfl) (by rw [← hops]; kernel_rfl) (by rw [← hops]; kernel_rfl) (by rw [← hops]; kernel_rfl) (by rw [← hops]; decide) (by rw [← hops]; kernel_rfl) ((Below.refl _ _).drew) ?step ?tail9
          case step =>
            intro i o listed a Wy ho hs hu hall ha hi hy hlt
            have old0 : a.eval (.tmp 0) = .slice (some ⟨g, off, none⟩) l.length c := by rw [ha.eval_old (noDst_spec (by rw [← hops]; kernel_rfl))]; rfl
            have old3 : a.eval (.tmp 3) = .pointer (some ⟨w.heap.size, 0, none⟩) := by rw [ha.eval_old (noDst_spec (by rw [← hops]; kernel_rfl))]; rfl
            have old7 : a.eval (.tmp 7) = .int .i64 (j : Int) := by rw [ha.eval_old (noDst_spec (by rw [← hops]; kernel_rfl))]; rfl
            have hcase : i = 0 ∨ i = 1 ∨ i = 2 ∨ i = 3 ∨ i = 4 ∨ i = 5 ∨ i = 6 := by omega
            rcases hcase with rfl | rfl | rfl | rfl | rfl | rfl | rfl
            all_goals (have ho' := ho; rw [← hops] at ho'; simp only [List.getElem?_toArray, List.getElem?_cons_zero, List.getElem?_cons_succ, Option.some.injEq] at ho'; subst ho')
            · refine step_none rfl ?_
              refine opIn_value wideAt_plain (fun c h => by cases h) (v := .slice (some ⟨g, off, none⟩) l.length c) (W' := Wy) ?_ ⟨rfl, hi⟩
              simp only [execOp, old0]
              simp only [Sem.run_pure]
            · refine step_none rfl ?_
              refine opIn_value wideAt_plain (fun c h => by cases h) (v := .int .i64 (j : Int)) (W' := Wy) ?_ ⟨rfl, hi⟩
              simp only [execOp, old7]
              simp only [Sem.run_pure]
            · refine step_none rfl ?_
              have h30 : a.eval (.tmp 30) = .slice (some ⟨g, off, none⟩) l.length c := ha.eval_got (j := 0) (by rw [← hops]; rfl) rfl (hall ⟨0, .data⟩ (by simp) rfl)
              have h31 : a.eval (.tmp 31) = .int .i64 (j : Int) := ha.eval_got (j := 1) (by rw [← hops]; rfl) rfl (hall ⟨1, .data⟩ (by simp) rfl)
              refine opIn_value wideAt_plain (fun c h => by cases h) (v := .pointer (some ⟨g, off + j * 6, none⟩)) (W' := Wy) ?_ ⟨rfl, hi⟩
              simp only [execOp, h30, h31]
              simp [go_sem, hjl, hj0] <;> (intro h; exfalso; first | omega | (have := h (by omega); omega))
            · refine step_none rfl ?_
              have h32 : a.eval (.tmp 32) = .pointer (some ⟨g, off + j * 6, none⟩) := ha.eval_got (j := 2) (by rw [← hops]; rfl) rfl (hall ⟨2, .data⟩ (by simp) rfl)
              refine opIn_value wideAt_plain (fun c h => by cases h) (v := .pointer (some ⟨g, off + j * 6, none⟩)) (W' := Wy) ?_ ⟨rfl, hi⟩
              simp only [execOp, h32]
              simp [go_sem]
            · refine step_none rfl ?_
              have h33 : a.eval (.tmp 33) = .pointer (some ⟨g, off + j * 6, none⟩) := ha.eval_got (j := 3) (by rw [← hops]; rfl) rfl (hall ⟨3, .data⟩ (by simp) rfl)
              refine opIn_value wideAt_plain (fun c h => by cases h) (v := .string b0.name) (W' := Wy) ?_ ⟨rfl, hi⟩
              simp only [execOp, h33]
              simp [go_sem, rdCell hi g hzgx, kx0]
            · refine step_none rfl ?_
              refine opIn_value wideAt_plain (fun c h => by cases h) (v := .pointer (some ⟨w.heap.size, 0, none⟩)) (W' := Wy) ?_ ⟨rfl, hi⟩
              simp only [execOp, old3]
              simp [go_sem]
            · refine step_none rfl ?_
              have h35 : a.eval (.tmp 35) = .pointer (some ⟨w.heap.size, 0, none⟩) := ha.eval_got (j := 5) (by rw [← hops]; rfl) rfl (hall ⟨5, .data⟩ (by simp) rfl)
              refine opIn_value wideAt_plain (fun c h => by cases h) (v := .string x.name) (W' := Wy) ?_ ⟨rfl, hi⟩
              simp only [execOp, h35]
              simp [go_sem, rdCell hi w.heap.size hzwx, qx]
          case tail9 =>
            intro Wq hz
            subst hops
            simp only [frameOf, Act.put, Option.bind_some, List.getElem?_toArray, List.getElem?_cons_zero, List.getElem?_cons_succ, List.setIfInBounds_toArray, List.set_cons_zero, List.set_cons_succ, List.drop_succ_cons, List.drop_zero]
            have HA2N := Lib.hid (HA2.out.below hz)
            clear hz kx0 qx hzwx hzgx
            have kx0 := (rdCell HA2N.out.bel g hzg0 (off + j * 6)).trans kw0
            have kx1 := (rdCell HA2N.out.bel g hzg0 (off + j * 6 + 1)).trans kw1
            have kx2 := (rdCell HA2N.out.bel g hzg0 (off + j * 6 + 2)).trans kw2
            have kx3 := (rdCell HA2N.out.bel g hzg0 (off + j * 6 + 3)).trans kw3
            have kx4 := (rdCell HA2N.out.bel g hzg0 (off + j * 6 + 4)).trans kw4
            have kx5 := (rdCell HA2N.out.bel g hzg0 (off + j * 6 + 5)).trans kw5
            gi_wp2_with (gi_at_builtin; refine wpListIn_append_own _ rfl _ _ 22 rfl (w.heap.size + 1) 27 i0 zAttr 6 96 Tryz.underlying22 hin hz0 hz1 hz2 rfl (by decide) _ _ _ rfl (HA2N.out.own.alloc _) ⟨Wq.heap.size, 0, none⟩ 1 1 [.string b0.name, .int .i64 b0.kind, .int .i64 b0.num, .string b0.text, .slice b0.ia b0.ints.length b0.ic, .slice b0.ta b0.texts.length b0.tc] rfl rfl ?y1 ?y2 ?y3 ?y4 ?y5 ?_)
            case y1 =>
              intro t u hj
              have hlt6 : t < 6 := by have := (List.getElem?_eq_some_iff.1 hj).1; simpa using this
              have hadd : (⟨Wq.heap.size, 0, none⟩ : Addr).add t = ⟨Wq.heap.size, 0 + t, none⟩ := by
                unfold Addr.add; split
                · rename_i h; subst h; rfl
                · rfl
              rw [hadd, Nat.zero_add, blkCell (heap_alloc_new _ _)]
              have ht : t = 0 ∨ t = 1 ∨ t = 2 ∨ t = 3 ∨ t = 4 ∨ t = 5 := by omega
              rcases ht with rfl | rfl | rfl | rfl | rfl | rfl <;> simpa using hj
            case y2 =>
              intro u hu
              simp only [List.mem_cons, List.not_mem_nil, or_false] at hu
              rcases hu with rfl | rfl | rfl | rfl | rfl | rfl <;> rfl
            case y3 => unfold maxLen; omega
            case y4 => omega
            case y5 => have := blkLt HA2N.out.box; simp; omega
            intro v9 W9 hown hgr _
            obtain ⟨sav9, scv9, rfl, -⟩ := own_form hown
            have HA9 := Lib.hid (HA2N.out.snoc (.inl HMB.out) (by first | exact hown | simpa using hown) hgr)
            clear hown hgr
            clear kx0 kx1 kx2 kx3 kx4 kx5
            gi_wp2_with fail
            go_roundw
            case rel => exact ⟨j + 1, n + 1, out ++ [b0], false, _, _, rfl, rfl, by go_num, by omega, ⟨HA9.out.own, HA9.out.len, HA9.out.bel, HA9.out.box, HA9.out.mem, by rw [HSTEP.out]; simp [stepD, rsetD, HEQD.out, hlD, hnD, nm_irrefl], by have := HI.out.few; omega⟩⟩
            case measure => simp [intOf]; omega
      · gi_wp2_with fail
        generalize hops : (#[_, _, _, _, _, _, _, _, _, _, _, _] : Array Oper) = ops
        refine wpIn_region_inv_tail 11 (fun i => match i with | 0 => .bool false | 1 => .bool true | 2 => .bool true | 3 => .slice (some ⟨g, off, none⟩) l.length c | 4 => .int .i64 (j : Int) | 5 => .pointer (some ⟨g, off + j * 6, none⟩) | 6 => .pointer (some ⟨g, off + j * 6, none⟩) | 7 => .string b0.name | 8 => .pointer (some ⟨w.heap.size, 0, none⟩) | 9 => .string x.name | 10 => .bool true | _ => undef)
          (fun lst Wy => Below wr.heap.size wr Wy) (by kernel_rfl) (by rw [← hops]; kernel_rfl) (by rw [← hops]; kernel_rfl) (by rw [← hops]; kernel_rfl) (by rw [← hops]; decide) (by rw [← hops]; kernel_rfl) ((Below.refl _ _).drew) ?step ?tail
        case step =>
          intro i o listed a Wy ho hs hu hall ha hi hy hlt
          have old0 : a.eval (.tmp 0) = .slice (some ⟨g, off, none⟩) l.length c := by rw [ha.eval_old (noDst_spec (by rw [← hops]; kernel_rfl))]; rfl
          have old3 : a.eval (.tmp 3) = .pointer (some ⟨w.heap.size, 0, none⟩) := by rw [ha.eval_old (noDst_spec (by rw [← hops]; kernel_rfl))]; rfl
          have old6 : a.eval (.tmp 6) = .bool false := by rw [ha.eval_old (noDst_spec (by rw [← hops]; kernel_rfl))]; rfl
          have old7 : a.eval (.tmp 7) = .int .i64 (j : Int) := by rw [ha.eval_old (noDst_spec (by rw [← hops]; kernel_rfl))]; rfl
          have hcase : i = 0 ∨ i = 1 ∨ i = 2 ∨ i = 3 ∨ i = 4 ∨ i = 5 ∨ i = 6 ∨ i = 7 ∨ i = 8 ∨ i = 9 ∨ i = 10 := by omega
          rcases hcase with rfl | rfl | rfl | rfl | rfl | rfl | rfl | rfl | rfl | rfl | rfl
          all_goals (have ho' := ho; rw [← hops] at ho'; simp only [List.getElem?_toArray, List.getElem?_cons_zero, List.getElem?_cons_succ, Option.some.injEq] at ho'; subst ho')
          · refine step_none rfl ?_
            refine opIn_value wideAt_plain (fun c h => by cases h) (v := .bool false) (W' := Wy) ?_ ⟨rfl, hi⟩
            simp only [execOp, old6]
            simp only [Sem.run_pure]
          · refine step_none rfl ?_
            have h14 : a.eval (.tmp 14) = .bool false := ha.eval_got (j := 0) (by rw [← hops]; rfl) rfl (hall ⟨0, .data⟩ (by simp) rfl)
            refine opIn_value wideAt_plain (fun c h => by cases h) (v := .bool true) (W' := Wy) ?_ ⟨rfl, hi⟩
            simp only [execOp, h14]
            simp [go_sem]
          · refine step_none rfl ?_
            have h15 : a.eval (.tmp 15) = .bool true := ha.eval_got (j := 1) (by rw [← hops]; rfl) rfl (hall ⟨1, .data⟩ (by simp) rfl)
            refine opIn_value wideAt_plain (fun c h => by cases h) (v := .bool true) (W' := Wy) ?_ ⟨rfl, hi⟩
            simp only [execOp, h15]
            simp only [Sem.run_pure]
          · refine step_yes rfl (hy 2 (hall ⟨2, .guard⟩ (by simp) rfl) ⟨_, _, by rw [← hops]; rfl, rfl⟩) ?_
            refine opIn_value wideAt_plain (fun c h => by cases h) (v := .slice (some ⟨g, off, none⟩) l.length c) (W' := Wy) ?_ ⟨rfl, hi⟩
            simp only [execOp, old0]
            simp only [Sem.run_pure]
          · refine step_yes rfl (hy 2 (hall ⟨2, .guard⟩ (by simp) rfl) ⟨_, _, by rw [← hops]; rfl, rfl⟩) ?_
            refine opIn_value wideAt_plain (fun c h => by cases h) (v := .int .i64 (j : Int)) (W' := Wy) ?_ ⟨rfl, hi⟩
            simp only [execOp, old7]
            simp only [Sem.run_pure]
          · refine step_yes rfl (hy 2 (hall ⟨2, .guard⟩ (by simp) rfl) ⟨_, _, by rw [← hops]; rfl, rfl⟩) ?_
            have h17 : a.eval (.tmp 17) = .slice (some ⟨g, off, none⟩) l.length c := ha.eval_got (j := 3) (by rw [← hops]; rfl) rfl (hall ⟨3, .data⟩ (by simp) rfl)
            have h18 : a.eval (.tmp 18) = .int .i64 (j : Int) := ha.eval_got (j := 4) (by rw [← hops]; rfl) rfl (hall ⟨4, .data⟩ (by simp) rfl)
            refine opIn_value wideAt_plain (fun c h => by cases h) (v := .pointer (some ⟨g, off + j * 6, none⟩)) (W' := Wy) ?_ ⟨rfl, hi⟩
            simp only [execOp, h17, h18]
            simp [go_sem, hjl, hj0] <;> (intro h; exfalso; first | omega | (have := h (by omega); omega))
          · refine step_yes rfl (hy 2 (hall ⟨2, .guard⟩ (by simp) rfl) ⟨_, _, by rw [← hops]; rfl, rfl⟩) ?_
            have h19 : a.eval (.tmp 19) = .pointer (some ⟨g, off + j * 6, none⟩) := ha.eval_got (j := 5) (by rw [← hops]; rfl) rfl (hall ⟨5, .data⟩ (by simp) rfl)
            refine opIn_value wideAt_plain (fun c h => by cases h) (v := .pointer (some ⟨g, off + j * 6, none⟩)) (W' := Wy) ?_ ⟨rfl, hi⟩
            simp only [execOp, h19]
            simp [go_sem]
          · refine step_yes rfl (hy 2 (hall ⟨2, .guard⟩ (by simp) rfl) ⟨_, _, by rw [← hops]; rfl, rfl⟩) ?_
            have h20 : a.eval (.tmp 20) = .pointer (some ⟨g, off + j * 6, none⟩) := ha.eval_got (j := 6) (by rw [← hops]; rfl) rfl (hall ⟨6, .data⟩ (by simp) rfl)
            refine opIn_value wideAt_plain (fun c h => by cases h) (v := .string b0.name) (W' := Wy) ?_ ⟨rfl, hi⟩
            simp only [execOp, h20]
            simp [go_sem, rdCell hi g hzg, k0]
          · refine step_yes rfl (hy 2 (hall ⟨2, .guard⟩ (by simp) rfl) ⟨_, _, by rw [← hops]; rfl, rfl⟩) ?_
            refine opIn_value wideAt_plain (fun c h => by cases h) (v := .pointer (some ⟨w.heap.size, 0, none⟩)) (W' := Wy) ?_ ⟨rfl, hi⟩
            simp only [execOp, old3]
            simp [go_sem]
          · refine step_yes rfl (hy 2 (hall ⟨2, .guard⟩ (by simp) rfl) ⟨_, _, by rw [← hops]; rfl, rfl⟩) ?_
            have h22 : a.eval (.tmp 22) = .pointer (some ⟨w.heap.size, 0, none⟩) := ha.eval_got (j := 8) (by rw [← hops]; rfl) rfl (hall ⟨8, .data⟩ (by simp) rfl)
            refine opIn_value wideAt_plain (fun c h => by cases h) (v := .string x.name) (W' := Wy) ?_ ⟨rfl, hi⟩
            simp only [execOp, h22]
            simp [go_sem, rdCell hi w.heap.size hzw, hq]
          · refine step_yes rfl (hy 2 (hall ⟨2, .guard⟩ (by simp) rfl) ⟨_, _, by rw [← hops]; rfl, rfl⟩) ?_
            have h21 : a.eval (.tmp 21) = .string b0.name := ha.eval_got (j := 7) (by rw [← hops]; rfl) rfl (hall ⟨7, .data⟩ (by simp) rfl)
            have h23 : a.eval (.tmp 23) = .string x.name := ha.eval_got (j := 9) (by rw [← hops]; rfl) rfl (hall ⟨9, .data⟩ (by simp) rfl)
            refine opIn_value wideAt_plain (fun c h => by cases h) (v := .bool true) (W' := Wy) ?_ ⟨rfl, hi⟩
            simp only [execOp, h21, h23]
            simp [go_sem, hbl]
        case tail =>
          intro Wz hz
          subst hops
          simp only [frameOf, Act.put, Option.bind_some, List.getElem?_toArray, List.getElem?_cons_zero, List.getElem?_cons_succ, List.setIfInBounds_toArray, List.set_cons_zero, List.set_cons_succ, List.drop_succ_cons, List.drop_zero]
          have HI2 := Lib.hid (HI.out.below hz)
          have HA2 : Hid (RsA x l w Wz n out (.slice sa n sc)) := Lib.hid ⟨HI2.out.own, HI2.out.len, HI2.out.bel, HI2.out.box, HI2.out.mem⟩
          clear hz
          have qz := blkCell HA2.out.box
          gi_wp2_with (gi_at_builtin; refine wpListIn_append_own _ rfl _ _ 22 rfl (w.heap.size + 1) 27 i0 zAttr 6 96 Tryz.underlying22 hin hz0 hz1 hz2 rfl (by decide) _ _ _ rfl (HA2.out.own.alloc _) ⟨Wz.heap.size, 0, none⟩ 1 1 [.string x.name, .int .i64 x.kind, .int .i64 x.num, .string x.text, .slice x.ia x.ints.length x.ic, .slice x.ta x.texts.length x.tc] rfl rfl ?x1 ?x2 ?x3 ?x4 ?x5 ?_)
          case x1 =>
            intro t u hj
            have hlt6 : t < 6 := by have := (List.getElem?_eq_some_iff.1 hj).1; simpa using this
            have hadd : (⟨Wz.heap.size, 0, none⟩ : Addr).add t = ⟨Wz.heap.size, 0 + t, none⟩ := by
              unfold Addr.add; split
              · rename_i h; subst h; rfl
              · rfl
            rw [hadd, Nat.zero_add, blkCell (heap_alloc_new _ _)]
            have ht : t = 0 ∨ t = 1 ∨ t = 2 ∨ t = 3 ∨ t = 4 ∨ t = 5 := by omega
            rcases ht with rfl | rfl | rfl | rfl | rfl | rfl <;> simpa using hj
          case x2 =>
            intro u hu
            simp only [List.mem_cons, List.not_mem_nil, or_false] at hu
            rcases hu with rfl | rfl | rfl | rfl | rfl | rfl <;> rfl
          case x3 => unfold maxLen; omega
          case x4 => omega
          case x5 => have := blkLt HA2.out.box; simp; omega
          intro v7 W7 hown hgr _
          obtain ⟨sav7, scv7, rfl, -⟩ := own_form hown
          have HA7 := Lib.hid (HA2.out.snoc (.inr rfl) (by first | exact hown | simpa using hown) hgr)
          clear hown hgr
          clear qz
          have hzwx : w.heap.size < W7.heap.size := blkLt HA7.out.box
          have hzgx : g < W7.heap.size := by omega
          have kx0 := (rdCell HA7.out.bel g hzg0 (off + j * 6)).trans kw0
          have qx := blkCell HA7.out.box
          gi_wp2_with fail
          generalize hops : (#[_, _, _, _, _, _, _, _] : Array Oper) = ops
          refine wpIn_region_inv_tail 7 (fun i => match i with | 0 => .slice (some ⟨g, off, none⟩) l.length c | 1 => .int .i64 (j : Int) | 2 => .pointer (some ⟨g, off + j * 6, none⟩) | 3 => .pointer (some ⟨g, off + j * 6, none⟩) | 4 => .string b0.name | 5 => .pointer (some ⟨w.heap.size, 0, none⟩) | 6 => .string x.name | _ => undef)
            (fun lst Wy => Below W7.heap.size W7 Wy) (by kernel_rfl) (by rw [← hops]; kernel_rfl) (by rw [← hops]; kernel_rfl) (by rw [← hops]; kernel_rfl) (by rw [← hops]; decide) (by rw [← hops]; kernel_rfl) ((Below.refl _ _).drew) ?step ?tail9
          case step =>
            intro i o listed a Wy ho hs hu hall ha hi hy hlt
            have old0 : a.eval (.tmp 0) = .slice (some ⟨g, off, none⟩) l.length c := by rw [ha.eval_old (noDst_spec (by rw [← hops]; kernel_rfl))]; rfl
            have old3 : a.eval (.tmp 3) = .pointer (some ⟨w.heap.size, 0, none⟩) := by rw [ha.eval_old (noDst_spec (by rw [← hops]; kernel_rfl))]; rfl
            have old7 : a.eval (.tmp 7) = .int .i64 (j : Int) := by rw [ha.eval_old (noDst_spec (by rw [← hops]; kernel_rfl))]; rfl
            have hcase : i = 0 ∨ i = 1 ∨ i = 2 ∨ i = 3 ∨ i = 4 ∨ i = 5 ∨ i = 6 := by omega
            rcases hcase with rfl | rfl | rfl | rfl | rfl | rfl | rfl
            all_goals (have ho' := ho; rw [← hops] at ho'; simp only [List.getElem?_toArray, List.getElem?_cons_zero, List.getElem?_cons_succ, Option.some.injEq] at ho'; subst ho')
            · refine step_none rfl ?_
              refine opIn_value wideAt_plain (fun c h => by cases h) (v := .slice (some ⟨g, off, none⟩) l.length c) (W' := Wy) ?_ ⟨rfl, hi⟩
              simp only [execOp, old0]
              simp only [Sem.run_pure]
            · refine step_none rfl ?_
              refine opIn_value wideAt_plain (fun c h => by cases h) (v := .int .i64 (j : Int)) (W' := Wy) ?_ ⟨rfl, hi⟩
              simp only [execOp, old7]
              simp only [Sem.run_pure]
            · refine step_none rfl ?_
              have h30 : a.eval (.tmp 30) = .slice (some ⟨g, off, none⟩) l.length c := ha.eval_got (j := 0) (by rw [← hops]; rfl) rfl (hall ⟨0, .data⟩ (by simp) rfl)
              have h31 : a.eval (.tmp 31) = .int .i64 (j : Int) := ha.eval_got (j := 1) (by rw [← hops]; rfl) rfl (hall ⟨1, .data⟩ (by simp) rfl)
              refine opIn_value wideAt_plain (fun c h => by cases h) (v := .pointer (some ⟨g, off + j * 6, none⟩)) (W' := Wy) ?_ ⟨rfl, hi⟩
              simp only [execOp, h30, h31]
              simp [go_sem, hjl, hj0] <;> (intro h; exfalso; first | omega | (have := h (by omega); omega))
            · refine step_none rfl ?_
              have h32 : a.eval (.tmp 32) = .pointer (some ⟨g, off + j * 6, none⟩) := ha.eval_got (j := 2) (by rw [← hops]; rfl) rfl (hall ⟨2, .data⟩ (by simp) rfl)
              refine opIn_value wideAt_plain (fun c h => by cases h) (v := .pointer (some ⟨g, off + j * 6, none⟩)) (W' := Wy) ?_ ⟨rfl, hi⟩
              simp only [execOp, h32]
              simp [go_sem]
            · refine step_none rfl ?_
              have h33 : a.eval (.tmp 33) = .pointer (some ⟨g, off + j * 6, none⟩) := ha.eval_got (j := 3) (by rw [← hops]; rfl) rfl (hall ⟨3, .data⟩ (by simp) rfl)
              refine opIn_value wideAt_plain (fun c h => by cases h) (v := .string b0.name) (W' := Wy) ?_ ⟨rfl, hi⟩
              simp only [execOp, h33]
              simp [go_sem, rdCell hi g hzgx, kx0]
            · refine step_none rfl ?_
              refine opIn_value wideAt_plain (fun c h => by cases h) (v := .pointer (some ⟨w.heap.size, 0, none⟩)) (W' := Wy) ?_ ⟨rfl, hi⟩
              simp only [execOp, old3]
              simp [go_sem]
            · refine step_none rfl ?_
              have h35 : a.eval (.tmp 35) = .pointer (some ⟨w.heap.size, 0, none⟩) := ha.eval_got (j := 5) (by rw [← hops]; rfl) rfl (hall ⟨5, .data⟩ (by simp) rfl)
              refine opIn_value wideAt_plain (fun c h => by cases h) (v := .string x.name) (W' := Wy) ?_ ⟨rfl, hi⟩
              simp only [execOp, h35]
              simp [go_sem, rdCell hi w.heap.size hzwx, qx]
          case tail9 =>
            intro Wq hz
            subst hops
            simp only [frameOf, Act.put, Option.bind_some, List.getElem?_toArray, List.getElem?_cons_zero, List.getElem?_cons_succ, List.setIfInBounds_toArray, List.set_cons_zero, List.set_cons_succ, List.drop_succ_cons, List.drop_zero]
            have HA7N := Lib.hid (HA7.out.below hz)
            clear hz kx0 qx hzwx hzgx
            gi_wp2_with fail
            go_roundw
            case rel => exact ⟨j + 1, n + 1, out ++ [x], true, _, _, rfl, rfl, by go_num, by omega, ⟨HA7N.out.own, HA7N.out.len, HA7N.out.bel, HA7N.out.box, HA7N.out.mem, by rw [HSTEP.out]; simp [stepD, rsetD, HEQD.out, hlD, hnD, nm_irrefl], by have := HI.out.few; omega⟩⟩
            case measure => simp [intOf]; omega
      · gi_wp2_with fail
        generalize hops : (#[_, _, _, _, _, _, _, _, _, _, _, _] : Array Oper) = ops
        refine wpIn_region_inv_tail 11 (fun i => match i with | 0 => .bool false | 1 => .bool true | 2 => .bool true | 3 => .slice (some ⟨g, off, none⟩) l.length c | 4 => .int .i64 (j : Int) | 5 => .pointer (some ⟨g, off + j * 6, none⟩) | 6 => .pointer (some ⟨g, off + j * 6, none⟩) | 7 => .string b0.name | 8 => .pointer (some ⟨w.heap.size, 0, none⟩) | 9 => .string x.name | 10 => .bool true | _ => undef)
          (fun lst Wy => Below wr.heap.size wr Wy) (by kernel_rfl) (by rw [← hops]; kernel_rfl) (by rw [← hops]; kernel_rfl) (by rw [← hops]; kernel_rfl) (by rw [← hops]; decide) (by rw [← hops]; kernel_rfl) ((Below.refl _ _).drew) ?step ?tail
        case step =>
          intro i o listed a Wy ho hs hu hall ha hi hy hlt
          have old0 : a.eval (.tmp 0) = .slice (some ⟨g, off, none⟩) l.length c := by rw [ha.eval_old (noDst_spec (by rw [← hops]; kernel_rfl))]; rfl
          have old3 : a.eval (.tmp 3) = .pointer (some ⟨w.heap.size, 0, none⟩) := by rw [ha.eval_old (noDst_spec (by rw [← hops]; kernel_rfl))]; rfl
          have old6 : a.eval (.tmp 6) = .bool false := by rw [ha.eval_old (noDst_spec (by rw [← hops]; kernel_rfl))]; rfl
          have old7 : a.eval (.tmp 7) = .int .i64 (j : Int) := by rw [ha.eval_old (noDst_spec (by rw [← hops]; kernel_rfl))]; rfl
          have hcase : i = 0 ∨ i = 1 ∨ i = 2 ∨ i = 3 ∨ i = 4 ∨ i = 5 ∨ i = 6 ∨ i = 7 ∨ i = 8 ∨ i = 9 ∨ i = 10 := by omega
          rcases hcase with rfl | rfl | rfl | rfl | rfl | rfl | rfl | rfl | rfl | rfl | rfl
          all_goals (have ho' := ho; rw [← hops] at ho'; simp only [List.getElem?_toArray, List.getElem?_cons_zero, List.getElem?_cons_succ, Option.some.injEq] at ho'; subst ho')
          · refine step_none rfl ?_
            refine opIn_value wideAt_plain (fun c h => by cases h) (v := .bool false) (W' := Wy) ?_ ⟨rfl, hi⟩
            simp only [execOp, old6]
            simp only [Sem.run_pure]
          · refine step_none rfl ?_
            have h14 : a.eval (.tmp 14) = .bool false := ha.eval_got (j := 0) (by rw [← hops]; rfl) rfl (hall ⟨0, .data⟩ (by simp) rfl)
            refine opIn_value wideAt_plain (fun c h => by cases h) (v := .bool true) (W' := Wy) ?_ ⟨rfl, hi⟩
            simp only [execOp, h14]
            simp [go_sem]
          · refine step_none rfl ?_
            have h15 : a.eval (.tmp 15) = .bool true := ha.eval_got (j := 1) (by rw [← hops]; rfl) rfl (hall ⟨1, .data⟩ (by simp) rfl)
            refine opIn_value wideAt_plain (fun c h => by cases h) (v := .bool true) (W' := Wy) ?_ ⟨rfl, hi⟩
            simp only [execOp, h15]
            simp only [Sem.run_pure]
          · refine step_yes rfl (hy 2 (hall ⟨2, .guard⟩ (by simp) rfl) ⟨_, _, by rw [← hops]; rfl, rfl⟩) ?_
            refine opIn_value wideAt_plain (fun c h => by cases h) (v := .slice (some ⟨g, off, none⟩) l.length c) (W' := Wy) ?_ ⟨rfl, hi⟩
            simp only [execOp, old0]
            simp only [Sem.run_pure]
          · refine step_yes rfl (hy 2 (hall ⟨2, .guard⟩ (by simp) rfl) ⟨_, _, by rw [← hops]; rfl, rfl⟩) ?_
            refine opIn_value wideAt_plain (fun c h => by cases h) (v := .int .i64 (j : Int)) (W' := Wy) ?_ ⟨rfl, hi⟩
            simp only [execOp, old7]
            simp only [Sem.run_pure]
          · refine step_yes rfl (hy 2 (hall ⟨2, .guard⟩ (by simp) rfl) ⟨_, _, by rw [← hops]; rfl, rfl⟩) ?_
            have h17 : a.eval (.tmp 17) = .slice (some ⟨g, off, none⟩) l.length c := ha.eval_got (j := 3) (by rw [← hops]; rfl) rfl (hall ⟨3, .data⟩ (by simp) rfl)
            have h18 : a.eval (.tmp 18) = .int .i64 (j : Int) := ha.eval_got (j := 4) (by rw [← hops]; rfl) rfl (hall ⟨4, .data⟩ (by simp) rfl)
            refine opIn_value wideAt_plain (fun c h => by cases h) (v := .pointer (some ⟨g, off + j * 6, none⟩)) (W' := Wy) ?_ ⟨rfl, hi⟩
            simp only [execOp, h17, h18]
            simp [go_sem, hjl, hj0] <;> (intro h; exfalso; first | omega | (have := h (by omega); omega))
          · refine step_yes rfl (hy 2 (hall ⟨2, .guard⟩ (by simp) rfl) ⟨_, _, by rw [← hops]; rfl, rfl⟩) ?_
            have h19 : a.eval (.tmp 19) = .pointer (some ⟨g, off + j * 6, none⟩) := ha.eval_got (j := 5) (by rw [← hops]; rfl) rfl (hall ⟨5, .data⟩ (by simp) rfl)
            refine opIn_value wideAt_plain (fun c h => by cases h) (v := .pointer (some ⟨g, off + j * 6, none⟩)) (W' := Wy) ?_ ⟨rfl, hi⟩
            simp only [execOp, h19]
            simp [go_sem]
          · refine step_yes rfl (hy 2 (hall ⟨2, .guard⟩ (by simp) rfl) ⟨_, _, by rw [← hops]; rfl, rfl⟩) ?_
            have h20 : a.eval (.tmp 20) = .pointer (some ⟨g, off + j * 6, none⟩) := ha.eval_got (j := 6) (by rw [← hops]; rfl) rfl (hall ⟨6, .data⟩ (by simp) rfl)
            refine opIn_value wideAt_plain (fun c h => by cases h) (v := .string b0.name) (W' := Wy) ?_ ⟨rfl, hi⟩
            simp only [execOp, h20]
            simp [go_sem, rdCell hi g hzg, k0]
          · refine step_yes rfl (hy 2 (hall ⟨2, .guard⟩ (by simp) rfl) ⟨_, _, by rw [← hops]; rfl, rfl⟩) ?_
            refine opIn_value wideAt_plain (fun c h => by cases h) (v := .pointer (some ⟨w.heap.size, 0, none⟩)) (W' := Wy) ?_ ⟨rfl, hi⟩
            simp only [execOp, old3]
            simp [go_sem]
          · refine step_yes rfl (hy 2 (hall ⟨2, .guard⟩ (by simp) rfl) ⟨_, _, by rw [← hops]; rfl, rfl⟩) ?_
            have h22 : a.eval (.tmp 22) = .pointer (some ⟨w.heap.size, 0, none⟩) := ha.eval_got (j := 8) (by rw [← hops]; rfl) rfl (hall ⟨8, .data⟩ (by simp) rfl)
            refine opIn_value wideAt_plain (fun c h => by cases h) (v := .string x.name) (W' := Wy) ?_ ⟨rfl, hi⟩
            simp only [execOp, h22]
            simp [go_sem, rdCell hi w.heap.size hzw, hq]
          · refine step_yes rfl (hy 2 (hall ⟨2, .guard⟩ (by simp) rfl) ⟨_, _, by rw [← hops]; rfl, rfl⟩) ?_
            have h21 : a.eval (.tmp 21) = .string b0.name := ha.eval_got (j := 7) (by rw [← hops]; rfl) rfl (hall ⟨7, .data⟩ (by simp) rfl)
            have h23 : a.eval (.tmp 23) = .string x.name := ha.eval_got (j := 9) (by rw [← hops]; rfl) rfl (hall ⟨9, .data⟩ (by simp) rfl)
            refine opIn_value wideAt_plain (fun c h => by cases h) (v := .bool true) (W' := Wy) ?_ ⟨rfl, hi⟩
            simp only [execOp, h21, h23]
            simp [go_sem, hbl]
        case tail =>
          intro Wz hz
          subst hops
          simp only [frameOf, Act.put, Option.bind_some, List.getElem?_toArray, List.getElem?_cons_zero, List.getElem?_cons_succ, List.setIfInBounds_toArray, List.set_cons_zero, List.set_cons_succ, List.drop_succ_cons, List.drop_zero]
          have HI2 := Lib.hid (HI.out.below hz)
          have HA2 : Hid (RsA x l w Wz n out (.slice sa n sc)) := Lib.hid ⟨HI2.out.own, HI2.out.len, HI2.out.bel, HI2.out.box, HI2.out.mem⟩
          clear hz
          have qz := blkCell HA2.out.box
          gi_wp2_with (gi_at_builtin; refine wpListIn_append_own _ rfl _ _ 22 rfl (w.heap.size + 1) 27 i0 zAttr 6 96 Tryz.underlying22 hin hz0 hz1 hz2 rfl (by decide) _ _ _ rfl (HA2.out.own.alloc _) ⟨Wz.heap.size, 0, none⟩ 1 1 [.string x.name, .int .i64 x.kind, .int .i64 x.num, .string x.text, .slice x.ia x.ints.length x.ic, .slice x.ta x.texts.length x.tc] rfl rfl ?x1 ?x2 ?x3 ?x4 ?x5 ?_)
          case x1 =>
            intro t u hj
            have hlt6 : t < 6 := by have := (List.getElem?_eq_some_iff.1 hj).1; simpa using this
            have hadd : (⟨Wz.heap.size, 0, none⟩ : Addr).add t = ⟨Wz.heap.size, 0 + t, none⟩ := by
              unfold Addr.add; split
              · rename_i h; subst h; rfl
              · rfl
            rw [hadd, Nat.zero_add, blkCell (heap_alloc_new _ _)]
            have ht : t = 0 ∨ t = 1 ∨ t = 2 ∨ t = 3 ∨ t = 4 ∨ t = 5 := by omega
            rcases ht with rfl | rfl | rfl | rfl | rfl | rfl <;> simpa using hj
          case x2 =>
            intro u hu
            simp only [List.mem_cons, List.not_mem_nil, or_false] at hu
            rcases hu with rfl | rfl | rfl | rfl | rfl | rfl <;> rfl
          case x3 => unfold maxLen; omega
          case x4 => omega
          case x5 => have := blkLt HA2.out.box; simp; omega
          intro v7 W7 hown hgr _
          obtain ⟨sav7, scv7, rfl, -⟩ := own_form hown
          have HA7 := Lib.hid (HA2.out.snoc (.inr rfl) (by first | exact hown | simpa using hown) hgr)
          clear hown hgr
          clear qz
          have hzwx : w.heap.size < W7.heap.size := blkLt HA7.out.box
          have hzgx : g < W7.heap.size := by omega
          have kx0 := (rdCell HA7.out.bel g hzg0 (off + j * 6)).trans kw0
          have qx := blkCell HA7.out.box
          gi_wp2_with fail
          generalize hops : (#[_, _, _, _, _, _, _, _] : Array Oper) = ops
          refine wpIn_region_inv_tail 7 (fun i => match i with | 0 => .slice (some ⟨g, off, none⟩) l.length c | 1 => .int .i64 (j : Int) | 2 => .pointer (some ⟨g, off + j * 6, none⟩) | 3 => .pointer (some ⟨g, off + j * 6, none⟩) | 4 => .string b0.name | 5 => .pointer (some ⟨w.heap.size, 0, none⟩) | 6 => .string x.name | _ => undef)
            (fun lst Wy => Below W7.heap.size W7 Wy) (by kernel_rfl) (by rw [← hops]; kernel_rfl) (by rw [← hops]; kernel_rfl) (by rw [← hops]; kernel_rfl) (by rw [← hops]; decide) (by rw [← hops]; kernel_rfl) ((Below.refl _ _).drew) ?step ?tail9
          case step =>
            intro i o listed a Wy ho hs hu hall ha hi hy hlt
            have old0 : a.eval (.tmp 0) = .slice (some ⟨g, off, none⟩) l.length c := by rw [ha.eval_old (noDst_spec (by rw [← hops]; kernel_rfl))]; rfl
            have old3 : a.eval (.tmp 3) = .pointer (some ⟨w.heap.size, 0, none⟩) := by rw [ha.eval_old (noDst_spec (by rw [← hops]; kernel_rfl))]; rfl
            have old7 : a.eval (.tmp 7) = .int .i64 (j : Int) := by rw [ha.eval_old (noDst_spec (by rw [← hops]; kernel_rfl))]; rfl
            have hcase : i = 0 ∨ i = 1 ∨ i = 2 ∨ i = 3 ∨ i = 4 ∨ i = 5 ∨ i = 6 := by omega
            rcases hcase with rfl | rfl | rfl | rfl | rfl | rfl | rfl
            all_goals (have ho' := ho; rw [← hops] at ho'; simp only [List.getElem?_toArray, List.getElem?_cons_zero, List.getElem?_cons_succ, Option.some.injEq] at ho'; subst ho')
            · refine step_none rfl ?_
              refine opIn_value wideAt_plain (fun c h => by cases h) (v := .slice (some ⟨g, off, none⟩) l.length c) (W' := Wy) ?_ ⟨rfl, hi⟩
              simp only [execOp, old0]
              simp only [Sem.run_pure]
            · refine step_none rfl ?_
              refine opIn_value wideAt_plain (fun c h => by cases h) (v := .int .i64 (j : Int)) (W' := Wy) ?_ ⟨rfl, hi⟩
              simp only [execOp, old7]
              simp only [Sem.run_pure]
            · refine step_none rfl ?_
              have h30 : a.eval (.tmp 30) = .slice (some ⟨g, off, none⟩) l.length c := ha.eval_got (j := 0) (by rw [← hops]; rfl) rfl (hall ⟨0, .data⟩ (by simp) rfl)
              have h31 : a.eval (.tmp 31) = .int .i64 (j : Int) := ha.eval_got (j := 1) (by rw [← hops]; rfl) rfl (hall ⟨1, .data⟩ (by simp) rfl)
              refine opIn_value wideAt_plain (fun c h => by cases h) (v := .pointer (some ⟨g, off + j * 6, none⟩)) (W' := Wy) ?_ ⟨rfl, hi⟩
              simp only [execOp, h30, h31]
              simp [go_sem, hjl, hj0] <;> (intro h; exfalso; first | omega | (have := h (by omega); omega))
            · refine step_none rfl ?_
              have h32 : a.eval (.tmp 32) = .pointer (some ⟨g, off + j * 6, none⟩) := ha.eval_got (j := 2) (by rw [← hops]; rfl) rfl (hall ⟨2, .data⟩ (by simp) rfl)
              refine opIn_value wideAt_plain (fun c h => by cases h) (v := .pointer (some ⟨g, off + j * 6, none⟩)) (W' := Wy) ?_ ⟨rfl, hi⟩
              simp only [execOp, h32]
              simp [go_sem]
            · refine step_none rfl ?_
              have h33 : a.eval (.tmp 33) = .pointer (some ⟨g, off + j * 6, none⟩) := ha.eval_got (j := 3) (by rw [← hops]; rfl) rfl (hall ⟨3, .data⟩ (by simp) rfl)
              refine opIn_value wideAt_plain (fun c h => by cases h) (v := .string b0.name) (W' := Wy) ?_ ⟨rfl, hi⟩
              simp only [execOp, h33]
              simp [go_sem, rdCell hi g hzgx, kx0]
            · refine step_none rfl ?_
              refine opIn_value wideAt_plain (fun c h => by cases h) (v := .pointer (some ⟨w.heap.size, 0, none⟩)) (W' := Wy) ?_ ⟨rfl, hi⟩
              simp only [execOp, old3]
              simp [go_sem]
            · refine step_none rfl ?_
              have h35 : a.eval (.tmp 35) = .pointer (some ⟨w.heap.size, 0, none⟩) := ha.eval_got (j := 5) (by rw [← hops]; rfl) rfl (hall ⟨5, .data⟩ (by simp) rfl)
              refine opIn_value wideAt_plain (fun c h => by cases h) (v := .string x.name) (W' := Wy) ?_ ⟨rfl, hi⟩
              simp only [execOp, h35]
              simp [go_sem, rdCell hi w.heap.size hzwx, qx]
          case tail9 =>
            intro Wq hz
            subst hops
            simp only [frameOf, Act.put, Option.bind_some, List.getElem?_toArray, List.getElem?_cons_zero, List.getElem?_cons_succ, List.setIfInBounds_toArray, List.set_cons_zero, List.set_cons_succ, List.drop_succ_cons, List.drop_zero]
            have HA7N := Lib.hid (HA7.out.below hz)
            clear hz kx0 qx hzwx hzgx
            have kx0 := (rdCell HA7N.out.bel g hzg0 (off + j * 6)).trans kw0
            have kx1 := (rdCell HA7N.out.bel g hzg0 (off + j * 6 + 1)).trans kw1
            have kx2 := (rdCell HA7N.out.bel g hzg0 (off + j * 6 + 2)).trans kw2
            have kx3 := (rdCell HA7N.out.bel g hzg0 (off + j * 6 + 3)).trans kw3
            have kx4 := (rdCell HA7N.out.bel g hzg0 (off + j * 6 + 4)).trans kw4
            have kx5 := (rdCell HA7N.out.bel g hzg0 (off + j * 6 + 5)).trans kw5
            gi_wp2_with (gi_at_builtin; refine wpListIn_append_own _ rfl _ _ 22 rfl (w.heap.size + 1) 27 i0 zAttr 6 96 Tryz.underlying22 hin hz0 hz1 hz2 rfl (by decide) _ _ _ rfl (HA7N.out.own.alloc _) ⟨Wq.heap.size, 0, none⟩ 1 1 [.string b0.name, .int .i64 b0.kind, .int .i64 b0.num, .string b0.text, .slice b0.ia b0.ints.length b0.ic, .slice b0.ta b0.texts.length b0.tc] rfl rfl ?y1 ?y2 ?y3 ?y4 ?y5 ?_)
            case y1 =>
              intro t u hj
              have hlt6 : t < 6 := by have := (List.getElem?_eq_some_iff.1 hj).1; simpa using this
              have hadd : (⟨Wq.heap.size, 0, none⟩ : Addr).add t = ⟨Wq.heap.size, 0 + t, none⟩ := by
                unfold Addr.add; split
                · rename_i h; subst h; rfl
                · rfl
              rw [hadd, Nat.zero_add, blkCell (heap_alloc_new _ _)]
              have ht : t = 0 ∨ t = 1 ∨ t = 2 ∨ t = 3 ∨ t = 4 ∨ t = 5 := by omega
              rcases ht with rfl | rfl | rfl | rfl | rfl | rfl <;> simpa using hj
            case y2 =>
              intro u hu
              simp only [List.mem_cons, List.not_mem_nil, or_false] at hu
              rcases hu with rfl | rfl | rfl | rfl | rfl | rfl <;> rfl
            case y3 => unfold maxLen; omega
            case y4 => omega
            case y5 => have := blkLt HA7N.out.box; simp; omega
            intro v9 W9 hown hgr _
            obtain ⟨sav9, scv9, rfl, -⟩ := own_form hown
            have HA9 := Lib.hid (HA7N.out.snoc (.inl HMB.out) (by first | exact hown | simpa using hown) hgr)
            clear hown hgr
            clear kx0 kx1 kx2 kx3 kx4 kx5
            gi_wp2_with fail
            go_roundw
            case rel => exact ⟨j + 1, n + 1 + 1, (out ++ [x]) ++ [b0], true, _, _, rfl, rfl, by go_num, by omega, ⟨HA9.out.own, HA9.out.len, HA9.out.bel, HA9.out.box, HA9.out.mem, by rw [HSTEP.out]; simp [stepD, rsetD, HEQD.out, hlD, hnD, nm_irrefl], by have := HI.out.few; omega⟩⟩
            case measure => simp [intOf]; omega
    · obtain rfl : j = l.length := by omega
      have HEQ : Hid ((out.map Atr.dat, done) = rsetD x.dat (l.map Atr.dat) ([], false)) := Lib.hid (by have := HI.out.eq; rwa [List.take_length] at this)
      have HA2 : Hid (RsA x l w wr n out (.slice sa n sc)) := Lib.hid ⟨HI.out.own, HI.out.len, HI.out.bel, HI.out.box, HI.out.mem⟩
      cases done with
      | true =>
        gi_wp2_with fail
        go_ret
        refine ⟨sa, sc, out, by rw [← HA2.out.len]; rfl, HA2.out.sl HS.out.lies HS.out.fits HA.out HF.out, by have := HA2.out.len; omega, ?_, HA2.out.bel⟩
        unfold rsetAll
        rw [← HEQ.out]
        rfl
      | false =>
        have qz := blkCell HA2.out.box
        gi_wp2_with (gi_at_builtin; refine wpListIn_append_own _ rfl _ _ 22 rfl (w.heap.size + 1) 27 i0 zAttr 6 96 Tryz.underlying22 hin hz0 hz1 hz2 rfl (by decide) _ _ _ rfl (HA2.out.own.alloc _) ⟨wr.heap.size, 0, none⟩ 1 1 [.string x.name, .int .i64 x.kind, .int .i64 x.num, .string x.text, .slice x.ia x.ints.length x.ic, .slice x.ta x.texts.length x.tc] rfl rfl ?x1 ?x2 ?x3 ?x4 ?x5 ?_)
        case x1 =>
          intro t u hj
          have hlt6 : t < 6 := by have := (List.getElem?_eq_some_iff.1 hj).1; simpa using this
          have hadd : (⟨wr.heap.size, 0, none⟩ : Addr).add t = ⟨wr.heap.size, 0 + t, none⟩ := by
            unfold Addr.add; split
            · rename_i h; subst h; rfl
            · rfl
          rw [hadd, Nat.zero_add, blkCell (heap_alloc_new _ _)]
          have ht : t = 0 ∨ t = 1 ∨ t = 2 ∨ t = 3 ∨ t = 4 ∨ t = 5 := by omega
          rcases ht with rfl | rfl | rfl | rfl | rfl | rfl <;> simpa using hj
        case x2 =>
          intro u hu
          simp only [List.mem_cons, List.not_mem_nil, or_false] at hu
          rcases hu with rfl | rfl | rfl | rfl | rfl | rfl <;> rfl
        case x3 => unfold maxLen; omega
        case x4 => omega
        case x5 => have := blkLt HA2.out.box; simp; omega
        intro v7 W7 hown hgr _
        obtain ⟨sav7, scv7, rfl, -⟩ := own_form hown
        have HA7 := Lib.hid (HA2.out.snoc (.inr rfl) (by first | exact hown | simpa using hown) hgr)
        clear hown hgr
        clear qz
        gi_wp2_with fail
        go_ret
        refine ⟨sav7, scv7, out ++ [x], by rw [← HA7.out.len]; rfl, HA7.out.sl HS.out.lies HS.out.fits HA.out HF.out, by have := HA7.out.len; omega, ?_, HA7.out.bel⟩
        unfold rsetAll
        rw [← HEQ.out]
        simp
end Go.Proofs.YtmepjbjmjbpchaaGreatDoor
end
