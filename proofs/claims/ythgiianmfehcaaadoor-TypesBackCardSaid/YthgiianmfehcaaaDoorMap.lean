/- Maps at the operation: plain run equations over any program, for keys that are integers or strings. -/
import Derived.WalkKit
import Derived.WalkSpells
set_option linter.unusedVariables false
set_option linter.unusedSimpArgs false
namespace Go.Proofs.YthgiianmfehcaaaDoor
open Go Go.RowKit

section
variable {P : Program}
theorem run_getObj_map {w : World} {r : Nat} {es : Array MapEntry} {clock : Nat} (h : w.heap[r]? = some (.map es clock)) : (getObj r).run P w = .ok (.map es clock) w := by
  simp only [getObj, Sem.run, h]
theorem run_setObj_map {w : World} {r : Nat} {es : Array MapEntry} {clock : Nat} {o' : Obj} (h : w.heap[r]? = some (.map es clock)) : (setObj r o').run P w = .ok () { w with heap := w.heap.setIfInBounds r o' } := by
  simp only [setObj, Sem.run, h]
theorem run_checkKey_int' {kt : TypeId} {q : IntKind} (hk : P.underlying kt = some (.int q)) (b : Bool) (key : Value) (w : World) (n : Nat) : (Instr.checkKey b (n + 1) kt key).run P w = .ok () w := by
  unfold Instr.checkKey
  rw [Sem.run_bind, run_underlying hk]; rfl
theorem run_checkKey_int {kt : TypeId} {q : IntKind} (hk : P.underlying kt = some (.int q)) (b : Bool) (key : Value) (w : World) : (Instr.checkKey b 10000 kt key).run P w = .ok () w := run_checkKey_int' hk b key w 9999
theorem run_checkKey_string' {kt : TypeId} (hk : P.underlying kt = some .string) (b : Bool) (key : Value) (w : World) (n : Nat) : (Instr.checkKey b (n + 1) kt key).run P w = .ok () w := by
  unfold Instr.checkKey
  rw [Sem.run_bind, run_underlying hk]; rfl
theorem run_checkKey_string {kt : TypeId} (hk : P.underlying kt = some .string) (b : Bool) (key : Value) (w : World) : (Instr.checkKey b 10000 kt key).run P w = .ok () w := run_checkKey_string' hk b key w 9999
theorem run_findKey_now {kt : TypeId} {d : TypeDesc} (hk : P.underlying kt = some d) {key : Value} {es : List MapEntry} {r : Option (Nat × Value)} (hf : Instr.findNow d key es 0 = some r) (w : World) : (Instr.findKey kt key es).run P w = .ok r w := by
  simp [Instr.findKey, run_underlying hk, hf]
theorem run_mapUpdate_new {t kt et : TypeId} {d : TypeDesc} {w : World} {r clock : Nat} {es : Array MapEntry} {key : Value} (val : Value) (ht : P.underlying t = some (.map kt et)) (hk : P.underlying kt = some d)
    (hck : (Instr.checkKey false 10000 kt key).run P w = .ok () w) (hf : Instr.findNow d key es.toList 0 = some none) (hr : w.heap[r]? = some (.map es clock)) :
    (Instr.mapUpdate t (.map (some r)) key val).run P w = .ok () { w with heap := w.heap.setIfInBounds r (.map (es.push { key, val, born := clock }) (clock + 1)) } := by
  simp [Instr.mapUpdate, run_underlying ht, run_getObj_map hr, hck, run_findKey_now hk hf, run_setObj_map hr]
theorem run_lookup_hit {t kt et : TypeId} {d : TypeDesc} {w : World} {r clock i : Nat} {es : Array MapEntry} {key v : Value} (ht : P.underlying t = some (.map kt et)) (hk : P.underlying kt = some d)
    (hck : ∀ b, (Instr.checkKey b 10000 kt key).run P w = .ok () w) (hf : Instr.findNow d key es.toList 0 = some (some (i, v))) (hr : w.heap[r]? = some (.map es clock)) (ok : Bool) :
    (Instr.lookup t (.map (some r)) key ok).run P w = .ok (if ok then .tuple #[v, .bool true] else v) w := by
  simp [Instr.lookup, run_underlying ht, run_getObj_map hr, hck, run_findKey_now hk hf]
theorem run_range_map' {t kt et : TypeId} (ht : P.underlying t = some (.map kt et)) {w : World} {m clock : Nat} {es : Array MapEntry} (h : w.heap[m]? = some (.map es clock)) :
    (Instr.range t (.map (some m))).run P w = .ok (.pointer (some ⟨w.heap.size, 0, none⟩)) (w.alloc (.mapIter (some m) clock #[] clock)) := by
  simp [Instr.range, run_underlying ht, run_getObj_map h]
theorem World.setIn_alloc (w : World) (o o' : Obj) : { w.alloc o with heap := (w.alloc o).heap.setIfInBounds w.heap.size o' } = w.alloc o' := by
  simp only [World.alloc]
  congr 1
  apply Array.ext'
  simp [Array.setIfInBounds, Array.toList_push]
end
end Go.Proofs.YthgiianmfehcaaaDoor
