/- Maps with keys that are whole numbers or texts: storing a new key, looking one up. Any program. -/
import Derived.WalkKit
import Derived.Carry
import Derived.Below
import Derived.MapKept
import Derived.RangeFuncNested
import GoSem.Instr.MapEntry
set_option linter.unusedVariables false
set_option linter.unusedSimpArgs false
namespace Go.Proofs.YtpfgjiahpddpkaaDoor
open Go.RowKit
open Go.MapKept (IsKey run_checkKey run_findKey run_setObj_map)
variable {P : Program} {T K E : TypeId} {d : TypeDesc}
theorem run_update_new (hT : P.underlying T = some (.map K E)) (hK : P.underlying K = some d) {k : Value} (hk : IsKey d k) {es : Array MapEntry} {c : Nat} (v : Value) {w : World} {r : Nat}
    (hr : w.heap[r]? = some (.map es c)) (hnew : Instr.findNow d k es.toList 0 = some none) :
    (Instr.mapUpdate T (.map (some r)) k v).run P w = .ok () { w with heap := w.heap.setIfInBounds r (.map (es.push { key := k, val := v, born := c }) (c + 1)) } := by
  simp [Instr.mapUpdate, run_underlying hT, MapKept.run_getObj_map hr, run_checkKey hK hk, run_findKey hK hnew, run_setObj_map _ hr, Result.andThen]
theorem alloc_set (w : World) (o o' : Obj) : ({ w.alloc o with heap := (w.alloc o).heap.setIfInBounds w.heap.size o' } : World) = w.alloc o' := by
  have h : (w.heap.push o).setIfInBounds w.heap.size o' = w.heap.push o' := by
    apply Array.ext_getElem?
    intro i
    rw [Array.getElem?_setIfInBounds, Array.getElem?_push, Array.getElem?_push]
    by_cases hi : w.heap.size = i
    · subst hi; simp
    · rw [if_neg hi, if_neg (by omega), if_neg (by omega)]
  show ({ w with heap := (w.heap.push o).setIfInBounds w.heap.size o' } : World) = { w with heap := w.heap.push o' }
  rw [h]
/-- A literal's next entry. -/
theorem run_insert_new (hT : P.underlying T = some (.map K E)) (hK : P.underlying K = some d) {k : Value} (hk : IsKey d k) {es : Array MapEntry} {c : Nat} (v : Value) (w : World)
    (hnew : Instr.findNow d k es.toList 0 = some none) :
    (Instr.mapUpdate T (.map (some w.heap.size)) k v).run P (w.alloc (.map es c)) = .ok () (w.alloc (.map (es.push { key := k, val := v, born := c }) (c + 1))) := by
  rw [run_update_new hT hK hk v (World.alloc_heap_new w _) hnew, alloc_set]
theorem run_lookup_hit (hT : P.underlying T = some (.map K E)) (hK : P.underlying K = some d) {k : Value} (hk : IsKey d k) {es : Array MapEntry} {c i : Nat} {v : Value} {w : World} {r : Nat}
    (hr : w.heap[r]? = some (.map es c)) (h : Instr.findNow d k es.toList 0 = some (some (i, v))) (ok : Bool) :
    (Instr.lookup T (.map (some r)) k ok).run P w = .ok (if ok then .tuple #[v, .bool true] else v) w := by
  simp [Instr.lookup, run_underlying hT, MapKept.run_getObj_map hr, run_checkKey hK hk, run_findKey hK h, Result.andThen]
theorem run_lookup_miss (hT : P.underlying T = some (.map K E)) (hK : P.underlying K = some d) {k : Value} (hk : IsKey d k) {es : Array MapEntry} {c : Nat} {z : Value} {w : World} {r : Nat}
    (hr : w.heap[r]? = some (.map es c)) (h : Instr.findNow d k es.toList 0 = some none) (hz : (zeroValue E).run P w = .ok z w) (ok : Bool) :
    (Instr.lookup T (.map (some r)) k ok).run P w = .ok (if ok then .tuple #[z, .bool false] else z) w := by
  simp [Instr.lookup, run_underlying hT, MapKept.run_getObj_map hr, run_checkKey hK hk, run_findKey hK h, hz, Result.andThen]
theorem run_lookup_nil (hT : P.underlying T = some (.map K E)) (hK : P.underlying K = some d) {k : Value} (hk : IsKey d k) {z : Value} {w : World}
    (hz : (zeroValue E).run P w = .ok z w) (ok : Bool) :
    (Instr.lookup T (.map none) k ok).run P w = .ok (if ok then .tuple #[z, .bool false] else z) w := by
  simp [Instr.lookup, run_underlying hT, run_checkKey hK hk, run_findKey (l := []) hK rfl, hz, Result.andThen]
end Go.Proofs.YtpfgjiahpddpkaaDoor
