/- The walks of the scanner: a symbol read safely: the deferred closure that recovers. -/
import Derived.Test.YtpfgjiahpddpkaaDoorLex11
import Derived.Recover
import Derived.BigRegion
set_option linter.unusedVariables false
set_option linter.unusedSimpArgs false
namespace Go.Proofs.YtpfgjiahpddpkaaDoor
open Go.RowKit
theorem ta_nil (w : World) : (Instr.typeAssert Value.nilIface 20 81 true).run Tryd.prog w = .ok (.tuple #[.agg #[.int .i64 0], .bool false]) w := by kernel_rfl
theorem ta_wrong (k : Int) (w : World) : (Instr.typeAssert (.iface 81 (.agg #[.int .i64 k])) 20 81 true).run Tryd.prog w = .ok (.tuple #[.agg #[.int .i64 k], .bool true]) w := by kernel_rfl
theorem neq_nilI (w : World) : (binOp .neq 20 .nilIface .nilIface).run Tryd.prog w = .ok (.bool false) w := by kernel_rfl
set_option maxRecDepth 10000 in
theorem catch_idle (p q r : Addr) (w : World) :
    CallsD Tryd.prog 41 #[.pointer (some p), .pointer (some q), .pointer (some r)] .returning w fun e u' w' => e = .returned (.tuple #[]) ∧ u' = .returning ∧ w' = w.alloc (.cells #[.int .i64 0] 81) := by
  refine callsD_of_wpS Tryd.func41 rfl fun c₀ cs hu => ?_
  apply wpS_seq
  apply wpS_region
  simp [wpOpsS, go_sem, recoverD, hu, Tryd.ntmps41, Exit.thenS, Array.replicate]
  have t1 := ta_nil
  have t2 := ta_wrong
  have t3 := neq_nilI
  refine wpS_of_wp ?_
  go_wp2_with fail
  cases c₀
  simp_all [bodyPostS, results, Tryd.results41]
def boO (c : Bool) : Obj := .cells #[.bool c] 4 (0, 0)
def inO (k : Int) : Obj := .cells #[.int .i64 k] 3 (0, 0)
theorem bo {r : Nat} {c : Bool} {w : World} (h : w.heap[r]? = some (boO c)) : w.cell? ⟨r, 0, none⟩ = some (.bool c) ∧ w.frozen? ⟨r, 0, none⟩ = false := by simp [World.cell?, World.frozen?, h, boO]
theorem ino {r : Nat} {k : Int} {w : World} (h : w.heap[r]? = some (inO k)) : w.cell? ⟨r, 0, none⟩ = some (.int .i64 k) ∧ w.frozen? ⟨r, 0, none⟩ = false := by simp [World.cell?, World.frozen?, h, inO]
def six (p : Nat) (y : Sym) (w : World) : World := (((((w.setCell ⟨p, 0, none⟩ (.int .i64 y.kind)).setCell ⟨p, 1, none⟩ (.string y.text)).setCell ⟨p, 2, none⟩ (.int .i64 y.tk)).setCell ⟨p, 3, none⟩ (.string y.tt)).setCell ⟨p, 4, none⟩ (.string y.tx)).setCell ⟨p, 5, none⟩ (.int .i64 y.place)
def caught (p q r : Nat) (k : Int) (w : World) : World := ((((six p noSym w).setCell ⟨q, 0, none⟩ (.bool false)).setCell ⟨r, 0, none⟩ (.int .i64 k)).alloc (.cells #[.int .i64 k] 81)).drew
set_option maxHeartbeats 1000000 in
set_option maxRecDepth 10000 in
theorem catch_wrong (p q r : Nat) (k m : Int) (older : List PanicEntry) (w : World) (hpq : p ≠ q) (hpr : p ≠ r) (hqr : q ≠ r) (hp : w.heap[p]? = some symZ) (hq : w.heap[q]? = some (boO false)) (hr : w.heap[r]? = some (inO m)) :
    CallsD Tryd.prog 41 #[.pointer (some ⟨p, 0, none⟩), .pointer (some ⟨q, 0, none⟩), .pointer (some ⟨r, 0, none⟩)] (.panicking (wrongE k :: older)) w fun e u' w' => e = .returned (.tuple #[]) ∧ u' = .panicking ({ v := .iface 81 (.agg #[.int .i64 k]), recovered := true } :: older) ∧ w' = caught p q r k w := by
  refine callsD_of_wpS Tryd.func41 rfl fun c₀ cs hu => ?_
  apply wpS_seq
  apply wpS_region
  unfold wrongE at hu
  obtain ⟨⟨z0, z1, z2, z3, z4, z5⟩, y0, y1, y2, y3, y4, y5⟩ := rb hp
  obtain ⟨x0, x1⟩ := bo hq
  obtain ⟨v0, v1⟩ := ino hr
  have lp := (Array.getElem?_eq_some_iff.1 hp).1
  have lq := (Array.getElem?_eq_some_iff.1 hq).1
  have lr := (Array.getElem?_eq_some_iff.1 hr).1
  simp [wpOpsS, go_sem, recoverD, hu, Tryd.ntmps41, Exit.thenS, Array.replicate]
  have t1 := ta_nil
  have t2 := ta_wrong
  have t3 := neq_nilI
  refine wpS_of_wp ?_
  go_wp2_with fail
  go_region
  all_goals
    go_wp2
    refine ⟨rfl, _, rfl, .tuple #[], results_none rfl _ _ _, rfl, rfl, ?_⟩
    unfold caught six noSym
    rfl
end Go.Proofs.YtpfgjiahpddpkaaDoor
