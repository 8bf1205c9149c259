/- The scanner in memory: where it stands, and what a step of it leaves as it was. -/
import Derived.Test.YtpfgjiahpddpkaaDoorKinds
import Derived.Deep.DeepCutAuto
import Derived.Deep.CutBlock
import Derived.WalkLawsBesides
import Derived.WalkSpells
import Derived.Deep.LoopGhost
set_option linter.unusedVariables false
set_option linter.unusedSimpArgs false
namespace Go.Proofs.YtpfgjiahpddpkaaDoor
open Go.RowKit
/-- Block b is a scanner over s that stands at i. -/
structure Scan (b : Nat) (s : ByteArray) (i : Int) (w : World) : Prop where
  blk : w.heap[b]? = some (.cells #[.string s, .int .i64 i] 55 (0, 0))
  max : HasMax w
  ne : b ≠ 5
  small : s.size ≤ 2000000000
theorem Scan.c0 {b : Nat} {s : ByteArray} {i : Int} {w : World} (h : Scan b s i w) : w.cell? ⟨b, 0, none⟩ = some (.string s) := by simp [World.cell?, h.blk]
theorem Scan.c1 {b : Nat} {s : ByteArray} {i : Int} {w : World} (h : Scan b s i w) : w.cell? ⟨b, 1, none⟩ = some (.int .i64 i) := by simp [World.cell?, h.blk]
theorem Scan.f1 {b : Nat} {s : ByteArray} {i : Int} {w : World} (h : Scan b s i w) : w.frozen? ⟨b, 1, none⟩ = false := by simp [World.frozen?, h.blk]
theorem Scan.lt {b : Nat} {s : ByteArray} {i : Int} {w : World} (h : Scan b s i w) : b < w.heap.size := (Array.getElem?_eq_some_iff.1 h.blk).1
theorem Scan.below {b : Nat} {s : ByteArray} {i : Int} {w w' : World} (h : Scan b s i w) (hb : Below w.heap.size w w') : Scan b s i w' :=
  ⟨(hb.block b h.lt).trans h.blk, h.max.below hb, h.ne, h.small⟩
theorem Scan.set {b : Nat} {s : ByteArray} {i : Int} {w : World} (h : Scan b s i w) (j : Int) : Scan b s j (w.setCell ⟨b, 1, none⟩ (.int .i64 j)) := by
  refine ⟨?_, ?_, h.ne, h.small⟩
  · have hl := h.lt
    simp [World.setCell, Array.getElem?_modify, h.blk]
  · obtain ⟨m, hm⟩ := h.max
    refine ⟨m, ?_⟩
    rw [World.cell?_setCell_other (a := ⟨b, 1, none⟩) (b := ⟨5, 0, none⟩) w _ (fun e => h.ne (by injection e))]; exact hm
theorem Scan.drewN {b : Nat} {s : ByteArray} {i : Int} {w : World} (h : Scan b s i w) (n : Nat) : Scan b s i (w.drewN n) := ⟨h.blk, h.max, h.ne, h.small⟩
theorem Scan.drew {b : Nat} {s : ByteArray} {i : Int} {w : World} (h : Scan b s i w) : Scan b s i w.drew := ⟨h.blk, h.max, h.ne, h.small⟩
theorem Scan.alloc {b : Nat} {s : ByteArray} {i : Int} {w : World} (h : Scan b s i w) (o : Obj) : Scan b s i (w.alloc o) := h.below ((Below.refl _ w).alloc (Nat.le_refl _) _)
/-- New blocks, and writes to block b alone. -/
def Moved (b : Nat) (w w' : World) : Prop := w.grownBy w' (some b)
theorem Moved.refl (b : Nat) (w : World) : Moved b w w := ⟨rfl, rfl, rfl, Nat.le_refl _, fun _ _ _ => rfl⟩
theorem Moved.trans {b : Nat} {x y z : World} (h : Moved b x y) (k : Moved b y z) : Moved b x z :=
  ⟨k.os.trans h.os, k.tape.trans h.tape, k.output.trans h.output, Nat.le_trans h.size k.size, fun i hi hn => (k.block i (Nat.lt_of_lt_of_le hi h.size) hn).trans (h.block i hi hn)⟩
theorem Moved.of_below {b : Nat} {x y : World} (h : Below x.heap.size x y) : Moved b x y := ⟨h.os, h.tape, h.output, h.size, fun i hi _ => h.block i hi⟩
theorem Moved.set {b : Nat} {x y : World} (h : Moved b x y) (o : Nat) (v : Value) : Moved b x (y.setCell ⟨b, o, none⟩ v) :=
  h.trans ⟨rfl, rfl, rfl, by simp [World.setCell], fun k _ hk => Below.heap_setCell _ _ _ _ (fun e => hk (by rw [e]))⟩
theorem Moved.drew {b : Nat} {x y : World} (h : Moved b x y) : Moved b x y.drew := ⟨h.os, h.tape, h.output, h.size, h.block⟩
theorem Moved.drewN {b : Nat} {x y : World} (h : Moved b x y) (n : Nat) : Moved b x (y.drewN n) := ⟨h.os, h.tape, h.output, h.size, h.block⟩
theorem Moved.alloc {b : Nat} {x y : World} (h : Moved b x y) (o : Obj) : Moved b x (y.alloc o) := h.trans (Moved.of_below ((Below.refl _ y).alloc (Nat.le_refl _) _))
theorem Moved.then {b : Nat} {x y z : World} (h : Moved b x y) (k : Below y.heap.size y z) : Moved b x z := h.trans (Moved.of_below k)
/-- Behind an append to a row of the call's own. -/
theorem Moved.grown {b : Nat} {x y z : World} {row : Option Nat} (h : Moved b x y) (hg : y.grownBy z row) (hr : ∀ k, row = some k → x.heap.size ≤ k) : Moved b x z :=
  ⟨hg.os.trans h.os, hg.tape.trans h.tape, hg.output.trans h.output, Nat.le_trans h.size hg.size, fun i hi hn => (hg.block i (Nat.lt_of_lt_of_le hi h.size) (fun e => by have := hr i e.symm; omega)).trans (h.block i hi hn)⟩
theorem Scan.grown {b : Nat} {s : ByteArray} {i : Int} {w w' : World} {row : Option Nat} (h : Scan b s i w) (hg : w.grownBy w' row) (hb : ∀ k, row = some k → b ≠ k) (hm : ∀ k, row = some k → 5 ≠ k) : Scan b s i w' := by
  refine ⟨(hg.block b h.lt (fun e => hb b e.symm rfl)).trans h.blk, ?_, h.ne, h.small⟩
  obtain ⟨m, hmx⟩ := h.max
  exact ⟨m, hg.cell hmx (fun e => hm _ e.symm rfl)⟩
theorem HasMax.lt {w : World} (h : HasMax w) : 5 < w.heap.size := by
  obtain ⟨m, hm⟩ := h; exact World.block_lt_of_cell? w _ hm
-- a quiet call behind a quiet region (lemmas offered by the guide for one's own file)
theorem quiet_add_left {P : Program} {f : FuncId} {args : Array Value} {w : World} {a n : Nat} {v : Value}
    (h : Calls P f args (w.drewN (a + n)) fun e w' => e = .returned v ∧ w.drewN (a + n) = w') :
    Calls P f args (w.drewN (a + n)) fun e w'' => e = .returned v ∧ ∃ m, w'' = w.drewN (a + m) :=
  h.mono fun _ _ ⟨he, hm⟩ => ⟨he, n, hm.symm⟩
theorem quiet_left {P : Program} {f : FuncId} {args : Array Value} {w : World} {n : Nat} {v : Value}
    (h : Calls P f args (w.drewN n) fun e w' => e = .returned v ∧ w.drewN n = w') : Calls P f args (w.drewN n) fun e w'' => e = .returned v ∧ ∃ m, w'' = w.drewN m :=
  h.mono fun _ _ ⟨he, hm⟩ => ⟨he, n, hm.symm⟩
theorem Scan.cast {b : Nat} {s : ByteArray} {i j : Int} {w : World} (h : Scan b s i w) (e : i = j) : Scan b s j w := e ▸ h
/-- What a text that is none panics with, at a place. -/
def wrongE (i : Int) : PanicEntry := { v := .iface 81 (.agg #[.int .i64 i]), recovered := false }
theorem fail_c (p : Value) (i : Int) (w : World) : Calls Tryd.prog 65 #[p, .int .i64 i] w fun e w' => e = .panicked [wrongE i] ∧ w = w' := by
  go_enter Tryd.func65, Tryd.ntmps65
  go_wp2
  exact ⟨rfl, rfl, rfl⟩
theorem ch_c {b : Nat} {s : ByteArray} {i : Int} {w : World} (h : Scan b s i w) (a : Int) (k : Nat) (hk : a = (k : Int)) :
    Calls Tryd.prog 83 #[.pointer (some ⟨b, 0, none⟩), .int .i64 a] w fun e w' => e = .returned (.int .u8 (bt s k)) ∧ w = w' := by
  subst hk
  have hc := h.c0
  have hb := bt_at s
  have hs := h.small
  by_cases hlt : k < s.size
  · go_enter Tryd.func83, Tryd.ntmps83
    go_wp2
    go_ret
    exact ⟨rfl, rfl⟩
  · have hout := bt_out s k (by omega)
    have HO := Lib.hid hout; clear hout
    go_enter Tryd.func83, Tryd.ntmps83
    go_wp2
    go_ret
    exact ⟨by rw [HO.out]; rfl, rfl⟩
theorem lletter_c (c : Int) (w : World) : Calls Tryd.prog 89 #[.int .u8 c] w fun e w' => e = .returned (.bool (letterB c)) ∧ w = w' := by
  go_enter Tryd.func89, Tryd.ntmps89
  go_wp2
  all_goals (go_ret; refine ⟨?_, rfl⟩; simp [letterB, *])
  all_goals omega
theorem ldigit_c (c : Int) (w : World) : Calls Tryd.prog 88 #[.int .u8 c] w fun e w' => e = .returned (.bool (digitB c)) ∧ w = w' := by
  go_enter Tryd.func88, Tryd.ntmps88
  go_wp2
  all_goals (go_ret; refine ⟨?_, rfl⟩; simp [digitB, *])
  all_goals omega
end Go.Proofs.YtpfgjiahpddpkaaDoor
