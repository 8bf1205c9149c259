/- The walks of the scanner: a symbol read safely. -/
import Derived.Test.YtpfgjiahpddpkaaDoorLex12
set_option linter.unusedVariables false
set_option linter.unusedSimpArgs false
namespace Go.Proofs.YtpfgjiahpddpkaaDoor
open Go.RowKit
theorem rbY {r : Nat} {y : Sym} {w : World} (h : w.heap[r]? = some (symO y)) :
    (w.cell? ⟨r, 0, none⟩ = some (.int .i64 y.kind) ∧ w.cell? ⟨r, 1, none⟩ = some (.string y.text) ∧ w.cell? ⟨r, 2, none⟩ = some (.int .i64 y.tk) ∧ w.cell? ⟨r, 3, none⟩ = some (.string y.tt) ∧ w.cell? ⟨r, 4, none⟩ = some (.string y.tx) ∧ w.cell? ⟨r, 5, none⟩ = some (.int .i64 y.place)) ∧
    (w.frozen? ⟨r, 0, none⟩ = false ∧ w.frozen? ⟨r, 1, none⟩ = false ∧ w.frozen? ⟨r, 2, none⟩ = false ∧ w.frozen? ⟨r, 3, none⟩ = false ∧ w.frozen? ⟨r, 4, none⟩ = false ∧ w.frozen? ⟨r, 5, none⟩ = false) := by
  simp [World.cell?, World.frozen?, h, symO]
theorem six_blk {r : Nat} {w : World} {x : Sym} (y : Sym) (h : w.heap[r]? = some (symO x)) : (six r y w).heap[r]? = some (symO y) := by
  unfold six
  rw [heap_set (heap_set (heap_set (heap_set (heap_set (heap_set h)))))]
  rfl
theorem set_ne {w : World} {r q o : Nat} {v : Value} {x : Obj} (h : w.heap[q]? = some x) (hn : q ≠ r) : (w.setCell ⟨r, o, none⟩ v).heap[q]? = some x :=
  (Below.heap_setCell _ _ _ _ (fun e => hn e)).trans h
theorem six_ne {w : World} {r q : Nat} {y : Sym} {x : Obj} (h : w.heap[q]? = some x) (hn : q ≠ r) : (six r y w).heap[q]? = some x :=
  set_ne (set_ne (set_ne (set_ne (set_ne (set_ne h hn) hn) hn) hn) hn) hn
theorem Scan.six {b r : Nat} {s : ByteArray} {i : Int} {w : World} {y : Sym} (h : Scan b s i w) (hr : r ≠ b) (hm : r ≠ 5) : Scan b s i (six r y w) :=
  (((((h.setO hr hm).setO hr hm).setO hr hm).setO hr hm).setO hr hm).setO hr hm
theorem Moved.six {b r : Nat} {x z : World} {y : Sym} (h : Moved b x z) (hr : x.heap.size ≤ r) : Moved b x (six r y z) :=
  (((((h.setO hr).setO hr).setO hr).setO hr).setO hr).setO hr
theorem set_bo {w : World} {r : Nat} {c d : Bool} (h : w.heap[r]? = some (boO c)) : (w.setCell ⟨r, 0, none⟩ (.bool d)).heap[r]? = some (boO d) := (heap_set h).trans rfl
theorem set_in {w : World} {r : Nat} {c d : Int} (h : w.heap[r]? = some (inO c)) : (w.setCell ⟨r, 0, none⟩ (.int .i64 d)).heap[r]? = some (inO d) := (heap_set h).trans rfl
theorem ret_safe {fn : Func} {p q r : Nat} {w : World} {tmps : Array Value} {c : Bool} {n : Int} (y : Sym) (h : fn.results = #[.cell 2 49, .cell 3 4, .cell 4 3]) (h2 : tmps.getD 2 undef = .pointer (some ⟨p, 0, none⟩)) (h3 : tmps.getD 3 undef = .pointer (some ⟨q, 0, none⟩)) (h4 : tmps.getD 4 undef = .pointer (some ⟨r, 0, none⟩))
    (hp : w.heap[p]? = some (symO y)) (hq : w.heap[q]? = some (boO c)) (hr : w.heap[r]? = some (inO n)) : (results fn tmps).run Tryd.prog w = .ok (.tuple #[symV y, .bool c, .int .i64 n]) w := by
  obtain ⟨⟨e0, e1, e2, e3, e4, e5⟩, _⟩ := rbY hp
  have e6 := (bo hq).1
  have e7 := (ino hr).1
  rw [Array.getD_eq_getD_getElem?] at h2 h3 h4
  simp only [results, h, symV]
  go_simp
/-- How safely ends. -/
def SfPost (s : ByteArray) (b : Nat) (w : World) (R : LR) (e : Ending) (w' : World) : Prop :=
  match R with
  | .no => e = .returned (.tuple #[symV noSym, .bool false, .int .i64 (-1)]) ∧ (∃ j : Int, Scan b s j w') ∧ Moved b w w'
  | .bad k => e = .returned (.tuple #[symV noSym, .bool false, .int .i64 k]) ∧ (∃ j : Int, Scan b s j w') ∧ Moved b w w'
  | .ok y j => e = .returned (.tuple #[symV y, .bool true, .int .i64 (-1)]) ∧ Scan b s (j : Nat) w' ∧ Moved b w w'
set_option maxHeartbeats 1000000 in
theorem safely_c {b : Nat} {s : ByteArray} {i : Nat} {w : World} (h : Scan b s (i : Int) w) (hi : i ≤ s.size) :
    Calls Tryd.prog 23 #[.pointer (some ⟨b, 0, none⟩)] w (SfPost s b w (nextF s i)) := by
  have hlt := h.lt
  have hml := h.max.lt
  have hmf : ∀ (fn : Fn) (first cap : Array Value) (w : World), (Instr.makeFunc fn first cap).run Tryd.prog w = .ok (.func fn first cap) w := fun _ _ _ _ => rfl
  go_enter_defers Tryd.func23, Tryd.ntmps23
  go_upto_region 1 with fail
  go_cut [2, 3, 4] from 2 to 4 (fun p q r wx => p = .pointer (some ⟨w.heap.size, 0, none⟩) ∧ q = .pointer (some ⟨w.heap.size + 1, 0, none⟩) ∧ r = .pointer (some ⟨w.heap.size + 2, 0, none⟩) ∧ wx.heap[w.heap.size]? = some (symO noSym) ∧ wx.heap[w.heap.size + 1]? = some (boO false) ∧ wx.heap[w.heap.size + 2]? = some (inO (-1)) ∧ Scan b s (i : Int) wx ∧ Moved b w wx)
  case first =>
    go_wp2_with fail
    go_meet
    have a1 := World.alloc_heap_new w symZ
    have a2 := World.alloc_heap_new (w.alloc symZ) (boO false)
    have a3 := World.alloc_heap_new ((w.alloc symZ).alloc (boO false)) (inO (-1))
    have e1 : (w.alloc symZ).heap.size = w.heap.size + 1 := by simp
    have e2 : ((w.alloc symZ).alloc (boO false)).heap.size = w.heap.size + 2 := by simp
    rw [e1] at a2
    rw [e2] at a3
    exact ⟨rfl, rfl, rfl, alloc_blk (alloc_blk a1), alloc_blk a2, a3, ((h.alloc _).alloc _).alloc _, (((Moved.refl b w).alloc _).alloc _).alloc _⟩
  case rest =>
    obtain ⟨rfl, rfl, rfl, hp, hq, hr, hsc, hmv⟩ := hcut
    have hne : w.heap.size ≠ b := by omega
    have hnm : w.heap.size ≠ 5 := by omega
    have le := Nat.le_refl w.heap.size
    cases hR : nextF s i with
    | bad k =>
      have HR := Lib.hid hR; clear hR
      go_wp2_with (go_at_call 42; refine (next_c hsc hi).mono ?_; intro e w3 hpp; rw [HR.out] at hpp; obtain ⟨rfl, hsc3, hmv3⟩ := hpp; have hp3 := hmv3.blk hp hne; have hq3 := hmv3.blk hq (by omega); have hr3 := hmv3.blk hr (by omega))
      refine leaves_cons (f := 41) (args := #[.pointer (some ⟨w.heap.size, 0, none⟩), .pointer (some ⟨w.heap.size + 1, 0, none⟩), .pointer (some ⟨w.heap.size + 2, 0, none⟩)]) (by simp) (by simp [go_sem]) ?_
      refine (catch_wrong w.heap.size (w.heap.size + 1) (w.heap.size + 2) k (-1) [] w3 (by omega) (by omega) (by omega) hp3 hq3 hr3).mono ?_
      rintro e u' w'' ⟨rfl, rfl, rfl⟩
      refine ⟨_, ret_safe (c := false) (n := k) noSym rfl rfl rfl rfl ?_ ?_ ?_, ?_⟩
      · unfold caught; rw [drew_heap]; exact alloc_blk (set_ne (set_ne (six_blk noSym hp3) (by omega)) (by omega))
      · unfold caught; rw [drew_heap]; exact alloc_blk (set_ne (set_bo (six_ne hq3 (by omega))) (by omega))
      · unfold caught; rw [drew_heap]; exact alloc_blk (set_in (set_ne (six_ne hr3 (by omega)) (by omega)))
      · obtain ⟨j, hj⟩ := hsc3
        unfold caught
        rw [HR.out]
        exact ⟨rfl, ⟨j, ((((hj.six hne hnm).setO (by omega) (by omega)).setO (by omega) (by omega)).alloc _).drew⟩, (((((hmv.trans hmv3).six le).setO (by omega)).setO (by omega)).alloc _).drew⟩
    | no =>
      have HR := Lib.hid hR; clear hR
      go_upto_region 3 with (go_at_call 42; refine (next_c hsc hi).mono ?_; intro e w3 hpp; rw [HR.out] at hpp; obtain ⟨rfl, hsc3, hmv3⟩ := hpp; have hp3 := hmv3.blk hp hne; have hq3 := hmv3.blk hq (by omega); have hr3 := hmv3.blk hr (by omega); obtain ⟨⟨z0, z1, z2, z3, z4, z5⟩, y0, y1, y2, y3, y4, y5⟩ := rbY hp3; obtain ⟨x0, x1⟩ := bo hq3; obtain ⟨v0, v1⟩ := ino hr3; simp only [symV])
      go_cut [] from 6 to 10 (fun wx => wx.heap[w.heap.size]? = some (symO noSym) ∧ wx.heap[w.heap.size + 1]? = some (boO false) ∧ wx.heap[w.heap.size + 2]? = some (inO (-1)) ∧ (∃ j : Int, Scan b s j wx) ∧ Moved b w wx)
      case first =>
        go_wp2_with (go_at_call 42; refine (next_c hsc hi).mono ?_; intro e w3 hpp; rw [HR.out] at hpp; obtain ⟨rfl, hsc3, hmv3⟩ := hpp; have hp3 := hmv3.blk hp hne; have hq3 := hmv3.blk hq (by omega); have hr3 := hmv3.blk hr (by omega); obtain ⟨⟨z0, z1, z2, z3, z4, z5⟩, y0, y1, y2, y3, y4, y5⟩ := rbY hp3; obtain ⟨x0, x1⟩ := bo hq3; obtain ⟨v0, v1⟩ := ino hr3; simp only [symV])
        go_meet
        skip
        exact ⟨set_ne (six_blk noSym hp3) (by omega), set_bo (six_ne hq3 (by omega)), set_ne (six_ne hr3 (by omega)) (by omega), (by obtain ⟨j, hj⟩ := hsc3; exact ⟨j, (hj.six hne hnm).setO (by omega) (by omega)⟩), ((hmv.trans hmv3).six le).setO (by omega)⟩
      case rest =>
        clear hp hq hr hsc hmv
        obtain ⟨hp, hq, hr, hsc, hmv⟩ := hcut
        have lp := (Array.getElem?_eq_some_iff.1 hp).1
        have lq := (Array.getElem?_eq_some_iff.1 hq).1
        have lr := (Array.getElem?_eq_some_iff.1 hr).1
        obtain ⟨⟨z0, z1, z2, z3, z4, z5⟩, y0, y1, y2, y3, y4, y5⟩ := rbY hp
        obtain ⟨x0, x1⟩ := bo hq
        obtain ⟨v0, v1⟩ := ino hr
        go_wp2_with fail
        go_region
        all_goals
          go_wp2
          refine leaves_cons (f := 41) (args := #[.pointer (some ⟨w.heap.size, 0, none⟩), .pointer (some ⟨w.heap.size + 1, 0, none⟩), .pointer (some ⟨w.heap.size + 2, 0, none⟩)]) (by simp) (by simp [go_sem]) ?_
          refine (catch_idle _ _ _ _).mono ?_
          rintro e u' w'' ⟨rfl, rfl, rfl⟩
          refine ⟨_, ret_safe (c := false) (n := -1) noSym rfl rfl rfl rfl (alloc_blk (by rw [drew_heap]; exact set_ne (set_ne (six_blk noSym hp) (by omega)) (by omega))) (alloc_blk (by rw [drew_heap]; exact set_ne (set_bo (six_ne hq (by omega))) (by omega))) (alloc_blk (by rw [drew_heap]; exact set_in (set_ne (six_ne hr (by omega)) (by omega)))), ?_⟩
          rw [HR.out]
          exact ⟨rfl, (by obtain ⟨j, hj⟩ := hsc; exact ⟨j, ((((hj.six hne hnm).setO (by omega) (by omega)).setO (by omega) (by omega)).drew).alloc _⟩), ((((hmv.six le).setO (by omega)).setO (by omega)).drew).alloc _⟩
    | ok y j =>
      have HR := Lib.hid hR; clear hR
      go_upto_region 3 with (go_at_call 42; refine (next_c hsc hi).mono ?_; intro e w3 hpp; rw [HR.out] at hpp; obtain ⟨rfl, hsc3, hmv3⟩ := hpp; have hp3 := hmv3.blk hp hne; have hq3 := hmv3.blk hq (by omega); have hr3 := hmv3.blk hr (by omega); obtain ⟨⟨z0, z1, z2, z3, z4, z5⟩, y0, y1, y2, y3, y4, y5⟩ := rbY hp3; obtain ⟨x0, x1⟩ := bo hq3; obtain ⟨v0, v1⟩ := ino hr3; simp only [symV])
      go_cut [] from 6 to 10 (fun wx => wx.heap[w.heap.size]? = some (symO y) ∧ wx.heap[w.heap.size + 1]? = some (boO true) ∧ wx.heap[w.heap.size + 2]? = some (inO (-1)) ∧ Scan b s (j : Nat) wx ∧ Moved b w wx)
      case first =>
        go_wp2_with (go_at_call 42; refine (next_c hsc hi).mono ?_; intro e w3 hpp; rw [HR.out] at hpp; obtain ⟨rfl, hsc3, hmv3⟩ := hpp; have hp3 := hmv3.blk hp hne; have hq3 := hmv3.blk hq (by omega); have hr3 := hmv3.blk hr (by omega); obtain ⟨⟨z0, z1, z2, z3, z4, z5⟩, y0, y1, y2, y3, y4, y5⟩ := rbY hp3; obtain ⟨x0, x1⟩ := bo hq3; obtain ⟨v0, v1⟩ := ino hr3; simp only [symV])
        go_meet
        skip
        exact ⟨set_ne (six_blk y hp3) (by omega), set_bo (six_ne hq3 (by omega)), set_ne (six_ne hr3 (by omega)) (by omega), (hsc3.six hne hnm).setO (by omega) (by omega), ((hmv.trans hmv3).six le).setO (by omega)⟩
      case rest =>
        clear hp hq hr hsc hmv
        obtain ⟨hp, hq, hr, hsc, hmv⟩ := hcut
        have lp := (Array.getElem?_eq_some_iff.1 hp).1
        have lq := (Array.getElem?_eq_some_iff.1 hq).1
        have lr := (Array.getElem?_eq_some_iff.1 hr).1
        obtain ⟨⟨z0, z1, z2, z3, z4, z5⟩, y0, y1, y2, y3, y4, y5⟩ := rbY hp
        obtain ⟨x0, x1⟩ := bo hq
        obtain ⟨v0, v1⟩ := ino hr
        go_wp2_with fail
        go_region
        all_goals
          go_wp2
          refine leaves_cons (f := 41) (args := #[.pointer (some ⟨w.heap.size, 0, none⟩), .pointer (some ⟨w.heap.size + 1, 0, none⟩), .pointer (some ⟨w.heap.size + 2, 0, none⟩)]) (by simp) (by simp [go_sem]) ?_
          refine (catch_idle _ _ _ _).mono ?_
          rintro e u' w'' ⟨rfl, rfl, rfl⟩
          refine ⟨_, ret_safe (c := true) (n := -1) y rfl rfl rfl rfl (alloc_blk (by rw [drew_heap]; exact set_ne (set_ne (six_blk y hp) (by omega)) (by omega))) (alloc_blk (by rw [drew_heap]; exact set_ne (set_bo (six_ne hq (by omega))) (by omega))) (alloc_blk (by rw [drew_heap]; exact set_in (set_ne (six_ne hr (by omega)) (by omega)))), ?_⟩
          rw [HR.out]
          exact ⟨rfl, ((((hsc.six hne hnm).setO (by omega) (by omega)).setO (by omega) (by omega)).drew).alloc _, ((((hmv.six le).setO (by omega)).setO (by omega)).drew).alloc _⟩
end Go.Proofs.YtpfgjiahpddpkaaDoor
