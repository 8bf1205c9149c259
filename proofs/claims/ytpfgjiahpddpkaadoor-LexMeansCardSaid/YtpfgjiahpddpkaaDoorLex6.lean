/- The walks of the scanner: symbols. -/
import Derived.Test.YtpfgjiahpddpkaaDoorLex5
set_option linter.unusedVariables false
set_option linter.unusedSimpArgs false
namespace Go.Proofs.YtpfgjiahpddpkaaDoor
open Go.RowKit
/-- How a reader of symbols ends. -/
def RdPost (s : ByteArray) (i b : Nat) (w : World) (R : LR) (e : Ending) (w' : World) : Prop :=
  match R with
  | .no => e = .returned (.tuple #[symV noSym, .bool false]) ∧ Scan b s (i : Nat) w' ∧ Moved b w w'
  | .bad k => e = .panicked [wrongE k] ∧ (∃ j : Int, Scan b s j w') ∧ Moved b w w'
  | .ok y j => e = .returned (.tuple #[symV y, .bool true]) ∧ Scan b s (j : Nat) w' ∧ Moved b w w'
def symZ : Obj := .cells #[.int .i64 0, .string ⟨#[]⟩, .int .i64 0, .string ⟨#[]⟩, .string ⟨#[]⟩, .int .i64 0] 49 (0, 0)
theorem rb {r : Nat} {w : World} (h : w.heap[r]? = some symZ) :
    (w.cell? ⟨r, 0, none⟩ = some (.int .i64 0) ∧ w.cell? ⟨r, 1, none⟩ = some (.string ⟨#[]⟩) ∧ w.cell? ⟨r, 2, none⟩ = some (.int .i64 0) ∧ w.cell? ⟨r, 3, none⟩ = some (.string ⟨#[]⟩) ∧ w.cell? ⟨r, 4, none⟩ = some (.string ⟨#[]⟩) ∧ w.cell? ⟨r, 5, none⟩ = some (.int .i64 0)) ∧
    (w.frozen? ⟨r, 0, none⟩ = false ∧ w.frozen? ⟨r, 1, none⟩ = false ∧ w.frozen? ⟨r, 2, none⟩ = false ∧ w.frozen? ⟨r, 3, none⟩ = false ∧ w.frozen? ⟨r, 4, none⟩ = false ∧ w.frozen? ⟨r, 5, none⟩ = false) := by
  simp [World.cell?, World.frozen?, h, symZ]
theorem Scan.setO {b r o : Nat} {s : ByteArray} {i : Int} {w : World} {v : Value} (h : Scan b s i w) (hr : r ≠ b) (hm : r ≠ 5) : Scan b s i (w.setCell ⟨r, o, none⟩ v) := by
  refine ⟨?_, ?_, h.ne, h.small⟩
  · rw [Below.heap_setCell _ _ _ _ (fun e => hr (by simpa using e.symm))]; exact h.blk
  · obtain ⟨m, hx⟩ := h.max
    exact ⟨m, by rw [World.cell?_setCell_other (a := ⟨r, o, none⟩) (b := ⟨5, 0, none⟩) w _ (fun e => hm (by injection e))]; exact hx⟩
theorem Moved.setO {b r o : Nat} {x y : World} {v : Value} (h : Moved b x y) (hr : x.heap.size ≤ r) : Moved b x (y.setCell ⟨r, o, none⟩ v) :=
  ⟨h.os, h.tape, h.output, Nat.le_trans h.size (by simp [World.setCell]), fun k hk hn => (Below.heap_setCell _ _ _ _ (fun e => by have : k = r := e; omega)).trans (h.block k hk hn)⟩
theorem Moved.blk {b r : Nat} {x y : World} {o : Obj} (h : Moved b x y) (hb : x.heap[r]? = some o) (hn : r ≠ b) : y.heap[r]? = some o :=
  (h.block r (Array.getElem?_eq_some_iff.1 hb).1 (fun e => hn (by injection e))).trans hb
def symO (y : Sym) : Obj := .cells #[.int .i64 y.kind, .string y.text, .int .i64 y.tk, .string y.tt, .string y.tx, .int .i64 y.place] 49 (0, 0)
theorem heap_set {w : World} {r o : Nat} {v : Value} {c : Array Value} {t : TypeId} {z : Nat × Nat} (h : w.heap[r]? = some (.cells c t z)) : (w.setCell ⟨r, o, none⟩ v).heap[r]? = some (.cells (c.setIfInBounds o v) t z) := by
  have hl := (Array.getElem?_eq_some_iff.1 h).1
  simp [World.setCell, Array.getElem?_modify, h]
theorem sets6 {r : Nat} {w : World} (y : Sym) (h : w.heap[r]? = some symZ) :
    ((((((w.setCell ⟨r, 0, none⟩ (.int .i64 y.kind)).setCell ⟨r, 1, none⟩ (.string y.text)).setCell ⟨r, 2, none⟩ (.int .i64 y.tk)).setCell ⟨r, 3, none⟩ (.string y.tt)).setCell ⟨r, 4, none⟩ (.string y.tx)).setCell ⟨r, 5, none⟩ (.int .i64 y.place)).heap[r]? = some (symO y) := by
  rw [heap_set (heap_set (heap_set (heap_set (heap_set (heap_set h)))))]
  rfl
theorem ret_sym {fn : Func} {r : Nat} {w : World} {tmps : Array Value} {c : Bool} (y : Sym) (h : fn.results = #[.cell 2 49, .tmp 3]) (h2 : tmps.getD 2 undef = .pointer (some ⟨r, 0, none⟩)) (h3 : tmps.getD 3 undef = .bool c)
    (hb : w.heap[r]? = some (symO y)) : (results fn tmps).run Tryd.prog w = .ok (.tuple #[symV y, .bool c]) w := by
  have e0 : w.cell? ⟨r, 0, none⟩ = some (.int .i64 y.kind) := by simp [World.cell?, hb, symO]
  have e1 : w.cell? ⟨r, 1, none⟩ = some (.string y.text) := by simp [World.cell?, hb, symO]
  have e2 : w.cell? ⟨r, 2, none⟩ = some (.int .i64 y.tk) := by simp [World.cell?, hb, symO]
  have e3 : w.cell? ⟨r, 3, none⟩ = some (.string y.tt) := by simp [World.cell?, hb, symO]
  have e4 : w.cell? ⟨r, 4, none⟩ = some (.string y.tx) := by simp [World.cell?, hb, symO]
  have e5 : w.cell? ⟨r, 5, none⟩ = some (.int .i64 y.place) := by simp [World.cell?, hb, symO]
  rw [Array.getD_eq_getD_getElem?] at h2 h3
  simp only [results, h, symV]
  go_simp
set_option maxHeartbeats 4000000 in
theorem text_c {b : Nat} {s : ByteArray} {i : Nat} {w : World} (h : Scan b s (i : Int) w) (hi : i ≤ s.size) :
    Calls Tryd.prog 60 #[.pointer (some ⟨b, 0, none⟩)] w (RdPost s i b w (textF s i)) := by
  have hsm := h.small
  have hlt := h.lt
  have hml := h.max.lt
  have hne : w.heap.size ≠ b := by omega
  have hnm : w.heap.size ≠ 5 := by omega
  go_enter Tryd.func60, Tryd.ntmps60
  go_upto_region 0 with fail
  go_cut [2, 3] (fun v c wx => v = .pointer (some ⟨w.heap.size, 0, none⟩) ∧ c = .bool false ∧ wx.heap[w.heap.size]? = some symZ ∧ Scan b s (i : Int) wx ∧ Moved b w wx)
  case first => go_wp2_with fail; go_meet; exact ⟨rfl, rfl, World.alloc_heap_new w symZ, h.alloc _, (Moved.refl b w).alloc _⟩
  case rest =>
    obtain ⟨rfl, rfl, hz, hsc, hmv⟩ := hcut
    have c1 := hsc.c1
    by_cases h34 : bt s i = 34
    · cases hq : quotedU s 34 true i with
      | none =>
        have HF := Lib.hid (show textF s i = .bad i by unfold textF; rw [if_pos h34, hq])
        have b34 : (bt s i != 34) = false := by simp [h34]
        have HQ := Lib.hid hq; clear hq h34
        go_wp2_with (first
          | (go_at_call 83; refine (ch_c hsc _ i rfl).mono ?_; rintro e w' ⟨rfl, rfl⟩)
          | (go_at_call 84; refine (quoted_c hsc 34 true hi (by decide)).mono ?_; rintro e w3 ⟨_, hp⟩; obtain ⟨rfl, hsc3, hmv3⟩ := hp HQ.out))
        refine ⟨rfl, ?_⟩
        rw [HF.out]; exact ⟨rfl, hsc3, hmv.trans hmv3⟩
      | some x =>
        obtain ⟨l, j⟩ := x
        have HF := Lib.hid (show textF s i = .ok { noSym with kind := 3, text := ofL l } j by unfold textF; rw [if_pos h34, hq])
        have b34 : (bt s i != 34) = false := by simp [h34]
        have HQ := Lib.hid hq; clear hq h34
        go_wp2_with (first
          | (go_at_call 83; refine (ch_c hsc _ i rfl).mono ?_; rintro e w' ⟨rfl, rfl⟩)
          | (go_at_call 84; refine (quoted_c hsc 34 true hi (by decide)).mono ?_; rintro e w3 ⟨hp, _⟩; obtain ⟨rfl, hsc3, hmv3⟩ := hp _ _ HQ.out; have hz3 := hmv3.blk hz hne; obtain ⟨⟨z0, z1, z2, z3, z4, z5⟩, y0, y1, y2, y3, y4, y5⟩ := rb hz3))
        refine bodyPost_ret (ret_sym { noSym with kind := 3, text := ofL l } rfl rfl rfl (sets6 { noSym with kind := 3, text := ofL l } hz3)) rfl ?_
        rw [HF.out]
        refine ⟨rfl, ?_, ?_⟩
        · exact (((((hsc3.setO hne hnm).setO hne hnm).setO hne hnm).setO hne hnm).setO hne hnm).setO hne hnm
        · have le := Nat.le_refl w.heap.size; exact ((((((hmv.trans hmv3).setO le).setO le).setO le).setO le).setO le).setO le
    · have HF := Lib.hid (show textF s i = .no by unfold textF; rw [if_neg h34])
      have b34 : (bt s i != 34) = true := by simp [h34]
      clear h34
      obtain ⟨⟨z0, z1, z2, z3, z4, z5⟩, y0, y1, y2, y3, y4, y5⟩ := rb hz
      go_wp2_with (go_at_call 83; refine (ch_c hsc _ i rfl).mono ?_; rintro e w' ⟨rfl, rfl⟩)
      refine bodyPost_ret (ret_sym noSym rfl rfl rfl (sets6 noSym hz)) rfl ?_
      rw [HF.out]
      refine ⟨rfl, ?_, ?_⟩
      · exact (((((hsc.setO hne hnm).setO hne hnm).setO hne hnm).setO hne hnm).setO hne hnm).setO hne hnm
      · have le := Nat.le_refl w.heap.size; exact (((((hmv.setO le).setO le).setO le).setO le).setO le).setO le
end Go.Proofs.YtpfgjiahpddpkaaDoor
