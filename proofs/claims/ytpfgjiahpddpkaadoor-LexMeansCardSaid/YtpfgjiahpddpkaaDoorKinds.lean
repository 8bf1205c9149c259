/- The walks of term.kinds, its five tests, and term.May. -/
import Derived.Test.YtpfgjiahpddpkaaDoorTerm3
import Derived.Test.YtpfgjiahpddpkaaDoorMapsF
import Derived.Deep.RegionWith
import Derived.Deep.QuietTactic
import Derived.BigQuiet
set_option linter.unusedVariables false
set_option linter.unusedSimpArgs false
namespace Go.Proofs.YtpfgjiahpddpkaaDoor
open Go.RowKit
open Go.MapKept (IsKey)
def kindE (i : Int) (f b : Nat) : MapEntry := { key := .int .i64 i, val := .func (.func f) #[] #[], born := b }
def kindsMap : Array MapEntry := #[kindE 1 72 0, kindE 2 74 1, kindE 3 76 2, kindE 4 78 3, kindE 5 80 4]
theorem isKey_int (d k : IntKind) (n : Int) (h : d = k) : IsKey (.int d) (.int k n) := by simp [IsKey, h]
set_option maxRecDepth 100000 in
theorem kinds_c (w : World) : Calls Tryd.prog 52 #[] w fun e w' => e = .returned (.map (some w.heap.size)) ∧ w.alloc (.map kindsMap 5) = w' := by
  have hmm := @run_makeMap Tryd.prog
  have ins := fun (es : Array MapEntry) (c : Nat) (k : Int) (f : Nat) (h : Instr.findNow (.int .i64) (.int .i64 k) es.toList 0 = some none) =>
    run_insert_new (P := Tryd.prog) (T := 95) (K := 38) (d := .int .i64) Tryd.underlying95 Tryd.underlying38 (k := .int .i64 k) (isKey_int _ _ _ rfl) (c := c) (.func (.func f) #[] #[]) w h
  have h1 := ins #[] 0 1 72 rfl
  have h2 := ins #[kindE 1 72 0] 1 2 74 (by rfl)
  have h3 := ins #[kindE 1 72 0, kindE 2 74 1] 2 3 76 (by rfl)
  have h4 := ins #[kindE 1 72 0, kindE 2 74 1, kindE 3 76 2] 3 4 78 (by rfl)
  have h5 := ins #[kindE 1 72 0, kindE 2 74 1, kindE 3 76 2, kindE 4 78 3] 4 5 80 (by rfl)
  have g1 : (Instr.mapUpdate 95 (.map (some w.heap.size)) (.int .i64 1) (.func (.func 72) #[] #[])).run Tryd.prog (w.alloc (.map #[] 0)) = .ok () (w.alloc (.map #[kindE 1 72 0] 1)) := h1
  have g2 : (Instr.mapUpdate 95 (.map (some w.heap.size)) (.int .i64 2) (.func (.func 74) #[] #[])).run Tryd.prog (w.alloc (.map #[kindE 1 72 0] 1)) = .ok () (w.alloc (.map #[kindE 1 72 0, kindE 2 74 1] 2)) := h2
  have g3 : (Instr.mapUpdate 95 (.map (some w.heap.size)) (.int .i64 3) (.func (.func 76) #[] #[])).run Tryd.prog (w.alloc (.map #[kindE 1 72 0, kindE 2 74 1] 2)) = .ok () (w.alloc (.map #[kindE 1 72 0, kindE 2 74 1, kindE 3 76 2] 3)) := h3
  have g4 : (Instr.mapUpdate 95 (.map (some w.heap.size)) (.int .i64 4) (.func (.func 78) #[] #[])).run Tryd.prog (w.alloc (.map #[kindE 1 72 0, kindE 2 74 1, kindE 3 76 2] 3)) = .ok () (w.alloc (.map #[kindE 1 72 0, kindE 2 74 1, kindE 3 76 2, kindE 4 78 3] 4)) := h4
  have g5 : (Instr.mapUpdate 95 (.map (some w.heap.size)) (.int .i64 5) (.func (.func 80) #[] #[])).run Tryd.prog (w.alloc (.map #[kindE 1 72 0, kindE 2 74 1, kindE 3 76 2, kindE 4 78 3] 4)) = .ok () (w.alloc (.map #[kindE 1 72 0, kindE 2 74 1, kindE 3 76 2, kindE 4 78 3, kindE 5 80 4] 5)) := h5
  clear ins h1 h2 h3 h4 h5
  go_enter Tryd.func52, Tryd.ntmps52
  go_wp2
  go_ret
  exact ⟨rfl, rfl⟩
def termV (k : Int) (t x : ByteArray) : Value := .agg #[.int .i64 k, .string t, .string x]
theorem isEmpty_size (s : ByteArray) : s.toList.isEmpty = (s.size == 0) := by
  rw [Bool.eq_iff_iff]; simp only [List.isEmpty_iff, beq_iff_eq]; rw [← List.length_eq_zero_iff, toList_len]
theorem kind1_c (k : Int) (t x : ByteArray) (ht : t.size ≤ 140737488351232) (w : World) :
    Calls Tryd.prog 72 #[termV k t x] w fun e w' => e = .returned (.bool (iriB t && (x.size == 0))) ∧ Below w.heap.size w w' := by
  have hB0 : Below w.heap.size w (w.alloc (.cells #[.int .i64 k, .string t, .string x] 40)) := (Below.refl _ w).alloc (Nat.le_refl _) _
  have hem := isEmpty_size x
  unfold termV
  go_enter Tryd.func72, Tryd.ntmps72
  go_wp2_with (go_at_call 73; refine (iri_c t ht _).mono ?_; rintro e w1 ⟨rfl, hb⟩; obtain ⟨hc, hf⟩ := bcell hb)
  all_goals (go_ret; refine ⟨?_, bnew hb⟩; simp [*])
theorem kind2_c (k : Int) (t x : ByteArray) (ht : t.size ≤ 140737488351232) (w : World) :
    Calls Tryd.prog 74 #[termV k t x] w fun e w' => e = .returned (.bool (blankB t && (x.size == 0))) ∧ Below w.heap.size w w' := by
  have hB0 : Below w.heap.size w (w.alloc (.cells #[.int .i64 k, .string t, .string x] 40)) := (Below.refl _ w).alloc (Nat.le_refl _) _
  have hem := isEmpty_size x
  unfold termV
  go_enter Tryd.func74, Tryd.ntmps74
  go_wp2_with (go_at_call 75; refine (blank_c t ht _).mono ?_; rintro e w1 ⟨rfl, rfl⟩)
  all_goals (go_ret; refine ⟨?_, hB0⟩; simp [*])
theorem kind3_c (k : Int) (t x : ByteArray) (ht : t.size ≤ 140737488351232) (w : World) :
    Calls Tryd.prog 76 #[termV k t x] w fun e w' => e = .returned (.bool (valueB t && (x.size == 0))) ∧ Below w.heap.size w w' := by
  have hB0 : Below w.heap.size w (w.alloc (.cells #[.int .i64 k, .string t, .string x] 40)) := (Below.refl _ w).alloc (Nat.le_refl _) _
  have hem := isEmpty_size x
  unfold termV
  go_enter Tryd.func76, Tryd.ntmps76
  go_wp2_with (go_at_call 77; refine (value_c t ht _).mono ?_; rintro e w1 ⟨rfl, hb⟩; obtain ⟨hc, hf⟩ := bcell hb)
  all_goals (go_ret; refine ⟨?_, bnew hb⟩; simp [*])
theorem kind4_c (k : Int) (t x : ByteArray) (ht : t.size ≤ 140737488351232) (hx : x.size ≤ 4000000000) (w : World) (hm : HasMax w) :
    Calls Tryd.prog 78 #[termV k t x] w fun e w' => e = .returned (.bool (valueB t && tagB x)) ∧ Below w.heap.size w w' := by
  have hB0 : Below w.heap.size w (w.alloc (.cells #[.int .i64 k, .string t, .string x] 40)) := (Below.refl _ w).alloc (Nat.le_refl _) _
  unfold termV
  go_enter Tryd.func78, Tryd.ntmps78
  go_wp2_with (first
    | (go_at_call 77; refine (value_c t ht _).mono ?_; rintro e w1 ⟨rfl, hb⟩; obtain ⟨hc, hf⟩ := bcell hb; have hm1 := hm.below (bnew hb))
    | (go_at_call 79; refine (tag_c x hx _ hm1).mono ?_; rintro e w2 ⟨rfl, hb2⟩))
  · go_ret
    refine ⟨?_, bthen (bnew hb) hb2⟩
    simp [*]
  · go_ret
    refine ⟨?_, bnew hb⟩
    simp [*]
theorem kind5_c (k : Int) (t x : ByteArray) (ht : t.size ≤ 140737488351232) (hx : x.size ≤ 4000000000) (w : World) :
    Calls Tryd.prog 80 #[termV k t x] w fun e w' => e = .returned (.bool (valueB t && (iriB x && !(x.toList == xsdL)))) ∧ Below w.heap.size w w' := by
  have hB0 : Below w.heap.size w (w.alloc (.cells #[.int .i64 k, .string t, .string x] 40)) := (Below.refl _ w).alloc (Nat.le_refl _) _
  unfold termV
  go_enter Tryd.func80, Tryd.ntmps80
  go_wp2_with (first
    | (go_at_call 77; refine (value_c t ht _).mono ?_; rintro e w1 ⟨rfl, hb⟩; obtain ⟨hc, hf⟩ := bcell hb)
    | (go_at_call 73; refine (iri_c x (by omega) _).mono ?_; rintro e w2 ⟨rfl, hb2⟩; obtain ⟨hc2, hf2⟩ := bcell (bthen hb hb2); clear hc hf))
  all_goals go_ret
  · refine ⟨?_, bthen (bnew hb) hb2⟩
    simp [*, xsdL]
  · refine ⟨by simp [*], bthen (bnew hb) hb2⟩
  · refine ⟨by simp [*], bnew hb⟩
theorem findKind (k : Int) : Instr.findNow (.int .i64) (.int .i64 k) kindsMap.toList 0 =
    some (if k = 1 then some (0, .func (.func 72) #[] #[]) else if k = 2 then some (1, .func (.func 74) #[] #[]) else if k = 3 then some (2, .func (.func 76) #[] #[])
      else if k = 4 then some (3, .func (.func 78) #[] #[]) else if k = 5 then some (4, .func (.func 80) #[] #[]) else none) := by
  by_cases h1 : k = 1
  · subst h1; rfl
  by_cases h2 : k = 2
  · subst h2; rfl
  by_cases h3 : k = 3
  · subst h3; rfl
  by_cases h4 : k = 4
  · subst h4; rfl
  by_cases h5 : k = 5
  · subst h5; rfl
  have b1 : (k == 1) = false := by simp [h1]
  have b2 : (k == 2) = false := by simp [h2]
  have b3 : (k == 3) = false := by simp [h3]
  have b4 : (k == 4) = false := by simp [h4]
  have b5 : (k == 5) = false := by simp [h5]
  simp only [if_neg h1, if_neg h2, if_neg h3, if_neg h4, if_neg h5]
  simp [kindsMap, kindE, Instr.findNow, Instr.sameNow, b1, b2, b3, b4, b5]
/-- term.May at a term of the kind k. -/
def mayT (k : Int) (t x : ByteArray) : Bool :=
  if k = 1 then iriB t && (x.size == 0) else if k = 2 then blankB t && (x.size == 0) else if k = 3 then valueB t && (x.size == 0)
  else if k = 4 then valueB t && tagB x else if k = 5 then valueB t && (iriB x && !(x.toList == xsdL)) else false
theorem neq_func (g : Nat) (w : World) : (binOp .neq 43 (.func (.func g) #[] #[]) .nilFunc).run Tryd.prog w = .ok (.bool true) w := by kernel_rfl
theorem neq_nil (w : World) : (binOp .neq 43 .nilFunc .nilFunc).run Tryd.prog w = .ok (.bool false) w := by kernel_rfl
theorem look_kind {k : Int} {v : Value} {i : Nat} (hf : Instr.findNow (.int .i64) (.int .i64 k) kindsMap.toList 0 = some (some (i, v))) {w : World} {r : Nat} (h : w.heap[r]? = some (.map kindsMap 5)) :
    (Instr.lookup 95 (.map (some r)) (.int .i64 k) false).run Tryd.prog w = .ok v w :=
  run_lookup_hit Tryd.underlying95 Tryd.underlying38 (isKey_int _ _ _ rfl) h hf false
theorem look_none {k : Int} (hf : Instr.findNow (.int .i64) (.int .i64 k) kindsMap.toList 0 = some none) {w : World} {r : Nat} (h : w.heap[r]? = some (.map kindsMap 5)) :
    (Instr.lookup 95 (.map (some r)) (.int .i64 k) false).run Tryd.prog w = .ok .nilFunc w :=
  run_lookup_miss Tryd.underlying95 Tryd.underlying38 (isKey_int _ _ _ rfl) h hf (by kernel_rfl) false
set_option maxHeartbeats 1000000 in
set_option maxRecDepth 100000 in
theorem may1_c (t x : ByteArray) (ht : t.size ≤ 140737488351232) (hx : x.size ≤ 4000000000) (w : World) (hm : HasMax w) :
    Calls Tryd.prog 38 #[termV 1 t x] w fun e w' => e = .returned (.bool (iriB t && (x.size == 0))) ∧ Below w.heap.size w w' := by
  have hf := (findKind 1)
  have hf : Instr.findNow (.int .i64) (.int .i64 1) kindsMap.toList 0 = some (some (0, .func (.func 72) #[] #[])) := hf
  have HF := Lib.hid hf; clear hf
  have hn1 := neq_func
  have hn2 := neq_nil
  unfold termV
  go_enter Tryd.func38, Tryd.ntmps38
  go_wp2_with fail
  go_region_with (go_at_call 52; refine (kinds_c _).mono ?_; rintro e w1 ⟨rfl, hw1⟩; have hl := look_kind HF.out (w := w1) (r := w.heap.size + 1) (by rw [← hw1]; have hq := World.alloc_heap_new ((w.alloc (.cells #[.int .i64 1, .string t, .string x] 40)).drew) (.map kindsMap 5); simpa using hq); have e0 : w1.cell? ⟨w.heap.size, 0, none⟩ = some (.int .i64 1) := (by rw [← hw1]; simp [go_sem]); have e1 : w1.cell? ⟨w.heap.size, 1, none⟩ = some (.string t) := (by rw [← hw1]; simp [go_sem]); have e2 : w1.cell? ⟨w.heap.size, 2, none⟩ = some (.string x) := (by rw [← hw1]; simp [go_sem]); have hB1 : Below w.heap.size w w1 := (by rw [← hw1]; exact (((Below.refl _ w).alloc (Nat.le_refl _) _).drew).alloc (by simp) _); clear hw1)
  all_goals go_wp2_with (go_at_call 72; refine (kind1_c 1 t x ht _).mono ?_; rintro e w2 ⟨rfl, hb2⟩)
  all_goals (go_ret; exact ⟨rfl, bthen hB1 hb2⟩)
set_option maxHeartbeats 1000000 in
set_option maxRecDepth 100000 in
theorem may2_c (t x : ByteArray) (ht : t.size ≤ 140737488351232) (hx : x.size ≤ 4000000000) (w : World) (hm : HasMax w) :
    Calls Tryd.prog 38 #[termV 2 t x] w fun e w' => e = .returned (.bool (blankB t && (x.size == 0))) ∧ Below w.heap.size w w' := by
  have hf := (findKind 2)
  have hf : Instr.findNow (.int .i64) (.int .i64 2) kindsMap.toList 0 = some (some (1, .func (.func 74) #[] #[])) := hf
  have HF := Lib.hid hf; clear hf
  have hn1 := neq_func
  have hn2 := neq_nil
  unfold termV
  go_enter Tryd.func38, Tryd.ntmps38
  go_wp2_with fail
  go_region_with (go_at_call 52; refine (kinds_c _).mono ?_; rintro e w1 ⟨rfl, hw1⟩; have hl := look_kind HF.out (w := w1) (r := w.heap.size + 1) (by rw [← hw1]; have hq := World.alloc_heap_new ((w.alloc (.cells #[.int .i64 2, .string t, .string x] 40)).drew) (.map kindsMap 5); simpa using hq); have e0 : w1.cell? ⟨w.heap.size, 0, none⟩ = some (.int .i64 2) := (by rw [← hw1]; simp [go_sem]); have e1 : w1.cell? ⟨w.heap.size, 1, none⟩ = some (.string t) := (by rw [← hw1]; simp [go_sem]); have e2 : w1.cell? ⟨w.heap.size, 2, none⟩ = some (.string x) := (by rw [← hw1]; simp [go_sem]); have hB1 : Below w.heap.size w w1 := (by rw [← hw1]; exact (((Below.refl _ w).alloc (Nat.le_refl _) _).drew).alloc (by simp) _); clear hw1)
  all_goals go_wp2_with (go_at_call 74; refine (kind2_c 2 t x ht _).mono ?_; rintro e w2 ⟨rfl, hb2⟩)
  all_goals (go_ret; exact ⟨rfl, bthen hB1 hb2⟩)
set_option maxHeartbeats 1000000 in
set_option maxRecDepth 100000 in
theorem may3_c (t x : ByteArray) (ht : t.size ≤ 140737488351232) (hx : x.size ≤ 4000000000) (w : World) (hm : HasMax w) :
    Calls Tryd.prog 38 #[termV 3 t x] w fun e w' => e = .returned (.bool (valueB t && (x.size == 0))) ∧ Below w.heap.size w w' := by
  have hf := (findKind 3)
  have hf : Instr.findNow (.int .i64) (.int .i64 3) kindsMap.toList 0 = some (some (2, .func (.func 76) #[] #[])) := hf
  have HF := Lib.hid hf; clear hf
  have hn1 := neq_func
  have hn2 := neq_nil
  unfold termV
  go_enter Tryd.func38, Tryd.ntmps38
  go_wp2_with fail
  go_region_with (go_at_call 52; refine (kinds_c _).mono ?_; rintro e w1 ⟨rfl, hw1⟩; have hl := look_kind HF.out (w := w1) (r := w.heap.size + 1) (by rw [← hw1]; have hq := World.alloc_heap_new ((w.alloc (.cells #[.int .i64 3, .string t, .string x] 40)).drew) (.map kindsMap 5); simpa using hq); have e0 : w1.cell? ⟨w.heap.size, 0, none⟩ = some (.int .i64 3) := (by rw [← hw1]; simp [go_sem]); have e1 : w1.cell? ⟨w.heap.size, 1, none⟩ = some (.string t) := (by rw [← hw1]; simp [go_sem]); have e2 : w1.cell? ⟨w.heap.size, 2, none⟩ = some (.string x) := (by rw [← hw1]; simp [go_sem]); have hB1 : Below w.heap.size w w1 := (by rw [← hw1]; exact (((Below.refl _ w).alloc (Nat.le_refl _) _).drew).alloc (by simp) _); clear hw1)
  all_goals go_wp2_with (go_at_call 76; refine (kind3_c 3 t x ht _).mono ?_; rintro e w2 ⟨rfl, hb2⟩)
  all_goals (go_ret; exact ⟨rfl, bthen hB1 hb2⟩)
set_option maxHeartbeats 1000000 in
set_option maxRecDepth 100000 in
theorem may4_c (t x : ByteArray) (ht : t.size ≤ 140737488351232) (hx : x.size ≤ 4000000000) (w : World) (hm : HasMax w) :
    Calls Tryd.prog 38 #[termV 4 t x] w fun e w' => e = .returned (.bool (valueB t && tagB x)) ∧ Below w.heap.size w w' := by
  have hf := (findKind 4)
  have hf : Instr.findNow (.int .i64) (.int .i64 4) kindsMap.toList 0 = some (some (3, .func (.func 78) #[] #[])) := hf
  have HF := Lib.hid hf; clear hf
  have hn1 := neq_func
  have hn2 := neq_nil
  unfold termV
  go_enter Tryd.func38, Tryd.ntmps38
  go_wp2_with fail
  go_region_with (go_at_call 52; refine (kinds_c _).mono ?_; rintro e w1 ⟨rfl, hw1⟩; have hl := look_kind HF.out (w := w1) (r := w.heap.size + 1) (by rw [← hw1]; have hq := World.alloc_heap_new ((w.alloc (.cells #[.int .i64 4, .string t, .string x] 40)).drew) (.map kindsMap 5); simpa using hq); have e0 : w1.cell? ⟨w.heap.size, 0, none⟩ = some (.int .i64 4) := (by rw [← hw1]; simp [go_sem]); have e1 : w1.cell? ⟨w.heap.size, 1, none⟩ = some (.string t) := (by rw [← hw1]; simp [go_sem]); have e2 : w1.cell? ⟨w.heap.size, 2, none⟩ = some (.string x) := (by rw [← hw1]; simp [go_sem]); have hB1 : Below w.heap.size w w1 := (by rw [← hw1]; exact (((Below.refl _ w).alloc (Nat.le_refl _) _).drew).alloc (by simp) _); clear hw1)
  all_goals go_wp2_with (go_at_call 78; refine (kind4_c 4 t x ht hx _ (hm.below hB1)).mono ?_; rintro e w2 ⟨rfl, hb2⟩)
  all_goals (go_ret; exact ⟨rfl, bthen hB1 hb2⟩)
set_option maxHeartbeats 1000000 in
set_option maxRecDepth 100000 in
theorem may5_c (t x : ByteArray) (ht : t.size ≤ 140737488351232) (hx : x.size ≤ 4000000000) (w : World) (hm : HasMax w) :
    Calls Tryd.prog 38 #[termV 5 t x] w fun e w' => e = .returned (.bool (valueB t && (iriB x && !(x.toList == xsdL)))) ∧ Below w.heap.size w w' := by
  have hf := (findKind 5)
  have hf : Instr.findNow (.int .i64) (.int .i64 5) kindsMap.toList 0 = some (some (4, .func (.func 80) #[] #[])) := hf
  have HF := Lib.hid hf; clear hf
  have hn1 := neq_func
  have hn2 := neq_nil
  unfold termV
  go_enter Tryd.func38, Tryd.ntmps38
  go_wp2_with fail
  go_region_with (go_at_call 52; refine (kinds_c _).mono ?_; rintro e w1 ⟨rfl, hw1⟩; have hl := look_kind HF.out (w := w1) (r := w.heap.size + 1) (by rw [← hw1]; have hq := World.alloc_heap_new ((w.alloc (.cells #[.int .i64 5, .string t, .string x] 40)).drew) (.map kindsMap 5); simpa using hq); have e0 : w1.cell? ⟨w.heap.size, 0, none⟩ = some (.int .i64 5) := (by rw [← hw1]; simp [go_sem]); have e1 : w1.cell? ⟨w.heap.size, 1, none⟩ = some (.string t) := (by rw [← hw1]; simp [go_sem]); have e2 : w1.cell? ⟨w.heap.size, 2, none⟩ = some (.string x) := (by rw [← hw1]; simp [go_sem]); have hB1 : Below w.heap.size w w1 := (by rw [← hw1]; exact (((Below.refl _ w).alloc (Nat.le_refl _) _).drew).alloc (by simp) _); clear hw1)
  all_goals go_wp2_with (go_at_call 80; refine (kind5_c 5 t x ht hx _).mono ?_; rintro e w2 ⟨rfl, hb2⟩)
  all_goals (go_ret; exact ⟨rfl, bthen hB1 hb2⟩)
set_option maxHeartbeats 1000000 in
set_option maxRecDepth 100000 in
theorem may0_c (k : Int) (t x : ByteArray) (hk : Instr.findNow (.int .i64) (.int .i64 k) kindsMap.toList 0 = some none) (w : World) :
    Calls Tryd.prog 38 #[termV k t x] w fun e w' => e = .returned (.bool false) ∧ Below w.heap.size w w' := by
  have HF := Lib.hid hk; clear hk
  have hn1 := neq_func
  have hn2 := neq_nil
  unfold termV
  go_enter Tryd.func38, Tryd.ntmps38
  go_wp2_with fail
  go_region_with (go_at_call 52; refine (kinds_c _).mono ?_; rintro e w1 ⟨rfl, hw1⟩; have hl := look_none HF.out (w := w1) (r := w.heap.size + 1) (by rw [← hw1]; have hq := World.alloc_heap_new ((w.alloc (.cells #[.int .i64 k, .string t, .string x] 40)).drew) (.map kindsMap 5); simpa using hq); have e0 : w1.cell? ⟨w.heap.size, 0, none⟩ = some (.int .i64 k) := (by rw [← hw1]; simp [go_sem]); have e1 : w1.cell? ⟨w.heap.size, 1, none⟩ = some (.string t) := (by rw [← hw1]; simp [go_sem]); have e2 : w1.cell? ⟨w.heap.size, 2, none⟩ = some (.string x) := (by rw [← hw1]; simp [go_sem]); have hB1 : Below w.heap.size w w1 := (by rw [← hw1]; exact (((Below.refl _ w).alloc (Nat.le_refl _) _).drew).alloc (by simp) _); clear hw1)
  all_goals go_wp2
  all_goals (go_ret; exact ⟨rfl, hB1⟩)
theorem mayT_c (k : Int) (t x : ByteArray) (ht : t.size ≤ 140737488351232) (hx : x.size ≤ 4000000000) (w : World) (hm : HasMax w) :
    Calls Tryd.prog 38 #[termV k t x] w fun e w' => e = .returned (.bool (mayT k t x)) ∧ Below w.heap.size w w' := by
  unfold mayT
  by_cases h1 : k = 1
  · subst h1; exact may1_c t x ht hx w hm
  by_cases h2 : k = 2
  · subst h2; exact may2_c t x ht hx w hm
  by_cases h3 : k = 3
  · subst h3; exact may3_c t x ht hx w hm
  by_cases h4 : k = 4
  · subst h4; exact may4_c t x ht hx w hm
  by_cases h5 : k = 5
  · subst h5; exact may5_c t x ht hx w hm
  rw [if_neg h1, if_neg h2, if_neg h3, if_neg h4, if_neg h5]
  refine may0_c k t x ?_ w
  rw [findKind, if_neg h1, if_neg h2, if_neg h3, if_neg h4, if_neg h5]
end Go.Proofs.YtpfgjiahpddpkaaDoor
