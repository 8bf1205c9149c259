/- The walk of term.iri, by the iterator's contract. -/
import Derived.Test.YtpfgjiahpddpkaaDoorShelf
import Derived.Test.YtpfgjiahpddpkaaDoorTerm1
set_option linter.unusedVariables false
set_option linter.unusedSimpArgs false
namespace Go.Proofs.YtpfgjiahpddpkaaDoor
open Go.RowKit Go.Shelf
attribute [local go_sem] Oper.semAt_some
theorem indexByte_c (s : ByteArray) (c : Int) (w : World) :
    Calls Tryd.prog 82 #[.string s, .int .u8 c] w fun e w' => e = .returned (.int .i64 (Lib.indexByte s.data.toList c.toNat.toUInt8)) ∧ w = w' :=
  (Tryd.strings_IndexByte s c w).mono fun e w' h => ⟨h.1, h.2.symm⟩
theorem hasPrefix_c (s p : ByteArray) (w : World) :
    Calls Tryd.prog 91 #[.string s, .string p] w fun e w' => e = .returned (.bool (Lib.hasPrefix s.data.toList p.data.toList)) ∧ w = w' :=
  (Tryd.strings_HasPrefix s p w).mono fun e w' h => ⟨h.1, h.2.symm⟩
set_option maxRecDepth 100000 in
set_option maxHeartbeats 4000000 in
theorem iri_in (s : ByteArray) (hreach : s.size ≤ 140737488351232) (w : World) :
    CallsIn Fence.wide 9 Tryd.prog 73 #[.string s] w fun e W' => e = .returned (.bool (iriB s)) ∧ Below w.heap.size w W' := by
  have hro : Fence.wide.round = none := rfl
  have h5 : Fence.wide.fn 73 := trivial
  have hB0 : Below w.heap.size w (w.alloc (.cells #[.bool false] 4)) := (Below.refl _ w).alloc (Nat.le_refl _) _
  refine callsIn_of_wp_marks Tryd.func73 rfl h5 ?_ hro
  simp only [Tryd.ntmps73, List.size_toArray, List.length_cons, List.length_nil, Nat.reduceAdd, Nat.reduceSub, Array.replicate_succ, Array.replicate_zero, List.push_toArray, List.append_toArray, List.nil_append, List.cons_append]
  have fin : ∀ (b : Bool) (W : World) (tm : Array Value), iriB s = b → W.cell? ⟨w.heap.size, 0, none⟩ = some (.bool b) → tm[2]? = some (.pointer (some ⟨w.heap.size, 0, none⟩)) → Below w.heap.size w W →
      ∃ v, (results Tryd.f73 tm).run Tryd.prog W = .ok v W ∧ (Ending.returned v = Ending.returned (Value.bool (iriB s)) ∧ Below w.heap.size w W) := by
    intro b W tm hib hc ht hb
    refine ⟨.bool b, ?_, by rw [hib], hb⟩
    simp [results, Tryd.results73, go_sem, ht, hc]
  by_cases hg1 : s.size < 1
  · have hib : iriB s = false := by simp [iriB]; intro h; omega
    have HB := Lib.hid hib; clear hib
    gi_wp2
    refine ⟨trivial, ?_⟩
    gi_wp2
    exact fin false _ _ HB.out (by simp [go_sem]) rfl hB0
  by_cases hg2 : 1000 < s.size
  · have hib : iriB s = false := by simp [iriB]; intro _ h; omega
    have HB := Lib.hid hib; clear hib
    gi_wp2
    refine ⟨trivial, ?_⟩
    gi_wp2
    exact fin false _ _ HB.out (by simp [go_sem]) rfl hB0
  have d1 : decide ((s.size : Int) < 1) = false := by simp; omega
  have d2 : decide (1000 < (s.size : Int)) = false := by simp; omega
  have hs1 : 1 ≤ s.size ∧ s.size ≤ 1000 := by omega
  have HS := Lib.hid hs1
  clear hs1
  have hv := valid_c s hreach (w.alloc (.cells #[.bool false] 4))
  have c0 := cell_new_l w (.bool false) 4
  by_cases hg3 : validB s = true
  · have HV := Lib.hid hg3; clear hg3
    rw [HV.out] at hv
    have HC := Lib.hid hv; clear hv hg1 hg2
    gi_wp2_with (first
      | (refine ⟨trivial, ?_⟩; gi_at_call 98; refine (callsIn_wide.2 HC.out).mono ?_; rintro e w1 ⟨rfl, hb1⟩)
      | (refine ⟨trivial, ?_⟩; gi_at_call 39; refine (callsIn_wide.2 (runes_in _ _)).mono ?_; rintro e w' ⟨rfl, rfl⟩))
    obtain ⟨hc1, hf1⟩ := bcell hb1
    have e1 : w1.cell? ⟨w.heap.size, 0, none⟩ = some (.bool false) := (hc1 _ _ (by simp)).trans c0.1
    have e2 : w1.frozen? ⟨w.heap.size, 0, none⟩ = false := (hf1 _ _ (by simp)).trans c0.2
    have hsz : w.heap.size + 1 ≤ w1.heap.size := by have := hb1.size; simpa using this
    have hB1 : Below w.heap.size w w1 := hB0.trans (hb1.mono (by simp))
    have hb := cell_new_l w1 (.string s) 9
    clear hc1 hf1
    refine wpIn_rangeFunc_ownF hro (by omega) (gf := 53) (lb := #[.pointer (some ⟨w1.heap.size, 0, none⟩)]) rfl trivial (enters_of Tryd.func53 (by kernel_rfl) rfl)
      (runes_stops (9 - 1) (by omega) w1.heap.size s hreach _ (by simp) hb.1) keepBox_t (keepBox_b (by simp)) (Below.refl _ _) (fun _ => rfl)
      (fun pre W => ((∀ x ∈ pre, okRune x.2 = true) ∧ W.cell? ⟨w.heap.size, 0, none⟩ = some (.bool false) ∧ W.frozen? ⟨w.heap.size, 0, none⟩ = false) ∧ Below w.heap.size w W)
      (fun c pre W => (c = .ret ∧ (∃ x ∈ pre, okRune x.2 = false) ∧ W.cell? ⟨w.heap.size, 0, none⟩ = some (.bool false)) ∧ Below w.heap.size w W)
      (OwnFrom.and (Own.from (fun s A B row hs hg hr => ⟨hs.1, cell_kept hs.2.1 hg hr, (frozen_kept hs.2.1 hg hr).trans hs.2.2⟩) _) (ownFrom_below (Nat.le_refl _) (by simp; omega)))
      (fun c => OwnFrom.and (Own.from (fun s A B row hs hg hr => ⟨hs.1, hs.2.1, cell_kept hs.2.2 hg hr⟩) _) (ownFrom_below (Nat.le_refl _) (by simp; omega)))
      ⟨⟨by simp, cell_alloc_l _ e1, frozen_alloc_l _ e1 e2⟩, hB1.alloc (by omega) _⟩
      (fun x => { tmps := #[.string s, undef, .pointer (some ⟨w.heap.size, 0, none⟩), undef, .int .i64 x.2, .string s, .int .i64 s.size, .bool false, .bool false, .string s, .int .i64 s.size, .bool false, .bool false, .bool false, .string s, .bool true, .bool false, .bool false, .string s, .func (.func 53) #[] #[.pointer (some ⟨w1.heap.size, 0, none⟩)], .int .i64 x.1, .int .i64 x.2, undef, undef, undef, undef, undef, undef, undef, undef, undef, undef, undef, undef], defers := [] }) ?assign ?body ?done ?stop
    case assign =>
      intro l x W K hK
      gi_wp2
      exact hK
    case body =>
      rintro l pre x W ⟨⟨hp, hc, hf⟩, hB⟩ _
      obtain ⟨x1, x2⟩ := x
      have hne : ¬ ((⟨w.heap.size, 0, none⟩ : Addr) = ⟨w1.heap.size, 0, none⟩) := fun h => by injection h with h1; omega
      have bad : okRune x2 = false → KeepsOthers W (W.setCell ⟨w.heap.size, 0, none⟩ (.bool false)) ∧ (((∃ x ∈ pre ++ [(x1, x2)], okRune x.2 = false) ∧ (W.setCell ⟨w.heap.size, 0, none⟩ (.bool false)).cell? ⟨w.heap.size, 0, none⟩ = some (.bool false)) ∧ Below w.heap.size w (W.setCell ⟨w.heap.size, 0, none⟩ (.bool false))) := fun h =>
        ⟨KeepsOthers.setCell _ _ _, ⟨⟨(x1, x2), by simp, h⟩, World.cell?_setCell_same' _ _ _ (by rw [hc]; rfl)⟩, hB.setCell (p := ⟨w.heap.size, 0, none⟩) (Nat.le_refl _) _⟩
      have good : okRune x2 = true → KeepsOthers W W ∧ KeepBox w1.heap.size W W ∧ (((∀ x ∈ pre ++ [(x1, x2)], okRune x.2 = true) ∧ W.cell? ⟨w.heap.size, 0, none⟩ = some (.bool false) ∧ W.frozen? ⟨w.heap.size, 0, none⟩ = false) ∧ Below w.heap.size w W) := fun h =>
        ⟨KeepsOthers.refl _, rfl, ⟨fun y hy => (List.mem_append.1 hy).elim (hp y) (fun e => by simp at e; subst e; exact h), hc, hf⟩, hB⟩
      have BAD := Lib.hid bad
      have GOOD := Lib.hid good
      clear bad good hp hne
      by_cases h32 : x2 ≤ 32
      · have hk : okRune x2 = false := by simp [okRune]; intro h; omega
        have HK := Lib.hid hk; clear hk
        gi_wp2
        all_goals first
          | (exfalso; rename_i h1 h2; simp [undef] at h1; done)
          | (refine ⟨trivial, ?_⟩; gi_wp2; obtain ⟨p1, p2, p3⟩ := BAD.out HK.out; exact ⟨p1, ⟨rfl, p2⟩, p3⟩)
      · by_cases h128 : x2 < 128
        · have hx := badC_index x2 (by omega) (by omega)
          have HX := Lib.hid hx; clear hx
          gi_wp2_with (refine ⟨trivial, ?_⟩; gi_at_call 82; refine (CallsIn.inRound l (callsIn_wide.2 (indexByte_c _ _ _))).mono ?_; rintro e w' ⟨rfl, rfl⟩)
          · have h1 : 0 ≤ Lib.indexByte [60, 62, 34, 123, 125, 124, 94, 96, 92] (UInt8.ofNat x2.toNat) := by assumption
            have hk : okRune x2 = false := by
              have h2 := HX.out; rw [decide_eq_true (by exact h1)] at h2; simp [okRune, ← h2]; omega
            obtain ⟨p1, p2, p3⟩ := BAD.out hk; exact ⟨p1, ⟨rfl, p2⟩, p3⟩
          · have h1 : Lib.indexByte [60, 62, 34, 123, 125, 124, 94, 96, 92] (UInt8.ofNat x2.toNat) < 0 := by assumption
            have hk : okRune x2 = true := by
              have h2 := HX.out; rw [decide_eq_false (by show ¬ 0 ≤ Lib.indexByte [60, 62, 34, 123, 125, 124, 94, 96, 92] (UInt8.ofNat x2.toNat); omega)] at h2; simp [okRune, ← h2]; omega
            exact GOOD.out hk
        · have hk : okRune x2 = true := by simp [okRune]; omega
          have HK := Lib.hid hk; clear hk
          gi_wp2
          refine ⟨trivial, ?_⟩
          gi_wp2
          exact GOOD.out HK.out
    case done =>
      rintro D ys W hD rfl ⟨⟨hall, hcr, hfr⟩, hB⟩ hK
      have hib : iriB s = true := by have h0 := HS.out; simp [iriB, HV.out]; exact ⟨⟨by omega, by omega⟩, fun a b h => hall (a, b) h⟩
      have HB := Lib.hid hib; clear hib hall
      gi_wp2
      have hK' := (KeepsOthers.setCell W ⟨w.heap.size, 0, none⟩ (.bool true)).same D _ hK rfl
      refine ⟨by simp, .inl ⟨_, _, rfl, run_takeDeferred hK', ?_⟩⟩
      have hc5 := cell_kept (World.cell?_setCell_same' W ⟨w.heap.size, 0, none⟩ (.bool true) (by rw [hcr]; rfl)) (grownBy_putObj' _ D (.deferred none)) (fun r e => by cases e; exact ⟨_, hK', rfl⟩)
      exact fin true _ _ HB.out hc5 rfl ((hB.setCell (p := ⟨w.heap.size, 0, none⟩) (by simp) _).trans (belowK_b (w := w) (Nat.le_refl _) _ D _ _ (by simp at hD; omega) hK' rfl rfl))
    case stop =>
      rintro D c pre W hD hpre ⟨⟨rfl, ⟨x, hx, hbad⟩, hcr⟩, hB⟩ hK
      have hib : iriB s = false := by
        have : (runesL s).all (fun x => okRune x.2) = false := by rw [List.all_eq_false]; exact ⟨x, hpre.subset hx, by simp [hbad]⟩
        simp [iriB, this]
      have HB := Lib.hid hib; clear hib hbad hx
      gi_wp2
      refine ⟨by simp, .inl ⟨_, _, rfl, run_takeDeferred hK, ?_⟩⟩
      have hc5 := cell_kept hcr (grownBy_putObj' _ D (.deferred none)) (fun r e => by cases e; exact ⟨_, hK, rfl⟩)
      exact fin false _ _ HB.out hc5 rfl (hB.trans (belowK_b (w := w) (Nat.le_refl _) W D _ _ (by simp at hD; omega) hK rfl rfl))
  · have hib : iriB s = false := by simp [iriB, hg3]
    have HB := Lib.hid hib; clear hib
    have hg4 : validB s = false := by simpa using hg3
    rw [hg4] at hv
    have HC := Lib.hid hv; clear hv hg1 hg2 hg3 hg4
    gi_wp2_with (first
      | (refine ⟨trivial, ?_⟩; gi_at_call 98; refine (callsIn_wide.2 HC.out).mono ?_; rintro e w1 ⟨rfl, hb1⟩; obtain ⟨hc1, hf1⟩ := bcell hb1))
    have e1 : w1.cell? ⟨w.heap.size, 0, none⟩ = some (.bool false) := (hc1 _ _ (by simp)).trans c0.1
    exact fin false _ _ HB.out (World.cell?_setCell_same' _ _ _ (by rw [e1]; rfl)) rfl ((hB0.trans (hb1.mono (by simp))).setCell (p := ⟨w.heap.size, 0, none⟩) (Nat.le_refl _) _)
theorem iri_c (s : ByteArray) (hreach : s.size ≤ 140737488351232) (w : World) :
    Calls Tryd.prog 73 #[.string s] w fun e W' => e = .returned (.bool (iriB s)) ∧ Below w.heap.size w W' := callsIn_wide.1 (iri_in s hreach w)
end Go.Proofs.YtpfgjiahpddpkaaDoor
