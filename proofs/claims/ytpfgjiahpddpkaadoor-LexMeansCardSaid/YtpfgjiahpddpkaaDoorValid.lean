/- utf.Valid, by the iterator's contract. -/
import Derived.Test.YtpfgjiahpddpkaaDoorRun
import Derived.Shelf.RegionOpen
set_option linter.unusedVariables false
set_option linter.unusedSimpArgs false
namespace Go.Proofs.YtpfgjiahpddpkaaDoor
open Go.RowKit Go.Shelf
attribute [local go_sem] Oper.semAt_some
theorem prefix_mem {α : Type} {p l : List α} (h : p <+: l) : ∀ x ∈ p, x ∈ l := fun x hx => h.subset hx
theorem runes_bd (s : ByteArray) : ∀ x ∈ runesL s, (x.1 : Int) < s.size ∧ mayB x.2 = true := fun x hx => by
  have := runesF_mem s _ _ x hx; exact ⟨by omega, this.2.1⟩
theorem sizeI_bd (r : Int) : 1 ≤ sizeI r ∧ sizeI r ≤ 4 := by unfold sizeI; (repeat' split) <;> omega
set_option maxRecDepth 100000 in
set_option maxHeartbeats 2000000 in
theorem valid_in (s : ByteArray) (hreach : s.size ≤ 140737488351232) (w : World) :
    CallsIn Fence.wide 9 Tryd.prog 98 #[.string s] w fun e W' => e = .returned (.bool (validB s)) ∧ Below w.heap.size w W' := by
  have hro : Fence.wide.round = none := rfl
  have h5 : Fence.wide.fn 98 := trivial
  refine callsIn_of_wp_marks Tryd.func98 rfl h5 ?_ hro
  simp only [Tryd.ntmps98, List.size_toArray, List.length_cons, List.length_nil, Nat.reduceAdd, Nat.reduceSub, Array.replicate_succ, Array.replicate_zero, List.push_toArray, List.append_toArray, List.nil_append, List.cons_append]
  gi_wp2_with (first | (refine ⟨trivial, ?_⟩; gi_at_call 39; refine (callsIn_wide.2 (runes_in _ _)).mono ?_; rintro e w' ⟨rfl, rfl⟩) | (gi_at_call 39; refine (callsIn_wide.2 (runes_in _ _)).mono ?_; rintro e w' ⟨rfl, rfl⟩))
  have hs := cell_new_l w (.int .i64 0) 3
  have hb := cell_new_l (w.alloc (.cells #[.int .i64 0] 3)) (.string s) 9
  rw [World.size_alloc] at hb
  have hB0 : Below w.heap.size w ((w.alloc (.cells #[.int .i64 0] 3)).alloc (.cells #[.string s] 9)) := ((Below.refl _ w).alloc (Nat.le_refl _) _).alloc (by simp) _
  refine wpIn_rangeFunc_ownF hro (by omega) (gf := 53) (lb := #[.pointer (some ⟨w.heap.size + 1, 0, none⟩)]) rfl trivial (enters_of Tryd.func53 (by kernel_rfl) rfl)
    (runes_stops (9 - 1) (by omega) (w.heap.size + 1) s hreach _ (by simp) hb.1) keepBox_t (keepBox_b (by simp)) (Below.refl _ _) (fun _ => rfl)
    (fun pre W => (W.cell? ⟨w.heap.size, 0, none⟩ = some (.int .i64 (wrap64 (lastE pre))) ∧ W.frozen? ⟨w.heap.size, 0, none⟩ = false) ∧ Below w.heap.size w W)
    (fun _ _ _ => False)
    (OwnFrom.and (Own.from (fun s A B row hs hg hr => ⟨cell_kept hs.1 hg hr, (frozen_kept hs.1 hg hr).trans hs.2⟩) _) (ownFrom_below (Nat.le_refl _) (by simp; omega)))
    (fun _ _ _ _ _ hs _ _ => hs)
    ⟨⟨by rw [show wrap64 (lastE []) = 0 from by simp [lastE, wrap64]]; exact cell_alloc_l _ hs.1, frozen_alloc_l _ hs.1 hs.2⟩, hB0⟩
    (fun x => { tmps := #[.string s, undef, .bool false, .pointer (some ⟨w.heap.size, 0, none⟩), .int .i64 x.1, .int .i64 x.2, .string s, .func (.func 53) #[] #[.pointer (some ⟨w.heap.size + 1, 0, none⟩)], .int .i64 x.1, .int .i64 x.2, undef, undef, undef, undef, undef, undef, undef, undef], defers := [] }) ?assign ?body ?done ?stop
  case assign =>
    intro l x W K hK
    gi_wp2
    exact hK
  case body =>
    rintro l pre x W ⟨⟨hc, hf⟩, hB⟩ _
    gi_wp2_with (refine ⟨trivial, ?_⟩; gi_at_call 56; refine (CallsIn.inRound l (callsIn_wide.2 (size_c _ _))).mono ?_; rintro e w' ⟨rfl, rfl⟩)
    refine ⟨KeepsOthers.setCell _ _ _, ?_, ⟨?_, by rw [World.frozen?_setCell]; exact hf⟩, hB.setCell (p := ⟨w.heap.size, 0, none⟩) (Nat.le_refl _) _⟩
    · exact World.cell?_setCell_other (a := ⟨w.heap.size, 0, none⟩) (b := ⟨w.heap.size + 1, 0, none⟩) W _ (fun h => by injection h with h1; omega)
    · obtain ⟨x1, x2⟩ := x
      rw [lastE_snoc]; exact World.cell?_setCell_same' _ _ _ (by rw [hc]; rfl)
  case done =>
    rintro D ys W hD rfl ⟨⟨hc, _⟩, hB⟩ hK
    have hle := endU_le s
    have h1 : lastE (runesL s) = (endU s : Int) := lastE_all s
    rw [h1, wrap_in _ (by omega) (by omega)] at hc
    clear h1
    gi_wp2
    refine ⟨by simp, .inl ⟨_, _, rfl, run_takeDeferred hK, ?_⟩⟩
    refine ⟨_, results_tmp rfl _ _ _, ?_, hB.trans (belowK_b (w := w) (Nat.le_refl _) W D _ _ (by simp at hD; omega) hK rfl rfl)⟩
    simp [validB, beq_cast]
  case stop =>
    rintro D c pre W _ _ h _
    exact h.elim
theorem valid_c (s : ByteArray) (hreach : s.size ≤ 140737488351232) (w : World) :
    Calls Tryd.prog 98 #[.string s] w fun e W' => e = .returned (.bool (validB s)) ∧ Below w.heap.size w W' := callsIn_wide.1 (valid_in s hreach w)
end Go.Proofs.YtpfgjiahpddpkaaDoor
