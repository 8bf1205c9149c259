/- lex.well: a text up to where it is not well made. -/
import Derived.Test.YtpfgjiahpddpkaaDoorLex13
import Derived.Shelf.RegionOpen
set_option linter.unusedVariables false
set_option linter.unusedSimpArgs false
namespace Go.Proofs.YtpfgjiahpddpkaaDoor
open Go.RowKit Go.Shelf
attribute [local go_sem] Oper.semAt_some
theorem putL_size (r : Int) : ((putL r).length : Int) = sizeI r := by unfold putL sizeI; (repeat' split) <;> simp
theorem keepsO_below {W W' : World} (h : Below W.heap.size W W') : KeepsOthers W W' :=
  ⟨h.size, fun k o hk _ => (h.block k (Array.getElem?_eq_some_iff.1 hk).1).trans hk⟩
def WellJ (s : ByteArray) (c : Nat) (pre : List (Nat × Int)) (W : World) : Prop :=
  (∃ v : Int, W.cell? ⟨c, 0, none⟩ = some (.int .i64 v) ∧ ((∀ x ∈ pre, mayB x.2 = true ∧ (x.1 : Int) + sizeI x.2 ≤ s.size) → v = lastE pre)) ∧ W.frozen? ⟨c, 0, none⟩ = false ∧ c + 1 < W.heap.size
set_option maxRecDepth 100000 in
set_option maxHeartbeats 2000000 in
theorem well_in (s : ByteArray) (hreach : s.size ≤ 2000000000) (w : World) :
    CallsIn Fence.wide 9 Tryd.prog 22 #[.string s] w fun e W' => e = .returned (.string (s.extract 0 (endU s))) ∧ Below w.heap.size w W' := by
  have hro : Fence.wide.round = none := rfl
  have h5 : Fence.wide.fn 22 := trivial
  refine callsIn_of_wp_marks Tryd.func22 rfl h5 ?_ hro
  simp only [Tryd.ntmps22, List.size_toArray, List.length_cons, List.length_nil, Nat.reduceAdd, Nat.reduceSub, Array.replicate_succ, Array.replicate_zero, List.push_toArray, List.append_toArray, List.nil_append, List.cons_append]
  gi_wp2_with (first | (refine ⟨trivial, ?_⟩; gi_at_call 39; refine (callsIn_wide.2 (runes_in _ _)).mono ?_; rintro e w' ⟨rfl, rfl⟩) | (gi_at_call 39; refine (callsIn_wide.2 (runes_in _ _)).mono ?_; rintro e w' ⟨rfl, rfl⟩))
  have hs := cell_new_l w (.int .i64 0) 3
  have hb := cell_new_l (w.alloc (.cells #[.int .i64 0] 3)) (.string s) 9
  rw [World.size_alloc] at hb
  have hB0 : Below w.heap.size w ((w.alloc (.cells #[.int .i64 0] 3)).alloc (.cells #[.string s] 9)) := ((Below.refl _ w).alloc (Nat.le_refl _) _).alloc (by simp) _
  refine wpIn_rangeFunc_ownF hro (by omega) (gf := 53) (lb := #[.pointer (some ⟨w.heap.size + 1, 0, none⟩)]) rfl trivial (enters_of Tryd.func53 (by kernel_rfl) rfl)
    (runes_stops (9 - 1) (by omega) (w.heap.size + 1) s (by omega) _ (by simp) hb.1) keepBox_t (keepBox_b (by simp)) (Below.refl _ _) (fun _ => rfl)
    (fun pre W => WellJ s w.heap.size pre W ∧ Below w.heap.size w W)
    (fun _ _ _ => False)
    (OwnFrom.and (Own.from (fun s A B row hs hg hr => by obtain ⟨⟨v, hv, hi⟩, hf, hz⟩ := hs; exact ⟨⟨v, cell_kept hv hg hr, hi⟩, (frozen_kept hv hg hr).trans hf, Nat.lt_of_lt_of_le hz hg.size⟩) _) (ownFrom_below (Nat.le_refl _) (by simp; omega)))
    (fun _ _ _ _ _ hs _ _ => hs)
    ⟨⟨⟨0, cell_alloc_l _ hs.1, fun _ => rfl⟩, frozen_alloc_l _ hs.1 hs.2, by simp⟩, hB0⟩
    (fun x => { tmps := #[.string s, undef, .string ⟨#[]⟩, .pointer (some ⟨w.heap.size, 0, none⟩), .int .i64 x.1, .int .i64 x.2, undef, undef, .string s, .func (.func 53) #[] #[.pointer (some ⟨w.heap.size + 1, 0, none⟩)], .int .i64 x.1, .int .i64 x.2, undef, undef, undef, undef, undef, undef, undef, undef, undef, undef, undef, undef], defers := [] }) ?assign ?body ?done ?stop
  case assign =>
    intro l x W K hK
    gi_wp2
    exact hK
  case body =>
    rintro l pre x W ⟨⟨⟨v, hc, hi⟩, hf, hl2⟩, hB⟩ _
    obtain ⟨x1, x2⟩ := x
    have hlW : w.heap.size < W.heap.size := World.block_lt_of_cell? W _ hc
    cases hm : mayB x2 with
    | true =>
      have hpc := put_ok x2 hm
      have HPC := Lib.hid hpc; clear hpc
      have hsz := putL_size x2
      have hln := putL_len x2
      have HSZ := Lib.hid hsz; clear hsz
      gi_wp2_with (refine ⟨trivial, ?_⟩; gi_at_call 40; refine (CallsIn.inRound l (callsIn_wide.2 (HPC.out _))).mono ?_; rintro e w' ⟨pv, rfl, hown, hbl⟩; obtain ⟨g2, cap2, rfl, hg2, _⟩ := hown.shape (putL_ne x2); have hc2 : w'.cell? ⟨w.heap.size, 0, none⟩ = some (.int .i64 v) := ((bcell hbl).1 _ _ hlW).trans hc; have hf2 : w'.frozen? ⟨w.heap.size, 0, none⟩ = false := ((bcell hbl).2 _ _ hlW).trans hf; have hB2 : Below w.heap.size w w' := hB.trans (hbl.mono (by omega)))
      have hne : ¬ ((⟨w.heap.size, 0, none⟩ : Addr) = ⟨w.heap.size + 1, 0, none⟩) := fun h => by injection h with h1; omega
      refine ⟨(keepsO_below hbl).trans (KeepsOthers.setCell _ _ _), ?_, ⟨⟨_, World.cell?_setCell_same' _ _ _ (by rw [hc2]; rfl), ?_⟩, by rw [World.frozen?_setCell]; exact hf2, by rw [World.size_setCell]; exact Nat.lt_of_lt_of_le hl2 hbl.size⟩, hB2.setCell (p := ⟨w.heap.size, 0, none⟩) (Nat.le_refl _) _⟩
      · exact (World.cell?_setCell_other (a := ⟨w.heap.size, 0, none⟩) (b := ⟨w.heap.size + 1, 0, none⟩) w' _ hne).trans ((bcell hbl).1 _ _ hl2)
      · intro hall
        have h9 := hall (x1, x2) (by simp)
        simp only at h9
        rw [lastE_snoc, ← HSZ.out]
        rw [← HSZ.out] at h9
        exact wrap_in _ (by omega) (by omega)
    | false =>
      have hpc := put_bad x2 hm
      have HPC := Lib.hid hpc; clear hpc
      gi_wp2_with (refine ⟨trivial, ?_⟩; gi_at_call 40; refine (CallsIn.inRound l (callsIn_wide.2 (HPC.out _))).mono ?_; rintro e w' ⟨rfl, rfl⟩)
      have hne : ¬ ((⟨w.heap.size, 0, none⟩ : Addr) = ⟨w.heap.size + 1, 0, none⟩) := fun h => by injection h with h1; omega
      refine ⟨KeepsOthers.setCell _ _ _, World.cell?_setCell_other (a := ⟨w.heap.size, 0, none⟩) (b := ⟨w.heap.size + 1, 0, none⟩) W _ hne, ⟨⟨_, World.cell?_setCell_same' _ _ _ (by rw [hc]; rfl), ?_⟩, by rw [World.frozen?_setCell]; exact hf, by rw [World.size_setCell]; exact hl2⟩, hB.setCell (p := ⟨w.heap.size, 0, none⟩) (Nat.le_refl _) _⟩
      intro hall
      have h9 := (hall (x1, x2) (by simp)).1
      simp only at h9
      rw [hm] at h9
      cases h9
  case done =>
    rintro D ys W hD rfl ⟨⟨⟨v, hc, hi⟩, _, _⟩, hB⟩ hK
    have hle := endU_le s
    have h1 : lastE (runesL s) = (endU s : Int) := lastE_all s
    have hv := hi (fun x hx => by have := runesF_mem s _ _ x hx; exact ⟨this.2.1, this.2.2.2⟩)
    rw [h1] at hv
    subst hv
    clear h1 hi
    gi_wp2
    refine ⟨by simp, .inl ⟨_, _, rfl, run_takeDeferred hK, ?_⟩⟩
    refine ⟨_, results_tmp rfl _ _ _, ?_, hB.trans (belowK_b (w := w) (Nat.le_refl _) W D _ _ (by simp at hD; omega) hK rfl rfl)⟩
    rfl
  case stop =>
    rintro D c pre W _ _ h _
    exact h.elim
theorem well_c (s : ByteArray) (hreach : s.size ≤ 2000000000) (w : World) :
    Calls Tryd.prog 22 #[.string s] w fun e W' => e = .returned (.string (s.extract 0 (endU s))) ∧ Below w.heap.size w W' := callsIn_wide.1 (well_in s hreach w)
end Go.Proofs.YtpfgjiahpddpkaaDoor
