/- rhizomelaw04.known. -/
import Derived.Test.YtpfgjiahpddpkaaDoorKn
set_option linter.unusedVariables false
set_option linter.unusedSimpArgs false
namespace Go.Proofs.YtpfgjiahpddpkaaDoor
open Go.RowKit
theorem OwnS.cells {base : Nat} {W : World} {v : Value} {l : List Sym} (h : OwnS base W v l) (hl : l ≠ []) : ∃ g cap, v = .slice (some ⟨g, 0, none⟩) l.length cap ∧ base ≤ g ∧ g < W.heap.size ∧ ∀ j u, (symVs l)[j]? = some u → W.cell? ⟨g, j, none⟩ = some u := by
  obtain ⟨hx, h2⟩ := h
  rcases h2 with ⟨_, h0⟩ | ⟨g, cap, cur, hv, hg, hh, hn, hc, hz, ht⟩
  · exact absurd (List.length_eq_zero_iff.1 h0) hl
  · refine ⟨g, cap, hv, hg, (Array.getElem?_eq_some_iff.1 hh).1, fun j u hu => ?_⟩
    rw [← ht, List.getElem?_take] at hu
    split at hu
    · simp [World.cell?, hh]; simpa using hu
    · cases hu
theorem k1_cells {W : World} {g : Nat} (h : ∀ j u, (symVs kl1)[j]? = some u → W.cell? ⟨g, j, none⟩ = some u) : W.cell? ⟨g, 0, none⟩ = some (.int .i64 1) ∧ W.cell? ⟨g, 1, none⟩ = some (.string ⟨#[]⟩) ∧ W.cell? ⟨g, 2, none⟩ = some (.int .i64 1) ∧ W.cell? ⟨g, 3, none⟩ = some (.string ⟨#[97]⟩) ∧ W.cell? ⟨g, 4, none⟩ = some (.string ⟨#[]⟩) ∧ W.cell? ⟨g, 5, none⟩ = some (.int .i64 0) ∧ W.cell? ⟨g, 6, none⟩ = some (.int .i64 8) ∧ W.cell? ⟨g, 7, none⟩ = some (.string ⟨#[58, 45]⟩) ∧ W.cell? ⟨g, 8, none⟩ = some (.int .i64 0) ∧ W.cell? ⟨g, 9, none⟩ = some (.string ⟨#[]⟩) ∧ W.cell? ⟨g, 10, none⟩ = some (.string ⟨#[]⟩) ∧ W.cell? ⟨g, 11, none⟩ = some (.int .i64 3) ∧ W.cell? ⟨g, 12, none⟩ = some (.int .i64 5) ∧ W.cell? ⟨g, 13, none⟩ = some (.string ⟨#[120]⟩) ∧ W.cell? ⟨g, 14, none⟩ = some (.int .i64 0) ∧ W.cell? ⟨g, 15, none⟩ = some (.string ⟨#[]⟩) ∧ W.cell? ⟨g, 16, none⟩ = some (.string ⟨#[]⟩) ∧ W.cell? ⟨g, 17, none⟩ = some (.int .i64 5) ∧ W.cell? ⟨g, 18, none⟩ = some (.int .i64 8) ∧ W.cell? ⟨g, 19, none⟩ = some (.string ⟨#[33, 61]⟩) ∧ W.cell? ⟨g, 20, none⟩ = some (.int .i64 0) ∧ W.cell? ⟨g, 21, none⟩ = some (.string ⟨#[]⟩) ∧ W.cell? ⟨g, 22, none⟩ = some (.string ⟨#[]⟩) ∧ W.cell? ⟨g, 23, none⟩ = some (.int .i64 8) ∧ W.cell? ⟨g, 24, none⟩ = some (.int .i64 3) ∧ W.cell? ⟨g, 25, none⟩ = some (.string ⟨#[98]⟩) ∧ W.cell? ⟨g, 26, none⟩ = some (.int .i64 0) ∧ W.cell? ⟨g, 27, none⟩ = some (.string ⟨#[]⟩) ∧ W.cell? ⟨g, 28, none⟩ = some (.string ⟨#[]⟩) ∧ W.cell? ⟨g, 29, none⟩ = some (.int .i64 11) ∧ W.cell? ⟨g, 30, none⟩ = some (.int .i64 4) ∧ W.cell? ⟨g, 31, none⟩ = some (.string ⟨#[101, 110]⟩) ∧ W.cell? ⟨g, 32, none⟩ = some (.int .i64 0) ∧ W.cell? ⟨g, 33, none⟩ = some (.string ⟨#[]⟩) ∧ W.cell? ⟨g, 34, none⟩ = some (.string ⟨#[]⟩) ∧ W.cell? ⟨g, 35, none⟩ = some (.int .i64 14) ∧ W.cell? ⟨g, 36, none⟩ = some (.int .i64 8) ∧ W.cell? ⟨g, 37, none⟩ = some (.string ⟨#[46]⟩) ∧ W.cell? ⟨g, 38, none⟩ = some (.int .i64 0) ∧ W.cell? ⟨g, 39, none⟩ = some (.string ⟨#[]⟩) ∧ W.cell? ⟨g, 40, none⟩ = some (.string ⟨#[]⟩) ∧ W.cell? ⟨g, 41, none⟩ = some (.int .i64 18) :=
  ⟨h 0 _ rfl, h 1 _ rfl, h 2 _ rfl, h 3 _ rfl, h 4 _ rfl, h 5 _ rfl, h 6 _ rfl, h 7 _ rfl, h 8 _ rfl, h 9 _ rfl, h 10 _ rfl, h 11 _ rfl, h 12 _ rfl, h 13 _ rfl, h 14 _ rfl, h 15 _ rfl, h 16 _ rfl, h 17 _ rfl, h 18 _ rfl, h 19 _ rfl, h 20 _ rfl, h 21 _ rfl, h 22 _ rfl, h 23 _ rfl, h 24 _ rfl, h 25 _ rfl, h 26 _ rfl, h 27 _ rfl, h 28 _ rfl, h 29 _ rfl, h 30 _ rfl, h 31 _ rfl, h 32 _ rfl, h 33 _ rfl, h 34 _ rfl, h 35 _ rfl, h 36 _ rfl, h 37 _ rfl, h 38 _ rfl, h 39 _ rfl, h 40 _ rfl, h 41 _ rfl⟩
theorem k2_cells {W : World} {g : Nat} (h : ∀ j u, (symVs kl2)[j]? = some u → W.cell? ⟨g, j, none⟩ = some u) : W.cell? ⟨g, 0, none⟩ = some (.int .i64 7) ∧ W.cell? ⟨g, 1, none⟩ = some (.string ⟨#[97, 58, 98, 45, 99]⟩) ∧ W.cell? ⟨g, 2, none⟩ = some (.int .i64 0) ∧ W.cell? ⟨g, 3, none⟩ = some (.string ⟨#[]⟩) ∧ W.cell? ⟨g, 4, none⟩ = some (.string ⟨#[]⟩) ∧ W.cell? ⟨g, 5, none⟩ = some (.int .i64 0) ∧ W.cell? ⟨g, 6, none⟩ = some (.int .i64 6) ∧ W.cell? ⟨g, 7, none⟩ = some (.string ⟨#[97]⟩) ∧ W.cell? ⟨g, 8, none⟩ = some (.int .i64 0) ∧ W.cell? ⟨g, 9, none⟩ = some (.string ⟨#[]⟩) ∧ W.cell? ⟨g, 10, none⟩ = some (.string ⟨#[]⟩) ∧ W.cell? ⟨g, 11, none⟩ = some (.int .i64 6) ∧ W.cell? ⟨g, 12, none⟩ = some (.int .i64 7) ∧ W.cell? ⟨g, 13, none⟩ = some (.string ⟨#[58]⟩) ∧ W.cell? ⟨g, 14, none⟩ = some (.int .i64 0) ∧ W.cell? ⟨g, 15, none⟩ = some (.string ⟨#[]⟩) ∧ W.cell? ⟨g, 16, none⟩ = some (.string ⟨#[]⟩) ∧ W.cell? ⟨g, 17, none⟩ = some (.int .i64 8) :=
  ⟨h 0 _ rfl, h 1 _ rfl, h 2 _ rfl, h 3 _ rfl, h 4 _ rfl, h 5 _ rfl, h 6 _ rfl, h 7 _ rfl, h 8 _ rfl, h 9 _ rfl, h 10 _ rfl, h 11 _ rfl, h 12 _ rfl, h 13 _ rfl, h 14 _ rfl, h 15 _ rfl, h 16 _ rfl, h 17 _ rfl⟩
theorem mark_e (k tk pl : Int) (t tt tx m : ByteArray) (w : World) : Calls Tryd.prog 24 #[.agg #[.int .i64 k, .string t, .int .i64 tk, .string tt, .string tx, .int .i64 pl], .string m] w fun e w' => e = .returned (.bool (k == 8 && t.toList == m.toList)) ∧ w.alloc (.cells #[.int .i64 k, .string t, .int .i64 tk, .string tt, .string tx, .int .i64 pl] 49) = w' := by
  go_enter Tryd.func24, Tryd.ntmps24
  go_wp2
  all_goals (go_ret; first | exact ⟨by simp [*], rfl⟩ | (subst_vars; exact ⟨by simp [*], rfl⟩) | (refine ⟨by simp [*], ?_⟩; simp_all))
theorem word_e (w : World) : Calls Tryd.prog 25 #[.agg #[.int .i64 6, .string ⟨#[97]⟩, .int .i64 0, .string ⟨#[]⟩, .string ⟨#[]⟩, .int .i64 6], .string ⟨#[65]⟩] w fun e w' => e = .returned (.bool true) ∧ w.alloc (.cells #[.int .i64 6, .string ⟨#[97]⟩, .int .i64 0, .string ⟨#[]⟩, .string ⟨#[]⟩, .int .i64 6] 49) = w' := by
  go_enter Tryd.func25, Tryd.ntmps25
  go_wp2_with (go_at_call 43; refine (fold_aA _).mono ?_; rintro e w' ⟨rfl, rfl⟩)
  go_ret
  exact ⟨rfl, rfl⟩
set_option maxHeartbeats 4000000 in
set_option maxRecDepth 10000 in
theorem known_c (w : World) (hm : HasMax w) : Calls Tryd.prog 9 #[] w fun e w' => e = .returned (.bool true) ∧ Below w.heap.size w w' := by
  go_enter Tryd.func9, Tryd.ntmps9
  go_upto_region 3 with (first
    | (go_at_call 7; refine (all_kn2_c _ hm1).mono ?_; rintro e w2 ⟨v2, rfl, hown2, hB2⟩; obtain ⟨g2, cap2, rfl, hg2, hl2, hc2⟩ := hown2.cells (List.cons_ne_nil _ _); have HC2 := Lib.hid hc2; have HO2 := Lib.hid hown2; clear hc2 hown2)
    | (go_at_call 7; refine (all_kn1_c _ hm).mono ?_; rintro e w1 ⟨v1, rfl, hown1, hB1⟩; have hm1 := hm.below hB1; obtain ⟨g1, cap1, rfl, hg1, hl1, hc1⟩ := hown1.cells (List.cons_ne_nil _ _); have HC1 := Lib.hid hc1; have HO1 := Lib.hid hown1; clear hc1 hown1))
  obtain ⟨a0, a1, a2, a3, a4, a5, a6, a7, a8, a9, a10, a11, a12, a13, a14, a15, a16, a17, a18, a19, a20, a21, a22, a23, a24, a25, a26, a27, a28, a29, a30, a31, a32, a33, a34, a35, a36, a37, a38, a39, a40, a41⟩ := k1_cells (fun j u h => ((bcell hB2).1 _ _ hl1).trans (HC1.out j u h))
  obtain ⟨b0, b1, b2, b3, b4, b5, b6, b7, b8, b9, b10, b11, b12, b13, b14, b15, b16, b17⟩ := k2_cells HC2.out
  have hl1 := Nat.lt_of_lt_of_le hl1 hB2.size
  have hl1a : g1 < w2.heap.size + 1 := by omega
  have hl1b : g1 < w2.heap.size + 1 + 1 := by omega
  have hl1c : g1 < w2.heap.size + 1 + 1 + 1 := by omega
  have hl2a : g2 < w2.heap.size + 1 := by omega
  have hl2b : g2 < w2.heap.size + 1 + 1 := by omega
  have hl2c : g2 < w2.heap.size + 1 + 1 + 1 := by omega
  go_wp2_with (first
    | (go_at_call 8; refine (num_c _ _).mono ?_; rintro e w' ⟨rfl, rfl⟩)
    | (go_at_call 25; refine (word_e _).mono ?_; rintro e w' ⟨rfl, rfl⟩)
    | (go_at_call 24; refine (mark_e _ _ _ _ _ _ _ _).mono ?_; rintro e w' ⟨rfl, rfl⟩))
  go_ret
  have hbb := bthen hB1 hB2
  have hz := hbb.size
  refine ⟨rfl, ?_⟩
  repeat (first | exact hbb | (refine Below.alloc ?_ (by first | exact hz | (simp; omega)) _))
end Go.Proofs.YtpfgjiahpddpkaaDoor
