/- LexLong: a text of spaces alone at the bound, and one beyond it. -/
import Derived.Test.YtpfgjiahpddpkaaDoorKnown
import Derived.Laws.OwnMore
import Derived.Laws.BytesArg
set_option linter.unusedVariables false
set_option linter.unusedSimpArgs false
namespace Go.Proofs.YtpfgjiahpddpkaaDoor
open Go.RowKit
def spaceN (n : Nat) : ByteArray := strOfNums (List.replicate n 32)
theorem spaceN_size (n : Nat) : (spaceN n).size = n := by unfold spaceN; rw [strOfNums_size, List.length_replicate]
theorem spaceN_bt (n k : Nat) (h : k < (spaceN n).size) : bt (spaceN n) k = 32 := by
  unfold bt; rw [dif_pos h]
  have e : (spaceN n)[k] = (spaceN n).data.toList[k]'(by rw [← Go.Lib.size_eq]; exact h) := rfl
  rw [e]
  simp only [spaceN, strOfNums_data, List.getElem_map, List.getElem_replicate]
  rfl
theorem set_mid (n k : Nat) (h : k < n) (a b : Value) : (List.replicate k a ++ List.replicate (n - k) b).set k a = List.replicate (k + 1) a ++ List.replicate (n - (k + 1)) b := by
  obtain ⟨d, rfl⟩ : ∃ d, n = k + (d + 1) := ⟨n - k - 1, by omega⟩
  have e1 : k + (d + 1) - k = d + 1 := by omega
  have e2 : k + (d + 1) - (k + 1) = d := by omega
  rw [e1, e2, List.set_append_right _ _ (by simp), List.length_replicate, Nat.sub_self, List.replicate_succ (n := d), List.set_cons_zero, List.replicate_succ' (n := k), List.append_assoc]
  rfl
theorem OwnS.none {base : Nat} {W : World} {v : Value} (h : OwnS base W v []) : ∃ p c, v = .slice p 0 c := by
  obtain ⟨_, h2⟩ := h
  rcases h2 with ⟨h2, _⟩ | ⟨g, cap, cur, hv, _⟩
  · exact ⟨_, _, h2⟩
  · exact ⟨_, _, hv⟩
theorem all_space_c (n : Nat) (W : World) (hm : HasMax W) (hn : n ≤ 1048576) : Calls Tryd.prog 7 #[.string (spaceN n)] W fun e w' => ∃ p c, e = .returned (.tuple #[.slice p 0 c, .int .i64 0, .int .i64 0]) ∧ Below W.heap.size W w' := by
  have hs := spaceN_size n
  have h0 := all_c (spaceN n) W hm (by omega)
  rw [all_spaces (spaceN n) (spaceN_bt n) (by omega)] at h0
  refine h0.mono ?_
  rintro e w' ⟨v, rfl, hown, hb⟩
  obtain ⟨p, c, rfl⟩ := hown.none
  exact ⟨p, c, rfl, hb⟩
theorem all_long_c (n : Nat) (W : World) (hm : HasMax W) (hn : 1048576 < n) (hn2 : n ≤ 2000000000) : Calls Tryd.prog 7 #[.string (spaceN n)] W fun e w' => ∃ p c, e = .returned (.tuple #[.slice p 0 c, .int .i64 0, .int .i64 3]) ∧ Below W.heap.size W w' := by
  have hs := spaceN_size n
  have h0 := all_c (spaceN n) W hm (by omega)
  rw [all_long (spaceN n) (by omega)] at h0
  refine h0.mono ?_
  rintro e w' ⟨v, rfl, hown, hb⟩
  obtain ⟨p, c, rfl⟩ := hown.none
  exact ⟨p, c, rfl, hb⟩
theorem make_u8 (n : Nat) (hn : n ≤ 2000000000) (w : World) : ∃ w1, (Instr.makeSlice 22 (.int .i64 (n : Int)) (.int .i64 (n : Int))).run Tryd.prog w = .ok (.slice (some ⟨w.heap.size, 0, none⟩) n n) w1 ∧
    w1.ownsRow w.heap.size 5 1 (.slice (some ⟨w.heap.size, 0, none⟩) n n) n (List.replicate n (.int .u8 0)) ∧ Below w.heap.size w w1 := by
  obtain ⟨i0, hi0, hz0, hz1, hz2⟩ := info_parts Tryd.infoU8
  obtain ⟨w1, hrun, hown, hgrow⟩ := run_make_full (P := Tryd.prog) w w.heap.size 22 5 i0 (.int .u8 0) 1 Tryd.underlying22 hi0 hz0 hz1 .i64 .i64 n (by rw [hz2]; omega) (by unfold maxLen; omega) (Nat.le_refl _)
  have e : (madeCells (Value.int .u8 0).cells (n * 1)).toList = List.replicate n (.int .u8 0) := by rw [Nat.mul_one]; exact toList_madeCells_one _ _
  rw [e] at hown
  exact ⟨w1, hrun, hown, (Below.refl _ w).grown hgrow (Nat.le_refl _) (fun k e => by cases e)⟩
set_option maxHeartbeats 1000000 in
set_option maxRecDepth 100000 in
theorem lexlong_c (w : World) (hm : HasMax w) : Calls Tryd.prog 3 #[] w fun e w' => e = .returned (.bool true) ∧ Below w.heap.size w w' := by
  obtain ⟨N, hN⟩ : ∃ N : Nat, N = 1048577 := ⟨_, rfl⟩
  obtain ⟨w1, hrun, hown, hB1⟩ := make_u8 N (by omega) w
  have hz : (N : Int) = 1048577 := by omega
  rw [hz] at hrun
  have HO := Lib.hid hown
  have hn0 : N ≤ 2000000000 := by omega
  have HN := Lib.hid hN
  clear hown hz hN
  go_enter Tryd.func3, Tryd.ntmps3
  go_wp2
  go_loopw [2] (fun i wr => ∃ k : Nat, k ≤ N ∧ i = .int .i64 k ∧ Hid (wr.ownsRow w.heap.size 5 1 (.slice (some ⟨w.heap.size, 0, none⟩) N N) N (List.replicate k (.int .u8 32) ++ List.replicate (N - k) (.int .u8 0))) ∧ Below w.heap.size w wr) (fun i _ => N - (intOf i).toNat)
  case atStart => exact ⟨0, by omega, rfl, Lib.hid HO.out, hB1⟩
  case round =>
    obtain ⟨k, hk, rfl, HK, hB⟩ := hrel
    by_cases hlt : k < N
    · have hcell := HK.out.cellAt k (by omega)
      rw [List.getElem?_append_right (by simp), List.length_replicate, Nat.sub_self, List.getElem?_replicate, if_pos (by omega)] at hcell
      have hfr := HK.out.frozenAt k
      have hst := HK.out.stored k (.int .u8 32)
      rw [set_mid N k hlt] at hst
      have HST := Lib.hid hst.1
      clear hst
      go_wp2
      go_roundw
      case rel => exact ⟨k + 1, by omega, by go_num, HST, hB.setCell (Nat.le_refl _) _⟩
      case measure => simp [intOf]; omega
    · obtain rfl : k = N := by omega
      go_upto_region 6 with fail
      have hkk := HN.out
      have hown := HK.out
      rw [Nat.sub_self, List.replicate_zero, List.append_nil] at hown
      have hce : ∀ i, i < k → wr.cell? ⟨w.heap.size, i, none⟩ = some (.int .u8 32) := fun i hi => by
        rw [hown.cellAt i (by omega), List.getElem?_replicate, if_pos hi]
      have hg : ∀ (m i : Nat), i < m → (List.replicate m (32 : Int)).getD i 0 = 32 := fun m i hi => by
        rw [List.getD, List.getElem?_replicate, if_pos hi]; rfl
      have hcv := run_convert_bytes_arg (P := Tryd.prog) wr 22 5 Tryd.underlying22 Tryd.underlying5 w.heap.size 1 (k - 1) (k - 1) (List.replicate (k - 1) 32) (by simp)
        (fun i hi => by rw [hce (1 + i) (by omega), hg _ i hi]) 9 Tryd.underlying9
      have HCE := Lib.hid hce
      have HG := Lib.hid hg
      have hk1 : 1 ≤ k := by omega
      have hk9 : ¬ k = 1 := by omega
      have hlt0 : w.heap.size < wr.heap.size := World.block_lt_of_cell? wr ⟨w.heap.size, 0, none⟩ (hce 0 (by omega))
      have HK2 := Lib.hid (show k - 1 ≤ 1048576 by omega)
      have hm1 := hm.below hB
      clear hce hkk hg hown
      rw [show strOfNums (List.replicate (k - 1) 32) = spaceN (k - 1) from rfl] at hcv
      go_upto_region 7 with (go_at_call 7; refine (all_space_c (k - 1) _ hm1 HK2.out).mono ?_; rintro e w2 ⟨p2, c2, rfl, hB2⟩)
      have hce2 : ∀ i, i < k → w2.cell? ⟨w.heap.size, i, none⟩ = some (.int .u8 32) := fun i hi => ((bcell hB2).1 _ _ hlt0).trans (HCE.out i hi)
      have hcv2 := run_convert_bytes_arg (P := Tryd.prog) w2 22 5 Tryd.underlying22 Tryd.underlying5 w.heap.size 0 k k (List.replicate k 32) (by simp)
        (fun i hi => by rw [Nat.zero_add, hce2 i hi, HG.out _ i hi]) 9 Tryd.underlying9
      rw [show strOfNums (List.replicate k 32) = spaceN k from rfl] at hcv2
      have hm2 := hm1.below hB2
      have HK3 := Lib.hid (show 1048576 < k by have := HN.out; omega)
      clear hce2 hcv
      go_upto_region 8 with (go_at_call 7; refine (all_long_c k _ hm2 HK3.out hn0).mono ?_; rintro e w3 ⟨p3, c3, rfl, hB3⟩)
      have hm3 := hm2.below hB3
      go_wp2_with (first
        | (go_at_call 8; refine (num_c _ _).mono ?_; rintro e w' ⟨rfl, rfl⟩)
        | (go_at_call 9; refine (known_c _ hm3).mono ?_; rintro e w4 ⟨rfl, hB4⟩))
      go_ret
      have hb2 : Below w.heap.size w w2 := hB.trans (hB2.mono hB.size)
      have hb3 : Below w.heap.size w w3 := hb2.trans (hB3.mono hb2.size)
      exact ⟨rfl, hb3.trans (hB4.mono hb3.size)⟩
end Go.Proofs.YtpfgjiahpddpkaaDoor
