/- The walk of term.tag. -/
import Derived.Test.YtpfgjiahpddpkaaDoorTerm2
set_option linter.unusedVariables false
set_option linter.unusedSimpArgs false
namespace Go.Proofs.YtpfgjiahpddpkaaDoor
open Go.RowKit
/-- The package-level variable that the search of strings reads: some number. -/
def HasMax (w : World) : Prop := ∃ m, w.cell? ⟨5, 0, none⟩ = some (.int .i64 m)
theorem HasMax.below {w W : World} (h : HasMax w) (hb : Below w.heap.size w W) : HasMax W := by
  obtain ⟨m, hm⟩ := h
  exact ⟨m, (hb.cell (World.block_lt_of_cell? w _ hm)).trans hm⟩
theorem split_c (s : ByteArray) (w : World) (hs : s.size ≤ 4000000000) (hm : HasMax w) :
    Calls Tryd.prog 101 #[.string s, .string dash] w fun e w' =>
      e = .returned (.slice (some ⟨w.heap.size, 0, none⟩) (parts s).length (parts s).length) ∧ w.alloc (.cells ((parts s).map Value.string).toArray 9) = w' := by
  obtain ⟨m, hm⟩ := hm
  refine (Tryd.strings_Split s dash m w (by omega) hm (by decide)).mono fun e w' h => ?_
  rw [parts_length]; exact ⟨h.1, h.2.symm⟩
set_option maxHeartbeats 2000000 in
theorem tag_c (s : ByteArray) (hs : s.size ≤ 4000000000) (w : World) (hm : HasMax w) : Calls Tryd.prog 79 #[.string s] w fun e w' => e = .returned (.bool (tagB s)) ∧ Below w.heap.size w w' := by
  have hB0 : Below w.heap.size w (w.alloc (.cells ((parts s).map Value.string).toArray 9)) := (Below.refl _ w).alloc (Nat.le_refl _) _
  have hlen : (parts s).length ≤ 4000000001 := by
    rw [parts_length]; have := Go.Lib.countB_le dash (by decide) s.size s (Nat.le_refl _); omega
  have hcell : ∀ j, j < (parts s).length → (w.alloc (.cells ((parts s).map Value.string).toArray 9)).cell? ⟨w.heap.size, j, none⟩ = some (.string ((parts s)[j]?.getD ByteArray.empty)) := by
    intro j hj
    have := World.alloc_heap_new w (.cells ((parts s).map Value.string).toArray 9)
    unfold World.cell?; rw [this]; simp [hj]
  have HCELL := Lib.hid hcell; clear hcell
  go_enter Tryd.func79, Tryd.ntmps79
  go_wp2_with (go_at_call 101; refine (split_c s _ hs hm).mono ?_; rintro e w' ⟨rfl, rfl⟩)
  go_loop [10] (fun i => ∃ k : Nat, k ≤ (parts s).length ∧ i = .int .i64 k ∧ Hid (tagPs (parts s) k = true)) (fun i => (parts s).length - (intOf i).toNat)
  case atStart => exact ⟨0, by omega, rfl, rfl⟩
  case round =>
    obtain ⟨k, hk, rfl, HW⟩ := hrel
    by_cases hlt : k < (parts s).length
    · have hc := HCELL.out k hlt
      have hsm := parts_small s ((parts s)[k]?.getD ByteArray.empty) (by rw [List.getElem?_eq_getElem hlt]; exact List.getElem_mem hlt)
      have hsucc := tagPs_succ (parts s) k
      have hfls := tagPs_false (parts s) k _ hlt
      obtain ⟨p, hp⟩ : ∃ p, (parts s)[k]?.getD ByteArray.empty = p := ⟨_, rfl⟩
      rw [hp] at hc hsm hsucc hfls
      have HS := Lib.hid hsucc
      have HF := Lib.hid hfls
      clear hp hsucc hfls
      have hb := bt_at p
      by_cases he : p.size = 0
      · have h1 := empty_true p he
        have hn : tagB s = false := by simp [tagB, HF.out (by simp [okPart, he])]
        have HN := Lib.hid hn; clear hn he
        go_wp2
        go_ret
        exact ⟨by rw [HN.out]; rfl, hB0⟩
      · have h1 := empty_false p (by omega)
        have h1' : p.toList.isEmpty = false := by simpa using h1
        go_wp2_with fail
        go_loop [19] (fun i => ∃ m : Nat, m ≤ p.size ∧ i = .int .i64 m ∧ Hid (charsOk k p m = true)) (fun i => p.size - (intOf i).toNat)
        case atStart => exact ⟨0, by omega, rfl, rfl⟩
        case round =>
          obtain ⟨m, hm2, rfl, HC⟩ := hrel
          by_cases hlt2 : m < p.size
          · have hb0 := bt_lo p m
            have hb1 := bt_hi p m
            go_wp2_with (go_at_call 100; refine (digit_c _ _).mono ?_; rintro e w' ⟨rfl, rfl⟩)
            all_goals by_cases ht : tagC k (bt p m) = true
            all_goals first
              | (go_round
                 case rel => exact ⟨m + 1, by omega, by go_num, Lib.hid (by rw [charsOk_succ, HC.out, ht]; rfl)⟩
                 case measure => simp [intOf]; omega)
              | (go_ret
                 have hn : tagB s = false := by simp [tagB, HF.out (by simp [okPart, charsOk_false k p m p.size hlt2 (by simpa using ht)])]
                 exact ⟨by rw [hn]; rfl, hB0⟩)
              | (exfalso
                 simp_all [tagC, Nat.pos_iff_ne_zero]
                 try omega)
          · obtain rfl : m = p.size := by omega
            have hok : tagPs (parts s) (k + 1) = true := by rw [HS.out, HW.out]; simp [okPart, HC.out]; omega
            have HO := Lib.hid hok; clear hok
            go_wp2
            go_round
            case rel => exact ⟨k + 1, by omega, by go_num, HO⟩
            case measure => simp [intOf]; omega
    · obtain rfl : k = (parts s).length := by omega
      go_wp2
      go_ret
      refine ⟨?_, hB0⟩
      go_light
      refine congrArg (fun b => Ending.returned (Value.bool b)) ?_
      simp [tagB, HW.out]; omega
end Go.Proofs.YtpfgjiahpddpkaaDoor
