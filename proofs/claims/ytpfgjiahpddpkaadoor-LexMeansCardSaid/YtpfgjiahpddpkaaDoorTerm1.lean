/- The walks of package term's tests of texts: letter, digit, value, blank. -/
import Derived.Test.YtpfgjiahpddpkaaDoorProg
import Derived.Test.YtpfgjiahpddpkaaDoorTermF
import Derived.Test.YtpfgjiahpddpkaaDoorValid
import Derived.Deep.Light
set_option linter.unusedVariables false
set_option linter.unusedSimpArgs false
namespace Go.Proofs.YtpfgjiahpddpkaaDoor
open Go.RowKit
theorem letter_c (c : Int) (w : World) : Calls Tryd.prog 99 #[.int .u8 c] w fun e w' => e = .returned (.bool (letterB c)) ∧ w = w' := by
  go_enter Tryd.func99, Tryd.ntmps99
  go_wp2
  all_goals (go_ret; refine ⟨?_, rfl⟩; simp [letterB, *])
  all_goals omega
theorem digit_c (c : Int) (w : World) : Calls Tryd.prog 100 #[.int .u8 c] w fun e w' => e = .returned (.bool (digitB c)) ∧ w = w' := by
  go_enter Tryd.func100, Tryd.ntmps100
  go_wp2
  all_goals (go_ret; refine ⟨?_, rfl⟩; simp [digitB, *])
  all_goals omega
theorem value_c (s : ByteArray) (hreach : s.size ≤ 140737488351232) (w : World) : Calls Tryd.prog 77 #[.string s] w fun e w' => e = .returned (.bool (valueB s)) ∧ Below w.heap.size w w' := by
  go_enter Tryd.func77, Tryd.ntmps77
  go_wp2_with (go_at_call 98; refine (valid_c s hreach _).mono ?_; rintro e w' ⟨rfl, hb⟩)
  all_goals (go_ret; refine ⟨?_, by first | exact hb | exact Below.refl _ _⟩)
  · simp [valueB]; omega
  · simp [valueB]; omega
set_option maxHeartbeats 1000000 in
theorem blank_c (s : ByteArray) (hreach : s.size ≤ 140737488351232) (w : World) : Calls Tryd.prog 75 #[.string s] w fun e w' => e = .returned (.bool (blankB s)) ∧ w = w' := by
  have hb := bt_at s
  go_enter Tryd.func75, Tryd.ntmps75
  go_wp2
  go_loop [6] (fun i => ∃ k : Nat, k ≤ s.size ∧ i = .int .i64 k ∧ Hid (wordsB s k = true)) (fun i => s.size - (intOf i).toNat)
  case atStart => exact ⟨0, by omega, rfl, rfl⟩
  case round =>
    obtain ⟨k, hk, rfl, HW⟩ := hrel
    by_cases hlt : k < s.size
    · have hc0 := bt_lo s k
      have hc1 := bt_hi s k
      go_wp2_with (first | (go_at_call 99; refine (letter_c _ _).mono ?_; rintro e w' ⟨rfl, rfl⟩) | (go_at_call 100; refine (digit_c _ _).mono ?_; rintro e w' ⟨rfl, rfl⟩))
      all_goals first
        | (go_round
           case rel => exact ⟨k + 1, by omega, by go_num, Lib.hid (by rw [wordsB_succ, HW.out]; simp_all [namedB, Nat.pos_iff_ne_zero]; done)⟩
           case measure => simp [intOf]; omega)
        | (go_ret
           refine ⟨?_, rfl⟩
           have hn : namedB k (bt s k) = false := by simp_all [namedB, Nat.pos_iff_ne_zero]; done
           rw [show blankB s = false from by simp [blankB, wordsB_false s k s.size hlt hn]]; rfl)
    · obtain rfl : k = s.size := by omega
      go_wp2
      all_goals (go_ret; refine ⟨?_, rfl⟩; have h1 := HW.out; go_light; simp only [blankB, h1, Bool.true_and]; refine congrArg (fun b => Ending.returned (Value.bool b)) ?_; rw [Bool.eq_iff_iff]; simp; omega)
end Go.Proofs.YtpfgjiahpddpkaaDoor
