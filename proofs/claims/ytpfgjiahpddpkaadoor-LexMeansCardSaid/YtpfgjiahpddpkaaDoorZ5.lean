/- The walk of the reference of layer 2: tag. -/
import Derived.Test.YtpfgjiahpddpkaaDoorZ4
set_option linter.unusedVariables false
set_option linter.unusedSimpArgs false
namespace Go.Proofs.YtpfgjiahpddpkaaDoor
open Go.RowKit
set_option maxHeartbeats 4000000 in
theorem rtag_e (s : ByteArray) (hs : s.size ≤ 2000000000) (w : World) : Calls Tryd.prog 35 #[.string s] w fun e w' => e = .returned (.bool (rtagB s)) ∧ w = w' := by
  have hb := bt_at s
  by_cases h1 : s.size < 1
  · have hr : rtagB s = false := by unfold rtagB; rw [decide_eq_false (show ¬ 1 ≤ s.size by omega)]; rfl
    have HR := Lib.hid hr; clear hr
    have d1 : decide ((s.size : Int) < 1) = true := by simp; omega
    go_enter Tryd.func35, Tryd.ntmps35
    go_wp2
    go_ret
    exact ⟨by rw [HR.out]; rfl, rfl⟩
  · have d1 : decide ((s.size : Int) < 1) = false := by simp; omega
    have hp : 0 < s.size := by omega
    by_cases h2 : 35 < s.size
    · have hr : rtagB s = false := by unfold rtagB; rw [decide_eq_false (show ¬ s.size ≤ 35 by omega)]; simp
      have HR := Lib.hid hr; clear hr
      have d2 : decide ((35 : Int) < (s.size : Int)) = true := by simp; omega
      go_enter Tryd.func35, Tryd.ntmps35
      go_wp2
      go_ret
      exact ⟨by rw [HR.out]; rfl, rfl⟩
    · have d2 : decide ((35 : Int) < (s.size : Int)) = false := by simp; omega
      have z1 : ((s.size : Int) - 1).toNat = s.size - 1 := by omega
      have z2 : (0 : Int) ≤ (s.size : Int) - 1 := by omega
      have z3 : s.size - 1 < s.size := by omega
      have z4 : ((s.size : Int) - 1) < (s.size : Int) := by omega
      cases q0 : (bt s 0 == 45) with
      | true =>
        have hr : rtagB s = false := by unfold rtagB; rw [q0]; simp
        have HR := Lib.hid hr; clear hr
        go_enter Tryd.func35, Tryd.ntmps35
        go_wp2
        go_ret
        exact ⟨by rw [HR.out]; rfl, rfl⟩
      | false =>
        cases q1 : (bt s (s.size - 1) == 45) with
        | true =>
          have hr : rtagB s = false := by unfold rtagB; rw [q1]; simp
          have HR := Lib.hid hr; clear hr
          go_enter Tryd.func35, Tryd.ntmps35
          go_wp2
          go_ret
          exact ⟨by rw [HR.out]; rfl, rfl⟩
        | false =>
          have hr : rtagB s = rtagN s s.size 0 true := by unfold rtagB; rw [q0, q1, decide_eq_true (show 1 ≤ s.size by omega), decide_eq_true (show s.size ≤ 35 by omega)]; rfl
          have HR := Lib.hid hr; clear hr
          go_enter Tryd.func35, Tryd.ntmps35
          go_wp2
          clear z1 z2 z3 z4 q1
          go_loopg [3, 4] (s.size + 1) (fun g u v wr => ∃ (i : Nat) (b : Bool), i ≤ s.size ∧ s.size + 1 ≤ i + g ∧ u = .bool b ∧ v = .int .i64 i ∧ w = wr ∧ Hid (rtagN s s.size i b = rtagB s))
          case atStart => exact ⟨0, true, by omega, by omega, rfl, rfl, rfl, Lib.hid HR.out.symm⟩
          case round =>
            obtain ⟨i, b, hi, hg, rfl, rfl, rfl, HK⟩ := hrel
            obtain ⟨G, rfl⟩ : ∃ G, gk = G + 1 := ⟨gk - 1, by omega⟩
            by_cases hlt : i < s.size
            · have hst := rtagN_step s i b hlt
              rw [HK.out] at hst
              have h2c := fun W => rdigit_c (bt s i) W
              by_cases e0 : bt s i = 45
              · have hi1 : 1 ≤ i := by
                  rcases Nat.eq_zero_or_pos i with hz | hz
                  · subst hz; rw [e0] at q0; cases q0
                  · exact hz
                have z1 : ((i : Int) - 1).toNat = i - 1 := by omega
                have z2 : (0 : Int) ≤ (i : Int) - 1 := by omega
                have z3 : i - 1 < s.size := by omega
                have z4 : ((i : Int) - 1) < (s.size : Int) := by omega
                have e45 : (bt s i == 45) = true := by simp [e0]
                have r9 : bt s i < 97 := by omega
                rw [if_pos e0] at hst
                clear e0
                cases e1 : (bt s (i - 1) == 45) with
                | true =>
                  rw [if_pos (by simpa using e1)] at hst
                  have HS := Lib.hid hst; clear hst h2c
                  go_wp2
                  go_ret
                  exact ⟨by rw [HS.out]; rfl, rfl⟩
                | false =>
                  rw [if_neg (by simpa using e1)] at hst
                  have HS := Lib.hid hst; clear hst h2c
                  go_wp2
                  go_roundg G
                  case measure => omega
                  case rel => exact ⟨i + 1, false, by omega, by omega, rfl, by go_num, rfl, Lib.hid HS.out.symm⟩
              · have e45 : (bt s i == 45) = false := by simp [e0]
                rw [if_neg e0] at hst
                have hsm : smallC (bt s i) = (decide (97 ≤ bt s i) && decide (bt s i ≤ 122)) := rfl
                clear e0
                by_cases r1 : 97 ≤ bt s i ∧ bt s i ≤ 122
                · have hsmt : smallC (bt s i) = true := by rw [hsm]; simp; omega
                  rw [hsmt] at hst
                  have HS := Lib.hid (show rtagB s = rtagN s s.size (i+1) b from hst); clear hst h2c hsm hsmt
                  obtain ⟨r2, r3⟩ := r1
                  go_wp2
                  go_roundg G
                  case measure => omega
                  case rel => exact ⟨i + 1, b, by omega, by omega, rfl, by go_num, rfl, Lib.hid HS.out.symm⟩
                · have hsmf : smallC (bt s i) = false := by
                    rw [hsm]
                    by_cases r2 : 97 ≤ bt s i
                    · rw [decide_eq_false (show ¬ bt s i ≤ 122 by omega)]; simp
                    · rw [decide_eq_false r2]; rfl
                  rw [hsmf] at hst
                  clear hsm hsmf
                  cases b with
                  | true =>
                    have HS := Lib.hid (show rtagB s = false from hst); clear hst h2c
                    by_cases r2 : 97 ≤ bt s i
                    · have r3 : decide (bt s i ≤ 122) = false := by simp; omega
                      clear r1
                      go_wp2
                      go_ret
                      exact ⟨by rw [HS.out]; rfl, rfl⟩
                    · have r3 : bt s i < 97 := by omega
                      clear r1 r2
                      go_wp2
                      go_ret
                      exact ⟨by rw [HS.out]; rfl, rfl⟩
                  | false =>
                    cases e2 : digitB (bt s i) with
                    | true =>
                      rw [e2] at h2c hst
                      have H2 := Lib.hid h2c
                      have HS := Lib.hid (show rtagB s = rtagN s s.size (i+1) false from hst); clear hst h2c e2
                      by_cases r2 : 97 ≤ bt s i
                      · have r3 : decide (bt s i ≤ 122) = false := by simp; omega
                        clear r1
                        go_wp2_with (go_at_call 50; refine (H2.out _).mono ?_; rintro e w1 ⟨rfl, rfl⟩)
                        go_roundg G
                        case measure => omega
                        case rel => exact ⟨i + 1, false, by omega, by omega, rfl, by go_num, rfl, Lib.hid HS.out.symm⟩
                      · have r3 : bt s i < 97 := by omega
                        clear r1 r2
                        go_wp2_with (go_at_call 50; refine (H2.out _).mono ?_; rintro e w1 ⟨rfl, rfl⟩)
                        go_roundg G
                        case measure => omega
                        case rel => exact ⟨i + 1, false, by omega, by omega, rfl, by go_num, rfl, Lib.hid HS.out.symm⟩
                    | false =>
                      rw [e2] at h2c hst
                      have H2 := Lib.hid h2c
                      have HS := Lib.hid (show rtagB s = false from hst); clear hst h2c e2
                      by_cases r2 : 97 ≤ bt s i
                      · have r3 : decide (bt s i ≤ 122) = false := by simp; omega
                        clear r1
                        go_wp2_with (go_at_call 50; refine (H2.out _).mono ?_; rintro e w1 ⟨rfl, rfl⟩)
                        go_ret
                        exact ⟨by rw [HS.out]; rfl, rfl⟩
                      · have r3 : bt s i < 97 := by omega
                        clear r1 r2
                        go_wp2_with (go_at_call 50; refine (H2.out _).mono ?_; rintro e w1 ⟨rfl, rfl⟩)
                        go_ret
                        exact ⟨by rw [HS.out]; rfl, rfl⟩
            · obtain rfl : i = s.size := by omega
              have HE := Lib.hid (HK.out.symm.trans (rtagN_end s b))
              go_wp2
              go_ret
              exact ⟨by rw [HE.out]; rfl, rfl⟩
end Go.Proofs.YtpfgjiahpddpkaaDoor
