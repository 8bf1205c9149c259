/- The walks of the scanner: digits of a rune; utf.Put; what stands behind a backslash. -/
import Derived.Test.YtpfgjiahpddpkaaDoorLex1
set_option linter.unusedVariables false
set_option linter.unusedSimpArgs false
namespace Go.Proofs.YtpfgjiahpddpkaaDoor
open Go.RowKit
theorem hexV_bd (c : Int) : hexV c < 16 := by unfold hexV; (repeat' split) <;> omega
theorem hexV_dig (c : Int) (h : digitB c = true) : (c - 48) % 256 = hexV c ∧ 0 ≤ hexV c := by
  simp [digitB] at h; unfold hexV; rw [if_pos (by omega)]; omega
theorem hexV_up (c : Int) (h0 : 65 ≤ c) (h1 : c ≤ 70) : c - 65 + 10 = hexV c ∧ 0 ≤ hexV c := by
  unfold hexV; rw [if_neg (by omega), if_pos (by omega)]; omega
theorem hexV_lo (c : Int) (h0 : 97 ≤ c) (h1 : c ≤ 102) : c - 97 + 10 = hexV c ∧ 0 ≤ hexV c := by
  unfold hexV; rw [if_neg (by omega), if_neg (by omega), if_pos (by omega)]; omega
theorem hexV_no (c : Int) (h : digitB c = false) (h1 : c < 65 ∨ 70 < c) (h2 : c < 97 ∨ 102 < c) : hexV c < 0 := by
  simp [digitB] at h; unfold hexV; rw [if_neg (by omega), if_neg (by omega), if_neg (by omega)]; omega
set_option maxHeartbeats 4000000 in
theorem digits_c {b : Nat} {s : ByteArray} {i : Nat} {w : World} (h : Scan b s (i : Int) w) (n : Nat) (hn : n ≤ 8) (hi : i ≤ 2100000000) :
    Calls Tryd.prog 110 #[.pointer (some ⟨b, 0, none⟩), .int .i64 n] w fun e w' => e = .returned (.int .i64 (digitsF s n i 0).1) ∧ Scan b s ((digitsF s n i 0).2 : Nat) w' ∧ Moved b w w' := by
  have hsm := h.small
  go_enter Tryd.func110, Tryd.ntmps110
  go_wp2
  go_loopw [5, 8] (fun v c wr => ∃ (m k : Nat) (r : Int), m ≤ n ∧ c = .int .i64 m ∧ v = .int .i64 r ∧ 0 ≤ r ∧ r < 16 ^ m ∧ k ≤ i + m ∧ Scan b s (k : Int) wr ∧ Moved b w wr ∧ Hid (digitsF s (n - m) k r = digitsF s n i 0)) (fun v c wr => n - (intOf c).toNat)
  case atStart => exact ⟨0, i, 0, by omega, rfl, rfl, by omega, by omega, by omega, h, Moved.refl _ _, Lib.hid rfl⟩
  case round =>
    obtain ⟨m, k, r, hm, rfl, rfl, h0, h1, hk, hsc, hmv, HK⟩ := hrel
    have c1 := hsc.c1
    have f1 := hsc.f1
    by_cases hlt : m < n
    · obtain ⟨d, hd⟩ : ∃ d, n - m = d + 1 := ⟨n - m - 1, by omega⟩
      have hd2 : n - (m + 1) = d := by omega
      have HD := Lib.hid hd2
      have hst : digitsF s n i 0 = if hexV (bt s k) < 0 then (-1, k) else digitsF s d (k+1) (r * 16 + hexV (bt s k)) := by rw [← HK.out, hd]; rfl
      have HST := Lib.hid hst; clear hst hd hd2
      have hr : r < 16 ^ 8 := Int.lt_of_lt_of_le h1 (by
        have : (16 : Int) ^ m ≤ 16 ^ 8 := by exact_mod_cast Nat.pow_le_pow_right (n := 16) (by omega) (by omega)
        exact this)
      have hlo := bt_lo s k
      have hhi := bt_hi s k
      have hor := fun (x : Int) (a : 0 ≤ x) (b : x < 16) => or16 r x h0 (by omega) a b
      have HOR := Lib.hid hor; clear hor
      go_wp2_with (first
        | (go_at_call 83; refine (ch_c hsc _ k rfl).mono ?_; rintro e w' ⟨rfl, rfl⟩)
        | (go_at_call 88; refine (ldigit_c _ _).mono ?_; rintro e w' ⟨rfl, rfl⟩))
      · have hv := hexV_dig (bt s k) (by assumption)
        have hx := hexV_bd (bt s k)
        have hst := HST.out
        rw [if_neg (by omega)] at hst
        go_roundw
        case rel =>
          refine ⟨m + 1, k + 1, r * 16 + hexV (bt s k), by omega, by go_num, ?_, by omega, ?_, by omega, ?_, hmv.set _ _, Lib.hid (by rw [HD.out]; exact hst.symm)⟩
          · rw [hv.1, HOR.out _ hv.2 hx]
          · rw [Int.pow_succ]; omega
          · exact (hsc.set _).cast (by omega)
        case measure => simp [intOf]; omega
      · have hv := hexV_up (bt s k) (by assumption) (by assumption)
        have hx := hexV_bd (bt s k)
        have hst := HST.out
        rw [if_neg (by omega)] at hst
        go_roundw
        case rel =>
          refine ⟨m + 1, k + 1, r * 16 + hexV (bt s k), by omega, by go_num, ?_, by omega, ?_, by omega, ?_, hmv.set _ _, Lib.hid (by rw [HD.out]; exact hst.symm)⟩
          · rw [hv.1, HOR.out _ hv.2 hx]
          · rw [Int.pow_succ]; omega
          · exact (hsc.set _).cast (by omega)
        case measure => simp [intOf]; omega
      · have hv := hexV_lo (bt s k) (by assumption) (by assumption)
        have hx := hexV_bd (bt s k)
        have hst := HST.out
        rw [if_neg (by omega)] at hst
        go_roundw
        case rel =>
          refine ⟨m + 1, k + 1, r * 16 + hexV (bt s k), by omega, by go_num, ?_, by omega, ?_, by omega, ?_, hmv.set _ _, Lib.hid (by rw [HD.out]; exact hst.symm)⟩
          · rw [hv.1, HOR.out _ hv.2 hx]
          · rw [Int.pow_succ]; omega
          · exact (hsc.set _).cast (by omega)
        case measure => simp [intOf]; omega
      all_goals
        have hneg : hexV (bt s k) < 0 := hexV_no (bt s k) (by assumption) (by omega) (by omega)
        have hst := HST.out
        rw [if_pos hneg] at hst
        go_ret
        refine ⟨by rw [hst]; rfl, hsc.cast (by rw [hst]), hmv⟩
    · obtain rfl : m = n := by omega
      have hst : digitsF s m i 0 = (r, k) := by rw [← HK.out, Nat.sub_self]; rfl
      have HST := Lib.hid hst; clear hst
      go_wp2
      go_ret
      exact ⟨by rw [HST.out]; rfl, hsc.cast (by rw [HST.out]), hmv⟩
end Go.Proofs.YtpfgjiahpddpkaaDoor
