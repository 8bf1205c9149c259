/- The walks of the scanner: runs of bytes of a kind. -/
import Derived.Test.YtpfgjiahpddpkaaDoorLex4
set_option linter.unusedVariables false
set_option linter.unusedSimpArgs false
namespace Go.Proofs.YtpfgjiahpddpkaaDoor
open Go.RowKit
theorem named_c (a : Int) (i : Nat) (hi : a = (i : Int)) (c : Int) (w : World) : Calls Tryd.prog 86 #[.int .i64 a, .int .u8 c] w fun e w' => e = .returned (.bool (namedP i c)) ∧ w = w' := by
  subst hi
  go_enter Tryd.func86, Tryd.ntmps86
  go_wp2_with (first
    | (go_at_call 89; refine (lletter_c c _).mono ?_; rintro e w' ⟨rfl, rfl⟩)
    | (go_at_call 88; refine (ldigit_c c _).mono ?_; rintro e w' ⟨rfl, rfl⟩))
  all_goals (go_ret; refine ⟨?_, rfl⟩; simp [namedP, namedB, *])
theorem langp_c (a : Int) (i : Nat) (hi : a = (i : Int)) (c : Int) (w : World) : Calls Tryd.prog 87 #[.int .i64 a, .int .u8 c] w fun e w' => e = .returned (.bool (langP i c)) ∧ w = w' := by
  subst hi
  go_enter Tryd.func87, Tryd.ntmps87
  go_wp2_with (go_at_call 88; refine (ldigit_c c _).mono ?_; rintro e w' ⟨rfl, rfl⟩)
  all_goals (go_ret; refine ⟨?_, rfl⟩; simp [langP, *])
  all_goals omega
theorem wordp_c (a : Int) (i : Nat) (hi : a = (i : Int)) (c : Int) (w : World) : Calls Tryd.prog 90 #[.int .i64 a, .int .u8 c] w fun e w' => e = .returned (.bool (nameP i c)) ∧ w = w' := by
  subst hi
  go_enter Tryd.func90, Tryd.ntmps90
  go_wp2_with (first
    | (go_at_call 89; refine (lletter_c c _).mono ?_; rintro e w' ⟨rfl, rfl⟩)
    | (go_at_call 88; refine (ldigit_c c _).mono ?_; rintro e w' ⟨rfl, rfl⟩))
  all_goals (go_ret; refine ⟨?_, rfl⟩; simp [nameP, *])
/-- How a run ends. -/
def RPost (s : ByteArray) (bg i most n b : Nat) (w : World) (e : Ending) (w' : World) : Prop :=
  (n ≤ most → e = .returned (.string (s.extract i (i + n))) ∧ Scan b s ((i + n : Nat) : Int) w' ∧ Moved b w w') ∧
  (most < n → e = .panicked [wrongE bg] ∧ (∃ j : Int, Scan b s j w') ∧ Moved b w w')
theorem runN_out (s : ByteArray) (p : Nat → Int → Bool) (i f k : Nat) (h : s.size ≤ i + k) : runN s p i f k = k := by
  cases f with
  | zero => rfl
  | succ f => simp only [runN]; rw [if_neg (by omega)]
set_option maxHeartbeats 4000000 in
theorem run_named_c {b : Nat} {s : ByteArray} {i : Nat} {w : World} (h : Scan b s (i : Int) w) (bg most : Nat) (hi : i ≤ s.size) :
    Calls Tryd.prog 85 #[.pointer (some ⟨b, 0, none⟩), .int .i64 bg, .int .i64 most, .func (.func 86) #[] #[]] w (RPost s bg i most (runU s namedP i) b w) := by
  have c1 := h.c1
  have hsm := h.small
  go_enter Tryd.func85, Tryd.ntmps85
  go_upto_block 0 with fail
  go_cut [] from 14 to 49 (fun wx => ∃ m : Nat, Scan b s (m : Int) wx ∧ Moved b w wx ∧ Hid (m = i + runU s namedP i) ∧ i ≤ m ∧ m ≤ s.size)
  case first =>
    go_wp2_with fail
    go_loopg [] s.size (fun g wr => ∃ m : Nat, Scan b s (m : Int) wr ∧ Moved b w wr ∧ Hid (runN s namedP i g (m - i) = runU s namedP i) ∧ i ≤ m ∧ m ≤ s.size ∧ s.size ≤ m + g)
    case atStart => exact ⟨i, h, Moved.refl _ _, Lib.hid (by rw [Nat.sub_self]; rfl), by omega, by omega, by omega⟩
    case round =>
      clear c1
      obtain ⟨m, hsc, hmv, HK, him, hms, hg⟩ := hrel
      have c0 := hsc.c0
      have c1 := hsc.c1
      have f1 := hsc.f1
      have hb := bt_at s
      by_cases hlt : m < s.size
      · obtain ⟨g, rfl⟩ : ∃ g, gk = g + 1 := ⟨gk - 1, by omega⟩
        have hst : runU s namedP i = if namedP (m - i) (bt s m) = true then runN s namedP i g (m - i + 1) else m - i := by
          rw [← HK.out]; simp only [runN]; rw [show i + (m - i) = m from by omega]; by_cases hp : namedP (m - i) (bt s m) = true
          · rw [if_pos ⟨hlt, hp⟩, if_pos hp]
          · rw [if_neg (fun h => hp h.2), if_neg hp]
        have HST := Lib.hid hst; clear hst
        have dlt : decide ((m : Int) < (s.size : Int)) = true := by simp; omega
        have dln : decide (m < s.size) = true := by simp; omega
        have hca := fun W => named_c (IntKind.i64.wrap ((m : Int) - (i : Int))) (m - i) (by rw [IntKind.wrap_i64]; omega) (bt s m) W
        cases hp : namedP (m - i) (bt s m) with
        | true =>
          rw [hp] at hca
          have HCA := Lib.hid hca; clear hca
          have HP := Lib.hid hp; clear hp
          go_wp2_with fail
          refine wp_region_quiet_lit (by kernel_rfl) (by kernel_rfl) ?_
          repeat (quiet_step (fail))
          quiet_step ((refine Calls.mono (HCA.out _) ?_; rintro _ _ ⟨rfl, rfl⟩; exact ⟨rfl, _, rfl⟩))
          repeat (quiet_step (fail))
          refine wpQuiet_nil ?_
          intro _ hw1
          obtain ⟨nq, hw2⟩ := hw1
          subst hw2
          go_wp2_with fail
          go_roundg g
          case measure => omega
          case rel => exact ⟨m + 1, ((hsc.drewN _).set _).cast (by omega), (hmv.drewN _).set _ _, Lib.hid (by have h1 := HST.out; rw [HP.out, if_pos rfl] at h1; rw [show m + 1 - i = m - i + 1 from by omega]; exact h1.symm), by omega, by omega, by omega⟩
        | false =>
          rw [hp] at hca
          have HCA := Lib.hid hca; clear hca
          have HP := Lib.hid hp; clear hp
          go_wp2_with fail
          refine wp_region_quiet_lit (by kernel_rfl) (by kernel_rfl) ?_
          repeat (quiet_step (fail))
          quiet_step ((refine Calls.mono (HCA.out _) ?_; rintro _ _ ⟨rfl, rfl⟩; exact ⟨rfl, _, rfl⟩))
          repeat (quiet_step (fail))
          refine wpQuiet_nil ?_
          intro _ hw1
          obtain ⟨nq, hw2⟩ := hw1
          subst hw2
          go_wp2_with fail
          go_meet
          exact ⟨m, hsc.drewN _, hmv.drewN _, Lib.hid (by have h1 := HST.out; rw [HP.out, if_neg (by simp)] at h1; omega), by omega, by omega⟩
      · have dlt : decide ((m : Int) < (s.size : Int)) = false := by simp; omega
        have dln : decide (m < s.size) = false := by simp; omega
        have HM := Lib.hid (runN_out s namedP i gk (m - i) (by omega))
        go_wp2_with fail
        go_quiet (fail)
        go_wp2_with fail
        go_meet
        exact ⟨m, hsc.drewN _, hmv.drewN _, Lib.hid (by have h1 := HK.out; rw [HM.out] at h1; omega), by omega, by omega⟩
  case rest =>
    clear c1
    obtain ⟨m, hsc, hmv, HK, him, hms⟩ := hcut
    have c0 := hsc.c0
    have c1 := hsc.c1
    have hm := HK.out
    by_cases hle : m - i ≤ most
    · have HK2 := Lib.hid hm; clear hm
      have dg : decide ((most : Int) < (m : Int) - (i : Int)) = false := by simp; omega
      go_wp2_with fail
      go_quiet (fail)
      go_wp2
      go_ret
      refine ⟨fun _ => ⟨?_, ?_, hmv.drewN _⟩, fun hc => ?_⟩
      · rw [← HK2.out]; rfl
      · rw [← HK2.out]; exact hsc.drewN _
      · have := HK2.out; omega
    · have HK2 := Lib.hid hm; clear hm
      have dg : decide ((most : Int) < (m : Int) - (i : Int)) = true := by simp; omega
      go_wp2_with (go_at_call 65; refine (fail_c _ _ _).mono ?_; rintro e w' ⟨rfl, rfl⟩)
      exact ⟨rfl, fun hc => (by have := HK2.out; omega), fun _ => ⟨rfl, ⟨_, hsc⟩, hmv⟩⟩
set_option maxHeartbeats 4000000 in
theorem run_lang_c {b : Nat} {s : ByteArray} {i : Nat} {w : World} (h : Scan b s (i : Int) w) (bg most : Nat) (hi : i ≤ s.size) :
    Calls Tryd.prog 85 #[.pointer (some ⟨b, 0, none⟩), .int .i64 bg, .int .i64 most, .func (.func 87) #[] #[]] w (RPost s bg i most (runU s langP i) b w) := by
  have c1 := h.c1
  have hsm := h.small
  go_enter Tryd.func85, Tryd.ntmps85
  go_upto_block 0 with fail
  go_cut [] from 14 to 49 (fun wx => ∃ m : Nat, Scan b s (m : Int) wx ∧ Moved b w wx ∧ Hid (m = i + runU s langP i) ∧ i ≤ m ∧ m ≤ s.size)
  case first =>
    go_wp2_with fail
    go_loopg [] s.size (fun g wr => ∃ m : Nat, Scan b s (m : Int) wr ∧ Moved b w wr ∧ Hid (runN s langP i g (m - i) = runU s langP i) ∧ i ≤ m ∧ m ≤ s.size ∧ s.size ≤ m + g)
    case atStart => exact ⟨i, h, Moved.refl _ _, Lib.hid (by rw [Nat.sub_self]; rfl), by omega, by omega, by omega⟩
    case round =>
      clear c1
      obtain ⟨m, hsc, hmv, HK, him, hms, hg⟩ := hrel
      have c0 := hsc.c0
      have c1 := hsc.c1
      have f1 := hsc.f1
      have hb := bt_at s
      by_cases hlt : m < s.size
      · obtain ⟨g, rfl⟩ : ∃ g, gk = g + 1 := ⟨gk - 1, by omega⟩
        have hst : runU s langP i = if langP (m - i) (bt s m) = true then runN s langP i g (m - i + 1) else m - i := by
          rw [← HK.out]; simp only [runN]; rw [show i + (m - i) = m from by omega]; by_cases hp : langP (m - i) (bt s m) = true
          · rw [if_pos ⟨hlt, hp⟩, if_pos hp]
          · rw [if_neg (fun h => hp h.2), if_neg hp]
        have HST := Lib.hid hst; clear hst
        have dlt : decide ((m : Int) < (s.size : Int)) = true := by simp; omega
        have dln : decide (m < s.size) = true := by simp; omega
        have hca := fun W => langp_c (IntKind.i64.wrap ((m : Int) - (i : Int))) (m - i) (by rw [IntKind.wrap_i64]; omega) (bt s m) W
        cases hp : langP (m - i) (bt s m) with
        | true =>
          rw [hp] at hca
          have HCA := Lib.hid hca; clear hca
          have HP := Lib.hid hp; clear hp
          go_wp2_with fail
          refine wp_region_quiet_lit (by kernel_rfl) (by kernel_rfl) ?_
          repeat (quiet_step (fail))
          quiet_step ((refine Calls.mono (HCA.out _) ?_; rintro _ _ ⟨rfl, rfl⟩; exact ⟨rfl, _, rfl⟩))
          repeat (quiet_step (fail))
          refine wpQuiet_nil ?_
          intro _ hw1
          obtain ⟨nq, hw2⟩ := hw1
          subst hw2
          go_wp2_with fail
          go_roundg g
          case measure => omega
          case rel => exact ⟨m + 1, ((hsc.drewN _).set _).cast (by omega), (hmv.drewN _).set _ _, Lib.hid (by have h1 := HST.out; rw [HP.out, if_pos rfl] at h1; rw [show m + 1 - i = m - i + 1 from by omega]; exact h1.symm), by omega, by omega, by omega⟩
        | false =>
          rw [hp] at hca
          have HCA := Lib.hid hca; clear hca
          have HP := Lib.hid hp; clear hp
          go_wp2_with fail
          refine wp_region_quiet_lit (by kernel_rfl) (by kernel_rfl) ?_
          repeat (quiet_step (fail))
          quiet_step ((refine Calls.mono (HCA.out _) ?_; rintro _ _ ⟨rfl, rfl⟩; exact ⟨rfl, _, rfl⟩))
          repeat (quiet_step (fail))
          refine wpQuiet_nil ?_
          intro _ hw1
          obtain ⟨nq, hw2⟩ := hw1
          subst hw2
          go_wp2_with fail
          go_meet
          exact ⟨m, hsc.drewN _, hmv.drewN _, Lib.hid (by have h1 := HST.out; rw [HP.out, if_neg (by simp)] at h1; omega), by omega, by omega⟩
      · have dlt : decide ((m : Int) < (s.size : Int)) = false := by simp; omega
        have dln : decide (m < s.size) = false := by simp; omega
        have HM := Lib.hid (runN_out s langP i gk (m - i) (by omega))
        go_wp2_with fail
        go_quiet (fail)
        go_wp2_with fail
        go_meet
        exact ⟨m, hsc.drewN _, hmv.drewN _, Lib.hid (by have h1 := HK.out; rw [HM.out] at h1; omega), by omega, by omega⟩
  case rest =>
    clear c1
    obtain ⟨m, hsc, hmv, HK, him, hms⟩ := hcut
    have c0 := hsc.c0
    have c1 := hsc.c1
    have hm := HK.out
    by_cases hle : m - i ≤ most
    · have HK2 := Lib.hid hm; clear hm
      have dg : decide ((most : Int) < (m : Int) - (i : Int)) = false := by simp; omega
      go_wp2_with fail
      go_quiet (fail)
      go_wp2
      go_ret
      refine ⟨fun _ => ⟨?_, ?_, hmv.drewN _⟩, fun hc => ?_⟩
      · rw [← HK2.out]; rfl
      · rw [← HK2.out]; exact hsc.drewN _
      · have := HK2.out; omega
    · have HK2 := Lib.hid hm; clear hm
      have dg : decide ((most : Int) < (m : Int) - (i : Int)) = true := by simp; omega
      go_wp2_with (go_at_call 65; refine (fail_c _ _ _).mono ?_; rintro e w' ⟨rfl, rfl⟩)
      exact ⟨rfl, fun hc => (by have := HK2.out; omega), fun _ => ⟨rfl, ⟨_, hsc⟩, hmv⟩⟩
set_option maxHeartbeats 4000000 in
theorem run_word_c {b : Nat} {s : ByteArray} {i : Nat} {w : World} (h : Scan b s (i : Int) w) (bg most : Nat) (hi : i ≤ s.size) :
    Calls Tryd.prog 85 #[.pointer (some ⟨b, 0, none⟩), .int .i64 bg, .int .i64 most, .func (.func 90) #[] #[]] w (RPost s bg i most (runU s nameP i) b w) := by
  have c1 := h.c1
  have hsm := h.small
  go_enter Tryd.func85, Tryd.ntmps85
  go_upto_block 0 with fail
  go_cut [] from 14 to 49 (fun wx => ∃ m : Nat, Scan b s (m : Int) wx ∧ Moved b w wx ∧ Hid (m = i + runU s nameP i) ∧ i ≤ m ∧ m ≤ s.size)
  case first =>
    go_wp2_with fail
    go_loopg [] s.size (fun g wr => ∃ m : Nat, Scan b s (m : Int) wr ∧ Moved b w wr ∧ Hid (runN s nameP i g (m - i) = runU s nameP i) ∧ i ≤ m ∧ m ≤ s.size ∧ s.size ≤ m + g)
    case atStart => exact ⟨i, h, Moved.refl _ _, Lib.hid (by rw [Nat.sub_self]; rfl), by omega, by omega, by omega⟩
    case round =>
      clear c1
      obtain ⟨m, hsc, hmv, HK, him, hms, hg⟩ := hrel
      have c0 := hsc.c0
      have c1 := hsc.c1
      have f1 := hsc.f1
      have hb := bt_at s
      by_cases hlt : m < s.size
      · obtain ⟨g, rfl⟩ : ∃ g, gk = g + 1 := ⟨gk - 1, by omega⟩
        have hst : runU s nameP i = if nameP (m - i) (bt s m) = true then runN s nameP i g (m - i + 1) else m - i := by
          rw [← HK.out]; simp only [runN]; rw [show i + (m - i) = m from by omega]; by_cases hp : nameP (m - i) (bt s m) = true
          · rw [if_pos ⟨hlt, hp⟩, if_pos hp]
          · rw [if_neg (fun h => hp h.2), if_neg hp]
        have HST := Lib.hid hst; clear hst
        have dlt : decide ((m : Int) < (s.size : Int)) = true := by simp; omega
        have dln : decide (m < s.size) = true := by simp; omega
        have hca := fun W => wordp_c (IntKind.i64.wrap ((m : Int) - (i : Int))) (m - i) (by rw [IntKind.wrap_i64]; omega) (bt s m) W
        cases hp : nameP (m - i) (bt s m) with
        | true =>
          rw [hp] at hca
          have HCA := Lib.hid hca; clear hca
          have HP := Lib.hid hp; clear hp
          go_wp2_with fail
          refine wp_region_quiet_lit (by kernel_rfl) (by kernel_rfl) ?_
          repeat (quiet_step (fail))
          quiet_step ((refine Calls.mono (HCA.out _) ?_; rintro _ _ ⟨rfl, rfl⟩; exact ⟨rfl, _, rfl⟩))
          repeat (quiet_step (fail))
          refine wpQuiet_nil ?_
          intro _ hw1
          obtain ⟨nq, hw2⟩ := hw1
          subst hw2
          go_wp2_with fail
          go_roundg g
          case measure => omega
          case rel => exact ⟨m + 1, ((hsc.drewN _).set _).cast (by omega), (hmv.drewN _).set _ _, Lib.hid (by have h1 := HST.out; rw [HP.out, if_pos rfl] at h1; rw [show m + 1 - i = m - i + 1 from by omega]; exact h1.symm), by omega, by omega, by omega⟩
        | false =>
          rw [hp] at hca
          have HCA := Lib.hid hca; clear hca
          have HP := Lib.hid hp; clear hp
          go_wp2_with fail
          refine wp_region_quiet_lit (by kernel_rfl) (by kernel_rfl) ?_
          repeat (quiet_step (fail))
          quiet_step ((refine Calls.mono (HCA.out _) ?_; rintro _ _ ⟨rfl, rfl⟩; exact ⟨rfl, _, rfl⟩))
          repeat (quiet_step (fail))
          refine wpQuiet_nil ?_
          intro _ hw1
          obtain ⟨nq, hw2⟩ := hw1
          subst hw2
          go_wp2_with fail
          go_meet
          exact ⟨m, hsc.drewN _, hmv.drewN _, Lib.hid (by have h1 := HST.out; rw [HP.out, if_neg (by simp)] at h1; omega), by omega, by omega⟩
      · have dlt : decide ((m : Int) < (s.size : Int)) = false := by simp; omega
        have dln : decide (m < s.size) = false := by simp; omega
        have HM := Lib.hid (runN_out s nameP i gk (m - i) (by omega))
        go_wp2_with fail
        go_quiet (fail)
        go_wp2_with fail
        go_meet
        exact ⟨m, hsc.drewN _, hmv.drewN _, Lib.hid (by have h1 := HK.out; rw [HM.out] at h1; omega), by omega, by omega⟩
  case rest =>
    clear c1
    obtain ⟨m, hsc, hmv, HK, him, hms⟩ := hcut
    have c0 := hsc.c0
    have c1 := hsc.c1
    have hm := HK.out
    by_cases hle : m - i ≤ most
    · have HK2 := Lib.hid hm; clear hm
      have dg : decide ((most : Int) < (m : Int) - (i : Int)) = false := by simp; omega
      go_wp2_with fail
      go_quiet (fail)
      go_wp2
      go_ret
      refine ⟨fun _ => ⟨?_, ?_, hmv.drewN _⟩, fun hc => ?_⟩
      · rw [← HK2.out]; rfl
      · rw [← HK2.out]; exact hsc.drewN _
      · have := HK2.out; omega
    · have HK2 := Lib.hid hm; clear hm
      have dg : decide ((most : Int) < (m : Int) - (i : Int)) = true := by simp; omega
      go_wp2_with (go_at_call 65; refine (fail_c _ _ _).mono ?_; rintro e w' ⟨rfl, rfl⟩)
      exact ⟨rfl, fun hc => (by have := HK2.out; omega), fun _ => ⟨rfl, ⟨_, hsc⟩, hmv⟩⟩
end Go.Proofs.YtpfgjiahpddpkaaDoor
