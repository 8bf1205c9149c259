/- The walks of the scanner: spaces and comments. -/
import Derived.Test.YtpfgjiahpddpkaaDoorScan
import Derived.Test.YtpfgjiahpddpkaaDoorLexG
set_option linter.unusedVariables false
set_option linter.unusedSimpArgs false
namespace Go.Proofs.YtpfgjiahpddpkaaDoor
open Go.RowKit
set_option maxHeartbeats 4000000 in
theorem skip_c {b : Nat} {s : ByteArray} {i : Nat} {w : World} (h : Scan b s (i : Int) w) :
    Calls Tryd.prog 57 #[.pointer (some ⟨b, 0, none⟩)] w fun e w' => e = .returned (.tuple #[]) ∧ Scan b s (skipU s i : Nat) w' ∧ Moved b w w' := by
  have hb := bt_at s
  have hsm := h.small
  go_enter Tryd.func57, Tryd.ntmps57
  go_wp2
  go_loopg [2] (s.size + 1) (fun g v wr => ∃ k : Nat, Scan b s (k : Int) wr ∧ Moved b w wr ∧ Hid (skipU s k = skipU s i) ∧ s.size ≤ k + g)
  case atStart => exact ⟨i, h, Moved.refl _ _, Lib.hid rfl, by omega⟩
  case round =>
    obtain ⟨k, hsc, hmv, HK, hg⟩ := hrel
    have c0 := hsc.c0
    have c1 := hsc.c1
    have f1 := hsc.f1
    by_cases hlt : k < s.size
    · have hst := skipU_step s k hlt
      by_cases h35 : bt s k = 35
      · rw [if_pos h35] at hst
        have hcd := cmt_bd s k hlt
        have hcl : k < cmtEnd s k := hcd.2.2.1 (by omega)
        have hce := hcd.2.1
        have hc1 := hcd.2.2.2.1
        have hc2 := hcd.2.2.2.2
        have e35 : (bt s k == 35) = true := by simp [h35]
        have hix := fun W => indexByte_c (s.extract k s.size) 10 W
        rw [show Lib.indexByte (s.extract k s.size).data.toList (10 : Int).toNat.toUInt8 = cmtN s k from rfl] at hix
        have HIX := Lib.hid hix
        have hdef : cmtEnd s k = if 0 ≤ cmtN s k then k + (cmtN s k).toNat else s.size := rfl
        have HST := Lib.hid hst; clear hst hix hcd
        by_cases hn : 0 ≤ cmtN s k
        · rw [if_pos hn] at hdef
          have HD := Lib.hid hdef; clear hdef h35
          go_wp2_with fail
          go_quiet (fail)
          go_wp2_with fail
          go_quiet (fail)
          go_wp2_with fail
          go_quiet ((go_at_call 82; exact quiet_add_left (HIX.out _)))
          go_wp2_with fail
          go_roundg (gk - (cmtEnd s k - k))
          case measure => omega
          case rel =>
            refine ⟨cmtEnd s k, ?_, ?_, Lib.hid (by rw [← HST.out]; exact HK.out), by omega⟩
            · refine Scan.cast (i := (k : Int) + cmtN s k) ?_ (by rw [HD.out]; omega)
              repeat (first | exact hsc | apply Scan.drewN | apply Scan.set)
            · repeat (first | exact hmv | apply Moved.drewN | apply Moved.set)
        · rw [if_neg hn] at hdef
          have HD := Lib.hid hdef; clear hdef h35
          go_wp2_with fail
          go_quiet (fail)
          go_wp2_with fail
          go_quiet (fail)
          go_wp2_with fail
          go_quiet ((go_at_call 82; exact quiet_add_left (HIX.out _)))
          go_wp2_with fail
          go_roundg (gk - (cmtEnd s k - k))
          case measure => omega
          case rel =>
            refine ⟨cmtEnd s k, ?_, ?_, Lib.hid (by rw [← HST.out]; exact HK.out), by omega⟩
            · refine Scan.cast (i := (s.size : Int)) ?_ (by rw [HD.out])
              repeat (first | exact hsc | apply Scan.drewN | apply Scan.set)
            · repeat (first | exact hmv | apply Moved.drewN | apply Moved.set)
      · rw [if_neg h35] at hst
        have HST := Lib.hid hst; clear hst
        have e35 : (bt s k == 35) = false := by simp [h35]
        go_wp2_with fail
        go_quiet (fail)
        go_wp2_with fail
        go_quiet (fail)
        go_wp2_with fail
        all_goals first
          | (have hsp : spaceC (bt s k) = true := by
               first
               | (rw [show bt s k = 9 from by assumption]; rfl)
               | (rw [show bt s k = 10 from by assumption]; rfl)
               | (rw [show bt s k = 13 from by assumption]; rfl)
               | (have hq : (((bt s k == 9) = true ∨ (bt s k == 10) = true) ∨ (bt s k == 13) = true) ∨ (bt s k == 32) = true := by assumption
                  simpa only [spaceC, Bool.or_eq_true] using hq)
             go_roundg (gk - 1)
             case measure => omega
             case rel =>
               refine ⟨k + 1, ?_, ?_, Lib.hid (by have h1 := HST.out; rw [hsp, if_pos rfl] at h1; rw [← h1]; exact HK.out), by omega⟩
               · refine Scan.cast (i := (k : Int) + 1) ?_ (by omega)
                 repeat (first | exact hsc | apply Scan.drewN | apply Scan.set)
               · repeat (first | exact hmv | apply Moved.drewN | apply Moved.set))
          | (have hsp : ¬ spaceC (bt s k) = true := by
               have hq : (((bt s k == 9) = false ∧ (bt s k == 10) = false) ∧ (bt s k == 13) = false) ∧ (bt s k == 32) = false := by assumption
               rw [Bool.not_eq_true]; simpa only [spaceC, Bool.or_eq_false_iff] using hq
             refine bodyPost_ret (results_none rfl _ _ _) rfl ⟨rfl, ?_, ?_⟩
             · refine Scan.cast (i := (k : Int)) ?_ (by have h1 := HST.out; rw [if_neg hsp] at h1; rw [← HK.out, h1])
               repeat (first | exact hsc | apply Scan.drewN | apply Scan.set)
             · repeat (first | exact hmv | apply Moved.drewN | apply Moved.set))
    · rw [skipU_out s k (by omega)] at HK
      go_wp2_with fail
      go_quiet (fail)
      go_wp2
      go_end0
      exact ⟨rfl, (hsc.drewN _).cast (by rw [HK.out]), hmv.drewN _⟩
end Go.Proofs.YtpfgjiahpddpkaaDoor
