/- The walks of package utf: each function computes the plain function of XUtfF. -/
import Derived.Test.YtpfgjiahpddpkaaDoorProg
import Derived.Test.YtpfgjiahpddpkaaDoorUtfF
import Derived.WalkMore
import Derived.ScopeJumps
set_option linter.unusedVariables false
set_option linter.unusedSimpArgs false
namespace Go.Proofs.YtpfgjiahpddpkaaDoor
open Go.RowKit
theorem may_c (r : Int) (w : World) : Calls Tryd.prog 55 #[.int .i64 r] w fun e w' => e = .returned (.bool (mayB r)) ∧ w = w' := by
  go_enter Tryd.func55, Tryd.ntmps55
  go_wp2
  all_goals (go_ret; refine ⟨?_, rfl⟩; simp [mayB, *])
  all_goals omega
theorem size_c (r : Int) (w : World) : Calls Tryd.prog 56 #[.int .i64 r] w fun e w' => e = .returned (.int .i64 (sizeI r)) ∧ w = w' := by
  unfold sizeI
  go_enter Tryd.func56, Tryd.ntmps56
  go_wp2
  all_goals (go_ret; exact ⟨rfl, rfl⟩)
theorem head_c (c : Int) (w : World) (h0 : 0 ≤ c) (h1 : c < 256) : Calls Tryd.prog 81 #[.int .u8 c] w fun e w' => e = .returned (.tuple #[.int .i64 (headU c).1, .int .i64 (headU c).2]) ∧ w = w' := by
  go_enter Tryd.func81, Tryd.ntmps81
  go_wp2
  all_goals (go_ret2; refine ⟨?_, rfl⟩; unfold headU; (repeat' split) <;> first | (exfalso; omega) | rfl)
/-- Where a jump to a label behind which all is known comes to. -/
def AtNone (n : Nat) (p : Prop) (w : World) (a' : Act) (w' : World) : Prop := w' = w ∧ ∃ t : Array Value, a' = { tmps := t, defers := [] } ∧ t.size = n ∧ p
theorem AtNone.mk {n : Nat} {p : Prop} {w : World} {t : Array Value} (h : t.size = n) (hp : p) : AtNone n p w { tmps := t, defers := [] } w := ⟨rfl, t, rfl, h, hp⟩
theorem get_pass {s : ByteArray} {w : World} {t : Array Value} (ht : t.size = 56) (hU : getU s = (0, 0, 4)) (R : Ending → World → Prop) (hR : R (.returned (tri (getU s))) w) :
    bodyPost Tryd.prog Tryd.f54 R Exit.ret { tmps := ((t.setIfInBounds 2 (.int .i64 0)).setIfInBounds 3 (.int .i64 0)).setIfInBounds 4 (.int .i64 4), defers := [] } w := by
  refine bodyPost_ret (v := tri (getU s)) ?_ rfl hR
  rw [hU]
  simp [results, Tryd.results54, go_sem, tri, Array.getD, ht]
set_option maxHeartbeats 1000000 in
theorem get_c (s : ByteArray) (w : World) (h : s.size ≤ 140737488351232) : Calls Tryd.prog 54 #[.string s] w fun e w' => e = .returned (tri (getU s)) ∧ w = w' := by
  have hb := bt_at s
  by_cases h0 : s.size = 0
  · have h1 := empty_true s h0
    have hU : getU s = (0,0,4) := by simp [getU, h0]
    have HU := Lib.hid hU; clear hU
    clear h0
    go_enter Tryd.func54, Tryd.ntmps54
    go_wp2_with fail
    refine wp_scope_jumps 0 (AtNone 56 True w) (fun _ _ => 0) rfl ?_ ?_
    · go_wp2_with fail
      go_step3
      refine ⟨rfl, AtNone.mk ?_ trivial⟩; rfl
    · rintro a w' ⟨rfl, t, rfl, ht, HU2⟩
      go_wp2
      simp only [Exit.jump]
      refine get_pass ht HU.out _ ?_
      exact ⟨rfl, rfl⟩
  have h2 : 0 < s.size := by omega
  have h1 := empty_false s h2
  have hbd := headU_bd (bt s 0) (bt_lo _ _) (bt_hi _ _)
  have hU : getU s = if (headU (bt s 0)).2 < 0 ∨ (s.size : Int) ≤ (headU (bt s 0)).2 then (0, 0, 4) else getE (getL s (headU (bt s 0)).2.toNat 0 (headU (bt s 0)).1) (headU (bt s 0)).2 := by
    unfold getU; rw [if_neg h0]
  clear h0
  obtain ⟨r0, m, hm⟩ : ∃ r0 m, headU (bt s 0) = (r0, m) := ⟨_, _, rfl⟩
  have hc := head_c (bt s 0) w (bt_lo _ _) (bt_hi _ _)
  rw [hm] at hU hbd hc
  simp only at hU hbd hc
  obtain ⟨hm1, hm2, hr1, hr2⟩ := hbd
  clear hm
  have HC := Lib.hid hc
  clear hc
  by_cases hbad : m < 0 ∨ (s.size : Int) ≤ m
  · rw [if_pos hbad] at hU
    have HU := Lib.hid hU; clear hU
    go_enter Tryd.func54, Tryd.ntmps54
    go_wp2_with fail
    refine wp_scope_jumps 0 (AtNone 56 True w) (fun _ _ => 0) rfl ?_ ?_
    · go_wp2_with (go_at_call 81; refine HC.out.mono ?_; rintro e w' ⟨rfl, rfl⟩)
      all_goals (go_step3; refine ⟨rfl, AtNone.mk ?_ trivial⟩; rfl)
    · rintro a w' ⟨rfl, t, rfl, ht, HU2⟩
      go_wp2
      simp only [Exit.jump]
      refine get_pass ht HU.out _ ?_
      exact ⟨rfl, rfl⟩
  · rw [if_neg hbad] at hU
    have HU := Lib.hid hU; clear hU
    have hm0 : 0 ≤ m := by omega
    have hms : m < s.size := by omega
    clear hbad hm1
    go_enter Tryd.func54, Tryd.ntmps54
    go_wp2_with fail
    refine wp_scope_jumps 0 (AtNone 56 (getU s = (0,0,4)) w) (fun _ _ => 0) rfl ?_ ?_
    · go_wp2_with (go_at_call 81; refine HC.out.mono ?_; rintro e w' ⟨rfl, rfl⟩)
      go_loop [5, 25] (fun r i => ∃ (k : Nat) (r' : Int), (k : Int) ≤ m ∧ i = .int .i64 k ∧ r = .int .i64 r' ∧ 0 ≤ r' ∧ r' < 256 * 64 ^ k ∧ Hid (getL s (m.toNat - k) k r' = getL s m.toNat 0 r0)) (fun _ i => (m - intOf i).toNat)
      case atStart => exact ⟨0, r0, by omega, rfl, rfl, hr1, by simpa using hr2, Lib.hid rfl⟩
      case round =>
        obtain ⟨k, r', hk, rfl, rfl, h3, h4, HL⟩ := hrel
        have hk3 : k ≤ 3 := by omega
        have h5 : r' < 256 * 262144 := Int.lt_of_lt_of_le h4 (by
          have : (64 : Int) ^ k ≤ 64 ^ 3 := by exact_mod_cast Nat.pow_le_pow_right (n := 64) (by omega) hk3
          omega)
        by_cases hkm : (k : Int) < m
        · have hb0 := bt_lo s (k + 1)
          have hb1 := bt_hi s (k + 1)
          have ha := and192 (bt s (k + 1)) hb0 hb1
          have ha2 := and63 (bt s (k + 1)) hb0 hb1
          obtain ⟨d, hd⟩ : ∃ d, m.toNat - k = d + 1 := ⟨m.toNat - k - 1, by omega⟩
          have HL2 : getL s m.toNat 0 r0 = if contB (bt s (k+1)) then getL s d (k+1) (r'*64 + bt s (k+1) % 64) else none := by
            rw [← HL.out, hd]; rfl
          have hd2 : m.toNat - (k + 1) = d := by omega
          have HL3 := Lib.hid HL2
          have HD2 := Lib.hid hd2
          have hor : bits BinOp.or IntKind.i64 (r' * 64) (bt s (k+1) % 64) = r' * 64 + bt s (k+1) % 64 := or64 _ _ h3 (by omega) (by omega) (by omega)
          clear HL2 hd hd2
          go_wp2_with fail
          · have hne : (bt s (k+1) / 64 * 64 != 128) = true := by assumption
            go_step3
            refine ⟨rfl, AtNone.mk ?_ ?_⟩
            · rfl
            have hcb : contB (bt s (k+1)) = false := by
              unfold contB; simp at hne ⊢; omega
            rw [hcb] at HL3
            rw [HU.out, HL3.out]; rfl
          · have hne : (bt s (k+1) / 64 * 64 != 128) = false := by assumption
            go_round
            case rel =>
              refine ⟨k + 1, r' * 64 + bt s (k+1) % 64, by omega, by go_num, ?_, by omega, ?_, ?_⟩
              · go_num
              · rw [Int.pow_succ]; omega
              · have hcb : contB (bt s (k+1)) = true := by
                  unfold contB; simp at hne ⊢; omega
                rw [HD2.out]
                refine Lib.hid ?_
                rw [HL3.out, hcb]; rfl
            case measure => simp [intOf]; omega
        · have hkm2 : (k : Int) = m := by omega
          have HM := Lib.hid hkm2
          have HL2 : Hid (getL s m.toNat 0 r0 = some r') := Lib.hid (by rw [← HL.out, show m.toNat - k = 0 from by omega]; rfl)
          clear hkm2
          have hs4 : getU s = getE (some r') m := by rw [HU.out, HL2.out]
          have HS := Lib.hid hs4; clear hs4
          by_cases hmb : mayB r' = true
          · by_cases hsz : sizeI r' = m + 1
            · have e1 : (sizeI r' == m + 1) = true := by simp [hsz]
              have hu : getU s = (r', m + 1, 0) := by rw [HS.out]; simp [getE, hmb, hsz]
              have HV := Lib.hid hu; clear hu
              have HZ := Lib.hid hsz; clear hsz
              go_wp2_with (first | (go_at_call 55; refine (may_c _ _).mono ?_; rintro e w' ⟨rfl, rfl⟩) | (go_at_call 56; refine (size_c _ _).mono ?_; rintro e w' ⟨rfl, rfl⟩))
              simp only [Exit.jump]
              all_goals (go_ret3; refine ⟨?_, rfl⟩; rw [HV.out]; rfl)
            · have e1 : (sizeI r' == m + 1) = false := by simp [hsz]
              have hu : getU s = (0, 0, 4) := by rw [HS.out]; simp [getE, hmb, hsz]
              have HV := Lib.hid hu; clear hu
              clear hsz
              go_wp2_with (first | (go_at_call 55; refine (may_c _ _).mono ?_; rintro e w' ⟨rfl, rfl⟩) | (go_at_call 56; refine (size_c _ _).mono ?_; rintro e w' ⟨rfl, rfl⟩))
              all_goals (repeat (go_step3; go_wp2))
              all_goals simp only [Exit.jump]
              all_goals (go_ret3; refine ⟨?_, rfl⟩; rw [HV.out]; rfl)
          · have hm2 : mayB r' = false := by simpa using hmb
            have hu : getU s = (0, 0, 4) := by rw [HS.out]; simp [getE, hm2]
            have HV := Lib.hid hu; clear hu
            clear hmb
            go_wp2_with (first | (go_at_call 55; refine (may_c _ _).mono ?_; rintro e w' ⟨rfl, rfl⟩) | (go_at_call 56; refine (size_c _ _).mono ?_; rintro e w' ⟨rfl, rfl⟩))
            all_goals (repeat (go_step3; go_wp2))
            all_goals simp only [Exit.jump]
            all_goals (go_ret3; refine ⟨?_, rfl⟩; rw [HV.out]; rfl)
    · rintro a w' ⟨rfl, t, rfl, ht, HU2⟩
      go_wp2
      simp only [Exit.jump]
      refine get_pass ht HU2 _ ?_
      exact ⟨rfl, rfl⟩
end Go.Proofs.YtpfgjiahpddpkaaDoor
