/- The walk of the scanner's escapes. -/
import Derived.Test.YtpfgjiahpddpkaaDoorLex2
import Derived.Test.YtpfgjiahpddpkaaDoorPut
set_option linter.unusedVariables false
set_option linter.unusedSimpArgs false
namespace Go.Proofs.YtpfgjiahpddpkaaDoor
open Go.RowKit
def escFrom : ByteArray := ⟨#[116, 98, 110, 114, 102, 34, 39, 92]⟩
theorem escIdx (c : Int) (h0 : 0 ≤ c) (h1 : c < 256) : (escK c < 0 → Lib.indexByte escFrom.data.toList c.toNat.toUInt8 < 0) := by
  have := (by decide +kernel : ∀ c : Fin 256, (escK (c.val : Int) < 0 → Lib.indexByte escFrom.data.toList (c.val : Int).toNat.toUInt8 < 0))
  have h := this ⟨c.toNat, by omega⟩
  simp only [Int.toNat_of_nonneg h0] at h; exact h
theorem escK_cases (c : Int) : escK c < 0 ∨ c = 116 ∨ c = 98 ∨ c = 110 ∨ c = 114 ∨ c = 102 ∨ c = 34 ∨ c = 39 ∨ c = 92 := by
  unfold escK; (repeat' split) <;> first | omega | (left; omega)
theorem escK_neg (c : Int) (h : escK c < 0) : escK c = -1 := by
  revert h; unfold escK; (repeat' split) <;> omega
set_option maxHeartbeats 8000000 in
set_option maxRecDepth 10000 in
theorem escaped_any {b : Nat} {s : ByteArray} {i : Nat} {w : World} (h : Scan b s (i : Int) w) (p : Int) (all : Bool) (hi : i ≤ 2000000010) :
    Calls Tryd.prog 103 #[.pointer (some ⟨b, 0, none⟩), .int .i64 p, .bool all] w fun e w' =>
      (∀ l j, escF s all i = some (l, j) → ∃ v, e = .returned v ∧ OwnB w.heap.size w' v l ∧ Scan b s (j : Nat) w' ∧ Moved b w w') ∧
      (escF s all i = none → e = .panicked [wrongE p] ∧ (∃ j : Int, Scan b s j w') ∧ Moved b w w') := by
  have c1 := h.c1
  have f1 := h.f1
  have hs1 := (h.set ((i : Int) + 1))
  have hs2 := (hs1.set ((i : Int) + 1 + 1))
  have hm2 := ((Moved.refl b w).set 1 (.int .i64 ((i : Int) + 1))).set 1 (.int .i64 ((i : Int) + 1 + 1))
  go_enter Tryd.func103, Tryd.ntmps103
  go_upto_block 0 with (go_at_call 83; refine (ch_c hs1 _ (i + 1) (by omega)).mono ?_; rintro e w' ⟨rfl, rfl⟩)
  go_cut [8] (fun v wx => v = .int .i64 (escR s all i).1 ∧ Scan b s ((escR s all i).2 : Nat) wx ∧ Moved b w wx)
  case first =>
    obtain ⟨w2, hw2⟩ : ∃ w2, (w.setCell ⟨b, 1, none⟩ (.int .i64 ((i : Int) + 1))).setCell ⟨b, 1, none⟩ (.int .i64 ((i : Int) + 1 + 1)) = w2 := ⟨_, rfl⟩
    rw [hw2] at hs2 hm2 ⊢
    have hs3 : Scan b s ((i + 2 : Nat) : Int) w2 := hs2.cast (by omega)
    clear c1 f1 hs1 hs2 hw2
    have hlo := bt_lo s (i + 1)
    have hhi := bt_hi s (i + 1)
    by_cases hu : bt s (i + 1) = 117
    · have hr : escR s all i = digitsF s 4 (i + 2) 0 := by unfold escR; rw [if_pos hu]
      have HR := Lib.hid hr; clear hr
      have b1 : (bt s (i + 1) == 117) = true := by simp [hu]
      clear hu
      go_wp2_with (go_at_call 110; refine (digits_c hs3 4 (by omega) (by omega)).mono ?_; rintro e w3 ⟨rfl, hsc3, hmv3⟩)
      go_meet
      exact ⟨by rw [HR.out], by rw [HR.out]; exact hsc3, hm2.trans hmv3⟩
    by_cases hU : bt s (i + 1) = 85
    · have hr : escR s all i = digitsF s 8 (i + 2) 0 := by unfold escR; rw [if_neg hu, if_pos hU]
      have b1 : (bt s (i + 1) == 117) = false := by simp [hu]
      have b2 : (bt s (i + 1) == 85) = true := by simp [hU]
      have HR := Lib.hid hr; clear hr hu hU
      go_wp2_with (go_at_call 110; refine (digits_c hs3 8 (by omega) (by omega)).mono ?_; rintro e w3 ⟨rfl, hsc3, hmv3⟩)
      go_meet
      exact ⟨by rw [HR.out], by rw [HR.out]; exact hsc3, hm2.trans hmv3⟩
    have hr : escR s all i = (if all then escK (bt s (i+1)) else -1, i + 2) := by unfold escR; rw [if_neg hu, if_neg hU]
    have HR := Lib.hid hr; clear hr
    have b1 : (bt s (i + 1) == 117) = false := by simp [hu]
    have b2 : (bt s (i + 1) == 85) = false := by simp [hU]
    clear hu hU
    rcases escK_cases (bt s (i + 1)) with hk | hk | hk | hk | hk | hk | hk | hk | hk
    · have hx := escIdx _ hlo hhi hk
      have hix := indexByte_c escFrom (bt s (i + 1)) w2
      obtain ⟨n, hn⟩ : ∃ n, Lib.indexByte escFrom.data.toList (bt s (i + 1)).toNat.toUInt8 = n := ⟨_, rfl⟩
      rw [hn] at hx hix
      have HI := Lib.hid hix; clear hix hn
      have hk1 := escK_neg _ hk
      have HK1 := Lib.hid hk1; clear hk1 hk
      cases all
      all_goals
        go_wp2_with (go_at_call 82; refine HI.out.mono ?_; rintro e w' ⟨rfl, rfl⟩)
        all_goals go_meet
        all_goals (refine ⟨?_, by rw [HR.out]; exact hs3, hm2⟩; rw [HR.out]; first | rfl | (simp only [if_true]; rw [HK1.out]))
    · have hix := indexByte_c escFrom (bt s (i + 1)) w2
      rw [show Lib.indexByte escFrom.data.toList (bt s (i + 1)).toNat.toUInt8 = 0 from by rw [hk]; decide] at hix
      have hpos : 0 < bt s (i + 1) := by omega
      have HI := Lib.hid hix; clear hix
      have hr2 : escR s all i = (if all then 9 else -1, i + 2) := by rw [HR.out, hk]; rfl
      have HR2 := Lib.hid hr2; clear hr2 HR hk
      cases all
      all_goals
        go_wp2_with (go_at_call 82; refine HI.out.mono ?_; rintro e w' ⟨rfl, rfl⟩)
        go_meet
        refine ⟨?_, by rw [HR2.out]; exact hs3, hm2⟩
        rw [HR2.out]
        first | rfl | exact congrArg (Value.int IntKind.i64) (by simp only [if_true]; decide +kernel)
    · have hix := indexByte_c escFrom (bt s (i + 1)) w2
      rw [show Lib.indexByte escFrom.data.toList (bt s (i + 1)).toNat.toUInt8 = 1 from by rw [hk]; decide] at hix
      have hpos : 0 < bt s (i + 1) := by omega
      have HI := Lib.hid hix; clear hix
      have hr2 : escR s all i = (if all then 8 else -1, i + 2) := by rw [HR.out, hk]; rfl
      have HR2 := Lib.hid hr2; clear hr2 HR hk
      cases all
      all_goals
        go_wp2_with (go_at_call 82; refine HI.out.mono ?_; rintro e w' ⟨rfl, rfl⟩)
        go_meet
        refine ⟨?_, by rw [HR2.out]; exact hs3, hm2⟩
        rw [HR2.out]
        first | rfl | exact congrArg (Value.int IntKind.i64) (by simp only [if_true]; decide +kernel)
    · have hix := indexByte_c escFrom (bt s (i + 1)) w2
      rw [show Lib.indexByte escFrom.data.toList (bt s (i + 1)).toNat.toUInt8 = 2 from by rw [hk]; decide] at hix
      have hpos : 0 < bt s (i + 1) := by omega
      have HI := Lib.hid hix; clear hix
      have hr2 : escR s all i = (if all then 10 else -1, i + 2) := by rw [HR.out, hk]; rfl
      have HR2 := Lib.hid hr2; clear hr2 HR hk
      cases all
      all_goals
        go_wp2_with (go_at_call 82; refine HI.out.mono ?_; rintro e w' ⟨rfl, rfl⟩)
        go_meet
        refine ⟨?_, by rw [HR2.out]; exact hs3, hm2⟩
        rw [HR2.out]
        first | rfl | exact congrArg (Value.int IntKind.i64) (by simp only [if_true]; decide +kernel)
    · have hix := indexByte_c escFrom (bt s (i + 1)) w2
      rw [show Lib.indexByte escFrom.data.toList (bt s (i + 1)).toNat.toUInt8 = 3 from by rw [hk]; decide] at hix
      have hpos : 0 < bt s (i + 1) := by omega
      have HI := Lib.hid hix; clear hix
      have hr2 : escR s all i = (if all then 13 else -1, i + 2) := by rw [HR.out, hk]; rfl
      have HR2 := Lib.hid hr2; clear hr2 HR hk
      cases all
      all_goals
        go_wp2_with (go_at_call 82; refine HI.out.mono ?_; rintro e w' ⟨rfl, rfl⟩)
        go_meet
        refine ⟨?_, by rw [HR2.out]; exact hs3, hm2⟩
        rw [HR2.out]
        first | rfl | exact congrArg (Value.int IntKind.i64) (by simp only [if_true]; decide +kernel)
    · have hix := indexByte_c escFrom (bt s (i + 1)) w2
      rw [show Lib.indexByte escFrom.data.toList (bt s (i + 1)).toNat.toUInt8 = 4 from by rw [hk]; decide] at hix
      have hpos : 0 < bt s (i + 1) := by omega
      have HI := Lib.hid hix; clear hix
      have hr2 : escR s all i = (if all then 12 else -1, i + 2) := by rw [HR.out, hk]; rfl
      have HR2 := Lib.hid hr2; clear hr2 HR hk
      cases all
      all_goals
        go_wp2_with (go_at_call 82; refine HI.out.mono ?_; rintro e w' ⟨rfl, rfl⟩)
        go_meet
        refine ⟨?_, by rw [HR2.out]; exact hs3, hm2⟩
        rw [HR2.out]
        first | rfl | exact congrArg (Value.int IntKind.i64) (by simp only [if_true]; decide +kernel)
    · have hix := indexByte_c escFrom (bt s (i + 1)) w2
      rw [show Lib.indexByte escFrom.data.toList (bt s (i + 1)).toNat.toUInt8 = 5 from by rw [hk]; decide] at hix
      have hpos : 0 < bt s (i + 1) := by omega
      have HI := Lib.hid hix; clear hix
      have hr2 : escR s all i = (if all then 34 else -1, i + 2) := by rw [HR.out, hk]; rfl
      have HR2 := Lib.hid hr2; clear hr2 HR hk
      cases all
      all_goals
        go_wp2_with (go_at_call 82; refine HI.out.mono ?_; rintro e w' ⟨rfl, rfl⟩)
        go_meet
        refine ⟨?_, by rw [HR2.out]; exact hs3, hm2⟩
        rw [HR2.out]
        first | rfl | exact congrArg (Value.int IntKind.i64) (by simp only [if_true]; decide +kernel)
    · have hix := indexByte_c escFrom (bt s (i + 1)) w2
      rw [show Lib.indexByte escFrom.data.toList (bt s (i + 1)).toNat.toUInt8 = 6 from by rw [hk]; decide] at hix
      have hpos : 0 < bt s (i + 1) := by omega
      have HI := Lib.hid hix; clear hix
      have hr2 : escR s all i = (if all then 39 else -1, i + 2) := by rw [HR.out, hk]; rfl
      have HR2 := Lib.hid hr2; clear hr2 HR hk
      cases all
      all_goals
        go_wp2_with (go_at_call 82; refine HI.out.mono ?_; rintro e w' ⟨rfl, rfl⟩)
        go_meet
        refine ⟨?_, by rw [HR2.out]; exact hs3, hm2⟩
        rw [HR2.out]
        first | rfl | exact congrArg (Value.int IntKind.i64) (by simp only [if_true]; decide +kernel)
    · have hix := indexByte_c escFrom (bt s (i + 1)) w2
      rw [show Lib.indexByte escFrom.data.toList (bt s (i + 1)).toNat.toUInt8 = 7 from by rw [hk]; decide] at hix
      have hpos : 0 < bt s (i + 1) := by omega
      have HI := Lib.hid hix; clear hix
      have hr2 : escR s all i = (if all then 92 else -1, i + 2) := by rw [HR.out, hk]; rfl
      have HR2 := Lib.hid hr2; clear hr2 HR hk
      cases all
      all_goals
        go_wp2_with (go_at_call 82; refine HI.out.mono ?_; rintro e w' ⟨rfl, rfl⟩)
        go_meet
        refine ⟨?_, by rw [HR2.out]; exact hs3, hm2⟩
        rw [HR2.out]
        first | rfl | exact congrArg (Value.int IntKind.i64) (by simp only [if_true]; decide +kernel)
  case rest =>
    obtain ⟨rfl, hsc, hmv⟩ := hcut
    have hE : escF s all i = if mayB (escR s all i).1 then some (putL (escR s all i).1, (escR s all i).2) else none := rfl
    by_cases hm : mayB (escR s all i).1 = true
    · rw [if_pos hm] at hE
      have HE := Lib.hid hE; clear hE
      have hp := put_ok _ hm
      have HP := Lib.hid hp; clear hp hm
      go_wp2_with (go_at_call 40; refine (HP.out _).mono ?_; rintro e w3 ⟨v, rfl, hown, hb3⟩)
      go_ret
      refine ⟨fun l j he => ?_, fun he => ?_⟩
      · rw [HE.out] at he
        cases he
        exact ⟨v, rfl, hown.lower hmv.size, hsc.below hb3, hmv.then hb3⟩
      · rw [HE.out] at he
        cases he
    · rw [if_neg hm] at hE
      have HE := Lib.hid hE; clear hE
      have hp := put_bad _ (by simpa using hm)
      have HP := Lib.hid hp; clear hp hm
      go_wp2_with (first | (go_at_call 40; refine (HP.out _).mono ?_; rintro e w3 ⟨rfl, rfl⟩) | (go_at_call 65; refine (fail_c _ _ _).mono ?_; rintro e w3 ⟨rfl, rfl⟩))
      refine ⟨rfl, ⟨fun l j he => ?_, fun he => ⟨rfl, ⟨_, hsc⟩, hmv⟩⟩⟩
      rw [HE.out] at he
      cases he
end Go.Proofs.YtpfgjiahpddpkaaDoor
