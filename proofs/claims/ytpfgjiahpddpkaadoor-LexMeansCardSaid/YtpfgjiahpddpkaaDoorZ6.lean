/- The walk of the reference of layer 2: May. -/
import Derived.Test.YtpfgjiahpddpkaaDoorZ4
import Derived.Test.YtpfgjiahpddpkaaDoorZ5
import Derived.Test.YtpfgjiahpddpkaaDoorKinds
set_option linter.unusedVariables false
set_option linter.unusedSimpArgs false
namespace Go.Proofs.YtpfgjiahpddpkaaDoor
open Go.RowKit
theorem rI_c (s : ByteArray) (hs : s.size ≤ 2000000000) (w : World) : Calls Tryd.prog 33 #[.string s] w fun e w' => e = .returned (.bool (iriB s)) ∧ Below w.heap.size w w' := by
  have h := riri_e s hs w
  rw [riri_is] at h; exact h
theorem rW_c (s : ByteArray) (hs : s.size ≤ 2000000000) (w : World) : Calls Tryd.prog 34 #[.string s, .int .i64 64] w fun e w' => e = .returned (.bool (blankB s)) ∧ w = w' := by
  have h := rword_e s hs 64 (by omega) w
  rw [rword_is] at h; exact h
theorem rT_c (s : ByteArray) (hs : s.size ≤ 2000000000) (w : World) : Calls Tryd.prog 35 #[.string s] w fun e w' => e = .returned (.bool (tagB s)) ∧ w = w' := by
  have h := rtag_e s hs w
  rw [rtag_is] at h; exact h
set_option maxHeartbeats 4000000 in
theorem rmayT_c (k : Int) (t x : ByteArray) (ht : t.size ≤ 2000000000) (hx : x.size ≤ 2000000000) (w : World) : Calls Tryd.prog 18 #[termV k t x] w fun e w' => e = .returned (.bool (mayT k t x)) ∧ Below w.heap.size w w' := by
  have hB0 : Below w.heap.size w (w.alloc (.cells #[.int .i64 k, .string t, .string x] 40)) := (Below.refl _ w).alloc (Nat.le_refl _) _
  have hem := isEmpty_size x
  have hsz : (w.alloc (.cells #[.int .i64 k, .string t, .string x] 40)).heap.size = w.heap.size + 1 := by simp
  unfold termV
  have hval : valueB t = (decide (t.size ≤ 4000) && validB t) := rfl
  have hmt : mayT k t x = if k = 1 then iriB t && (x.size == 0) else if k = 2 then blankB t && (x.size == 0) else if k = 3 then valueB t && (x.size == 0)
    else if k = 4 then valueB t && tagB x else if k = 5 then valueB t && (iriB x && !(x.toList == xsdL)) else false := rfl
  have HV := Lib.hid hval
  have HM := Lib.hid hmt
  clear hval hmt
  go_enter Tryd.func18, Tryd.ntmps18
  go_upto_region 1 with fail
  go_cut [3] (fun v wx => v = .bool (valueB t) ∧ wx.cell? ⟨w.heap.size, 0, none⟩ = some (.int .i64 k) ∧ wx.cell? ⟨w.heap.size, 1, none⟩ = some (.string t) ∧ wx.cell? ⟨w.heap.size, 2, none⟩ = some (.string x) ∧ w.heap.size < wx.heap.size ∧ Below w.heap.size w wx)
  case first =>
    go_wp2_with (go_at_call 32; refine (rvalid_c t ht _).mono ?_; rintro e w1 ⟨rfl, hb⟩; obtain ⟨hc, hf⟩ := bcell hb)
    all_goals go_meet
    · have hcc := bcell hb
      have h0 := World.alloc_heap_new w (.cells #[.int .i64 k, .string t, .string x] 40)
      have hz := hb.size
      refine ⟨by rw [HV.out]; simp [*]; (try (intro; omega)), ?_, ?_, ?_, by omega, bnew hb⟩
      all_goals (rw [hcc.1 _ _ (by omega)]; simp)
    · refine ⟨by rw [HV.out]; simp [*]; (try (intro; omega)), by simp, by simp, by simp, by simp, hB0⟩
  case rest =>
    obtain ⟨rfl, c0, c1, c2, hlx, hBx⟩ := hcut
    by_cases k1 : k = 1
    · subst k1
      have e := HM.out
      rw [if_pos rfl] at e
      have HE := Lib.hid e; clear e
      go_wp2_with (first
      | (go_at_call 33; refine (rI_c _ (by assumption) _).mono ?_; rintro e w2 ⟨rfl, hb2⟩; obtain ⟨hc2, hf2⟩ := bcell hb2)
      | (go_at_call 34; refine (rW_c _ (by assumption) _).mono ?_; rintro e w2 ⟨rfl, rfl⟩)
      | (go_at_call 35; refine (rT_c _ (by assumption) _).mono ?_; rintro e w2 ⟨rfl, rfl⟩))
      all_goals (go_ret; refine ⟨by rw [HE.out]; simp [*], ?_⟩; first | exact hBx | exact hBx.trans (hb2.mono hBx.size))
    · by_cases k2 : k = 2
      · subst k2
        have e := HM.out
        rw [if_neg (by decide), if_pos rfl] at e
        have HE := Lib.hid e; clear e
        go_wp2_with (first
      | (go_at_call 33; refine (rI_c _ (by assumption) _).mono ?_; rintro e w2 ⟨rfl, hb2⟩; obtain ⟨hc2, hf2⟩ := bcell hb2)
      | (go_at_call 34; refine (rW_c _ (by assumption) _).mono ?_; rintro e w2 ⟨rfl, rfl⟩)
      | (go_at_call 35; refine (rT_c _ (by assumption) _).mono ?_; rintro e w2 ⟨rfl, rfl⟩))
        all_goals (go_ret; refine ⟨by rw [HE.out]; simp [*], ?_⟩; first | exact hBx | exact hBx.trans (hb2.mono hBx.size))
      · by_cases k3 : k = 3
        · subst k3
          have e := HM.out
          rw [if_neg (by decide), if_neg (by decide), if_pos rfl] at e
          have HE := Lib.hid e; clear e
          go_wp2_with (first
      | (go_at_call 33; refine (rI_c _ (by assumption) _).mono ?_; rintro e w2 ⟨rfl, hb2⟩; obtain ⟨hc2, hf2⟩ := bcell hb2)
      | (go_at_call 34; refine (rW_c _ (by assumption) _).mono ?_; rintro e w2 ⟨rfl, rfl⟩)
      | (go_at_call 35; refine (rT_c _ (by assumption) _).mono ?_; rintro e w2 ⟨rfl, rfl⟩))
          all_goals (go_ret; refine ⟨by rw [HE.out]; simp [*], ?_⟩; first | exact hBx | exact hBx.trans (hb2.mono hBx.size))
        · by_cases k4 : k = 4
          · subst k4
            have e := HM.out
            rw [if_neg (by decide), if_neg (by decide), if_neg (by decide), if_pos rfl] at e
            have HE := Lib.hid e; clear e
            go_wp2_with (first
      | (go_at_call 33; refine (rI_c _ (by assumption) _).mono ?_; rintro e w2 ⟨rfl, hb2⟩; obtain ⟨hc2, hf2⟩ := bcell hb2)
      | (go_at_call 34; refine (rW_c _ (by assumption) _).mono ?_; rintro e w2 ⟨rfl, rfl⟩)
      | (go_at_call 35; refine (rT_c _ (by assumption) _).mono ?_; rintro e w2 ⟨rfl, rfl⟩))
            all_goals (go_ret; refine ⟨by rw [HE.out]; simp [*], ?_⟩; first | exact hBx | exact hBx.trans (hb2.mono hBx.size))
          · by_cases k5 : k = 5
            · subst k5
              have e := HM.out
              rw [if_neg (by decide), if_neg (by decide), if_neg (by decide), if_neg (by decide), if_pos rfl] at e
              have HE := Lib.hid e; clear e
              have hxs : xsdL = [104, 116, 116, 112, 58, 47, 47, 119, 119, 119, 46, 119, 51, 46, 111, 114, 103, 47, 50, 48, 48, 49, 47, 88, 77, 76, 83, 99, 104, 101, 109, 97, 35, 115, 116, 114, 105, 110, 103] := rfl
              have HX := Lib.hid hxs; clear hxs
              go_wp2_with (first
      | (go_at_call 33; refine (rI_c _ (by assumption) _).mono ?_; rintro e w2 ⟨rfl, hb2⟩; obtain ⟨hc2, hf2⟩ := bcell hb2)
      | (go_at_call 34; refine (rW_c _ (by assumption) _).mono ?_; rintro e w2 ⟨rfl, rfl⟩)
      | (go_at_call 35; refine (rT_c _ (by assumption) _).mono ?_; rintro e w2 ⟨rfl, rfl⟩))
              all_goals (go_ret; refine ⟨by rw [HE.out]; have := HX.out; simp [*], ?_⟩; first | exact hBx | exact hBx.trans (hb2.mono hBx.size))
            · have e := HM.out
              rw [if_neg k1, if_neg k2, if_neg k3, if_neg k4, if_neg k5] at e
              have HE := Lib.hid e; clear e
              have b1 : (k == 1) = false := by simp [k1]
              have b2 : (k == 2) = false := by simp [k2]
              have b3 : (k == 3) = false := by simp [k3]
              have b4 : (k == 4) = false := by simp [k4]
              have b5 : (k == 5) = false := by simp [k5]
              clear k1 k2 k3 k4 k5
              go_wp2
              go_ret
              exact ⟨by rw [HE.out]; rfl, hBx⟩
end Go.Proofs.YtpfgjiahpddpkaaDoor
