/- The walks of the scanner: marks. -/
import Derived.Test.YtpfgjiahpddpkaaDoorLex9
import Derived.BigRegion
set_option linter.unusedVariables false
set_option linter.unusedSimpArgs false
namespace Go.Proofs.YtpfgjiahpddpkaaDoor
open Go.RowKit
def marksO : Obj := .cells #[.string ⟨#[94, 94]⟩, .string ⟨#[58, 45]⟩, .string ⟨#[33, 61]⟩, .string ⟨#[61]⟩, .string ⟨#[46]⟩, .string ⟨#[44]⟩, .string ⟨#[40]⟩, .string ⟨#[41]⟩, .string ⟨#[123]⟩, .string ⟨#[125]⟩] 9 (0, 0)
theorem mb {r : Nat} {w : World} (h : w.heap[r]? = some marksO) :
    w.cell? ⟨r, 0, none⟩ = some (.string ⟨#[94, 94]⟩) ∧ w.cell? ⟨r, 1, none⟩ = some (.string ⟨#[58, 45]⟩) ∧ w.cell? ⟨r, 2, none⟩ = some (.string ⟨#[33, 61]⟩) ∧ w.cell? ⟨r, 3, none⟩ = some (.string ⟨#[61]⟩) ∧ w.cell? ⟨r, 4, none⟩ = some (.string ⟨#[46]⟩) ∧
    w.cell? ⟨r, 5, none⟩ = some (.string ⟨#[44]⟩) ∧ w.cell? ⟨r, 6, none⟩ = some (.string ⟨#[40]⟩) ∧ w.cell? ⟨r, 7, none⟩ = some (.string ⟨#[41]⟩) ∧ w.cell? ⟨r, 8, none⟩ = some (.string ⟨#[123]⟩) ∧ w.cell? ⟨r, 9, none⟩ = some (.string ⟨#[125]⟩) := by
  simp [World.cell?, h, marksO]
set_option maxHeartbeats 4000000 in
theorem rmark_c {b : Nat} {s : ByteArray} {i : Nat} {w : World} (h : Scan b s (i : Int) w) (hi : i ≤ s.size) :
    Calls Tryd.prog 64 #[.pointer (some ⟨b, 0, none⟩)] w (RdPost s i b w (markF s i)) := by
  have hsm := h.small
  have hlt := h.lt
  have hml := h.max.lt
  have hne : w.heap.size ≠ b := by omega
  have hnm : w.heap.size ≠ 5 := by omega
  go_enter Tryd.func64, Tryd.ntmps64
  go_upto_region 0 with fail
  go_cut [2, 3] (fun v c wx => v = .pointer (some ⟨w.heap.size, 0, none⟩) ∧ c = .bool false ∧ wx.heap[w.heap.size]? = some symZ ∧ Scan b s (i : Int) wx ∧ Moved b w wx)
  case first => go_wp2_with fail; go_meet; exact ⟨rfl, rfl, World.alloc_heap_new w symZ, h.alloc _, (Moved.refl b w).alloc _⟩
  case rest =>
    obtain ⟨rfl, rfl, hz, hsc, hmv⟩ := hcut
    have c1 := hsc.c1
    have f1 := hsc.f1
    have hrl := (Array.getElem?_eq_some_iff.1 hz).1
    have hrb := hsc.lt
    have hrm := hsc.max.lt
    obtain ⟨q, hq⟩ : ∃ q, wc.heap.size = q := ⟨_, rfl⟩
    rw [hq] at hrl hrb hrm
    go_upto_region 1 with fail
    go_cut [6, 7, 8] (fun v l c wx => v = .slice (some ⟨q, 0, none⟩) 10 10 ∧ l = .int .i64 10 ∧ c = .int .i64 0 ∧ wx.heap[q]? = some marksO ∧ wx.heap[w.heap.size]? = some symZ ∧ Scan b s (i : Int) wx ∧ Moved b w wx)
    case first =>
      go_wp2_with fail
      go_meet
      subst hq
      exact ⟨rfl, rfl, rfl, World.alloc_heap_new wc marksO, ((Moved.refl b wc).alloc _).blk hz hne, hsc.alloc _, hmv.alloc _⟩
    case rest =>
      obtain ⟨rfl, rfl, rfl, hm0, hz0, hsc0, hmv0⟩ := hcut
      clear hz hsc hmv c1 f1 hq
      go_wp2_with fail
      go_loopg [5, 8] 10 (fun g v c wr => ∃ k : Nat, c = .int .i64 k ∧ k + g = 10 ∧ wr.heap[q]? = some marksO ∧ wr.heap[w.heap.size]? = some symZ ∧ Scan b s (i : Int) wr ∧ Moved b w wr ∧ Hid (markF s i = markGo s i (marksL.drop k)))
      case atStart => exact ⟨0, rfl, rfl, hm0, hz0, hsc0, hmv0, Lib.hid rfl⟩
      case round =>
        clear hm0 hz0 hsc0 hmv0
        obtain ⟨k, rfl, hkg, hm, hz, hsc, hmv, HK⟩ := hrel
        have c0 := hsc.c0
        have c1 := hsc.c1
        have f1 := hsc.f1
        obtain ⟨m0, m1, m2, m3, m4, m5, m6, m7, m8, m9⟩ := mb hm
        have hk10 : k = 0 ∨ k = 1 ∨ k = 2 ∨ k = 3 ∨ k = 4 ∨ k = 5 ∨ k = 6 ∨ k = 7 ∨ k = 8 ∨ k = 9 ∨ k = 10 := by omega
        rcases hk10 with rfl | rfl | rfl | rfl | rfl | rfl | rfl | rfl | rfl | rfl | rfl
        · obtain ⟨g, rfl⟩ : ∃ g, gk = g + 1 := ⟨gk - 1, by omega⟩
          have hca := fun W => hasPrefix_c (s.extract i s.size) ⟨#[94, 94]⟩ W
          cases hp : Lib.hasPrefix (s.extract i s.size).data.toList [94, 94] with
          | true =>
            rw [show (⟨#[94, 94]⟩ : ByteArray).data.toList = [94, 94] from rfl, hp] at hca
            have HCA := Lib.hid hca; clear hca
            have HF := Lib.hid (show markF s i = .ok { noSym with kind := 8, text := ⟨#[94, 94]⟩ } (i + 2) from HK.out.trans (if_pos hp))
            clear hp
            go_wp2_with fail
            refine wp_region_quiet_lit (by kernel_rfl) (by kernel_rfl) ?_
            repeat (quiet_step (fail))
            quiet_step ((refine Calls.mono (HCA.out _) ?_; rintro _ _ ⟨rfl, rfl⟩; exact ⟨rfl, _, rfl⟩))
            repeat (quiet_step (fail))
            refine wpQuiet_nil ?_
            intro _ hw1
            obtain ⟨nq, hw2⟩ := hw1
            subst hw2
            obtain ⟨⟨z0, z1, z2, z3, z4, z5⟩, y0, y1, y2, y3, y4, y5⟩ := rb hz
            go_wp2_with fail
            have hz6 := ((Moved.refl b (wr.drewN nq)).set 1 (.int .i64 ((i : Int) + 2))).blk (show (wr.drewN nq).heap[w.heap.size]? = some symZ from hz) hne
            have hsc6 : Scan b s ((i + 2 : Nat) : Int) ((wr.drewN nq).setCell ⟨b, 1, none⟩ (.int .i64 ((i : Int) + 2))) := ((hsc.drewN nq).set _).cast (by omega)
            have hmv6 := (hmv.drewN nq).set 1 (.int .i64 ((i : Int) + 2))
            refine bodyPost_ret (ret_sym { noSym with kind := 8, text := ⟨#[94, 94]⟩ } rfl rfl rfl (sets6 { noSym with kind := 8, text := ⟨#[94, 94]⟩ } hz6)) rfl ?_
            rw [HF.out]
            have le := Nat.le_refl w.heap.size
            exact ⟨rfl, (((((hsc6.setO hne hnm).setO hne hnm).setO hne hnm).setO hne hnm).setO hne hnm).setO hne hnm, (((((hmv6.setO le).setO le).setO le).setO le).setO le).setO le⟩
          | false =>
            rw [show (⟨#[94, 94]⟩ : ByteArray).data.toList = [94, 94] from rfl, hp] at hca
            have HCA := Lib.hid hca; clear hca
            have HF := Lib.hid (show markF s i = markGo s i (marksL.drop 1) from HK.out.trans (if_neg (by rw [hp]; simp)))
            clear hp
            go_wp2_with fail
            refine wp_region_quiet_lit (by kernel_rfl) (by kernel_rfl) ?_
            repeat (quiet_step (fail))
            quiet_step ((refine Calls.mono (HCA.out _) ?_; rintro _ _ ⟨rfl, rfl⟩; exact ⟨rfl, _, rfl⟩))
            repeat (quiet_step (fail))
            refine wpQuiet_nil ?_
            intro _ hw1
            obtain ⟨nq, hw2⟩ := hw1
            subst hw2
            go_wp2_with fail
            go_roundg g
            case measure => omega
            case rel => exact ⟨1, rfl, by omega, hm, hz, hsc.drewN _, hmv.drewN _, HF⟩
        · obtain ⟨g, rfl⟩ : ∃ g, gk = g + 1 := ⟨gk - 1, by omega⟩
          have hca := fun W => hasPrefix_c (s.extract i s.size) ⟨#[58, 45]⟩ W
          cases hp : Lib.hasPrefix (s.extract i s.size).data.toList [58, 45] with
          | true =>
            rw [show (⟨#[58, 45]⟩ : ByteArray).data.toList = [58, 45] from rfl, hp] at hca
            have HCA := Lib.hid hca; clear hca
            have HF := Lib.hid (show markF s i = .ok { noSym with kind := 8, text := ⟨#[58, 45]⟩ } (i + 2) from HK.out.trans (if_pos hp))
            clear hp
            go_wp2_with fail
            refine wp_region_quiet_lit (by kernel_rfl) (by kernel_rfl) ?_
            repeat (quiet_step (fail))
            quiet_step ((refine Calls.mono (HCA.out _) ?_; rintro _ _ ⟨rfl, rfl⟩; exact ⟨rfl, _, rfl⟩))
            repeat (quiet_step (fail))
            refine wpQuiet_nil ?_
            intro _ hw1
            obtain ⟨nq, hw2⟩ := hw1
            subst hw2
            obtain ⟨⟨z0, z1, z2, z3, z4, z5⟩, y0, y1, y2, y3, y4, y5⟩ := rb hz
            go_wp2_with fail
            have hz6 := ((Moved.refl b (wr.drewN nq)).set 1 (.int .i64 ((i : Int) + 2))).blk (show (wr.drewN nq).heap[w.heap.size]? = some symZ from hz) hne
            have hsc6 : Scan b s ((i + 2 : Nat) : Int) ((wr.drewN nq).setCell ⟨b, 1, none⟩ (.int .i64 ((i : Int) + 2))) := ((hsc.drewN nq).set _).cast (by omega)
            have hmv6 := (hmv.drewN nq).set 1 (.int .i64 ((i : Int) + 2))
            refine bodyPost_ret (ret_sym { noSym with kind := 8, text := ⟨#[58, 45]⟩ } rfl rfl rfl (sets6 { noSym with kind := 8, text := ⟨#[58, 45]⟩ } hz6)) rfl ?_
            rw [HF.out]
            have le := Nat.le_refl w.heap.size
            exact ⟨rfl, (((((hsc6.setO hne hnm).setO hne hnm).setO hne hnm).setO hne hnm).setO hne hnm).setO hne hnm, (((((hmv6.setO le).setO le).setO le).setO le).setO le).setO le⟩
          | false =>
            rw [show (⟨#[58, 45]⟩ : ByteArray).data.toList = [58, 45] from rfl, hp] at hca
            have HCA := Lib.hid hca; clear hca
            have HF := Lib.hid (show markF s i = markGo s i (marksL.drop 2) from HK.out.trans (if_neg (by rw [hp]; simp)))
            clear hp
            go_wp2_with fail
            refine wp_region_quiet_lit (by kernel_rfl) (by kernel_rfl) ?_
            repeat (quiet_step (fail))
            quiet_step ((refine Calls.mono (HCA.out _) ?_; rintro _ _ ⟨rfl, rfl⟩; exact ⟨rfl, _, rfl⟩))
            repeat (quiet_step (fail))
            refine wpQuiet_nil ?_
            intro _ hw1
            obtain ⟨nq, hw2⟩ := hw1
            subst hw2
            go_wp2_with fail
            go_roundg g
            case measure => omega
            case rel => exact ⟨2, rfl, by omega, hm, hz, hsc.drewN _, hmv.drewN _, HF⟩
        · obtain ⟨g, rfl⟩ : ∃ g, gk = g + 1 := ⟨gk - 1, by omega⟩
          have hca := fun W => hasPrefix_c (s.extract i s.size) ⟨#[33, 61]⟩ W
          cases hp : Lib.hasPrefix (s.extract i s.size).data.toList [33, 61] with
          | true =>
            rw [show (⟨#[33, 61]⟩ : ByteArray).data.toList = [33, 61] from rfl, hp] at hca
            have HCA := Lib.hid hca; clear hca
            have HF := Lib.hid (show markF s i = .ok { noSym with kind := 8, text := ⟨#[33, 61]⟩ } (i + 2) from HK.out.trans (if_pos hp))
            clear hp
            go_wp2_with fail
            refine wp_region_quiet_lit (by kernel_rfl) (by kernel_rfl) ?_
            repeat (quiet_step (fail))
            quiet_step ((refine Calls.mono (HCA.out _) ?_; rintro _ _ ⟨rfl, rfl⟩; exact ⟨rfl, _, rfl⟩))
            repeat (quiet_step (fail))
            refine wpQuiet_nil ?_
            intro _ hw1
            obtain ⟨nq, hw2⟩ := hw1
            subst hw2
            obtain ⟨⟨z0, z1, z2, z3, z4, z5⟩, y0, y1, y2, y3, y4, y5⟩ := rb hz
            go_wp2_with fail
            have hz6 := ((Moved.refl b (wr.drewN nq)).set 1 (.int .i64 ((i : Int) + 2))).blk (show (wr.drewN nq).heap[w.heap.size]? = some symZ from hz) hne
            have hsc6 : Scan b s ((i + 2 : Nat) : Int) ((wr.drewN nq).setCell ⟨b, 1, none⟩ (.int .i64 ((i : Int) + 2))) := ((hsc.drewN nq).set _).cast (by omega)
            have hmv6 := (hmv.drewN nq).set 1 (.int .i64 ((i : Int) + 2))
            refine bodyPost_ret (ret_sym { noSym with kind := 8, text := ⟨#[33, 61]⟩ } rfl rfl rfl (sets6 { noSym with kind := 8, text := ⟨#[33, 61]⟩ } hz6)) rfl ?_
            rw [HF.out]
            have le := Nat.le_refl w.heap.size
            exact ⟨rfl, (((((hsc6.setO hne hnm).setO hne hnm).setO hne hnm).setO hne hnm).setO hne hnm).setO hne hnm, (((((hmv6.setO le).setO le).setO le).setO le).setO le).setO le⟩
          | false =>
            rw [show (⟨#[33, 61]⟩ : ByteArray).data.toList = [33, 61] from rfl, hp] at hca
            have HCA := Lib.hid hca; clear hca
            have HF := Lib.hid (show markF s i = markGo s i (marksL.drop 3) from HK.out.trans (if_neg (by rw [hp]; simp)))
            clear hp
            go_wp2_with fail
            refine wp_region_quiet_lit (by kernel_rfl) (by kernel_rfl) ?_
            repeat (quiet_step (fail))
            quiet_step ((refine Calls.mono (HCA.out _) ?_; rintro _ _ ⟨rfl, rfl⟩; exact ⟨rfl, _, rfl⟩))
            repeat (quiet_step (fail))
            refine wpQuiet_nil ?_
            intro _ hw1
            obtain ⟨nq, hw2⟩ := hw1
            subst hw2
            go_wp2_with fail
            go_roundg g
            case measure => omega
            case rel => exact ⟨3, rfl, by omega, hm, hz, hsc.drewN _, hmv.drewN _, HF⟩
        · obtain ⟨g, rfl⟩ : ∃ g, gk = g + 1 := ⟨gk - 1, by omega⟩
          have hca := fun W => hasPrefix_c (s.extract i s.size) ⟨#[61]⟩ W
          cases hp : Lib.hasPrefix (s.extract i s.size).data.toList [61] with
          | true =>
            rw [show (⟨#[61]⟩ : ByteArray).data.toList = [61] from rfl, hp] at hca
            have HCA := Lib.hid hca; clear hca
            have HF := Lib.hid (show markF s i = .ok { noSym with kind := 8, text := ⟨#[61]⟩ } (i + 1) from HK.out.trans (if_pos hp))
            clear hp
            go_wp2_with fail
            refine wp_region_quiet_lit (by kernel_rfl) (by kernel_rfl) ?_
            repeat (quiet_step (fail))
            quiet_step ((refine Calls.mono (HCA.out _) ?_; rintro _ _ ⟨rfl, rfl⟩; exact ⟨rfl, _, rfl⟩))
            repeat (quiet_step (fail))
            refine wpQuiet_nil ?_
            intro _ hw1
            obtain ⟨nq, hw2⟩ := hw1
            subst hw2
            obtain ⟨⟨z0, z1, z2, z3, z4, z5⟩, y0, y1, y2, y3, y4, y5⟩ := rb hz
            go_wp2_with fail
            have hz6 := ((Moved.refl b (wr.drewN nq)).set 1 (.int .i64 ((i : Int) + 1))).blk (show (wr.drewN nq).heap[w.heap.size]? = some symZ from hz) hne
            have hsc6 : Scan b s ((i + 1 : Nat) : Int) ((wr.drewN nq).setCell ⟨b, 1, none⟩ (.int .i64 ((i : Int) + 1))) := ((hsc.drewN nq).set _).cast (by omega)
            have hmv6 := (hmv.drewN nq).set 1 (.int .i64 ((i : Int) + 1))
            refine bodyPost_ret (ret_sym { noSym with kind := 8, text := ⟨#[61]⟩ } rfl rfl rfl (sets6 { noSym with kind := 8, text := ⟨#[61]⟩ } hz6)) rfl ?_
            rw [HF.out]
            have le := Nat.le_refl w.heap.size
            exact ⟨rfl, (((((hsc6.setO hne hnm).setO hne hnm).setO hne hnm).setO hne hnm).setO hne hnm).setO hne hnm, (((((hmv6.setO le).setO le).setO le).setO le).setO le).setO le⟩
          | false =>
            rw [show (⟨#[61]⟩ : ByteArray).data.toList = [61] from rfl, hp] at hca
            have HCA := Lib.hid hca; clear hca
            have HF := Lib.hid (show markF s i = markGo s i (marksL.drop 4) from HK.out.trans (if_neg (by rw [hp]; simp)))
            clear hp
            go_wp2_with fail
            refine wp_region_quiet_lit (by kernel_rfl) (by kernel_rfl) ?_
            repeat (quiet_step (fail))
            quiet_step ((refine Calls.mono (HCA.out _) ?_; rintro _ _ ⟨rfl, rfl⟩; exact ⟨rfl, _, rfl⟩))
            repeat (quiet_step (fail))
            refine wpQuiet_nil ?_
            intro _ hw1
            obtain ⟨nq, hw2⟩ := hw1
            subst hw2
            go_wp2_with fail
            go_roundg g
            case measure => omega
            case rel => exact ⟨4, rfl, by omega, hm, hz, hsc.drewN _, hmv.drewN _, HF⟩
        · obtain ⟨g, rfl⟩ : ∃ g, gk = g + 1 := ⟨gk - 1, by omega⟩
          have hca := fun W => hasPrefix_c (s.extract i s.size) ⟨#[46]⟩ W
          cases hp : Lib.hasPrefix (s.extract i s.size).data.toList [46] with
          | true =>
            rw [show (⟨#[46]⟩ : ByteArray).data.toList = [46] from rfl, hp] at hca
            have HCA := Lib.hid hca; clear hca
            have HF := Lib.hid (show markF s i = .ok { noSym with kind := 8, text := ⟨#[46]⟩ } (i + 1) from HK.out.trans (if_pos hp))
            clear hp
            go_wp2_with fail
            refine wp_region_quiet_lit (by kernel_rfl) (by kernel_rfl) ?_
            repeat (quiet_step (fail))
            quiet_step ((refine Calls.mono (HCA.out _) ?_; rintro _ _ ⟨rfl, rfl⟩; exact ⟨rfl, _, rfl⟩))
            repeat (quiet_step (fail))
            refine wpQuiet_nil ?_
            intro _ hw1
            obtain ⟨nq, hw2⟩ := hw1
            subst hw2
            obtain ⟨⟨z0, z1, z2, z3, z4, z5⟩, y0, y1, y2, y3, y4, y5⟩ := rb hz
            go_wp2_with fail
            have hz6 := ((Moved.refl b (wr.drewN nq)).set 1 (.int .i64 ((i : Int) + 1))).blk (show (wr.drewN nq).heap[w.heap.size]? = some symZ from hz) hne
            have hsc6 : Scan b s ((i + 1 : Nat) : Int) ((wr.drewN nq).setCell ⟨b, 1, none⟩ (.int .i64 ((i : Int) + 1))) := ((hsc.drewN nq).set _).cast (by omega)
            have hmv6 := (hmv.drewN nq).set 1 (.int .i64 ((i : Int) + 1))
            refine bodyPost_ret (ret_sym { noSym with kind := 8, text := ⟨#[46]⟩ } rfl rfl rfl (sets6 { noSym with kind := 8, text := ⟨#[46]⟩ } hz6)) rfl ?_
            rw [HF.out]
            have le := Nat.le_refl w.heap.size
            exact ⟨rfl, (((((hsc6.setO hne hnm).setO hne hnm).setO hne hnm).setO hne hnm).setO hne hnm).setO hne hnm, (((((hmv6.setO le).setO le).setO le).setO le).setO le).setO le⟩
          | false =>
            rw [show (⟨#[46]⟩ : ByteArray).data.toList = [46] from rfl, hp] at hca
            have HCA := Lib.hid hca; clear hca
            have HF := Lib.hid (show markF s i = markGo s i (marksL.drop 5) from HK.out.trans (if_neg (by rw [hp]; simp)))
            clear hp
            go_wp2_with fail
            refine wp_region_quiet_lit (by kernel_rfl) (by kernel_rfl) ?_
            repeat (quiet_step (fail))
            quiet_step ((refine Calls.mono (HCA.out _) ?_; rintro _ _ ⟨rfl, rfl⟩; exact ⟨rfl, _, rfl⟩))
            repeat (quiet_step (fail))
            refine wpQuiet_nil ?_
            intro _ hw1
            obtain ⟨nq, hw2⟩ := hw1
            subst hw2
            go_wp2_with fail
            go_roundg g
            case measure => omega
            case rel => exact ⟨5, rfl, by omega, hm, hz, hsc.drewN _, hmv.drewN _, HF⟩
        · obtain ⟨g, rfl⟩ : ∃ g, gk = g + 1 := ⟨gk - 1, by omega⟩
          have hca := fun W => hasPrefix_c (s.extract i s.size) ⟨#[44]⟩ W
          cases hp : Lib.hasPrefix (s.extract i s.size).data.toList [44] with
          | true =>
            rw [show (⟨#[44]⟩ : ByteArray).data.toList = [44] from rfl, hp] at hca
            have HCA := Lib.hid hca; clear hca
            have HF := Lib.hid (show markF s i = .ok { noSym with kind := 8, text := ⟨#[44]⟩ } (i + 1) from HK.out.trans (if_pos hp))
            clear hp
            go_wp2_with fail
            refine wp_region_quiet_lit (by kernel_rfl) (by kernel_rfl) ?_
            repeat (quiet_step (fail))
            quiet_step ((refine Calls.mono (HCA.out _) ?_; rintro _ _ ⟨rfl, rfl⟩; exact ⟨rfl, _, rfl⟩))
            repeat (quiet_step (fail))
            refine wpQuiet_nil ?_
            intro _ hw1
            obtain ⟨nq, hw2⟩ := hw1
            subst hw2
            obtain ⟨⟨z0, z1, z2, z3, z4, z5⟩, y0, y1, y2, y3, y4, y5⟩ := rb hz
            go_wp2_with fail
            have hz6 := ((Moved.refl b (wr.drewN nq)).set 1 (.int .i64 ((i : Int) + 1))).blk (show (wr.drewN nq).heap[w.heap.size]? = some symZ from hz) hne
            have hsc6 : Scan b s ((i + 1 : Nat) : Int) ((wr.drewN nq).setCell ⟨b, 1, none⟩ (.int .i64 ((i : Int) + 1))) := ((hsc.drewN nq).set _).cast (by omega)
            have hmv6 := (hmv.drewN nq).set 1 (.int .i64 ((i : Int) + 1))
            refine bodyPost_ret (ret_sym { noSym with kind := 8, text := ⟨#[44]⟩ } rfl rfl rfl (sets6 { noSym with kind := 8, text := ⟨#[44]⟩ } hz6)) rfl ?_
            rw [HF.out]
            have le := Nat.le_refl w.heap.size
            exact ⟨rfl, (((((hsc6.setO hne hnm).setO hne hnm).setO hne hnm).setO hne hnm).setO hne hnm).setO hne hnm, (((((hmv6.setO le).setO le).setO le).setO le).setO le).setO le⟩
          | false =>
            rw [show (⟨#[44]⟩ : ByteArray).data.toList = [44] from rfl, hp] at hca
            have HCA := Lib.hid hca; clear hca
            have HF := Lib.hid (show markF s i = markGo s i (marksL.drop 6) from HK.out.trans (if_neg (by rw [hp]; simp)))
            clear hp
            go_wp2_with fail
            refine wp_region_quiet_lit (by kernel_rfl) (by kernel_rfl) ?_
            repeat (quiet_step (fail))
            quiet_step ((refine Calls.mono (HCA.out _) ?_; rintro _ _ ⟨rfl, rfl⟩; exact ⟨rfl, _, rfl⟩))
            repeat (quiet_step (fail))
            refine wpQuiet_nil ?_
            intro _ hw1
            obtain ⟨nq, hw2⟩ := hw1
            subst hw2
            go_wp2_with fail
            go_roundg g
            case measure => omega
            case rel => exact ⟨6, rfl, by omega, hm, hz, hsc.drewN _, hmv.drewN _, HF⟩
        · obtain ⟨g, rfl⟩ : ∃ g, gk = g + 1 := ⟨gk - 1, by omega⟩
          have hca := fun W => hasPrefix_c (s.extract i s.size) ⟨#[40]⟩ W
          cases hp : Lib.hasPrefix (s.extract i s.size).data.toList [40] with
          | true =>
            rw [show (⟨#[40]⟩ : ByteArray).data.toList = [40] from rfl, hp] at hca
            have HCA := Lib.hid hca; clear hca
            have HF := Lib.hid (show markF s i = .ok { noSym with kind := 8, text := ⟨#[40]⟩ } (i + 1) from HK.out.trans (if_pos hp))
            clear hp
            go_wp2_with fail
            refine wp_region_quiet_lit (by kernel_rfl) (by kernel_rfl) ?_
            repeat (quiet_step (fail))
            quiet_step ((refine Calls.mono (HCA.out _) ?_; rintro _ _ ⟨rfl, rfl⟩; exact ⟨rfl, _, rfl⟩))
            repeat (quiet_step (fail))
            refine wpQuiet_nil ?_
            intro _ hw1
            obtain ⟨nq, hw2⟩ := hw1
            subst hw2
            obtain ⟨⟨z0, z1, z2, z3, z4, z5⟩, y0, y1, y2, y3, y4, y5⟩ := rb hz
            go_wp2_with fail
            have hz6 := ((Moved.refl b (wr.drewN nq)).set 1 (.int .i64 ((i : Int) + 1))).blk (show (wr.drewN nq).heap[w.heap.size]? = some symZ from hz) hne
            have hsc6 : Scan b s ((i + 1 : Nat) : Int) ((wr.drewN nq).setCell ⟨b, 1, none⟩ (.int .i64 ((i : Int) + 1))) := ((hsc.drewN nq).set _).cast (by omega)
            have hmv6 := (hmv.drewN nq).set 1 (.int .i64 ((i : Int) + 1))
            refine bodyPost_ret (ret_sym { noSym with kind := 8, text := ⟨#[40]⟩ } rfl rfl rfl (sets6 { noSym with kind := 8, text := ⟨#[40]⟩ } hz6)) rfl ?_
            rw [HF.out]
            have le := Nat.le_refl w.heap.size
            exact ⟨rfl, (((((hsc6.setO hne hnm).setO hne hnm).setO hne hnm).setO hne hnm).setO hne hnm).setO hne hnm, (((((hmv6.setO le).setO le).setO le).setO le).setO le).setO le⟩
          | false =>
            rw [show (⟨#[40]⟩ : ByteArray).data.toList = [40] from rfl, hp] at hca
            have HCA := Lib.hid hca; clear hca
            have HF := Lib.hid (show markF s i = markGo s i (marksL.drop 7) from HK.out.trans (if_neg (by rw [hp]; simp)))
            clear hp
            go_wp2_with fail
            refine wp_region_quiet_lit (by kernel_rfl) (by kernel_rfl) ?_
            repeat (quiet_step (fail))
            quiet_step ((refine Calls.mono (HCA.out _) ?_; rintro _ _ ⟨rfl, rfl⟩; exact ⟨rfl, _, rfl⟩))
            repeat (quiet_step (fail))
            refine wpQuiet_nil ?_
            intro _ hw1
            obtain ⟨nq, hw2⟩ := hw1
            subst hw2
            go_wp2_with fail
            go_roundg g
            case measure => omega
            case rel => exact ⟨7, rfl, by omega, hm, hz, hsc.drewN _, hmv.drewN _, HF⟩
        · obtain ⟨g, rfl⟩ : ∃ g, gk = g + 1 := ⟨gk - 1, by omega⟩
          have hca := fun W => hasPrefix_c (s.extract i s.size) ⟨#[41]⟩ W
          cases hp : Lib.hasPrefix (s.extract i s.size).data.toList [41] with
          | true =>
            rw [show (⟨#[41]⟩ : ByteArray).data.toList = [41] from rfl, hp] at hca
            have HCA := Lib.hid hca; clear hca
            have HF := Lib.hid (show markF s i = .ok { noSym with kind := 8, text := ⟨#[41]⟩ } (i + 1) from HK.out.trans (if_pos hp))
            clear hp
            go_wp2_with fail
            refine wp_region_quiet_lit (by kernel_rfl) (by kernel_rfl) ?_
            repeat (quiet_step (fail))
            quiet_step ((refine Calls.mono (HCA.out _) ?_; rintro _ _ ⟨rfl, rfl⟩; exact ⟨rfl, _, rfl⟩))
            repeat (quiet_step (fail))
            refine wpQuiet_nil ?_
            intro _ hw1
            obtain ⟨nq, hw2⟩ := hw1
            subst hw2
            obtain ⟨⟨z0, z1, z2, z3, z4, z5⟩, y0, y1, y2, y3, y4, y5⟩ := rb hz
            go_wp2_with fail
            have hz6 := ((Moved.refl b (wr.drewN nq)).set 1 (.int .i64 ((i : Int) + 1))).blk (show (wr.drewN nq).heap[w.heap.size]? = some symZ from hz) hne
            have hsc6 : Scan b s ((i + 1 : Nat) : Int) ((wr.drewN nq).setCell ⟨b, 1, none⟩ (.int .i64 ((i : Int) + 1))) := ((hsc.drewN nq).set _).cast (by omega)
            have hmv6 := (hmv.drewN nq).set 1 (.int .i64 ((i : Int) + 1))
            refine bodyPost_ret (ret_sym { noSym with kind := 8, text := ⟨#[41]⟩ } rfl rfl rfl (sets6 { noSym with kind := 8, text := ⟨#[41]⟩ } hz6)) rfl ?_
            rw [HF.out]
            have le := Nat.le_refl w.heap.size
            exact ⟨rfl, (((((hsc6.setO hne hnm).setO hne hnm).setO hne hnm).setO hne hnm).setO hne hnm).setO hne hnm, (((((hmv6.setO le).setO le).setO le).setO le).setO le).setO le⟩
          | false =>
            rw [show (⟨#[41]⟩ : ByteArray).data.toList = [41] from rfl, hp] at hca
            have HCA := Lib.hid hca; clear hca
            have HF := Lib.hid (show markF s i = markGo s i (marksL.drop 8) from HK.out.trans (if_neg (by rw [hp]; simp)))
            clear hp
            go_wp2_with fail
            refine wp_region_quiet_lit (by kernel_rfl) (by kernel_rfl) ?_
            repeat (quiet_step (fail))
            quiet_step ((refine Calls.mono (HCA.out _) ?_; rintro _ _ ⟨rfl, rfl⟩; exact ⟨rfl, _, rfl⟩))
            repeat (quiet_step (fail))
            refine wpQuiet_nil ?_
            intro _ hw1
            obtain ⟨nq, hw2⟩ := hw1
            subst hw2
            go_wp2_with fail
            go_roundg g
            case measure => omega
            case rel => exact ⟨8, rfl, by omega, hm, hz, hsc.drewN _, hmv.drewN _, HF⟩
        · obtain ⟨g, rfl⟩ : ∃ g, gk = g + 1 := ⟨gk - 1, by omega⟩
          have hca := fun W => hasPrefix_c (s.extract i s.size) ⟨#[123]⟩ W
          cases hp : Lib.hasPrefix (s.extract i s.size).data.toList [123] with
          | true =>
            rw [show (⟨#[123]⟩ : ByteArray).data.toList = [123] from rfl, hp] at hca
            have HCA := Lib.hid hca; clear hca
            have HF := Lib.hid (show markF s i = .ok { noSym with kind := 8, text := ⟨#[123]⟩ } (i + 1) from HK.out.trans (if_pos hp))
            clear hp
            go_wp2_with fail
            refine wp_region_quiet_lit (by kernel_rfl) (by kernel_rfl) ?_
            repeat (quiet_step (fail))
            quiet_step ((refine Calls.mono (HCA.out _) ?_; rintro _ _ ⟨rfl, rfl⟩; exact ⟨rfl, _, rfl⟩))
            repeat (quiet_step (fail))
            refine wpQuiet_nil ?_
            intro _ hw1
            obtain ⟨nq, hw2⟩ := hw1
            subst hw2
            obtain ⟨⟨z0, z1, z2, z3, z4, z5⟩, y0, y1, y2, y3, y4, y5⟩ := rb hz
            go_wp2_with fail
            have hz6 := ((Moved.refl b (wr.drewN nq)).set 1 (.int .i64 ((i : Int) + 1))).blk (show (wr.drewN nq).heap[w.heap.size]? = some symZ from hz) hne
            have hsc6 : Scan b s ((i + 1 : Nat) : Int) ((wr.drewN nq).setCell ⟨b, 1, none⟩ (.int .i64 ((i : Int) + 1))) := ((hsc.drewN nq).set _).cast (by omega)
            have hmv6 := (hmv.drewN nq).set 1 (.int .i64 ((i : Int) + 1))
            refine bodyPost_ret (ret_sym { noSym with kind := 8, text := ⟨#[123]⟩ } rfl rfl rfl (sets6 { noSym with kind := 8, text := ⟨#[123]⟩ } hz6)) rfl ?_
            rw [HF.out]
            have le := Nat.le_refl w.heap.size
            exact ⟨rfl, (((((hsc6.setO hne hnm).setO hne hnm).setO hne hnm).setO hne hnm).setO hne hnm).setO hne hnm, (((((hmv6.setO le).setO le).setO le).setO le).setO le).setO le⟩
          | false =>
            rw [show (⟨#[123]⟩ : ByteArray).data.toList = [123] from rfl, hp] at hca
            have HCA := Lib.hid hca; clear hca
            have HF := Lib.hid (show markF s i = markGo s i (marksL.drop 9) from HK.out.trans (if_neg (by rw [hp]; simp)))
            clear hp
            go_wp2_with fail
            refine wp_region_quiet_lit (by kernel_rfl) (by kernel_rfl) ?_
            repeat (quiet_step (fail))
            quiet_step ((refine Calls.mono (HCA.out _) ?_; rintro _ _ ⟨rfl, rfl⟩; exact ⟨rfl, _, rfl⟩))
            repeat (quiet_step (fail))
            refine wpQuiet_nil ?_
            intro _ hw1
            obtain ⟨nq, hw2⟩ := hw1
            subst hw2
            go_wp2_with fail
            go_roundg g
            case measure => omega
            case rel => exact ⟨9, rfl, by omega, hm, hz, hsc.drewN _, hmv.drewN _, HF⟩
        · obtain ⟨g, rfl⟩ : ∃ g, gk = g + 1 := ⟨gk - 1, by omega⟩
          have hca := fun W => hasPrefix_c (s.extract i s.size) ⟨#[125]⟩ W
          cases hp : Lib.hasPrefix (s.extract i s.size).data.toList [125] with
          | true =>
            rw [show (⟨#[125]⟩ : ByteArray).data.toList = [125] from rfl, hp] at hca
            have HCA := Lib.hid hca; clear hca
            have HF := Lib.hid (show markF s i = .ok { noSym with kind := 8, text := ⟨#[125]⟩ } (i + 1) from HK.out.trans (if_pos hp))
            clear hp
            go_wp2_with fail
            refine wp_region_quiet_lit (by kernel_rfl) (by kernel_rfl) ?_
            repeat (quiet_step (fail))
            quiet_step ((refine Calls.mono (HCA.out _) ?_; rintro _ _ ⟨rfl, rfl⟩; exact ⟨rfl, _, rfl⟩))
            repeat (quiet_step (fail))
            refine wpQuiet_nil ?_
            intro _ hw1
            obtain ⟨nq, hw2⟩ := hw1
            subst hw2
            obtain ⟨⟨z0, z1, z2, z3, z4, z5⟩, y0, y1, y2, y3, y4, y5⟩ := rb hz
            go_wp2_with fail
            have hz6 := ((Moved.refl b (wr.drewN nq)).set 1 (.int .i64 ((i : Int) + 1))).blk (show (wr.drewN nq).heap[w.heap.size]? = some symZ from hz) hne
            have hsc6 : Scan b s ((i + 1 : Nat) : Int) ((wr.drewN nq).setCell ⟨b, 1, none⟩ (.int .i64 ((i : Int) + 1))) := ((hsc.drewN nq).set _).cast (by omega)
            have hmv6 := (hmv.drewN nq).set 1 (.int .i64 ((i : Int) + 1))
            refine bodyPost_ret (ret_sym { noSym with kind := 8, text := ⟨#[125]⟩ } rfl rfl rfl (sets6 { noSym with kind := 8, text := ⟨#[125]⟩ } hz6)) rfl ?_
            rw [HF.out]
            have le := Nat.le_refl w.heap.size
            exact ⟨rfl, (((((hsc6.setO hne hnm).setO hne hnm).setO hne hnm).setO hne hnm).setO hne hnm).setO hne hnm, (((((hmv6.setO le).setO le).setO le).setO le).setO le).setO le⟩
          | false =>
            rw [show (⟨#[125]⟩ : ByteArray).data.toList = [125] from rfl, hp] at hca
            have HCA := Lib.hid hca; clear hca
            have HF := Lib.hid (show markF s i = markGo s i (marksL.drop 10) from HK.out.trans (if_neg (by rw [hp]; simp)))
            clear hp
            go_wp2_with fail
            refine wp_region_quiet_lit (by kernel_rfl) (by kernel_rfl) ?_
            repeat (quiet_step (fail))
            quiet_step ((refine Calls.mono (HCA.out _) ?_; rintro _ _ ⟨rfl, rfl⟩; exact ⟨rfl, _, rfl⟩))
            repeat (quiet_step (fail))
            refine wpQuiet_nil ?_
            intro _ hw1
            obtain ⟨nq, hw2⟩ := hw1
            subst hw2
            go_wp2_with fail
            go_roundg g
            case measure => omega
            case rel => exact ⟨10, rfl, by omega, hm, hz, hsc.drewN _, hmv.drewN _, HF⟩
        · have HF := Lib.hid (show markF s i = .no from HK.out)
          obtain ⟨⟨z0, z1, z2, z3, z4, z5⟩, y0, y1, y2, y3, y4, y5⟩ := rb hz
          go_wp2_with fail
          refine bodyPost_ret (ret_sym noSym rfl rfl rfl (sets6 noSym hz)) rfl ?_
          rw [HF.out]
          have le := Nat.le_refl w.heap.size
          exact ⟨rfl, (((((hsc.setO hne hnm).setO hne hnm).setO hne hnm).setO hne hnm).setO hne hnm).setO hne hnm, (((((hmv.setO le).setO le).setO le).setO le).setO le).setO le⟩
end Go.Proofs.YtpfgjiahpddpkaaDoor
