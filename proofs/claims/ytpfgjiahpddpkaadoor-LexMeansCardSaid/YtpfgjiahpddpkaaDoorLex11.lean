/- The walks of the scanner: the next symbol. -/
import Derived.Test.YtpfgjiahpddpkaaDoorLex10
set_option linter.unusedVariables false
set_option linter.unusedSimpArgs false
namespace Go.Proofs.YtpfgjiahpddpkaaDoor
open Go.RowKit
/-- How next ends. -/
def NxPost (s : ByteArray) (b : Nat) (w : World) (R : LR) (e : Ending) (w' : World) : Prop :=
  match R with
  | .no => e = .returned (.tuple #[symV noSym, .bool false]) ∧ (∃ j : Int, Scan b s j w') ∧ Moved b w w'
  | .bad k => e = .panicked [wrongE k] ∧ (∃ j : Int, Scan b s j w') ∧ Moved b w w'
  | .ok y j => e = .returned (.tuple #[symV y, .bool true]) ∧ Scan b s (j : Nat) w' ∧ Moved b w w'
theorem alloc_blk {w : World} {r : Nat} {o x : Obj} (h : w.heap[r]? = some x) : (w.alloc o).heap[r]? = some x := (((Below.refl _ w).alloc (Nat.le_refl _) o).block r (Array.getElem?_eq_some_iff.1 h).1).trans h
def fnsO (b : Nat) : Obj := .cells #[(.func (.func 58) #[.pointer (some ⟨b, 0, none⟩)] #[]), (.func (.func 59) #[.pointer (some ⟨b, 0, none⟩)] #[]), (.func (.func 60) #[.pointer (some ⟨b, 0, none⟩)] #[]), (.func (.func 61) #[.pointer (some ⟨b, 0, none⟩)] #[]), (.func (.func 62) #[.pointer (some ⟨b, 0, none⟩)] #[]), (.func (.func 63) #[.pointer (some ⟨b, 0, none⟩)] #[]), (.func (.func 64) #[.pointer (some ⟨b, 0, none⟩)] #[])] 84 (0, 0)
theorem fb {b r : Nat} {w : World} (h : w.heap[r]? = some (fnsO b)) :
    w.cell? ⟨r, 0, none⟩ = some (.func (.func 58) #[.pointer (some ⟨b, 0, none⟩)] #[]) ∧ w.cell? ⟨r, 1, none⟩ = some (.func (.func 59) #[.pointer (some ⟨b, 0, none⟩)] #[]) ∧ w.cell? ⟨r, 2, none⟩ = some (.func (.func 60) #[.pointer (some ⟨b, 0, none⟩)] #[]) ∧ w.cell? ⟨r, 3, none⟩ = some (.func (.func 61) #[.pointer (some ⟨b, 0, none⟩)] #[]) ∧ w.cell? ⟨r, 4, none⟩ = some (.func (.func 62) #[.pointer (some ⟨b, 0, none⟩)] #[]) ∧ w.cell? ⟨r, 5, none⟩ = some (.func (.func 63) #[.pointer (some ⟨b, 0, none⟩)] #[]) ∧ w.cell? ⟨r, 6, none⟩ = some (.func (.func 64) #[.pointer (some ⟨b, 0, none⟩)] #[]) := by
  simp [World.cell?, h, fnsO]
set_option maxHeartbeats 4000000 in
theorem next_c {b : Nat} {s : ByteArray} {i : Nat} {w : World} (h : Scan b s (i : Int) w) (hi : i ≤ s.size) :
    Calls Tryd.prog 42 #[.pointer (some ⟨b, 0, none⟩)] w (NxPost s b w (nextF s i)) := by
  have hsm := h.small
  have hlt := h.lt
  have hml := h.max.lt
  have hne : w.heap.size ≠ b := by omega
  have hnm : w.heap.size ≠ 5 := by omega
  have hsk := skipU_ge s i hi
  obtain ⟨p, hp⟩ : ∃ p, skipU s i = p := ⟨_, rfl⟩
  have HP := Lib.hid hp
  rw [hp] at hsk
  clear hp
  go_enter Tryd.func42, Tryd.ntmps42
  go_upto_region 0 with fail
  go_cut [2, 3] (fun v c wx => v = .pointer (some ⟨w.heap.size, 0, none⟩) ∧ c = .bool false ∧ wx.heap[w.heap.size]? = some symZ ∧ Scan b s (i : Int) wx ∧ Moved b w wx)
  case first => go_wp2_with fail; go_meet; exact ⟨rfl, rfl, World.alloc_heap_new w symZ, h.alloc _, (Moved.refl b w).alloc _⟩
  case rest =>
    obtain ⟨rfl, rfl, hz, hsc, hmv⟩ := hcut
    go_upto_region 1 with fail
    go_cut [] (fun wx => wx.heap[w.heap.size]? = some symZ ∧ Scan b s (p : Int) wx ∧ Moved b w wx)
    case first =>
      go_wp2_with (go_at_call 57; refine (skip_c hsc).mono ?_; rintro e w3 ⟨rfl, hsc3, hmv3⟩)
      go_meet
      exact ⟨hmv3.blk hz hne, hsc3.cast (by rw [HP.out]), hmv.trans hmv3⟩
    case rest =>
      clear hz hsc hmv
      obtain ⟨hz, hsc, hmv⟩ := hcut
      have c0 := hsc.c0
      have c1 := hsc.c1
      by_cases hpl : p < s.size
      · have dge : decide ((s.size : Int) ≤ (p : Int)) = false := by simp; omega
        have dgn : decide (s.size ≤ p) = false := by simp; omega
        have HN := Lib.hid (show nextF s i = tryAll s p readers by unfold nextF; rw [HP.out]; exact if_pos hpl)
        have hrl := (Array.getElem?_eq_some_iff.1 hz).1
        have hrb := hsc.lt
        have hrm := hsc.max.lt
        obtain ⟨q, hq⟩ : ∃ q, wc.heap.size = q := ⟨_, rfl⟩
        rw [hq] at hrl hrb hrm
        go_wp2_with fail
        go_quiet (fail)
        go_upto_region 5 with fail
        go_cut [4, 40, 41, 42] (fun f v l c wx => f = .int .i64 p ∧ v = .slice (some ⟨q, 0, none⟩) 7 7 ∧ l = .int .i64 7 ∧ c = .int .i64 0 ∧ wx.heap[q]? = some (fnsO b) ∧ wx.heap[w.heap.size]? = some symZ ∧ Scan b s (p : Int) wx ∧ Moved b w wx)
        case first =>
          go_wp2_with fail
          go_meet
          subst hq
          exact ⟨rfl, rfl, rfl, rfl, World.alloc_heap_new wc (fnsO b), ((Moved.refl b wc).alloc _).blk hz hne, (hsc.drewN _).alloc _, (hmv.drewN _).alloc _⟩
        case rest =>
          clear hz hsc hmv c0 c1 hq
          obtain ⟨rfl, rfl, rfl, rfl, hm0, hz0, hsc0, hmv0⟩ := hcut
          go_wp2_with fail
          go_loopg [42] 7 (fun g c wr => ∃ k : Nat, c = .int .i64 k ∧ k + g = 7 ∧ wr.heap[q]? = some (fnsO b) ∧ wr.heap[w.heap.size]? = some symZ ∧ Scan b s (p : Int) wr ∧ Moved b w wr ∧ Hid (nextF s i = tryAll s p (readers.drop k)))
          case atStart => exact ⟨0, rfl, rfl, hm0, hz0, hsc0, hmv0, HN⟩
          case round =>
            clear hm0 hz0 hsc0 hmv0
            obtain ⟨k, rfl, hkg, hm, hz, hsc, hmv, HK⟩ := hrel
            obtain ⟨m0, m1, m2, m3, m4, m5, m6⟩ := fb hm
            have hk7 : k = 0 ∨ k = 1 ∨ k = 2 ∨ k = 3 ∨ k = 4 ∨ k = 5 ∨ k = 6 ∨ k = 7 := by omega
            rcases hk7 with rfl | rfl | rfl | rfl | rfl | rfl | rfl | rfl
            · obtain ⟨g, rfl⟩ : ∃ g, gk = g + 1 := ⟨gk - 1, by omega⟩
              have hst : nextF s i = (match iriF s p with | .no => tryAll s p (readers.drop 1) | .bad k => .bad k | .ok y j => .ok { y with place := (p : Int) } j) := HK.out
              cases hR : iriF s p with
              | no =>
                rw [hR] at hst
                have HR := Lib.hid hR; clear hR
                have HF := Lib.hid (show nextF s i = tryAll s p (readers.drop 1) from hst); clear hst
                go_wp2_with (go_at_call 58; refine (riri_c hsc (by omega)).mono ?_; intro e w3 hpp; rw [HR.out] at hpp; obtain ⟨rfl, hsc3, hmv3⟩ := hpp; simp only [symV])
                go_roundg g
                case measure => omega
                case rel => exact ⟨1, rfl, by omega, ((hmv3.alloc _).blk hm (by omega)), ((hmv3.alloc _).blk hz hne), hsc3.alloc _, (hmv.trans hmv3).alloc _, HF⟩
              | bad k =>
                rw [hR] at hst
                have HR := Lib.hid hR; clear hR
                have HF := Lib.hid (show nextF s i = .bad k from hst); clear hst
                go_wp2_with (go_at_call 58; refine (riri_c hsc (by omega)).mono ?_; intro e w3 hpp; rw [HR.out] at hpp; obtain ⟨rfl, hsc3, hmv3⟩ := hpp)
                refine ⟨rfl, ?_⟩
                rw [HF.out]; exact ⟨rfl, hsc3, hmv.trans hmv3⟩
              | ok y j =>
                rw [hR] at hst
                have HR := Lib.hid hR; clear hR
                have HF := Lib.hid (show nextF s i = .ok { y with place := (p : Int) } j from hst); clear hst
                go_wp2_with (go_at_call 58; refine (riri_c hsc (by omega)).mono ?_; intro e w3 hpp; rw [HR.out] at hpp; obtain ⟨rfl, hsc3, hmv3⟩ := hpp; have hz3 := hmv3.blk hz hne; have hl3 := (Array.getElem?_eq_some_iff.1 hz3).1; obtain ⟨⟨z0, z1, z2, z3, z4, z5⟩, y0, y1, y2, y3, y4, y5⟩ := rb hz3; simp only [symV])
                have le := Nat.le_refl w.heap.size
                have hmv9 := hmv.trans hmv3
                refine bodyPost_ret (ret_sym { y with place := (p : Int) } rfl rfl rfl (alloc_blk (sets6 { y with place := (p : Int) } hz3))) rfl ?_
                rw [HF.out]
                exact ⟨rfl, ((((((hsc3.setO hne hnm).setO hne hnm).setO hne hnm).setO hne hnm).setO hne hnm).setO hne hnm).alloc _, ((((((hmv9.setO le).setO le).setO le).setO le).setO le).setO le).alloc _⟩
            · obtain ⟨g, rfl⟩ : ∃ g, gk = g + 1 := ⟨gk - 1, by omega⟩
              have hst : nextF s i = (match blankF s p with | .no => tryAll s p (readers.drop 2) | .bad k => .bad k | .ok y j => .ok { y with place := (p : Int) } j) := HK.out
              cases hR : blankF s p with
              | no =>
                rw [hR] at hst
                have HR := Lib.hid hR; clear hR
                have HF := Lib.hid (show nextF s i = tryAll s p (readers.drop 2) from hst); clear hst
                go_wp2_with (go_at_call 59; refine (rblank_c hsc (by omega)).mono ?_; intro e w3 hpp; rw [HR.out] at hpp; obtain ⟨rfl, hsc3, hmv3⟩ := hpp; simp only [symV])
                go_roundg g
                case measure => omega
                case rel => exact ⟨2, rfl, by omega, ((hmv3.alloc _).blk hm (by omega)), ((hmv3.alloc _).blk hz hne), hsc3.alloc _, (hmv.trans hmv3).alloc _, HF⟩
              | bad k =>
                rw [hR] at hst
                have HR := Lib.hid hR; clear hR
                have HF := Lib.hid (show nextF s i = .bad k from hst); clear hst
                go_wp2_with (go_at_call 59; refine (rblank_c hsc (by omega)).mono ?_; intro e w3 hpp; rw [HR.out] at hpp; obtain ⟨rfl, hsc3, hmv3⟩ := hpp)
                refine ⟨rfl, ?_⟩
                rw [HF.out]; exact ⟨rfl, hsc3, hmv.trans hmv3⟩
              | ok y j =>
                rw [hR] at hst
                have HR := Lib.hid hR; clear hR
                have HF := Lib.hid (show nextF s i = .ok { y with place := (p : Int) } j from hst); clear hst
                go_wp2_with (go_at_call 59; refine (rblank_c hsc (by omega)).mono ?_; intro e w3 hpp; rw [HR.out] at hpp; obtain ⟨rfl, hsc3, hmv3⟩ := hpp; have hz3 := hmv3.blk hz hne; have hl3 := (Array.getElem?_eq_some_iff.1 hz3).1; obtain ⟨⟨z0, z1, z2, z3, z4, z5⟩, y0, y1, y2, y3, y4, y5⟩ := rb hz3; simp only [symV])
                have le := Nat.le_refl w.heap.size
                have hmv9 := hmv.trans hmv3
                refine bodyPost_ret (ret_sym { y with place := (p : Int) } rfl rfl rfl (alloc_blk (sets6 { y with place := (p : Int) } hz3))) rfl ?_
                rw [HF.out]
                exact ⟨rfl, ((((((hsc3.setO hne hnm).setO hne hnm).setO hne hnm).setO hne hnm).setO hne hnm).setO hne hnm).alloc _, ((((((hmv9.setO le).setO le).setO le).setO le).setO le).setO le).alloc _⟩
            · obtain ⟨g, rfl⟩ : ∃ g, gk = g + 1 := ⟨gk - 1, by omega⟩
              have hst : nextF s i = (match textF s p with | .no => tryAll s p (readers.drop 3) | .bad k => .bad k | .ok y j => .ok { y with place := (p : Int) } j) := HK.out
              cases hR : textF s p with
              | no =>
                rw [hR] at hst
                have HR := Lib.hid hR; clear hR
                have HF := Lib.hid (show nextF s i = tryAll s p (readers.drop 3) from hst); clear hst
                go_wp2_with (go_at_call 60; refine (text_c hsc (by omega)).mono ?_; intro e w3 hpp; rw [HR.out] at hpp; obtain ⟨rfl, hsc3, hmv3⟩ := hpp; simp only [symV])
                go_roundg g
                case measure => omega
                case rel => exact ⟨3, rfl, by omega, ((hmv3.alloc _).blk hm (by omega)), ((hmv3.alloc _).blk hz hne), hsc3.alloc _, (hmv.trans hmv3).alloc _, HF⟩
              | bad k =>
                rw [hR] at hst
                have HR := Lib.hid hR; clear hR
                have HF := Lib.hid (show nextF s i = .bad k from hst); clear hst
                go_wp2_with (go_at_call 60; refine (text_c hsc (by omega)).mono ?_; intro e w3 hpp; rw [HR.out] at hpp; obtain ⟨rfl, hsc3, hmv3⟩ := hpp)
                refine ⟨rfl, ?_⟩
                rw [HF.out]; exact ⟨rfl, hsc3, hmv.trans hmv3⟩
              | ok y j =>
                rw [hR] at hst
                have HR := Lib.hid hR; clear hR
                have HF := Lib.hid (show nextF s i = .ok { y with place := (p : Int) } j from hst); clear hst
                go_wp2_with (go_at_call 60; refine (text_c hsc (by omega)).mono ?_; intro e w3 hpp; rw [HR.out] at hpp; obtain ⟨rfl, hsc3, hmv3⟩ := hpp; have hz3 := hmv3.blk hz hne; have hl3 := (Array.getElem?_eq_some_iff.1 hz3).1; obtain ⟨⟨z0, z1, z2, z3, z4, z5⟩, y0, y1, y2, y3, y4, y5⟩ := rb hz3; simp only [symV])
                have le := Nat.le_refl w.heap.size
                have hmv9 := hmv.trans hmv3
                refine bodyPost_ret (ret_sym { y with place := (p : Int) } rfl rfl rfl (alloc_blk (sets6 { y with place := (p : Int) } hz3))) rfl ?_
                rw [HF.out]
                exact ⟨rfl, ((((((hsc3.setO hne hnm).setO hne hnm).setO hne hnm).setO hne hnm).setO hne hnm).setO hne hnm).alloc _, ((((((hmv9.setO le).setO le).setO le).setO le).setO le).setO le).alloc _⟩
            · obtain ⟨g, rfl⟩ : ∃ g, gk = g + 1 := ⟨gk - 1, by omega⟩
              have hst : nextF s i = (match langF s p with | .no => tryAll s p (readers.drop 4) | .bad k => .bad k | .ok y j => .ok { y with place := (p : Int) } j) := HK.out
              cases hR : langF s p with
              | no =>
                rw [hR] at hst
                have HR := Lib.hid hR; clear hR
                have HF := Lib.hid (show nextF s i = tryAll s p (readers.drop 4) from hst); clear hst
                go_wp2_with (go_at_call 61; refine (rlang_c hsc (by omega)).mono ?_; intro e w3 hpp; rw [HR.out] at hpp; obtain ⟨rfl, hsc3, hmv3⟩ := hpp; simp only [symV])
                go_roundg g
                case measure => omega
                case rel => exact ⟨4, rfl, by omega, ((hmv3.alloc _).blk hm (by omega)), ((hmv3.alloc _).blk hz hne), hsc3.alloc _, (hmv.trans hmv3).alloc _, HF⟩
              | bad k =>
                rw [hR] at hst
                have HR := Lib.hid hR; clear hR
                have HF := Lib.hid (show nextF s i = .bad k from hst); clear hst
                go_wp2_with (go_at_call 61; refine (rlang_c hsc (by omega)).mono ?_; intro e w3 hpp; rw [HR.out] at hpp; obtain ⟨rfl, hsc3, hmv3⟩ := hpp)
                refine ⟨rfl, ?_⟩
                rw [HF.out]; exact ⟨rfl, hsc3, hmv.trans hmv3⟩
              | ok y j =>
                rw [hR] at hst
                have HR := Lib.hid hR; clear hR
                have HF := Lib.hid (show nextF s i = .ok { y with place := (p : Int) } j from hst); clear hst
                go_wp2_with (go_at_call 61; refine (rlang_c hsc (by omega)).mono ?_; intro e w3 hpp; rw [HR.out] at hpp; obtain ⟨rfl, hsc3, hmv3⟩ := hpp; have hz3 := hmv3.blk hz hne; have hl3 := (Array.getElem?_eq_some_iff.1 hz3).1; obtain ⟨⟨z0, z1, z2, z3, z4, z5⟩, y0, y1, y2, y3, y4, y5⟩ := rb hz3; simp only [symV])
                have le := Nat.le_refl w.heap.size
                have hmv9 := hmv.trans hmv3
                refine bodyPost_ret (ret_sym { y with place := (p : Int) } rfl rfl rfl (alloc_blk (sets6 { y with place := (p : Int) } hz3))) rfl ?_
                rw [HF.out]
                exact ⟨rfl, ((((((hsc3.setO hne hnm).setO hne hnm).setO hne hnm).setO hne hnm).setO hne hnm).setO hne hnm).alloc _, ((((((hmv9.setO le).setO le).setO le).setO le).setO le).setO le).alloc _⟩
            · obtain ⟨g, rfl⟩ : ∃ g, gk = g + 1 := ⟨gk - 1, by omega⟩
              have hst : nextF s i = (match varF s p with | .no => tryAll s p (readers.drop 5) | .bad k => .bad k | .ok y j => .ok { y with place := (p : Int) } j) := HK.out
              cases hR : varF s p with
              | no =>
                rw [hR] at hst
                have HR := Lib.hid hR; clear hR
                have HF := Lib.hid (show nextF s i = tryAll s p (readers.drop 5) from hst); clear hst
                go_wp2_with (go_at_call 62; refine (rvar_c hsc (by omega)).mono ?_; intro e w3 hpp; rw [HR.out] at hpp; obtain ⟨rfl, hsc3, hmv3⟩ := hpp; simp only [symV])
                go_roundg g
                case measure => omega
                case rel => exact ⟨5, rfl, by omega, ((hmv3.alloc _).blk hm (by omega)), ((hmv3.alloc _).blk hz hne), hsc3.alloc _, (hmv.trans hmv3).alloc _, HF⟩
              | bad k =>
                rw [hR] at hst
                have HR := Lib.hid hR; clear hR
                have HF := Lib.hid (show nextF s i = .bad k from hst); clear hst
                go_wp2_with (go_at_call 62; refine (rvar_c hsc (by omega)).mono ?_; intro e w3 hpp; rw [HR.out] at hpp; obtain ⟨rfl, hsc3, hmv3⟩ := hpp)
                refine ⟨rfl, ?_⟩
                rw [HF.out]; exact ⟨rfl, hsc3, hmv.trans hmv3⟩
              | ok y j =>
                rw [hR] at hst
                have HR := Lib.hid hR; clear hR
                have HF := Lib.hid (show nextF s i = .ok { y with place := (p : Int) } j from hst); clear hst
                go_wp2_with (go_at_call 62; refine (rvar_c hsc (by omega)).mono ?_; intro e w3 hpp; rw [HR.out] at hpp; obtain ⟨rfl, hsc3, hmv3⟩ := hpp; have hz3 := hmv3.blk hz hne; have hl3 := (Array.getElem?_eq_some_iff.1 hz3).1; obtain ⟨⟨z0, z1, z2, z3, z4, z5⟩, y0, y1, y2, y3, y4, y5⟩ := rb hz3; simp only [symV])
                have le := Nat.le_refl w.heap.size
                have hmv9 := hmv.trans hmv3
                refine bodyPost_ret (ret_sym { y with place := (p : Int) } rfl rfl rfl (alloc_blk (sets6 { y with place := (p : Int) } hz3))) rfl ?_
                rw [HF.out]
                exact ⟨rfl, ((((((hsc3.setO hne hnm).setO hne hnm).setO hne hnm).setO hne hnm).setO hne hnm).setO hne hnm).alloc _, ((((((hmv9.setO le).setO le).setO le).setO le).setO le).setO le).alloc _⟩
            · obtain ⟨g, rfl⟩ : ∃ g, gk = g + 1 := ⟨gk - 1, by omega⟩
              have hst : nextF s i = (match wordF s p with | .no => tryAll s p (readers.drop 6) | .bad k => .bad k | .ok y j => .ok { y with place := (p : Int) } j) := HK.out
              cases hR : wordF s p with
              | no =>
                rw [hR] at hst
                have HR := Lib.hid hR; clear hR
                have HF := Lib.hid (show nextF s i = tryAll s p (readers.drop 6) from hst); clear hst
                go_wp2_with (go_at_call 63; refine (rword_c hsc (by omega)).mono ?_; intro e w3 hpp; rw [HR.out] at hpp; obtain ⟨rfl, hsc3, hmv3⟩ := hpp; simp only [symV])
                go_roundg g
                case measure => omega
                case rel => exact ⟨6, rfl, by omega, ((hmv3.alloc _).blk hm (by omega)), ((hmv3.alloc _).blk hz hne), hsc3.alloc _, (hmv.trans hmv3).alloc _, HF⟩
              | bad k =>
                rw [hR] at hst
                have HR := Lib.hid hR; clear hR
                have HF := Lib.hid (show nextF s i = .bad k from hst); clear hst
                go_wp2_with (go_at_call 63; refine (rword_c hsc (by omega)).mono ?_; intro e w3 hpp; rw [HR.out] at hpp; obtain ⟨rfl, hsc3, hmv3⟩ := hpp)
                refine ⟨rfl, ?_⟩
                rw [HF.out]; exact ⟨rfl, hsc3, hmv.trans hmv3⟩
              | ok y j =>
                rw [hR] at hst
                have HR := Lib.hid hR; clear hR
                have HF := Lib.hid (show nextF s i = .ok { y with place := (p : Int) } j from hst); clear hst
                go_wp2_with (go_at_call 63; refine (rword_c hsc (by omega)).mono ?_; intro e w3 hpp; rw [HR.out] at hpp; obtain ⟨rfl, hsc3, hmv3⟩ := hpp; have hz3 := hmv3.blk hz hne; have hl3 := (Array.getElem?_eq_some_iff.1 hz3).1; obtain ⟨⟨z0, z1, z2, z3, z4, z5⟩, y0, y1, y2, y3, y4, y5⟩ := rb hz3; simp only [symV])
                have le := Nat.le_refl w.heap.size
                have hmv9 := hmv.trans hmv3
                refine bodyPost_ret (ret_sym { y with place := (p : Int) } rfl rfl rfl (alloc_blk (sets6 { y with place := (p : Int) } hz3))) rfl ?_
                rw [HF.out]
                exact ⟨rfl, ((((((hsc3.setO hne hnm).setO hne hnm).setO hne hnm).setO hne hnm).setO hne hnm).setO hne hnm).alloc _, ((((((hmv9.setO le).setO le).setO le).setO le).setO le).setO le).alloc _⟩
            · obtain ⟨g, rfl⟩ : ∃ g, gk = g + 1 := ⟨gk - 1, by omega⟩
              have hst : nextF s i = (match markF s p with | .no => tryAll s p (readers.drop 7) | .bad k => .bad k | .ok y j => .ok { y with place := (p : Int) } j) := HK.out
              cases hR : markF s p with
              | no =>
                rw [hR] at hst
                have HR := Lib.hid hR; clear hR
                have HF := Lib.hid (show nextF s i = tryAll s p (readers.drop 7) from hst); clear hst
                go_wp2_with (go_at_call 64; refine (rmark_c hsc (by omega)).mono ?_; intro e w3 hpp; rw [HR.out] at hpp; obtain ⟨rfl, hsc3, hmv3⟩ := hpp; simp only [symV])
                go_roundg g
                case measure => omega
                case rel => exact ⟨7, rfl, by omega, ((hmv3.alloc _).blk hm (by omega)), ((hmv3.alloc _).blk hz hne), hsc3.alloc _, (hmv.trans hmv3).alloc _, HF⟩
              | bad k =>
                rw [hR] at hst
                have HR := Lib.hid hR; clear hR
                have HF := Lib.hid (show nextF s i = .bad k from hst); clear hst
                go_wp2_with (go_at_call 64; refine (rmark_c hsc (by omega)).mono ?_; intro e w3 hpp; rw [HR.out] at hpp; obtain ⟨rfl, hsc3, hmv3⟩ := hpp)
                refine ⟨rfl, ?_⟩
                rw [HF.out]; exact ⟨rfl, hsc3, hmv.trans hmv3⟩
              | ok y j =>
                rw [hR] at hst
                have HR := Lib.hid hR; clear hR
                have HF := Lib.hid (show nextF s i = .ok { y with place := (p : Int) } j from hst); clear hst
                go_wp2_with (go_at_call 64; refine (rmark_c hsc (by omega)).mono ?_; intro e w3 hpp; rw [HR.out] at hpp; obtain ⟨rfl, hsc3, hmv3⟩ := hpp; have hz3 := hmv3.blk hz hne; have hl3 := (Array.getElem?_eq_some_iff.1 hz3).1; obtain ⟨⟨z0, z1, z2, z3, z4, z5⟩, y0, y1, y2, y3, y4, y5⟩ := rb hz3; simp only [symV])
                have le := Nat.le_refl w.heap.size
                have hmv9 := hmv.trans hmv3
                refine bodyPost_ret (ret_sym { y with place := (p : Int) } rfl rfl rfl (alloc_blk (sets6 { y with place := (p : Int) } hz3))) rfl ?_
                rw [HF.out]
                exact ⟨rfl, ((((((hsc3.setO hne hnm).setO hne hnm).setO hne hnm).setO hne hnm).setO hne hnm).setO hne hnm).alloc _, ((((((hmv9.setO le).setO le).setO le).setO le).setO le).setO le).alloc _⟩
            · have HF := Lib.hid (show nextF s i = .bad p from HK.out)
              go_wp2_with (go_at_call 65; refine (fail_c _ _ _).mono ?_; rintro e w' ⟨rfl, rfl⟩)
              refine ⟨rfl, ?_⟩
              rw [HF.out]; exact ⟨rfl, ⟨_, hsc⟩, hmv⟩
      · have dge : decide ((s.size : Int) ≤ (p : Int)) = true := by simp; omega
        have dgn : decide (s.size ≤ p) = true := by simp; omega
        have HF := Lib.hid (show nextF s i = .no by unfold nextF; rw [HP.out]; exact if_neg hpl)
        obtain ⟨⟨z0, z1, z2, z3, z4, z5⟩, y0, y1, y2, y3, y4, y5⟩ := rb hz
        have le := Nat.le_refl w.heap.size
        go_wp2_with fail
        go_quiet (fail)
        go_wp2
        have hz9 : (wc.drewN nq).heap[w.heap.size]? = some symZ := hz
        have hsc9 := hsc.drewN nq
        have hmv9 := hmv.drewN nq
        refine bodyPost_ret (ret_sym noSym rfl rfl rfl (sets6 noSym hz9)) rfl ?_
        rw [HF.out]
        exact ⟨rfl, ⟨_, (((((hsc9.setO hne hnm).setO hne hnm).setO hne hnm).setO hne hnm).setO hne hnm).setO hne hnm⟩, (((((hmv9.setO le).setO le).setO le).setO le).setO le).setO le⟩
end Go.Proofs.YtpfgjiahpddpkaaDoor
