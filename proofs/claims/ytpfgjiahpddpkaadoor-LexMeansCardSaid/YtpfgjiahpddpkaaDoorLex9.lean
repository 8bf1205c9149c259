/- The walks of the scanner: words, names. -/
import Derived.Test.YtpfgjiahpddpkaaDoorLex8
import Derived.BigRegion
set_option linter.unusedVariables false
set_option linter.unusedSimpArgs false
namespace Go.Proofs.YtpfgjiahpddpkaaDoor
open Go.RowKit
theorem drew_heap (w : World) : w.drew.heap = w.heap := rfl
theorem sets6d {r : Nat} {w : World} (y : Sym) (h : w.heap[r]? = some symZ) :
    (((((((w.setCell ⟨r, 0, none⟩ (.int .i64 y.kind)).setCell ⟨r, 1, none⟩ (.string y.text)).setCell ⟨r, 2, none⟩ (.int .i64 y.tk)).setCell ⟨r, 3, none⟩ (.string y.tt)).setCell ⟨r, 4, none⟩ (.string y.tx)).setCell ⟨r, 5, none⟩ (.int .i64 y.place)).drew).heap[r]? = some (symO y) := by rw [drew_heap]; exact sets6 y h
set_option maxHeartbeats 4000000 in
theorem rword_c {b : Nat} {s : ByteArray} {i : Nat} {w : World} (h : Scan b s (i : Int) w) (hi : i ≤ s.size) :
    Calls Tryd.prog 63 #[.pointer (some ⟨b, 0, none⟩)] w (RdPost s i b w (wordF s i)) := by
  have hsm := h.small
  have hlt := h.lt
  have hml := h.max.lt
  have hne : w.heap.size ≠ b := by omega
  have hnm : w.heap.size ≠ 5 := by omega
  go_enter Tryd.func63, Tryd.ntmps63
  go_upto_region 0 with fail
  go_cut [2, 3] (fun v c wx => v = .pointer (some ⟨w.heap.size, 0, none⟩) ∧ c = .bool false ∧ wx.heap[w.heap.size]? = some symZ ∧ Scan b s (i : Int) wx ∧ Moved b w wx)
  case first => go_wp2_with fail; go_meet; exact ⟨rfl, rfl, World.alloc_heap_new w symZ, h.alloc _, (Moved.refl b w).alloc _⟩
  case rest =>
    obtain ⟨rfl, rfl, hz, hsc, hmv⟩ := hcut
    have c1 := hsc.c1
    have f1 := hsc.f1
    by_cases h1 : letterB (bt s i) = true ∨ (bt s i = 58 ∧ bt s (i+1) ≠ 45)
    · have hun : wordF s i = _ := if_pos h1
      have hin : i < s.size := bt_in s i (by rcases h1 with h1 | h1; (simp [letterB] at h1; omega); (rw [h1.1]; decide))
      have hst : letterB (bt s i) = true ∨ (letterB (bt s i) = false ∧ (bt s i != 58) = false ∧ (bt s (i+1) == 45) = false) := by
        cases hl : letterB (bt s i)
        · rw [hl] at h1; simp at h1; simp [h1]
        · exact .inl rfl
      have hrb := runU_bd s namedP i hi
      have HU := Lib.hid hun; clear hun h1
      by_cases h32 : 32 < runU s namedP i
      · have HF := Lib.hid (show wordF s i = .bad i by rw [HU.out]; exact if_pos h32)
        rcases hst with b1 | ⟨b1, b2, b3⟩
        all_goals
          go_wp2_with (first
            | (go_at_call 89; refine (lletter_c _ _).mono ?_; rintro e w' ⟨rfl, rfl⟩)
            | (go_at_call 83; refine (ch_c hsc _ (i+1) (by omega)).mono ?_; rintro e w' ⟨rfl, rfl⟩)
            | (go_at_call 83; refine (ch_c hsc _ (i) (by omega)).mono ?_; rintro e w' ⟨rfl, rfl⟩)
            | (go_at_call 85; have hrn := run_named_c hsc i 32 (by omega); refine hrn.mono ?_; rintro e w3 ⟨_, hp⟩; obtain ⟨rfl, hsc3, hmv3⟩ := hp (by omega)))
          refine ⟨rfl, ?_⟩
          rw [HF.out]; exact ⟨rfl, hsc3, hmv.trans hmv3⟩
      · have hu2 : wordF s i = if bt s (i + runU s namedP i) ≠ 58 ∨ bt s (i + runU s namedP i + 1) = 45 then .ok { noSym with kind := 6, text := s.extract i (i + runU s namedP i) } (i + runU s namedP i) else if 64 < runU s nameP (i + runU s namedP i + 1) then .bad i else .ok { noSym with kind := 7, text := s.extract i (i + runU s namedP i + 1 + runU s nameP (i + runU s namedP i + 1)) } (i + runU s namedP i + 1 + runU s nameP (i + runU s namedP i + 1)) := by
          rw [HU.out]; exact if_neg h32
        obtain ⟨n, hn⟩ : ∃ n, runU s namedP i = n := ⟨_, rfl⟩
        rw [hn] at hu2 hrb h32
        have hrun := fun (hh : n ≤ 32) => run_named_c (w := wc) hsc i 32 hi
        rw [hn] at hrun
        have HRUN := Lib.hid (hrun (by omega))
        clear hrun hn
        by_cases hd : bt s (i + n) ≠ 58 ∨ bt s (i + n + 1) = 45
        · rw [if_pos hd] at hu2
          have HF := Lib.hid hu2; clear hu2
          have hd2 : (bt s (i + n) != 58) = true ∨ ((bt s (i + n) != 58) = false ∧ (bt s (i + n + 1) == 45) = true) := by
            simp only [bne_iff_ne, ne_eq, bne_eq_false_iff_eq, beq_iff_eq]; omega
          clear hd
          rcases hst with b1 | ⟨b1, b2, b3⟩ <;> rcases hd2 with d1 | ⟨d1, d2⟩
          all_goals
            go_wp2_with (first
              | (go_at_call 89; refine (lletter_c _ _).mono ?_; rintro e w' ⟨rfl, rfl⟩)
              | (go_at_call 83; refine (ch_c hsc3 _ (i+n+1) (by omega)).mono ?_; rintro e w' ⟨rfl, rfl⟩)
              | (go_at_call 83; refine (ch_c hsc3 _ (i+n) (by omega)).mono ?_; rintro e w' ⟨rfl, rfl⟩)
              | (go_at_call 83; refine (ch_c hsc _ (i+1) (by omega)).mono ?_; rintro e w' ⟨rfl, rfl⟩)
              | (go_at_call 83; refine (ch_c hsc _ (i) (by omega)).mono ?_; rintro e w' ⟨rfl, rfl⟩)
              | (go_at_call 85; refine HRUN.out.mono ?_; rintro e w3 ⟨hp, _⟩; obtain ⟨rfl, hsc3, hmv3⟩ := hp (by omega); have c3 := hsc3.c1; have hz3 := hmv3.blk hz hne; obtain ⟨⟨z0, z1, z2, z3, z4, z5⟩, y0, y1, y2, y3, y4, y5⟩ := rb hz3))
            refine bodyPost_ret (ret_sym { noSym with kind := 6, text := s.extract i (i + n) } rfl rfl rfl (sets6 { noSym with kind := 6, text := s.extract i (i + n) } hz3)) rfl ?_
            rw [HF.out]
            have le := Nat.le_refl w.heap.size
            exact ⟨rfl, (((((hsc3.setO hne hnm).setO hne hnm).setO hne hnm).setO hne hnm).setO hne hnm).setO hne hnm, ((((((hmv.trans hmv3).setO le).setO le).setO le).setO le).setO le).setO le⟩
        · rw [if_neg hd] at hu2
          have HU2 := Lib.hid hu2; clear hu2
          have d1 : (bt s (i + n) != 58) = false := by simp; omega
          have d2 : (bt s (i + n + 1) == 45) = false := by simp; omega
          have hin2 := bt_in s (i + n) (by omega)
          have hrb2 := runU_bd s nameP (i + n + 1) (by omega)
          clear hd
          by_cases h64 : 64 < runU s nameP (i + n + 1)
          · have HF := Lib.hid (show wordF s i = .bad i by rw [HU2.out]; exact if_pos h64)
            rcases hst with b1 | ⟨b1, b2, b3⟩
            all_goals
              go_wp2_with (first
                | (go_at_call 89; refine (lletter_c _ _).mono ?_; rintro e w' ⟨rfl, rfl⟩)
                | (go_at_call 83; refine (ch_c hsc3 _ (i+n+1) (by omega)).mono ?_; rintro e w' ⟨rfl, rfl⟩)
                | (go_at_call 83; refine (ch_c hsc3 _ (i+n) (by omega)).mono ?_; rintro e w' ⟨rfl, rfl⟩)
                | (go_at_call 83; refine (ch_c hsc _ (i+1) (by omega)).mono ?_; rintro e w' ⟨rfl, rfl⟩)
                | (go_at_call 83; refine (ch_c hsc _ (i) (by omega)).mono ?_; rintro e w' ⟨rfl, rfl⟩)
                | (go_at_call 85; have hrn := run_word_c hsc4 i 64 (by omega); refine hrn.mono ?_; rintro e w5 ⟨_, hp⟩; obtain ⟨rfl, hsc5, hmv5⟩ := hp (by omega))
                | (go_at_call 85; refine HRUN.out.mono ?_; rintro e w3 ⟨hp, _⟩; obtain ⟨rfl, hsc3, hmv3⟩ := hp (by omega); have c3 := hsc3.c1; have f3 := hsc3.f1; have hsc4 : Scan b s ((i + n + 1 : Nat) : Int) (w3.setCell ⟨b, 1, none⟩ (.int .i64 ((i : Int) + (n : Int) + 1))) := (hsc3.set _).cast (by omega)))
              refine ⟨rfl, ?_⟩
              rw [HF.out]; exact ⟨rfl, hsc5, ((hmv.trans hmv3).set _ _).trans hmv5⟩
          · have HF := Lib.hid (HU2.out.trans (if_neg h64))
            rcases hst with b1 | ⟨b1, b2, b3⟩
            all_goals
              go_wp2_with (first
                | (go_at_call 89; refine (lletter_c _ _).mono ?_; rintro e w' ⟨rfl, rfl⟩)
                | (go_at_call 83; refine (ch_c hsc3 _ (i+n+1) (by omega)).mono ?_; rintro e w' ⟨rfl, rfl⟩)
                | (go_at_call 83; refine (ch_c hsc3 _ (i+n) (by omega)).mono ?_; rintro e w' ⟨rfl, rfl⟩)
                | (go_at_call 83; refine (ch_c hsc _ (i+1) (by omega)).mono ?_; rintro e w' ⟨rfl, rfl⟩)
                | (go_at_call 83; refine (ch_c hsc _ (i) (by omega)).mono ?_; rintro e w' ⟨rfl, rfl⟩)
                | (go_at_call 85; have hrn := run_word_c hsc4 i 64 (by omega); refine hrn.mono ?_; rintro e w5 ⟨hp, _⟩; obtain ⟨rfl, hsc5, hmv5⟩ := hp (by omega); have c50 := hsc5.c0; have c51 := hsc5.c1; have hz5 := hmv5.blk hz4 hne; obtain ⟨⟨z0, z1, z2, z3, z4, z5⟩, y0, y1, y2, y3, y4, y5⟩ := rb hz5)
                | (go_at_call 85; refine HRUN.out.mono ?_; rintro e w3 ⟨hp, _⟩; obtain ⟨rfl, hsc3, hmv3⟩ := hp (by omega); have c3 := hsc3.c1; have f3 := hsc3.f1; have hsc4 : Scan b s ((i + n + 1 : Nat) : Int) (w3.setCell ⟨b, 1, none⟩ (.int .i64 ((i : Int) + (n : Int) + 1))) := (hsc3.set _).cast (by omega); have hz4 := ((Moved.refl b w3).set 1 (.int .i64 ((i : Int) + (n : Int) + 1))).blk (hmv3.blk hz hne) hne))
              obtain ⟨q, hq⟩ : ∃ q, i + n + 1 + runU s nameP (i + n + 1) = q := ⟨_, rfl⟩
              have hF2 := HF.out
              rw [hq] at c51 hsc5 hF2 hrb2
              have HF2 := Lib.hid hF2
              have hiq : i ≤ q := by omega
              have hmv6 := ((hmv.trans hmv3).set 1 (.int .i64 ((i : Int) + (n : Int) + 1))).trans hmv5
              have le := Nat.le_refl w.heap.size
              clear hF2 hq hrn
              go_region
              all_goals
                go_wp2
                refine bodyPost_ret (ret_sym { noSym with kind := 7, text := s.extract i q } rfl rfl rfl (sets6d { noSym with kind := 7, text := s.extract i q } hz5)) rfl ?_
                rw [HF2.out]
                exact ⟨rfl, ((((((hsc5.setO hne hnm).setO hne hnm).setO hne hnm).setO hne hnm).setO hne hnm).setO hne hnm).drew, ((((((hmv6.setO le).setO le).setO le).setO le).setO le).setO le).drew⟩
    · have HF := Lib.hid (show wordF s i = .no from if_neg h1)
      have hb : letterB (bt s i) = false ∧ ((bt s i != 58) = true ∨ ((bt s i != 58) = false ∧ (bt s (i+1) == 45) = true)) := by
        simp only [bne_iff_ne, ne_eq, bne_eq_false_iff_eq, beq_iff_eq]
        refine ⟨by simpa using fun hx => h1 (.inl hx), ?_⟩
        by_cases hx : bt s i = 58
        · exact .inr ⟨hx, by rcases Int.decEq (bt s (i+1)) 45 with hy | hy; exact absurd (.inr ⟨hx, hy⟩) h1; exact hy⟩
        · exact .inl hx
      clear h1
      obtain ⟨⟨z0, z1, z2, z3, z4, z5⟩, y0, y1, y2, y3, y4, y5⟩ := rb hz
      rcases hb with ⟨b1, b2 | ⟨b2, b3⟩⟩
      all_goals
        go_wp2_with (first
          | (go_at_call 89; refine (lletter_c _ _).mono ?_; rintro e w' ⟨rfl, rfl⟩)
          | (go_at_call 83; refine (ch_c hsc _ (i+1) (by omega)).mono ?_; rintro e w' ⟨rfl, rfl⟩)
          | (go_at_call 83; refine (ch_c hsc _ (i) (by omega)).mono ?_; rintro e w' ⟨rfl, rfl⟩))
        refine bodyPost_ret (ret_sym noSym rfl rfl rfl (sets6 noSym hz)) rfl ?_
        rw [HF.out]
        have le := Nat.le_refl w.heap.size
        exact ⟨rfl, (((((hsc.setO hne hnm).setO hne hnm).setO hne hnm).setO hne hnm).setO hne hnm).setO hne hnm, (((((hmv.setO le).setO le).setO le).setO le).setO le).setO le⟩
end Go.Proofs.YtpfgjiahpddpkaaDoor
