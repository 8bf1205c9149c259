/- The walks of the scanner: blanks, languages, variables, words. -/
import Derived.Test.YtpfgjiahpddpkaaDoorLex7
set_option linter.unusedVariables false
set_option linter.unusedSimpArgs false
namespace Go.Proofs.YtpfgjiahpddpkaaDoor
open Go.RowKit
set_option maxHeartbeats 4000000 in
theorem rblank_c {b : Nat} {s : ByteArray} {i : Nat} {w : World} (h : Scan b s (i : Int) w) (hi : i ≤ s.size) :
    Calls Tryd.prog 59 #[.pointer (some ⟨b, 0, none⟩)] w (RdPost s i b w (blankF s i)) := by
  have hsm := h.small
  have hlt := h.lt
  have hml := h.max.lt
  have hne : w.heap.size ≠ b := by omega
  have hnm : w.heap.size ≠ 5 := by omega
  go_enter Tryd.func59, Tryd.ntmps59
  go_upto_region 0 with fail
  go_cut [2, 3] (fun v c wx => v = .pointer (some ⟨w.heap.size, 0, none⟩) ∧ c = .bool false ∧ wx.heap[w.heap.size]? = some symZ ∧ Scan b s (i : Int) wx ∧ Moved b w wx)
  case first => go_wp2_with fail; go_meet; exact ⟨rfl, rfl, World.alloc_heap_new w symZ, h.alloc _, (Moved.refl b w).alloc _⟩
  case rest =>
    obtain ⟨rfl, rfl, hz, hsc, hmv⟩ := hcut
    have c1 := hsc.c1
    have f1 := hsc.f1
    by_cases h1 : bt s i = 95 ∧ bt s (i+1) = 58
    · have b95 : (bt s i != 95) = false := by simp [h1.1]
      have b58 : (bt s (i+1) != 58) = false := by simp [h1.2]
      have hin := bt_in s (i+1) (by rw [h1.2]; decide)
      have hrb := runU_bd s namedP (i+2) (by omega)
      have hsc2 : Scan b s ((i + 2 : Nat) : Int) (wc.setCell ⟨b, 1, none⟩ (.int .i64 ((i : Int) + 2))) := (hsc.set _).cast (by omega)
      have hmv2 := hmv.set 1 (.int .i64 ((i : Int) + 2))
      have hz2 := ((Moved.refl b wc).set 1 (.int .i64 ((i : Int) + 2))).blk hz hne
      have hun : blankF s i = _ := if_pos h1
      have HU := Lib.hid hun; clear hun h1
      by_cases h64 : 64 < runU s namedP (i+2)
      · have HF := Lib.hid (show blankF s i = .bad i by rw [HU.out, if_pos h64])
        go_wp2_with (first
          | (go_at_call 83; refine (ch_c hsc _ i (by omega)).mono ?_; rintro e w' ⟨rfl, rfl⟩)
          | (go_at_call 83; refine (ch_c hsc _ (i+1) (by omega)).mono ?_; rintro e w' ⟨rfl, rfl⟩)
          | (go_at_call 85; have hrn := run_named_c hsc2 i 64 (by omega); refine hrn.mono ?_; rintro e w3 ⟨_, hp⟩; obtain ⟨rfl, hsc3, hmv3⟩ := hp (by omega); skip))
        refine ⟨rfl, ?_⟩
        rw [HF.out]; exact ⟨rfl, hsc3, hmv2.trans hmv3⟩
      · have hls : (s.extract (i+2) (i+2 + runU s namedP (i+2))).size ≤ 140737488351232 := by rw [size_extract _ _ _ (by omega) (by omega)]; omega
        have hrun : runU s namedP (i+2) ≤ 64 := by omega
        cases hm : blankB (s.extract (i+2) (i+2 + runU s namedP (i+2))) with
        | false =>
          have HF := Lib.hid (show blankF s i = .bad i by rw [HU.out, if_neg h64]; simp [hm])
          have HM := Lib.hid (show mayT 2 (s.extract (i+2) (i+2 + runU s namedP (i+2))) ⟨#[]⟩ = false by unfold mayT; simp [hm])
          clear hm h64
          go_wp2_with (first
            | (go_at_call 83; refine (ch_c hsc _ i (by omega)).mono ?_; rintro e w' ⟨rfl, rfl⟩)
            | (go_at_call 83; refine (ch_c hsc _ (i+1) (by omega)).mono ?_; rintro e w' ⟨rfl, rfl⟩)
            | (go_at_call 85; have hrn := run_named_c hsc2 i 64 (by omega); refine hrn.mono ?_; rintro e w3 ⟨hp, _⟩; obtain ⟨rfl, hsc3, hmv3⟩ := hp (by omega); have hz3 := hmv3.blk hz2 hne)
            | (go_at_call 38; have hmy := fun (o : Obj) => mayT_c 2 (s.extract (i+2) (i+2 + runU s namedP (i+2))) ⟨#[]⟩ hls (by simp [ByteArray.size]) (w3.alloc o) (hsc3.alloc o).max; rw [HM.out] at hmy; refine (hmy _).mono ?_; rintro e w4 ⟨rfl, hB⟩; have hsc4 := (hsc3.alloc _).below hB; have hmv4 := ((hmv2.trans hmv3).alloc _).then hB; have hz4 := (Moved.of_below (b := b) hB).blk (((Moved.refl b w3).alloc _).blk hz3 hne) hne)
            | (go_at_call 65; refine (fail_c _ _ _).mono ?_; rintro e w' ⟨rfl, rfl⟩))
          refine ⟨rfl, ?_⟩
          rw [HF.out]; exact ⟨rfl, ⟨_, hsc4⟩, hmv4⟩
        | true =>
          have HF := Lib.hid (show blankF s i = .ok { noSym with kind := 2, tk := 2, tt := s.extract (i+2) (i+2 + runU s namedP (i+2)) } (i+2 + runU s namedP (i+2)) by rw [HU.out, if_neg h64]; simp only [hm, if_true])
          have HM := Lib.hid (show mayT 2 (s.extract (i+2) (i+2 + runU s namedP (i+2))) ⟨#[]⟩ = true by unfold mayT; simp [hm, ByteArray.size])
          clear hm h64
          go_wp2_with (first
            | (go_at_call 83; refine (ch_c hsc _ i (by omega)).mono ?_; rintro e w' ⟨rfl, rfl⟩)
            | (go_at_call 83; refine (ch_c hsc _ (i+1) (by omega)).mono ?_; rintro e w' ⟨rfl, rfl⟩)
            | (go_at_call 85; have hrn := run_named_c hsc2 i 64 (by omega); refine hrn.mono ?_; rintro e w3 ⟨hp, _⟩; obtain ⟨rfl, hsc3, hmv3⟩ := hp (by omega); have hz3 := hmv3.blk hz2 hne)
            | (go_at_call 38; have hmy := fun (o : Obj) => mayT_c 2 (s.extract (i+2) (i+2 + runU s namedP (i+2))) ⟨#[]⟩ hls (by simp [ByteArray.size]) (w3.alloc o) (hsc3.alloc o).max; rw [HM.out] at hmy; refine (hmy _).mono ?_; rintro e w4 ⟨rfl, hB⟩; have hsc4 := (hsc3.alloc _).below hB; have hmv4 := ((hmv2.trans hmv3).alloc _).then hB; have hz4 := (Moved.of_below (b := b) hB).blk (((Moved.refl b w3).alloc _).blk hz3 hne) hne; have e0 : w4.cell? ⟨w3.heap.size, 0, none⟩ = some (.int .i64 2) := ((bcell hB).1 _ _ (by simp)).trans (by simp [go_sem]); have e1 : w4.cell? ⟨w3.heap.size, 1, none⟩ = some (.string (s.extract (i+2) (i+2 + runU s namedP (i+2)))) := ((bcell hB).1 _ _ (by simp)).trans (by simp [go_sem]); have e2 : w4.cell? ⟨w3.heap.size, 2, none⟩ = some (.string ⟨#[]⟩) := ((bcell hB).1 _ _ (by simp)).trans (by simp [go_sem]); obtain ⟨⟨z0, z1, z2, z3, z4, z5⟩, y0, y1, y2, y3, y4, y5⟩ := rb hz4))
          refine bodyPost_ret (ret_sym { noSym with kind := 2, tk := 2, tt := s.extract (i+2) (i+2 + runU s namedP (i+2)) } rfl rfl rfl (sets6 { noSym with kind := 2, tk := 2, tt := s.extract (i+2) (i+2 + runU s namedP (i+2)) } hz4)) rfl ?_
          rw [HF.out]
          have le := Nat.le_refl w.heap.size
          exact ⟨rfl, (((((hsc4.setO hne hnm).setO hne hnm).setO hne hnm).setO hne hnm).setO hne hnm).setO hne hnm, (((((hmv4.setO le).setO le).setO le).setO le).setO le).setO le⟩
    · have HF := Lib.hid (show blankF s i = .no from if_neg h1)
      have hb : (bt s i != 95) = true ∨ ((bt s i != 95) = false ∧ (bt s (i+1) != 58) = true) := by
        simp only [bne_iff_ne, ne_eq, bne_eq_false_iff_eq]; omega
      clear h1
      obtain ⟨⟨z0, z1, z2, z3, z4, z5⟩, y0, y1, y2, y3, y4, y5⟩ := rb hz
      rcases hb with b95 | ⟨b95, b58⟩
      all_goals
        go_wp2_with (first | (go_at_call 83; refine (ch_c hsc _ i (by omega)).mono ?_; rintro e w' ⟨rfl, rfl⟩) | (go_at_call 83; refine (ch_c hsc _ (i+1) (by omega)).mono ?_; rintro e w' ⟨rfl, rfl⟩))
        refine bodyPost_ret (ret_sym noSym rfl rfl rfl (sets6 noSym hz)) rfl ?_
        rw [HF.out]
        have le := Nat.le_refl w.heap.size
        exact ⟨rfl, (((((hsc.setO hne hnm).setO hne hnm).setO hne hnm).setO hne hnm).setO hne hnm).setO hne hnm, (((((hmv.setO le).setO le).setO le).setO le).setO le).setO le⟩
set_option maxHeartbeats 4000000 in
theorem rlang_c {b : Nat} {s : ByteArray} {i : Nat} {w : World} (h : Scan b s (i : Int) w) (hi : i ≤ s.size) :
    Calls Tryd.prog 61 #[.pointer (some ⟨b, 0, none⟩)] w (RdPost s i b w (langF s i)) := by
  have hsm := h.small
  have hlt := h.lt
  have hml := h.max.lt
  have hne : w.heap.size ≠ b := by omega
  have hnm : w.heap.size ≠ 5 := by omega
  go_enter Tryd.func61, Tryd.ntmps61
  go_upto_region 0 with fail
  go_cut [2, 3] (fun v c wx => v = .pointer (some ⟨w.heap.size, 0, none⟩) ∧ c = .bool false ∧ wx.heap[w.heap.size]? = some symZ ∧ Scan b s (i : Int) wx ∧ Moved b w wx)
  case first => go_wp2_with fail; go_meet; exact ⟨rfl, rfl, World.alloc_heap_new w symZ, h.alloc _, (Moved.refl b w).alloc _⟩
  case rest =>
    obtain ⟨rfl, rfl, hz, hsc, hmv⟩ := hcut
    have c1 := hsc.c1
    have f1 := hsc.f1
    by_cases h1 : bt s i = 64
    · have b95 : (bt s i != 64) = false := by simp [h1]
      have hin := bt_in s i (by rw [h1]; decide)
      have hrb := runU_bd s langP (i+1) (by omega)
      have hsc2 : Scan b s ((i + 1 : Nat) : Int) (wc.setCell ⟨b, 1, none⟩ (.int .i64 ((i : Int) + 1))) := (hsc.set _).cast (by omega)
      have hmv2 := hmv.set 1 (.int .i64 ((i : Int) + 1))
      have hz2 := ((Moved.refl b wc).set 1 (.int .i64 ((i : Int) + 1))).blk hz hne
      have hun : langF s i = _ := if_pos h1
      have HU := Lib.hid hun; clear hun h1
      by_cases h64 : 35 < runU s langP (i+1)
      · have HF := Lib.hid (show langF s i = .bad i by rw [HU.out, if_pos h64])
        go_wp2_with (first
          | (go_at_call 83; refine (ch_c hsc _ i (by omega)).mono ?_; rintro e w' ⟨rfl, rfl⟩)
          | (go_at_call 85; have hrn := run_lang_c hsc2 i 35 (by omega); refine hrn.mono ?_; rintro e w3 ⟨_, hp⟩; obtain ⟨rfl, hsc3, hmv3⟩ := hp (by omega); skip))
        refine ⟨rfl, ?_⟩
        rw [HF.out]; exact ⟨rfl, hsc3, hmv2.trans hmv3⟩
      · have hls : (s.extract (i+1) (i+1 + runU s langP (i+1))).size ≤ 4000000000 := by rw [size_extract _ _ _ (by omega) (by omega)]; omega
        have hve : valueB ⟨#[]⟩ = true := by decide
        cases hm : tagB (s.extract (i+1) (i+1 + runU s langP (i+1))) with
        | false =>
          have HF := Lib.hid (show langF s i = .bad i by rw [HU.out, if_neg h64]; simp [hm])
          have HM := Lib.hid (show mayT 4 ⟨#[]⟩ (s.extract (i+1) (i+1 + runU s langP (i+1))) = false by unfold mayT; simp [hm])
          have hrun : runU s langP (i+1) ≤ 35 := by omega
          clear hm h64
          go_wp2_with (first
            | (go_at_call 83; refine (ch_c hsc _ i (by omega)).mono ?_; rintro e w' ⟨rfl, rfl⟩)
            | (go_at_call 85; have hrn := run_lang_c hsc2 i 35 (by omega); refine hrn.mono ?_; rintro e w3 ⟨hp, _⟩; obtain ⟨rfl, hsc3, hmv3⟩ := hp (by omega); have hz3 := hmv3.blk hz2 hne)
            | (go_at_call 38; have hmy := mayT_c 4 ⟨#[]⟩ (s.extract (i+1) (i+1 + runU s langP (i+1))) (by simp [ByteArray.size]) hls w3 hsc3.max; rw [HM.out] at hmy; refine hmy.mono ?_; rintro e w4 ⟨rfl, hB⟩; have hsc4 := hsc3.below hB; have hmv4 := (hmv2.trans hmv3).then hB; have hz4 := (Moved.of_below (b := b) hB).blk hz3 hne; obtain ⟨⟨z0, z1, z2, z3, z4, z5⟩, y0, y1, y2, y3, y4, y5⟩ := rb hz4)
            | (go_at_call 65; refine (fail_c _ _ _).mono ?_; rintro e w' ⟨rfl, rfl⟩))
          refine ⟨rfl, ?_⟩
          rw [HF.out]; exact ⟨rfl, ⟨_, hsc4⟩, hmv4⟩
        | true =>
          have HF := Lib.hid (show langF s i = .ok { noSym with kind := 4, text := s.extract (i+1) (i+1 + runU s langP (i+1)) } (i+1 + runU s langP (i+1)) by rw [HU.out, if_neg h64]; simp only [hm, if_true])
          have HM := Lib.hid (show mayT 4 ⟨#[]⟩ (s.extract (i+1) (i+1 + runU s langP (i+1))) = true by unfold mayT; simp [hm, hve])
          have hrun : runU s langP (i+1) ≤ 35 := by omega
          clear hm h64
          go_wp2_with (first
            | (go_at_call 83; refine (ch_c hsc _ i (by omega)).mono ?_; rintro e w' ⟨rfl, rfl⟩)
            | (go_at_call 85; have hrn := run_lang_c hsc2 i 35 (by omega); refine hrn.mono ?_; rintro e w3 ⟨hp, _⟩; obtain ⟨rfl, hsc3, hmv3⟩ := hp (by omega); have hz3 := hmv3.blk hz2 hne)
            | (go_at_call 38; have hmy := mayT_c 4 ⟨#[]⟩ (s.extract (i+1) (i+1 + runU s langP (i+1))) (by simp [ByteArray.size]) hls w3 hsc3.max; rw [HM.out] at hmy; refine hmy.mono ?_; rintro e w4 ⟨rfl, hB⟩; have hsc4 := hsc3.below hB; have hmv4 := (hmv2.trans hmv3).then hB; have hz4 := (Moved.of_below (b := b) hB).blk hz3 hne; obtain ⟨⟨z0, z1, z2, z3, z4, z5⟩, y0, y1, y2, y3, y4, y5⟩ := rb hz4))
          refine bodyPost_ret (ret_sym { noSym with kind := 4, text := s.extract (i+1) (i+1 + runU s langP (i+1)) } rfl rfl rfl (sets6 { noSym with kind := 4, text := s.extract (i+1) (i+1 + runU s langP (i+1)) } hz4)) rfl ?_
          rw [HF.out]
          have le := Nat.le_refl w.heap.size
          exact ⟨rfl, (((((hsc4.setO hne hnm).setO hne hnm).setO hne hnm).setO hne hnm).setO hne hnm).setO hne hnm, (((((hmv4.setO le).setO le).setO le).setO le).setO le).setO le⟩
    · have HF := Lib.hid (show langF s i = .no from if_neg h1)
      have b95 : (bt s i != 64) = true := by simp [h1]
      clear h1
      obtain ⟨⟨z0, z1, z2, z3, z4, z5⟩, y0, y1, y2, y3, y4, y5⟩ := rb hz
      go_wp2_with (go_at_call 83; refine (ch_c hsc _ i (by omega)).mono ?_; rintro e w' ⟨rfl, rfl⟩)
      refine bodyPost_ret (ret_sym noSym rfl rfl rfl (sets6 noSym hz)) rfl ?_
      rw [HF.out]
      have le := Nat.le_refl w.heap.size
      exact ⟨rfl, (((((hsc.setO hne hnm).setO hne hnm).setO hne hnm).setO hne hnm).setO hne hnm).setO hne hnm, (((((hmv.setO le).setO le).setO le).setO le).setO le).setO le⟩
set_option maxHeartbeats 4000000 in
theorem rvar_c {b : Nat} {s : ByteArray} {i : Nat} {w : World} (h : Scan b s (i : Int) w) (hi : i ≤ s.size) :
    Calls Tryd.prog 62 #[.pointer (some ⟨b, 0, none⟩)] w (RdPost s i b w (varF s i)) := by
  have hsm := h.small
  have hlt := h.lt
  have hml := h.max.lt
  have hne : w.heap.size ≠ b := by omega
  have hnm : w.heap.size ≠ 5 := by omega
  go_enter Tryd.func62, Tryd.ntmps62
  go_upto_region 0 with fail
  go_cut [2, 3] (fun v c wx => v = .pointer (some ⟨w.heap.size, 0, none⟩) ∧ c = .bool false ∧ wx.heap[w.heap.size]? = some symZ ∧ Scan b s (i : Int) wx ∧ Moved b w wx)
  case first => go_wp2_with fail; go_meet; exact ⟨rfl, rfl, World.alloc_heap_new w symZ, h.alloc _, (Moved.refl b w).alloc _⟩
  case rest =>
    obtain ⟨rfl, rfl, hz, hsc, hmv⟩ := hcut
    have c1 := hsc.c1
    have f1 := hsc.f1
    by_cases h1 : bt s i = 63
    · have b95 : (bt s i != 63) = false := by simp [h1]
      have hin := bt_in s i (by rw [h1]; decide)
      have hrb := runU_bd s namedP (i+1) (by omega)
      have hsc2 : Scan b s ((i + 1 : Nat) : Int) (wc.setCell ⟨b, 1, none⟩ (.int .i64 ((i : Int) + 1))) := (hsc.set _).cast (by omega)
      have hmv2 := hmv.set 1 (.int .i64 ((i : Int) + 1))
      have hz2 := ((Moved.refl b wc).set 1 (.int .i64 ((i : Int) + 1))).blk hz hne
      have hun : varF s i = _ := if_pos h1
      have HU := Lib.hid hun; clear hun h1
      by_cases h64 : 32 < runU s namedP (i+1)
      · have HF := Lib.hid (show varF s i = .bad i by rw [HU.out, if_pos (.inl h64)])
        go_wp2_with (first
          | (go_at_call 83; refine (ch_c hsc _ i (by omega)).mono ?_; rintro e w' ⟨rfl, rfl⟩)
          | (go_at_call 85; have hrn := run_named_c hsc2 i 32 (by omega); refine hrn.mono ?_; rintro e w3 ⟨_, hp⟩; obtain ⟨rfl, hsc3, hmv3⟩ := hp (by omega); skip))
        refine ⟨rfl, ?_⟩
        rw [HF.out]; exact ⟨rfl, hsc3, hmv2.trans hmv3⟩
      · by_cases h0 : runU s namedP (i+1) = 0
        · have HF := Lib.hid (show varF s i = .bad i by rw [HU.out, if_pos (.inr h0)])
          have ht := empty_true (s.extract (i+1) (i+1 + runU s namedP (i+1))) (by rw [size_extract _ _ _ (by omega) (by omega)]; omega)
          go_wp2_with (first
            | (go_at_call 83; refine (ch_c hsc _ i (by omega)).mono ?_; rintro e w' ⟨rfl, rfl⟩)
            | (go_at_call 85; have hrn := run_named_c hsc2 i 32 (by omega); refine hrn.mono ?_; rintro e w3 ⟨hp, _⟩; obtain ⟨rfl, hsc3, hmv3⟩ := hp (by omega); have hz3 := hmv3.blk hz2 hne)
            | (go_at_call 65; refine (fail_c _ _ _).mono ?_; rintro e w' ⟨rfl, rfl⟩))
          refine ⟨rfl, ?_⟩
          rw [HF.out]; exact ⟨rfl, ⟨_, hsc3⟩, (hmv2.trans hmv3)⟩
        · have HF := Lib.hid (show varF s i = .ok { noSym with kind := 5, text := s.extract (i+1) (i+1 + runU s namedP (i+1)) } (i+1 + runU s namedP (i+1)) by rw [HU.out, if_neg (by omega)])
          have ht : (s.extract (i+1) (i+1 + runU s namedP (i+1))).toList.isEmpty = false := by have := empty_false (s.extract (i+1) (i+1 + runU s namedP (i+1))) (by rw [size_extract _ _ _ (by omega) (by omega)]; omega); simpa using this
          go_wp2_with (first
            | (go_at_call 83; refine (ch_c hsc _ i (by omega)).mono ?_; rintro e w' ⟨rfl, rfl⟩)
            | (go_at_call 85; have hrn := run_named_c hsc2 i 32 (by omega); refine hrn.mono ?_; rintro e w3 ⟨hp, _⟩; obtain ⟨rfl, hsc3, hmv3⟩ := hp (by omega); have hz3 := hmv3.blk hz2 hne; obtain ⟨⟨z0, z1, z2, z3, z4, z5⟩, y0, y1, y2, y3, y4, y5⟩ := rb hz3))
          refine bodyPost_ret (ret_sym { noSym with kind := 5, text := s.extract (i+1) (i+1 + runU s namedP (i+1)) } rfl rfl rfl (sets6 { noSym with kind := 5, text := s.extract (i+1) (i+1 + runU s namedP (i+1)) } hz3)) rfl ?_
          rw [HF.out]
          have le := Nat.le_refl w.heap.size
          exact ⟨rfl, (((((hsc3.setO hne hnm).setO hne hnm).setO hne hnm).setO hne hnm).setO hne hnm).setO hne hnm, ((((((hmv2.trans hmv3).setO le).setO le).setO le).setO le).setO le).setO le⟩
    · have HF := Lib.hid (show varF s i = .no from if_neg h1)
      have b95 : (bt s i != 63) = true := by simp [h1]
      clear h1
      obtain ⟨⟨z0, z1, z2, z3, z4, z5⟩, y0, y1, y2, y3, y4, y5⟩ := rb hz
      go_wp2_with (go_at_call 83; refine (ch_c hsc _ i (by omega)).mono ?_; rintro e w' ⟨rfl, rfl⟩)
      refine bodyPost_ret (ret_sym noSym rfl rfl rfl (sets6 noSym hz)) rfl ?_
      rw [HF.out]
      have le := Nat.le_refl w.heap.size
      exact ⟨rfl, (((((hsc.setO hne hnm).setO hne hnm).setO hne hnm).setO hne hnm).setO hne hnm).setO hne hnm, (((((hmv.setO le).setO le).setO le).setO le).setO le).setO le⟩
end Go.Proofs.YtpfgjiahpddpkaaDoor
