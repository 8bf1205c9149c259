/- The walks of the scanner: IRIs, blanks. -/
import Derived.Test.YtpfgjiahpddpkaaDoorLex6
set_option linter.unusedVariables false
set_option linter.unusedSimpArgs false
namespace Go.Proofs.YtpfgjiahpddpkaaDoor
open Go.RowKit
theorem bt_in (s : ByteArray) (k : Nat) (h : 0 < bt s k) : k < s.size := by
  rcases Nat.lt_or_ge k s.size with h1 | h1
  · exact h1
  · have := bt_out s k h1; omega
theorem quotedF_bd (s : ByteArray) (en : Int) (all : Bool) (hen : 0 < en) : ∀ f k acc l j, quotedF s en all f k acc = some (l, j) → acc.length ≤ 4 * k → l.length ≤ 4 * j ∧ k < j ∧ j ≤ s.size := by
  intro f
  induction f with
  | zero => intro k acc l j h; cases h
  | succ f ih =>
    intro k acc l j h ha
    simp only [quotedF] at h
    split at h
    · rename_i h1
      have := bt_in s k (by omega)
      cases h; omega
    · split at h
      · cases h
      · split at h
        · split at h
          · cases h
          · rename_i b j2 he
            have hb := escF_bd s all k j2 b he
            have := ih j2 (acc ++ b) l j h (by rw [List.length_append]; omega)
            omega
        · have := ih (k+1) (acc ++ [byteOf (bt s k)]) l j h (by simp; omega)
          omega
theorem quotedU_bd (s : ByteArray) (en : Int) (all : Bool) (i : Nat) (hen : 0 < en) (l : List UInt8) (j : Nat) (h : quotedU s en all i = some (l, j)) : l.length ≤ 4 * j ∧ i + 1 < j ∧ j ≤ s.size :=
  quotedF_bd s en all hen _ _ _ l j h (by simp)
theorem runN_bd (s : ByteArray) (p : Nat → Int → Bool) (i : Nat) : ∀ f k, i + k ≤ s.size → i + runN s p i f k ≤ s.size := by
  intro f
  induction f with
  | zero => intro k h; exact h
  | succ f ih =>
    intro k h
    simp only [runN]
    split
    · rename_i h1; exact ih (k+1) (by omega)
    · exact h
theorem runU_bd (s : ByteArray) (p : Nat → Int → Bool) (i : Nat) (h : i ≤ s.size) : i + runU s p i ≤ s.size := runN_bd s p i _ 0 h
theorem ofL_size (l : List UInt8) : (ofL l).size = l.length := by simp [ofL, ByteArray.size]
set_option maxHeartbeats 4000000 in
theorem riri_c {b : Nat} {s : ByteArray} {i : Nat} {w : World} (h : Scan b s (i : Int) w) (hi : i ≤ s.size) :
    Calls Tryd.prog 58 #[.pointer (some ⟨b, 0, none⟩)] w (RdPost s i b w (iriF s i)) := by
  have hsm := h.small
  have hlt := h.lt
  have hml := h.max.lt
  have hne : w.heap.size ≠ b := by omega
  have hnm : w.heap.size ≠ 5 := by omega
  go_enter Tryd.func58, Tryd.ntmps58
  go_upto_region 0 with fail
  go_cut [2, 3] (fun v c wx => v = .pointer (some ⟨w.heap.size, 0, none⟩) ∧ c = .bool false ∧ wx.heap[w.heap.size]? = some symZ ∧ Scan b s (i : Int) wx ∧ Moved b w wx)
  case first => go_wp2_with fail; go_meet; exact ⟨rfl, rfl, World.alloc_heap_new w symZ, h.alloc _, (Moved.refl b w).alloc _⟩
  case rest =>
    obtain ⟨rfl, rfl, hz, hsc, hmv⟩ := hcut
    have c1 := hsc.c1
    have f1 := hsc.f1
    by_cases h34 : bt s i = 60
    · have b34 : (bt s i != 60) = false := by simp [h34]
      cases hq : quotedU s 62 false i with
      | none =>
        have HF := Lib.hid (show iriF s i = .bad i by unfold iriF; rw [if_pos h34, hq])
        have HQ := Lib.hid hq; clear hq h34
        go_wp2_with (first
          | (go_at_call 83; refine (ch_c hsc _ i rfl).mono ?_; rintro e w' ⟨rfl, rfl⟩)
          | (go_at_call 84; refine (quoted_c hsc 62 false hi (by decide)).mono ?_; rintro e w3 ⟨_, hp⟩; obtain ⟨rfl, hsc3, hmv3⟩ := hp HQ.out))
        refine ⟨rfl, ?_⟩
        rw [HF.out]; exact ⟨rfl, hsc3, hmv.trans hmv3⟩
      | some x =>
        obtain ⟨l, j⟩ := x
        have hbd := quotedU_bd s 62 false i (by decide) l j hq
        have hls : (ofL l).size ≤ 140737488351232 := by rw [ofL_size]; omega
        cases hm : iriB (ofL l) with
        | false =>
          have HF := Lib.hid (show iriF s i = .bad i by unfold iriF; rw [if_pos h34, hq]; simp [hm])
          have HM := Lib.hid (show mayT 1 (ofL l) ⟨#[]⟩ = false by unfold mayT; simp [hm])
          have HQ := Lib.hid hq; clear hq h34 hm
          go_wp2_with (first
            | (go_at_call 83; refine (ch_c hsc _ i rfl).mono ?_; rintro e w' ⟨rfl, rfl⟩)
            | (go_at_call 84; refine (quoted_c hsc 62 false hi (by decide)).mono ?_; rintro e w3 ⟨hp, _⟩; obtain ⟨rfl, hsc3, hmv3⟩ := hp _ _ HQ.out; have hz3 := hmv3.blk hz hne)
            | (go_at_call 38; have hmy := fun (o : Obj) => mayT_c 1 (ofL l) ⟨#[]⟩ hls (by simp [ByteArray.size]) (w3.alloc o) (hsc3.alloc o).max; rw [HM.out] at hmy; refine (hmy _).mono ?_; rintro e w4 ⟨rfl, hB⟩; have hsc4 := (hsc3.alloc _).below hB; have hmv4 := ((hmv.trans hmv3).alloc _).then hB; have hz4 := (Moved.of_below (b := b) hB).blk (((Moved.refl b w3).alloc _).blk hz3 hne) hne)
            | (go_at_call 65; refine (fail_c _ _ _).mono ?_; rintro e w' ⟨rfl, rfl⟩))
          refine ⟨rfl, ?_⟩
          rw [HF.out]; exact ⟨rfl, ⟨_, hsc4⟩, hmv4⟩
        | true =>
          have HF := Lib.hid (show iriF s i = .ok { noSym with kind := 1, tk := 1, tt := ofL l } j by unfold iriF; rw [if_pos h34, hq]; simp [hm])
          have HM := Lib.hid (show mayT 1 (ofL l) ⟨#[]⟩ = true by unfold mayT; simp [hm, ByteArray.size])
          have HQ := Lib.hid hq; clear hq h34 hm
          go_wp2_with (first
            | (go_at_call 83; refine (ch_c hsc _ i rfl).mono ?_; rintro e w' ⟨rfl, rfl⟩)
            | (go_at_call 84; refine (quoted_c hsc 62 false hi (by decide)).mono ?_; rintro e w3 ⟨hp, _⟩; obtain ⟨rfl, hsc3, hmv3⟩ := hp _ _ HQ.out; have hz3 := hmv3.blk hz hne)
            | (go_at_call 38; have hmy := fun (o : Obj) => mayT_c 1 (ofL l) ⟨#[]⟩ hls (by simp [ByteArray.size]) (w3.alloc o) (hsc3.alloc o).max; rw [HM.out] at hmy; refine (hmy _).mono ?_; rintro e w4 ⟨rfl, hB⟩; have hsc4 := (hsc3.alloc _).below hB; have hmv4 := ((hmv.trans hmv3).alloc _).then hB; have hz4 := (Moved.of_below (b := b) hB).blk (((Moved.refl b w3).alloc _).blk hz3 hne) hne; have e0 : w4.cell? ⟨w3.heap.size, 0, none⟩ = some (.int .i64 1) := ((bcell hB).1 _ _ (by simp)).trans (by simp [go_sem]); have e1 : w4.cell? ⟨w3.heap.size, 1, none⟩ = some (.string (ofL l)) := ((bcell hB).1 _ _ (by simp)).trans (by simp [go_sem]); have e2 : w4.cell? ⟨w3.heap.size, 2, none⟩ = some (.string ⟨#[]⟩) := ((bcell hB).1 _ _ (by simp)).trans (by simp [go_sem]); obtain ⟨⟨z0, z1, z2, z3, z4, z5⟩, y0, y1, y2, y3, y4, y5⟩ := rb hz4))
          refine bodyPost_ret (ret_sym { noSym with kind := 1, tk := 1, tt := ofL l } rfl rfl rfl (sets6 { noSym with kind := 1, tk := 1, tt := ofL l } hz4)) rfl ?_
          rw [HF.out]
          have le := Nat.le_refl w.heap.size
          exact ⟨rfl, (((((hsc4.setO hne hnm).setO hne hnm).setO hne hnm).setO hne hnm).setO hne hnm).setO hne hnm, (((((hmv4.setO le).setO le).setO le).setO le).setO le).setO le⟩
    · have HF := Lib.hid (show iriF s i = .no by unfold iriF; rw [if_neg h34])
      have b34 : (bt s i != 60) = true := by simp [h34]
      clear h34
      obtain ⟨⟨z0, z1, z2, z3, z4, z5⟩, y0, y1, y2, y3, y4, y5⟩ := rb hz
      go_wp2_with (go_at_call 83; refine (ch_c hsc _ i rfl).mono ?_; rintro e w' ⟨rfl, rfl⟩)
      refine bodyPost_ret (ret_sym noSym rfl rfl rfl (sets6 noSym hz)) rfl ?_
      rw [HF.out]
      have le := Nat.le_refl w.heap.size
      exact ⟨rfl, (((((hsc.setO hne hnm).setO hne hnm).setO hne hnm).setO hne hnm).setO hne hnm).setO hne hnm, (((((hmv.setO le).setO le).setO le).setO le).setO le).setO le⟩
end Go.Proofs.YtpfgjiahpddpkaaDoor
