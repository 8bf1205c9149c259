/- The walk of the scanner's quoted texts. -/
import Derived.Test.YtpfgjiahpddpkaaDoorLex3
import Derived.Laws.BytesArg
set_option linter.unusedVariables false
set_option linter.unusedSimpArgs false
namespace Go.Proofs.YtpfgjiahpddpkaaDoor
open Go.RowKit
theorem byteVs_length (l : List UInt8) : (byteVs l).length = l.length := by simp [byteVs]
theorem byteVs_append (l k : List UInt8) : byteVs (l ++ k) = byteVs l ++ byteVs k := by simp [byteVs]
theorem byteVs_one (l : List UInt8) : ∀ u ∈ byteVs l, u.oneCell' = true := by
  intro u hu; simp [byteVs] at hu; obtain ⟨a, _, rfl⟩ := hu; rfl
theorem OwnB.moved {b base : Nat} {W W' : World} {v : Value} {l : List UInt8} (h : OwnB base W v l) (hb : b < base) (hm : Moved b W W') : OwnB base W' v l := by
  refine World.ownsRow.kept h hm ?_
  cases hv : v.ownBlock with
  | none => exact .inl rfl
  | some k => refine .inr (fun e => ?_); have := own_blk h k hv; injection e; omega
theorem OwnB.below {base : Nat} {W W' : World} {v : Value} {l : List UInt8} (h : OwnB base W v l) (hb : Below W.heap.size W W') : OwnB base W' v l := by
  refine World.ownsRow.kept h (row := none) ⟨hb.os, hb.tape, hb.output, hb.size, fun i hi _ => hb.block i hi⟩ ?_
  cases v.ownBlock <;> simp
/-- A row of bytes that isn't empty: where it lies, and its cells. -/
theorem OwnB.shape {base : Nat} {W : World} {v : Value} {l : List UInt8} (h : OwnB base W v l) (hl : l ≠ []) : ∃ g cap, v = .slice (some ⟨g, 0, none⟩) l.length cap ∧ base ≤ g ∧
    ∀ j u, (byteVs l)[j]? = some u → W.cell? ((⟨g, 0, none⟩ : Addr).add j) = some u := by
  rcases h.2 with ⟨_, h0⟩ | ⟨g, cap, cur, hv, hg, hh, h1, h2, h3, h4⟩
  · cases l with
    | nil => exact absurd rfl hl
    | cons a l => simp at h0
  · refine ⟨g, cap, hv, hg, fun j u hj => ?_⟩
    have ha : (⟨g, 0, none⟩ : Addr).add j = ⟨g, j, none⟩ := by unfold Addr.add; split <;> simp_all
    rw [ha]
    have hc : cur[j]? = some u := by
      rw [← h4, List.getElem?_take] at hj
      split at hj
      · simpa using hj
      · simp at hj
    simp [World.cell?, hh, hc]
theorem run_string_own {base : Nat} {W : World} {v : Value} {l : List UInt8} (h : OwnB base W v l) : (convert 22 9 v).run Tryd.prog W = .ok (.string (ofL l)) W := by
  by_cases hl : l = []
  · subst hl
    have hv : (∃ g cap, v = .slice (some ⟨g, 0, none⟩) 0 cap) ∨ v = .slice none 0 0 := by
      rcases h.2 with ⟨h0, _⟩ | ⟨g, cap, cur, hv, _⟩
      · exact .inr h0
      · exact .inl ⟨g, cap, hv⟩
    rcases hv with ⟨g, cap, rfl⟩ | rfl
    · exact run_convert_bytes_arg (P := Tryd.prog) W 22 5 Tryd.underlying22 Tryd.underlying5 g 0 0 cap [] rfl (fun i hi => by omega) 9 Tryd.underlying9
    · exact run_convert_bytes_nil (P := Tryd.prog) W 22 5 Tryd.underlying22 Tryd.underlying5 0 0 9 Tryd.underlying9
  · obtain ⟨g, cap, rfl, _, hc⟩ := h.shape hl
    have := run_convert_bytes_arg (P := Tryd.prog) W 22 5 Tryd.underlying22 Tryd.underlying5 g 0 l.length cap (l.map fun b => (b.toNat : Int)) (by simp) (fun i hi => by
      have hj := hc i (.int .u8 (l[i].toNat)) (by simp [byteVs, List.getElem?_eq_getElem hi])
      have ha : (⟨g, 0, none⟩ : Addr).add i = ⟨g, 0 + i, none⟩ := by unfold Addr.add; split <;> simp_all
      rw [ha] at hj; rw [hj]; simp [List.getD_eq_getElem?_getD, List.getElem?_eq_getElem hi]) 9 Tryd.underlying9
    have e : strOfNums (l.map fun b => (b.toNat : Int)) = ofL l := by simp [strOfNums, ofL, Function.comp_def]
    rw [this, e]
theorem putL_ne (r : Int) : putL r ≠ [] := by unfold putL; (repeat' split) <;> simp
theorem putL_len (r : Int) : (putL r).length ≤ 4 := by unfold putL; (repeat' split) <;> simp
theorem digitsF_bd (s : ByteArray) : ∀ n i r, i ≤ (digitsF s n i r).2 ∧ (digitsF s n i r).2 ≤ i + n := by
  intro n
  induction n with
  | zero => intro i r; simp [digitsF]
  | succ n ih => intro i r; simp only [digitsF]; split <;> first | (simp; done) | (have := ih (i+1) (r * 16 + hexV (bt s i)); omega)
theorem escR_bd (s : ByteArray) (all : Bool) (i : Nat) : i + 2 ≤ (escR s all i).2 ∧ (escR s all i).2 ≤ i + 10 := by
  unfold escR
  split
  · have := digitsF_bd s 4 (i+2) 0; omega
  · split
    · have := digitsF_bd s 8 (i+2) 0; omega
    · simp
theorem escF_bd (s : ByteArray) (all : Bool) (i j : Nat) (l : List UInt8) (h : escF s all i = some (l, j)) : i + 2 ≤ j ∧ j ≤ i + 10 ∧ l ≠ [] ∧ l.length ≤ 4 := by
  unfold escF at h
  split at h
  · cases h; have := escR_bd s all i; exact ⟨this.1, this.2, putL_ne _, putL_len _⟩
  · cases h
theorem quotedF_out (s : ByteArray) (en : Int) (all : Bool) (f k : Nat) (acc : List UInt8) (hen : 0 < en) (h : s.size ≤ k) : quotedF s en all f k acc = none := by
  cases f with
  | zero => rfl
  | succ f => simp only [quotedF]; rw [bt_out s k h, if_neg (by omega), if_pos (.inl h)]
/-- How the reading of a quoted text ends. -/
def QPost (s : ByteArray) (i b : Nat) (w : World) (R : Option (List UInt8 × Nat)) (e : Ending) (w' : World) : Prop :=
  (∀ l j, R = some (l, j) → e = .returned (.string (ofL l)) ∧ Scan b s (j : Nat) w' ∧ Moved b w w') ∧
  (R = none → e = .panicked [wrongE i] ∧ (∃ j : Int, Scan b s j w') ∧ Moved b w w')
set_option maxHeartbeats 8000000 in
set_option maxRecDepth 10000 in
theorem quoted_c {b : Nat} {s : ByteArray} {i : Nat} {w : World} (h : Scan b s (i : Int) w) (en : Int) (all : Bool) (hi : i ≤ s.size) (hen : 0 < en) :
    Calls Tryd.prog 84 #[.pointer (some ⟨b, 0, none⟩), .int .u8 en, .bool all] w (QPost s i b w (quotedU s en all i)) := by
  have c1 := h.c1
  have f1 := h.f1
  have hsm := h.small
  have hlt0 := h.lt
  have hs1 := h.set ((i : Int) + 1)
  have hm1 := (Moved.refl b w).set 1 (.int .i64 ((i : Int) + 1))
  obtain ⟨i0, hi0, hz0, hz1, hz2⟩ := info_parts Tryd.infoU8
  go_enter Tryd.func84, Tryd.ntmps84
  go_wp2_with fail
  obtain ⟨w1, hw1⟩ : ∃ w1, w.setCell ⟨b, 1, none⟩ (.int .i64 ((i : Int) + 1)) = w1 := ⟨_, rfl⟩
  rw [hw1] at hs1 hm1 ⊢
  go_loopg [8] (s.size + 1) (fun g v wr => ∃ (k : Nat) (acc : List UInt8), Scan b s (k : Int) wr ∧ Moved b w wr ∧ OwnB w.heap.size wr v acc ∧ k ≤ s.size + 20 ∧ acc.length ≤ 4 * k ∧ s.size + 1 ≤ k + g ∧ Hid (quotedF s en all g k acc = quotedU s en all i))
  case atStart => exact ⟨i + 1, [], hs1.cast (by omega), hm1, World.ownsRow_nil _ _ _ _, by omega, by simp, by omega, Lib.hid rfl⟩
  case round =>
    clear hs1 hm1 hw1 c1 f1
    obtain ⟨k, acc, hsc, hmv, hown, hk, hac, hg, HK⟩ := hrel
    have c0 := hsc.c0
    have c1 := hsc.c1
    have f1 := hsc.f1
    by_cases hlt : k < s.size
    · obtain ⟨g, rfl⟩ : ∃ g, gk = g + 1 := ⟨gk - 1, by omega⟩
      have hst : quotedU s en all i = quotedF s en all (g + 1) k acc := HK.out.symm
      have dge : decide ((s.size : Int) ≤ (k : Int)) = false := by simp; omega
      have dgn : decide (s.size ≤ k) = false := by simp; omega
      simp only [quotedF] at hst
      by_cases hee : bt s k = en
      · rw [if_pos hee] at hst
        have HST := Lib.hid hst; clear hst
        have b0 : (bt s k != en) = false := by simp [hee]
        have hconv := run_string_own (hown.moved hlt0 ((Moved.refl b wr).set 1 (.int .i64 ((k : Int) + 1))))
        clear hee
        go_wp2_with (go_at_call 83; refine (ch_c hsc _ k rfl).mono ?_; rintro e w' ⟨rfl, rfl⟩)
        go_ret
        refine ⟨fun l j he => ?_, fun he => ?_⟩
        · rw [HST.out] at he; cases he
          exact ⟨rfl, (hsc.set _).cast (by omega), hmv.set _ _⟩
        · rw [HST.out] at he; cases he
      · rw [if_neg hee] at hst
        have b0 : (bt s k != en) = true := by simp [hee]
        clear hee
        by_cases hnl : all = true ∧ (bt s k = 10 ∨ bt s k = 13)
        · rw [if_pos (.inr hnl)] at hst
          have HST := Lib.hid hst; clear hst
          obtain ⟨rfl, hnl⟩ := hnl
          have b10 : (bt s k == 10) = true ∨ ((bt s k == 10) = false ∧ (bt s k == 13) = true) := by simp; omega
          clear hnl
          rcases b10 with b10 | ⟨b10, b13⟩
          all_goals
            go_wp2_with (go_at_call 83; refine (ch_c hsc _ k rfl).mono ?_; rintro e w' ⟨rfl, rfl⟩)
            go_quiet (fail)
            go_wp2_with (go_at_call 65; refine (fail_c _ _ _).mono ?_; rintro e w3 ⟨rfl, rfl⟩)
            exact ⟨rfl, ⟨fun l j he => (by rw [HST.out] at he; cases he), fun _ => ⟨rfl, ⟨_, hsc.drewN _⟩, hmv.drewN _⟩⟩⟩
        · rw [if_neg (by rintro (h1 | h1); omega; exact hnl h1)] at hst
          have hbits : all = false ∨ (all = true ∧ (bt s k == 10) = false ∧ (bt s k == 13) = false) := by
            cases all
            · exact .inl rfl
            · refine .inr ⟨rfl, ?_, ?_⟩ <;> (simp; intro hx; exact hnl ⟨rfl, by omega⟩)
          clear hnl
          by_cases h92 : bt s k = 92
          · rw [if_pos h92] at hst
            have b92 : (bt s k == 92) = true := by simp [h92]
            clear h92
            cases hE : escF s all k with
            | none =>
              rw [hE] at hst
              have HST := Lib.hid hst; clear hst
              have HE := Lib.hid hE; clear hE
              have hes := fun (n : Nat) => escaped_any (hsc.drewN n) (i : Int) all (by omega)
              have HES := Lib.hid hes; clear hes
              rcases hbits with rfl | ⟨rfl, b10, b13⟩
              all_goals
                go_wp2_with (go_at_call 83; refine (ch_c hsc _ k rfl).mono ?_; rintro e w' ⟨rfl, rfl⟩)
                go_quiet (fail)
                go_wp2_with (go_at_call 103; refine (HES.out _).mono ?_; rintro e w3 ⟨_, hp⟩; obtain ⟨rfl, hsc3, hmv3⟩ := hp HE.out)
                exact ⟨rfl, ⟨fun l j he => (by rw [HST.out] at he; cases he), fun _ => ⟨rfl, hsc3, (hmv.drewN _).trans hmv3⟩⟩⟩
            | some x =>
              obtain ⟨l2, j2⟩ := x
              rw [hE] at hst
              simp only at hst
              obtain ⟨hj1, hj2, hl1, hl2⟩ := escF_bd s all k j2 l2 hE
              have HST := Lib.hid hst; clear hst
              have HE := Lib.hid hE; clear hE
              have hes := fun (n : Nat) => escaped_any (hsc.drewN n) (i : Int) all (by omega)
              have HES := Lib.hid hes; clear hes
              rcases hbits with rfl | ⟨rfl, b10, b13⟩
              all_goals
                go_wp2_with (go_at_call 83; refine (ch_c hsc _ k rfl).mono ?_; rintro e w' ⟨rfl, rfl⟩)
                go_quiet (fail)
                go_wp2_with (first
                  | (go_at_call 103; refine (HES.out _).mono ?_; rintro e w3 ⟨hp, _⟩; obtain ⟨v2, rfl, hown2, hsc3, hmv3⟩ := hp _ _ HE.out; obtain ⟨g2, cap2, rfl, hg2, hcell2⟩ := hown2.shape hl1; have hown3 := (OwnB.moved (b := b) hown hlt0 ((Moved.refl b wr).drewN _)).moved hlt0 hmv3)
                  | (at_builtin; (refine wpList_append_own _ rfl (.tmp 74) (.tmp 78) 22 rfl w.heap.size 5 i0 (.int .u8 0) 1 1 Tryd.underlying22 hi0 hz0 hz1 hz2 rfl (by decide) _ _ _ rfl hown3 ⟨g2, 0, none⟩ l2.length cap2 (byteVs l2) rfl (by rw [byteVs_length]; omega) hcell2 (byteVs_one l2) (by unfold maxLen; omega) (by omega) (by have h1 := hmv.size; have h2 := hmv3.size; simp at h2; omega) ?_; intro v4 w4 hown4 hgrow4 _)))
                go_roundg g
                case measure => omega
                case rel =>
                  have hrow := fun k hk => own_blk hown3 k hk
                  refine ⟨j2, acc ++ l2, hsc3.grown hgrow4 (fun k hk => by have := hrow k hk; omega) (fun k hk => by have := hrow k hk; have := h.max.lt; omega), ((hmv.drewN _).trans hmv3).grown hgrow4 hrow, ?_, by omega, by simp; omega, by omega, Lib.hid HST.out.symm⟩
                  unfold OwnB; rw [List.length_append, byteVs_append]; exact hown4
          · rw [if_neg h92] at hst
            have b92 : (bt s k == 92) = false := by simp [h92]
            have HST := Lib.hid hst; clear hst h92
            have hlo := bt_lo s k
            have hhi := bt_hi s k
            rcases hbits with rfl | ⟨rfl, b10, b13⟩
            all_goals
              go_wp2_with (go_at_call 83; refine (ch_c hsc _ k rfl).mono ?_; rintro e w' ⟨rfl, rfl⟩)
              go_quiet (fail)
              go_wp2_with (at_builtin; (refine wpList_append_own _ rfl (.tmp 35) (.tmp 37) 22 rfl w.heap.size 5 i0 (.int .u8 0) 1 1 Tryd.underlying22 hi0 hz0 hz1 hz2 rfl (by decide) _ _ _ rfl (World.ownsRow.alloc (OwnB.moved (b := b) hown hlt0 ((Moved.refl b wr).drewN _)) _) ⟨_, 0, none⟩ 1 1 [_] rfl rfl (cell_one_new _ _ _) (by simp [Value.oneCell']) (by unfold maxLen; omega) (by omega) (by have h1 := hmv.size; simp; omega) ?_; intro v4 w4 hown4 hgrow4 _; have hsc4 : Scan b s (k : Int) w4 := ((hsc.drewN _).alloc _).grown hgrow4 (fun k hk => by have := own_blk hown k hk; omega) (fun k hk => by have := own_blk hown k hk; have := h.max.lt; omega); have hmv4 : Moved b w w4 := ((hmv.drewN _).alloc _).grown hgrow4 (fun k hk => own_blk hown k hk); have c4 := hsc4.c1; have f4 := hsc4.f1))
              go_roundg g
              case measure => omega
              case rel => exact ⟨k + 1, acc ++ [byteOf (bt s k)], (hsc4.set _).cast (by omega), hmv4.set _ _, OwnB.moved (b := b) (OwnB.snoc hlo hhi hown4) hlt0 ((Moved.refl b w4).set _ _), by omega, by simp; omega, by omega, Lib.hid HST.out.symm⟩
    · have hst : quotedU s en all i = none := by rw [← HK.out]; exact quotedF_out _ _ _ _ _ _ hen (by omega)
      have HST := Lib.hid hst; clear hst
      have hz := bt_out s k (by omega)
      have HZ := Lib.hid hz; clear hz
      have b0 : (bt s k != en) = true := by rw [HZ.out]; simp; omega
      have dge : decide ((s.size : Int) ≤ (k : Int)) = true := by simp; omega
      have dgn : decide (s.size ≤ k) = true := by simp; omega
      go_wp2_with (go_at_call 83; refine (ch_c hsc _ k rfl).mono ?_; rintro e w' ⟨rfl, rfl⟩)
      go_quiet (fail)
      go_wp2_with (go_at_call 65; refine (fail_c _ _ _).mono ?_; rintro e w3 ⟨rfl, rfl⟩)
      exact ⟨rfl, ⟨fun l j he => (by rw [HST.out] at he; cases he), fun _ => ⟨rfl, ⟨_, hsc.drewN _⟩, hmv.drewN _⟩⟩⟩
end Go.Proofs.YtpfgjiahpddpkaaDoor
