/- The walks of the reference of layer 1: May, Put. The walk of the reference of layer 1: Get. The walks of the reference of layer 1: Runes, Valid. -/
import Derived.Test.YtpfgjiahpddpkaaDoorZ2
import Derived.Deep.RegionWith
import Derived.Deep.QuietTactic
import Derived.BigQuiet
import Derived.Test.YtpfgjiahpddpkaaDoorLex4
set_option linter.unusedVariables false
set_option linter.unusedSimpArgs false
namespace Go.Proofs.YtpfgjiahpddpkaaDoor
open Go.RowKit
theorem rmay_c (r : Int) (w : World) : Calls Tryd.prog 95 #[.int .i64 r] w fun e w' => e = .returned (.bool (mayB r)) ∧ w = w' := by
  go_enter Tryd.func95, Tryd.ntmps95
  go_wp2
  all_goals (go_ret; refine ⟨?_, rfl⟩; simp [mayB, *])
  all_goals omega
theorem ownB_lits (W : World) (l : List UInt8) (C : Array Value) (hC : C.toList = byteVs l) (hl : l.length ≤ 1000) : OwnB W.heap.size (W.alloc (.cells C 5)) (.slice (some ⟨W.heap.size, 0, none⟩) l.length l.length) l := by
  have h := World.ownsRow_lit (base := W.heap.size) (e := 5) (size := 1) W C l.length (Nat.le_refl _) (by unfold maxLen; omega) (by rw [← Array.length_toList, hC]; simp [byteVs])
  rw [hC] at h
  exact h
set_option maxHeartbeats 1000000 in
theorem rput_c (r : Int) (h0 : 0 ≤ r) (h1 : r ≤ 1114111) (w : World) : Calls Tryd.prog 96 #[.int .i64 r] w fun e w' => ∃ v, e = .returned v ∧ OwnB w.heap.size w' v (putL r) ∧ Below w.heap.size w w' := by
  have hu : putL r = if r < 128 then [byteOf r] else if r < 2048 then [byteOf (192 + r / 64), byteOf (128 + r % 64)] else if r < 65536 then [byteOf (224 + r / 4096), byteOf (128 + r / 64 % 64), byteOf (128 + r % 64)] else [byteOf (240 + r / 262144), byteOf (128 + r / 4096 % 64), byteOf (128 + r / 64 % 64), byteOf (128 + r % 64)] := rfl
  have HU := Lib.hid hu; clear hu
  by_cases a1 : r ≤ 127
  · go_enter Tryd.func96, Tryd.ntmps96
    go_wp2
    go_ret
    rw [HU.out, if_pos (by omega)]
    refine ⟨_, rfl, ownB_lits w [byteOf r] _ ?_ (by simp), (Below.refl _ w).alloc (Nat.le_refl _) _⟩
    simp [byteVs, u8_val r (by omega) (by omega)]
  · by_cases a2 : r ≤ 2047
    · go_enter Tryd.func96, Tryd.ntmps96
      go_wp2
      go_ret
      rw [HU.out, if_neg (by omega), if_pos (by omega)]
      refine ⟨_, rfl, ownB_lits w [byteOf (192 + r / 64), byteOf (128 + r % 64)] _ ?_ (by simp), (Below.refl _ w).alloc (Nat.le_refl _) _⟩
      simp [byteVs, u8_val (192 + r / 64) (by omega) (by omega), u8_val (128 + r % 64) (by omega) (by omega)]
    · by_cases a3 : r ≤ 65535
      · go_enter Tryd.func96, Tryd.ntmps96
        go_wp2
        go_ret
        rw [HU.out, if_neg (by omega), if_neg (by omega), if_pos (by omega)]
        refine ⟨_, rfl, ownB_lits w [byteOf (224 + r / 4096), byteOf (128 + r / 64 % 64), byteOf (128 + r % 64)] _ ?_ (by simp), (Below.refl _ w).alloc (Nat.le_refl _) _⟩
        simp [byteVs, u8_val (224 + r / 4096) (by omega) (by omega), u8_val (128 + r / 64 % 64) (by omega) (by omega), u8_val (128 + r % 64) (by omega) (by omega)]
      · go_enter Tryd.func96, Tryd.ntmps96
        go_wp2
        go_ret
        rw [HU.out, if_neg (by omega), if_neg (by omega), if_neg (by omega)]
        refine ⟨_, rfl, ownB_lits w [byteOf (240 + r / 262144), byteOf (128 + r / 4096 % 64), byteOf (128 + r / 64 % 64), byteOf (128 + r % 64)] _ ?_ (by simp), (Below.refl _ w).alloc (Nat.le_refl _) _⟩
        simp [byteVs, u8_val (240 + r / 262144) (by omega) (by omega), u8_val (128 + r / 4096 % 64) (by omega) (by omega), u8_val (128 + r / 64 % 64) (by omega) (by omega), u8_val (128 + r % 64) (by omega) (by omega)]
end Go.Proofs.YtpfgjiahpddpkaaDoor
set_option linter.unusedVariables false
set_option linter.unusedSimpArgs false
namespace Go.Proofs.YtpfgjiahpddpkaaDoor
open Go.RowKit
theorem rvP_small (s : ByteArray) (n k : Nat) (hk : k ≤ 4) : 0 ≤ rvP s n k ∧ rvP s n k < 5000000000 := by
  have h := rvP_bd s n k
  have h2 : (64 : Int) ^ k ≤ 64 ^ 4 := by exact_mod_cast Nat.pow_le_pow_right (n := 64) (by omega) hk
  have h3 : (64 : Int) ^ 4 = 16777216 := by decide
  omega
theorem mod_tab (n : Nat) (h1 : 1 < n) (h2 : n ≤ 4) : (#[Value.int .i64 1, Value.int .i64 1, Value.int .i64 32, Value.int .i64 16, Value.int .i64 8] : Array Value)[n]? = some (.int .i64 (modN n)) := by
  obtain rfl | rfl | rfl : n = 2 ∨ n = 3 ∨ n = 4 := by omega
  all_goals rfl
set_option maxHeartbeats 4000000 in
set_option maxRecDepth 100000 in
theorem rget_c (s : ByteArray) (hs : s.size ≤ 4) (w : World) : Calls Tryd.prog 70 #[.string s] w fun e w' => e = .returned (.tuple #[.int .i64 (rget s).1, .int .i64 (rget s).2]) ∧ Below w.heap.size w w' := by
  have hb := bt_at s
  go_enter Tryd.func70, Tryd.ntmps70
  go_wp2
  go_loopg [4] 6 (fun g v wr => ∃ n : Nat, 1 ≤ n ∧ n ≤ 5 ∧ 6 ≤ n + g ∧ v = .int .i64 n ∧ Below w.heap.size w wr ∧ Hid (rgetN s (6 - n) n = rget s))
  case atStart => exact ⟨1, by omega, by omega, by omega, rfl, Below.refl _ w, Lib.hid rfl⟩
  case round =>
    obtain ⟨n, hn1, hn5, hg, rfl, hB, HK⟩ := hrel
    by_cases hlt : n ≤ 4 ∧ n ≤ s.size
    · have hst := rgetN_step s (5 - n) n hlt
      rw [show 5 - n + 1 = 6 - n by omega, HK.out] at hst
      have HST := Lib.hid hst
      clear hst
      obtain ⟨h4, hsz⟩ := hlt
      obtain ⟨wo, rfl⟩ : ∃ wo : World, wo = wr := ⟨_, rfl⟩
      obtain ⟨G, rfl⟩ : ∃ G, gk = G + 1 := ⟨gk - 1, by omega⟩
      have hd : decide ((n : Int) ≤ 4) = true := by simp; omega
      have hd2 : decide (n ≤ s.size) = true := by simp; omega
      go_wp2
      go_loopg [5, 6] n (fun g r i wx => ∃ k : Nat, k ≤ n ∧ n ≤ k + g ∧ i = .int .i64 k ∧ r = .int .i64 (rvP s n k) ∧ Below w.heap.size w wx)
      case atStart => exact ⟨0, by omega, by omega, rfl, rfl, hB⟩
      case round =>
        obtain ⟨k, hk, hg1, rfl, rfl, hB1⟩ := hrel
        have hr := rvP_small s n k (by omega)
        have c0 := bt_lo s k
        have c1 := bt_hi s k
        by_cases hk2 : k < n
        · have hkk : k < s.size := by omega
          by_cases hk0 : k = 0
          · subst hk0
            have hst : rvP s n (0 + 1) = 64 * rvP s n 0 + (if n = 1 then bt s 0 else bt s 0 % modN n) := by simp [rvP]
            by_cases h1n : 1 < n
            · rw [if_neg (by omega)] at hst
              have HS := Lib.hid hst; clear hst
              have htab := mod_tab n h1n h4
              have hmd := modN_bd n
              have q0 := Int.emod_nonneg (bt s 0) (show modN n ≠ 0 by omega)
              have q1 := Int.emod_lt_of_pos (bt s 0) (show 0 < modN n by omega)
              go_wp2
              go_roundg (gk - 1)
              case rel => exact ⟨1, by omega, by omega, rfl, by rw [HS.out], hB1.alloc hB1.size _⟩
              case measure => omega
            · rw [if_pos (by omega)] at hst
              have HS := Lib.hid hst; clear hst
              go_wp2
              go_roundg (gk - 1)
              case rel => exact ⟨1, by omega, by omega, rfl, by rw [HS.out], hB1⟩
              case measure => omega
          · have hst : rvP s n (k + 1) = 64 * rvP s n k + bt s k % 64 := by simp only [rvP]; rw [if_neg hk0]
            have HS := Lib.hid hst; clear hst
            go_wp2
            go_roundg (gk - 1)
            case rel => exact ⟨k + 1, by omega, by omega, by go_num, by rw [HS.out], hB1⟩
            case measure => omega
        · obtain rfl : k = n := by omega
          have hty : tryB s k = (mayB (rvP s k k) && ((ofL (putL (rvP s k k))).toList == (s.extract 0 k).toList)) := rfl
          have hmc := fun W => rmay_c (rvP s k k) W
          obtain ⟨R, hR⟩ : ∃ R, rvP s k k = R := ⟨_, rfl⟩
          have hrv : rv s k = R := hR
          rw [hrv] at HST
          rw [hR] at hty hmc hr
          have HR := Lib.hid hR
          clear hR hrv
          cases hm : mayB R with
          | false =>
            rw [hm] at hty hmc
            have HT := Lib.hid hty
            have HM := Lib.hid hmc
            clear hty hmc hm
            rw [HR.out]
            go_wp2_with fail
            go_quiet ((go_at_call 95; exact quiet_left (HM.out _)))
            go_wp2
            go_roundg G
            case measure => omega
            case rel => exact ⟨k + 1, by omega, by omega, by omega, by go_num, below_drewN hB1 _, Lib.hid (by have := HST.out; rw [HT.out] at this; rw [show 6 - (k + 1) = 5 - k by omega]; exact this.symm)⟩
          | true =>
            have hmb := (may_bd R).1 hm
            have hR0 : 0 ≤ R := hmb.1
            have HR1 := Lib.hid hmb.2.1
            clear hmb hr
            rw [hm] at hty hmc
            have HM := Lib.hid hmc
            clear hmc hm
            rw [HR.out]
            cases he : ((ofL (putL R)).toList == (s.extract 0 k).toList) with
            | true =>
              rw [he] at hty
              have HT := Lib.hid (show tryB s k = true from hty)
              clear hty
              go_wp2_with fail
              go_region_with (first
                | (go_at_call 95; refine (HM.out _).mono ?_; rintro e w' ⟨rfl, rfl⟩)
                | (go_at_call 96; refine (rput_c R hR0 HR1.out _).mono ?_; rintro e w1 ⟨v1, rfl, hown, hB2⟩; have hcv := run_string_own hown))
              all_goals
                go_wp2
                go_ret2
                refine ⟨?_, hB1.drew.trans (hB2.mono hB1.drew.size)⟩
                have := HST.out
                rw [HT.out, if_pos rfl] at this
                rw [this]
                rfl
            | false =>
              rw [he] at hty
              have HT := Lib.hid (show tryB s k = false from hty)
              clear hty
              go_wp2_with fail
              go_region_with (first
                | (go_at_call 95; refine (HM.out _).mono ?_; rintro e w' ⟨rfl, rfl⟩)
                | (go_at_call 96; refine (rput_c R hR0 HR1.out _).mono ?_; rintro e w1 ⟨v1, rfl, hown, hB2⟩; have hcv := run_string_own hown))
              all_goals
                go_wp2
                go_roundg G
                case measure => omega
                case rel => exact ⟨k + 1, by omega, by omega, by omega, by go_num, hB1.drew.trans (hB2.mono hB1.drew.size), Lib.hid (by have := HST.out; rw [HT.out] at this; rw [show 6 - (k + 1) = 5 - k by omega]; exact this.symm)⟩
    · have hout := rgetN_out s (6 - n) n hlt
      rw [HK.out] at hout
      have HO := Lib.hid hout
      clear hout
      by_cases h4 : n ≤ 4
      · have h5 : ¬ n ≤ s.size := fun h => hlt ⟨h4, h⟩
        clear hlt
        go_wp2
        go_ret2
        exact ⟨by rw [HO.out]; rfl, hB⟩
      · clear hlt
        go_wp2
        go_ret2
        exact ⟨by rw [HO.out]; rfl, hB⟩
end Go.Proofs.YtpfgjiahpddpkaaDoor
set_option linter.unusedVariables false
set_option linter.unusedSimpArgs false
namespace Go.Proofs.YtpfgjiahpddpkaaDoor
open Go.RowKit
theorem Tryd.infoRune : (Tryd.prog.info? 113).map (fun i => (i.zero, i.size, i.bytes)) = some (some (.agg #[.int .i64 0, .int .i64 0]), 2, 16) := by kernel_rfl
theorem own_kept {W W' : World} {base : Nat} {e : TypeId} {size n : Nat} {v : Value} {xs : List Value} (h : W.ownsRow base e size v n xs) (hb : Below W.heap.size W W') : W'.ownsRow base e size v n xs := by
  refine World.ownsRow.kept (row := none) h ⟨hb.os, hb.tape, hb.output, hb.size, fun k hk _ => hb.block k hk⟩ ?_
  cases hv : v.ownBlock with
  | none => exact .inl rfl
  | some k => exact .inr (by simp)
theorem endF_bad (s : ByteArray) (f i : Nat) (h : getAt s i = (0, 0, 4)) : endF s f i = i := by
  cases f with
  | zero => rfl
  | succ f => simp only [endF, h]; split <;> rfl
theorem endF_step (s : ByteArray) (f i n : Nat) (r : Int) (hi : i < s.size) (h : getAt s i = (r, (n : Int), 0)) : endF s (f + 1) i = endF s f (i + n) := by
  simp only [endF, h]; rw [if_pos hi]; rfl
set_option maxHeartbeats 4000000 in
set_option maxRecDepth 10000 in
theorem rrunes_c (s : ByteArray) (hs : s.size ≤ 2000000000) (w : World) : Calls Tryd.prog 47 #[.string s] w fun e w' => ∃ v, e = .returned (.tuple #[v, .int .i64 (endU s)]) ∧ Below w.heap.size w w' := by
  obtain ⟨i0, hi0, hz0, hz1, hz2⟩ := info_parts Tryd.infoRune
  go_enter Tryd.func47, Tryd.ntmps47
  go_wp2
  go_loopg [4, 5] (s.size + 1) (fun g v c wr => ∃ (i n : Nat) (xs : List Value), i ≤ s.size ∧ n ≤ i ∧ s.size + 1 ≤ i + g ∧ c = .int .i64 i ∧ Hid (wr.ownsRow w.heap.size 113 2 v n xs) ∧ Below w.heap.size w wr ∧ Hid (endF s s.size i = endU s))
  case atStart => exact ⟨0, 0, [], by omega, by omega, by omega, rfl, Lib.hid (World.ownsRow_nil _ _ _ _), Below.refl _ w, Lib.hid rfl⟩
  case round =>
    obtain ⟨i, n, xs, hi, hn, hg, rfl, HO, hB, HK⟩ := hrel
    obtain ⟨G, rfl⟩ : ∃ G, gk = G + 1 := ⟨gk - 1, by omega⟩
    by_cases hlt : i < s.size
    · have hga := rget_at s i hlt
      have hwin := size_extract s i (min s.size (i + 4)) (by omega) (by omega)
      have hgc := fun W => rget_c (s.extract i (min s.size (i + 4))) (by omega) W
      rw [hga] at hgc
      have hcs := getAt_cases s i hlt
      have hd0 : decide (i < s.size) = true := by simp; omega
      have hmn : (min (s.size : Int) ((i : Int) + 4)).toNat = min s.size (i + 4) := by omega
      rw [← hmn] at hgc
      have HG := Lib.hid hgc
      clear hgc hga hwin hmn
      rcases hcs with hbad | ⟨r, m, hok, hm1, hm4, hmi, _, _⟩
      · have he := endF_bad s s.size i hbad
        have HE := Lib.hid (HK.out.symm.trans he)
        rw [hbad] at HG
        clear he hbad
        go_wp2_with (go_at_call 70; refine (HG.out _).mono ?_; rintro e w1 ⟨rfl, hB1⟩; rw [show pairG (0, 0, 4) = (0, 0) from rfl])
        go_ret2
        exact ⟨_, by rw [HE.out]; rfl, hB.trans (hB1.mono hB.size)⟩
      · have he := endF_step s (s.size - 1) i m r hlt hok
        rw [show s.size - 1 + 1 = s.size by omega, HK.out, endF_more s _ s.size _ (by omega) (by omega)] at he
        have HE := Lib.hid he
        rw [hok] at HG
        have hm0 : ((m : Int) == 0) = false := by simp; omega
        clear he hok
        go_wp2_with (first
          | (go_at_call 70; refine (HG.out _).mono ?_; rintro e w1 ⟨rfl, hB1⟩; rw [show pairG (r, (m : Int), 0) = (r, (m : Int)) from rfl]; have hB2 : Below w.heap.size w w1 := hB.trans (hB1.mono hB.size); have HO1 := Lib.hid (own_kept HO.out hB1))
          | (at_builtin; go_loud (refine wpList_append_own _ rfl (.tmp 26) (.tmp 30) 87 rfl w.heap.size 113 i0 (.agg #[.int .i64 0, .int .i64 0]) 2 16 Tryd.underlying87 hi0 hz0 hz1 hz2 rfl (by decide) _ _ _ rfl (HO1.out.alloc _) ⟨w1.heap.size, 0, none⟩ 1 1 [.int .i64 i, .int .i64 r] rfl rfl (cell_two_new _ _ _ _) (by simp [Value.oneCell']) (by unfold maxLen; omega) (by omega) (by have := hB2.size; simp; omega) ?_; intro v4 w4 hown4 hgrow4 _)))
        go_roundg G
        case measure => omega
        case rel => exact ⟨i + m, n + 1, _, by omega, by omega, by omega, by go_num, Lib.hid hown4, (hB2.alloc hB2.size _).grown hgrow4 (hB2.alloc hB2.size _).size (fun k hk => own_blk HO1.out k hk), Lib.hid HE.out.symm⟩
    · obtain rfl : i = s.size := by omega
      have he : endF s s.size s.size = s.size := by
        cases hz : s.size with
        | zero => rfl
        | succ q => simp only [endF]; rw [if_neg (by omega)]
      have HE := Lib.hid (HK.out.symm.trans he)
      clear he
      go_wp2
      go_ret2
      exact ⟨_, by rw [HE.out]; rfl, hB⟩
theorem rvalid_c (s : ByteArray) (hs : s.size ≤ 2000000000) (w : World) : Calls Tryd.prog 32 #[.string s] w fun e w' => e = .returned (.bool (validB s)) ∧ Below w.heap.size w w' := by
  have hv : validB s = ((endU s : Int) == (s.size : Int)) := by
    unfold validB
    rw [Bool.eq_iff_iff, beq_iff_eq, beq_iff_eq]; omega
  have HV := Lib.hid hv; clear hv
  go_enter Tryd.func32, Tryd.ntmps32
  go_wp2_with (go_at_call 47; refine (rrunes_c s hs _).mono ?_; rintro e w1 ⟨v, rfl, hB⟩)
  go_ret
  exact ⟨by rw [HV.out]; rfl, hB⟩
end Go.Proofs.YtpfgjiahpddpkaaDoor
