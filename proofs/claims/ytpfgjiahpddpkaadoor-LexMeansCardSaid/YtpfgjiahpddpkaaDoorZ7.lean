/- The walk of the reference of layer 2: written. -/
import Derived.Deep.RegionLaw
import Derived.Deep.AppendLies
import Derived.Test.YtpfgjiahpddpkaaDoorZ3
import Derived.Test.YtpfgjiahpddpkaaDoorKinds
set_option linter.unusedVariables false
set_option linter.unusedSimpArgs false
namespace Go.Proofs.YtpfgjiahpddpkaaDoor
open Go.RowKit
def hexD (n : Int) : UInt8 := byteOf (if n < 10 then 48 + n else 55 + n)
def escW (c : Int) : List UInt8 := if c = 34 ∨ c = 92 then [92, byteOf c] else if c = 8 then [92, 98] else if c = 9 then [92, 116] else if c = 10 then [92, 110] else if c = 12 then [92, 102] else if c = 13 then [92, 114]
  else if c < 32 ∨ c = 127 then [92, 117, 48, 48, hexD (c / 16), hexD (c % 16)] else [byteOf c]
def wrN (s : ByteArray) : Nat → Nat → List UInt8 → List UInt8
  | 0, _, acc => acc
  | f+1, i, acc => if i < s.size then wrN s f (i+1) (acc ++ escW (bt s i)) else acc
theorem wrN_more (s : ByteArray) : ∀ f g i acc, s.size ≤ i + f → s.size ≤ i + g → wrN s f i acc = wrN s g i acc := by
  intro f
  induction f with
  | zero =>
    intro g i acc h hg
    cases g with
    | zero => rfl
    | succ g => simp only [wrN]; rw [if_neg (by omega)]
  | succ f ih =>
    intro g i acc h hg
    by_cases hi : i < s.size
    · obtain ⟨g, rfl⟩ : ∃ m, g = m + 1 := ⟨g - 1, by omega⟩
      simp only [wrN]; rw [if_pos hi, if_pos hi, ih g (i+1) _ (by omega) (by omega)]
    · cases g with
      | zero => simp only [wrN]; rw [if_neg hi]
      | succ g => simp only [wrN]; rw [if_neg hi, if_neg hi]
theorem wrN_step (s : ByteArray) (i : Nat) (acc : List UInt8) (hi : i < s.size) : wrN s s.size i acc = wrN s s.size (i+1) (acc ++ escW (bt s i)) := by
  rw [wrN_more s s.size (s.size - 1 + 1) i acc (by omega) (by omega)]
  simp only [wrN]
  rw [if_pos hi, wrN_more s (s.size - 1) s.size (i+1) _ (by omega) (by omega)]
theorem wrN_end (s : ByteArray) (acc : List UInt8) : wrN s s.size s.size acc = acc := by
  rw [wrN_more s s.size 0 s.size acc (by omega) (by omega)]; rfl
def writtenL (s : ByteArray) : List UInt8 := wrN s s.size 0 [34] ++ [34]
theorem cells_new (w : World) (C : Array Value) (t : TypeId) : ∀ j u, C.toList[j]? = some u → (w.alloc (.cells C t)).cell? ((⟨w.heap.size, 0, none⟩ : Addr).add j) = some u := by
  intro j u hj
  have h0 := World.alloc_heap_new w (.cells C t)
  have e : ((⟨w.heap.size, 0, none⟩ : Addr).add j) = ⟨w.heap.size, 0 + j, none⟩ := by unfold Addr.add; split <;> simp_all
  rw [e, Nat.zero_add]
  simp only [World.cell?, h0]
  rw [← Array.getElem?_toList]; exact hj
theorem OwnB.snocs {base : Nat} {W W' : World} {v v' : Value} {acc l : List UInt8} {news : List Value} (_h0 : OwnB base W v acc) (hn : news = byteVs l) (h : W'.ownsRow base 5 1 v' (acc.length + news.length) (byteVs acc ++ news)) : OwnB base W' v' (acc ++ l) := by
  subst hn
  unfold OwnB
  rw [List.length_append, show byteVs (acc ++ l) = byteVs acc ++ byteVs l by simp [byteVs]]
  rw [show (byteVs l).length = l.length by simp [byteVs]] at h
  exact h
def hexS : ByteArray := ⟨#[48, 49, 50, 51, 52, 53, 54, 55, 56, 57, 65, 66, 67, 68, 69, 70]⟩
theorem hexS_bt (n : Nat) (h : n < 16) : bt hexS n = ((hexD n).toNat : Int) := by
  have := (by decide +kernel : ∀ n : Fin 16, bt hexS n.val = ((hexD (n.val : Nat)).toNat : Int))
  exact this ⟨n, h⟩
set_option maxHeartbeats 4000000 in
set_option maxRecDepth 10000 in
theorem rwritten_c (s : ByteArray) (hs : s.size ≤ 2000000000) (w : World) : Calls Tryd.prog 36 #[.string s] w fun e w' => e = .returned (.string (ofL (writtenL s))) ∧ Below w.heap.size w w' := by
  have hb := bt_at s
  obtain ⟨i0, hi0, hz0, hz1, hz2⟩ := info_parts Tryd.infoU8
  have ho34 : OwnB w.heap.size (w.alloc (.cells #[.int .u8 34] 5)) (.slice (some ⟨w.heap.size, 0, none⟩) 1 1) [34] := ownB_lits w [34] #[.int .u8 34] rfl (by simp)
  have HO0 := Lib.hid ho34
  clear ho34
  go_enter Tryd.func36, Tryd.ntmps36
  go_wp2
  go_loopg [4, 5] (s.size + 1) (fun g v c wr => ∃ (i : Nat) (acc : List UInt8), i ≤ s.size ∧ s.size + 1 ≤ i + g ∧ acc.length ≤ 6 * i + 1 ∧ c = .int .i64 i ∧ Hid (OwnB w.heap.size wr v acc) ∧ Below w.heap.size w wr ∧ Hid (wrN s s.size i acc = wrN s s.size 0 [34]))
  case atStart => exact ⟨0, [34], by omega, by omega, by simp, rfl, HO0, (Below.refl _ w).alloc (Nat.le_refl _) _, Lib.hid rfl⟩
  case round =>
    obtain ⟨i, acc, hi, hg, hac, rfl, HO, hB1, HK⟩ := hrel
    obtain ⟨G, rfl⟩ : ∃ G, gk = G + 1 := ⟨gk - 1, by omega⟩
    by_cases hlt : i < s.size
    · have hst := wrN_step s i acc hlt
      rw [HK.out] at hst
      have c0 := bt_lo s i
      have c1 := bt_hi s i
      by_cases hcs : bt s i = 34
      · have he : escW (bt s i) = [92, byteOf (bt s i)] := by unfold escW; rw [if_pos (.inl hcs)]
        rw [he] at hst
        have HS := Lib.hid hst
        have q34 : (bt s i == 34) = true := by simp [hcs]
        clear he hst hcs
        go_wp2_with (at_builtin; go_loud (refine wpList_append_own _ rfl (.tmp 28) (.tmp 30) 22 rfl w.heap.size 5 i0 (.int .u8 0) 1 1 Tryd.underlying22 hi0 hz0 hz1 hz2 rfl (by decide) _ _ _ rfl (World.ownsRow.alloc HO.out _) ⟨wr.heap.size, 0, none⟩ 2 2 [.int .u8 92, .int .u8 (bt s i)] rfl rfl (cells_new _ _ _) (by simp [Value.oneCell']) (by unfold maxLen; omega) (by omega) (by have := Below.size hB1; simp; omega) ?_; intro v4 w4 hown4 hgrow4 _))
        have hn4 : OwnB w.heap.size w4 v4 (acc ++ [92, byteOf (bt s i)]) := OwnB.snocs HO.out (by simp [byteVs, u8_val (bt s i) c0 c1]) hown4
        go_roundg G
        case measure => omega
        case rel => exact ⟨i + 1, _, by omega, by omega, by simp; omega, by go_num, Lib.hid hn4, (hB1.alloc hB1.size _).grown hgrow4 (hB1.alloc hB1.size _).size (fun k hk => own_blk HO.out k hk), Lib.hid HS.out.symm⟩
      · have n34 := hcs; clear hcs
        by_cases hcs : bt s i = 92
        · have he : escW (bt s i) = [92, byteOf (bt s i)] := by unfold escW; rw [if_pos (.inr hcs)]
          rw [he] at hst
          have HS := Lib.hid hst
          have q34 : (bt s i == 34) = false := by simp; omega
          have q92 : (bt s i == 92) = true := by simp [hcs]
          clear he hst hcs
          go_wp2_with (at_builtin; go_loud (refine wpList_append_own _ rfl (.tmp 28) (.tmp 30) 22 rfl w.heap.size 5 i0 (.int .u8 0) 1 1 Tryd.underlying22 hi0 hz0 hz1 hz2 rfl (by decide) _ _ _ rfl (World.ownsRow.alloc HO.out _) ⟨wr.heap.size, 0, none⟩ 2 2 [.int .u8 92, .int .u8 (bt s i)] rfl rfl (cells_new _ _ _) (by simp [Value.oneCell']) (by unfold maxLen; omega) (by omega) (by have := Below.size hB1; simp; omega) ?_; intro v4 w4 hown4 hgrow4 _))
          have hn4 : OwnB w.heap.size w4 v4 (acc ++ [92, byteOf (bt s i)]) := OwnB.snocs HO.out (by simp [byteVs, u8_val (bt s i) c0 c1]) hown4
          go_roundg G
          case measure => omega
          case rel => exact ⟨i + 1, _, by omega, by omega, by simp; omega, by go_num, Lib.hid hn4, (hB1.alloc hB1.size _).grown hgrow4 (hB1.alloc hB1.size _).size (fun k hk => own_blk HO.out k hk), Lib.hid HS.out.symm⟩
        · have n92 := hcs; clear hcs
          by_cases hcs : bt s i = 8
          · have he : escW (bt s i) = [92, 98] := by rw [hcs]; rfl
            rw [he] at hst
            have HS := Lib.hid hst
            have q34 : (bt s i == 34) = false := by simp; omega
            have q92 : (bt s i == 92) = false := by simp; omega
            have q8 : (bt s i == 8) = true := by simp [hcs]
            clear he hst hcs
            go_wp2_with (at_builtin; go_loud (refine wpList_append_own _ rfl (.tmp 35) (.tmp 36) 22 rfl w.heap.size 5 i0 (.int .u8 0) 1 1 Tryd.underlying22 hi0 hz0 hz1 hz2 rfl (by decide) _ _ _ rfl (World.ownsRow.alloc HO.out _) ⟨wr.heap.size, 0, none⟩ 2 2 [.int .u8 92, .int .u8 98] rfl rfl (cells_new _ _ _) (by simp [Value.oneCell']) (by unfold maxLen; omega) (by omega) (by have := Below.size hB1; simp; omega) ?_; intro v4 w4 hown4 hgrow4 _))
            have hn4 : OwnB w.heap.size w4 v4 (acc ++ [92, 98]) := OwnB.snocs HO.out (by simp [byteVs, u8_val (bt s i) c0 c1]) hown4
            go_roundg G
            case measure => omega
            case rel => exact ⟨i + 1, _, by omega, by omega, by simp; omega, by go_num, Lib.hid hn4, (hB1.alloc hB1.size _).grown hgrow4 (hB1.alloc hB1.size _).size (fun k hk => own_blk HO.out k hk), Lib.hid HS.out.symm⟩
          · have n8 := hcs; clear hcs
            by_cases hcs : bt s i = 9
            · have he : escW (bt s i) = [92, 116] := by rw [hcs]; rfl
              rw [he] at hst
              have HS := Lib.hid hst
              have q34 : (bt s i == 34) = false := by simp; omega
              have q92 : (bt s i == 92) = false := by simp; omega
              have q8 : (bt s i == 8) = false := by simp; omega
              have q9 : (bt s i == 9) = true := by simp [hcs]
              clear he hst hcs
              go_wp2_with (at_builtin; go_loud (refine wpList_append_own _ rfl (.tmp 41) (.tmp 42) 22 rfl w.heap.size 5 i0 (.int .u8 0) 1 1 Tryd.underlying22 hi0 hz0 hz1 hz2 rfl (by decide) _ _ _ rfl (World.ownsRow.alloc HO.out _) ⟨wr.heap.size, 0, none⟩ 2 2 [.int .u8 92, .int .u8 116] rfl rfl (cells_new _ _ _) (by simp [Value.oneCell']) (by unfold maxLen; omega) (by omega) (by have := Below.size hB1; simp; omega) ?_; intro v4 w4 hown4 hgrow4 _))
              have hn4 : OwnB w.heap.size w4 v4 (acc ++ [92, 116]) := OwnB.snocs HO.out (by simp [byteVs, u8_val (bt s i) c0 c1]) hown4
              go_roundg G
              case measure => omega
              case rel => exact ⟨i + 1, _, by omega, by omega, by simp; omega, by go_num, Lib.hid hn4, (hB1.alloc hB1.size _).grown hgrow4 (hB1.alloc hB1.size _).size (fun k hk => own_blk HO.out k hk), Lib.hid HS.out.symm⟩
            · have n9 := hcs; clear hcs
              by_cases hcs : bt s i = 10
              · have he : escW (bt s i) = [92, 110] := by rw [hcs]; rfl
                rw [he] at hst
                have HS := Lib.hid hst
                have q34 : (bt s i == 34) = false := by simp; omega
                have q92 : (bt s i == 92) = false := by simp; omega
                have q8 : (bt s i == 8) = false := by simp; omega
                have q9 : (bt s i == 9) = false := by simp; omega
                have q10 : (bt s i == 10) = true := by simp [hcs]
                clear he hst hcs
                go_wp2_with (at_builtin; go_loud (refine wpList_append_own _ rfl (.tmp 47) (.tmp 48) 22 rfl w.heap.size 5 i0 (.int .u8 0) 1 1 Tryd.underlying22 hi0 hz0 hz1 hz2 rfl (by decide) _ _ _ rfl (World.ownsRow.alloc HO.out _) ⟨wr.heap.size, 0, none⟩ 2 2 [.int .u8 92, .int .u8 110] rfl rfl (cells_new _ _ _) (by simp [Value.oneCell']) (by unfold maxLen; omega) (by omega) (by have := Below.size hB1; simp; omega) ?_; intro v4 w4 hown4 hgrow4 _))
                have hn4 : OwnB w.heap.size w4 v4 (acc ++ [92, 110]) := OwnB.snocs HO.out (by simp [byteVs, u8_val (bt s i) c0 c1]) hown4
                go_roundg G
                case measure => omega
                case rel => exact ⟨i + 1, _, by omega, by omega, by simp; omega, by go_num, Lib.hid hn4, (hB1.alloc hB1.size _).grown hgrow4 (hB1.alloc hB1.size _).size (fun k hk => own_blk HO.out k hk), Lib.hid HS.out.symm⟩
              · have n10 := hcs; clear hcs
                by_cases hcs : bt s i = 12
                · have he : escW (bt s i) = [92, 102] := by rw [hcs]; rfl
                  rw [he] at hst
                  have HS := Lib.hid hst
                  have q34 : (bt s i == 34) = false := by simp; omega
                  have q92 : (bt s i == 92) = false := by simp; omega
                  have q8 : (bt s i == 8) = false := by simp; omega
                  have q9 : (bt s i == 9) = false := by simp; omega
                  have q10 : (bt s i == 10) = false := by simp; omega
                  have q12 : (bt s i == 12) = true := by simp [hcs]
                  clear he hst hcs
                  go_wp2_with (at_builtin; go_loud (refine wpList_append_own _ rfl (.tmp 53) (.tmp 54) 22 rfl w.heap.size 5 i0 (.int .u8 0) 1 1 Tryd.underlying22 hi0 hz0 hz1 hz2 rfl (by decide) _ _ _ rfl (World.ownsRow.alloc HO.out _) ⟨wr.heap.size, 0, none⟩ 2 2 [.int .u8 92, .int .u8 102] rfl rfl (cells_new _ _ _) (by simp [Value.oneCell']) (by unfold maxLen; omega) (by omega) (by have := Below.size hB1; simp; omega) ?_; intro v4 w4 hown4 hgrow4 _))
                  have hn4 : OwnB w.heap.size w4 v4 (acc ++ [92, 102]) := OwnB.snocs HO.out (by simp [byteVs, u8_val (bt s i) c0 c1]) hown4
                  go_roundg G
                  case measure => omega
                  case rel => exact ⟨i + 1, _, by omega, by omega, by simp; omega, by go_num, Lib.hid hn4, (hB1.alloc hB1.size _).grown hgrow4 (hB1.alloc hB1.size _).size (fun k hk => own_blk HO.out k hk), Lib.hid HS.out.symm⟩
                · have n12 := hcs; clear hcs
                  by_cases hcs : bt s i = 13
                  · have he : escW (bt s i) = [92, 114] := by rw [hcs]; rfl
                    rw [he] at hst
                    have HS := Lib.hid hst
                    have q34 : (bt s i == 34) = false := by simp; omega
                    have q92 : (bt s i == 92) = false := by simp; omega
                    have q8 : (bt s i == 8) = false := by simp; omega
                    have q9 : (bt s i == 9) = false := by simp; omega
                    have q10 : (bt s i == 10) = false := by simp; omega
                    have q12 : (bt s i == 12) = false := by simp; omega
                    have q13 : (bt s i == 13) = true := by simp [hcs]
                    clear he hst hcs
                    go_wp2_with (at_builtin; go_loud (refine wpList_append_own _ rfl (.tmp 59) (.tmp 60) 22 rfl w.heap.size 5 i0 (.int .u8 0) 1 1 Tryd.underlying22 hi0 hz0 hz1 hz2 rfl (by decide) _ _ _ rfl (World.ownsRow.alloc HO.out _) ⟨wr.heap.size, 0, none⟩ 2 2 [.int .u8 92, .int .u8 114] rfl rfl (cells_new _ _ _) (by simp [Value.oneCell']) (by unfold maxLen; omega) (by omega) (by have := Below.size hB1; simp; omega) ?_; intro v4 w4 hown4 hgrow4 _))
                    have hn4 : OwnB w.heap.size w4 v4 (acc ++ [92, 114]) := OwnB.snocs HO.out (by simp [byteVs, u8_val (bt s i) c0 c1]) hown4
                    go_roundg G
                    case measure => omega
                    case rel => exact ⟨i + 1, _, by omega, by omega, by simp; omega, by go_num, Lib.hid hn4, (hB1.alloc hB1.size _).grown hgrow4 (hB1.alloc hB1.size _).size (fun k hk => own_blk HO.out k hk), Lib.hid HS.out.symm⟩
                  · have n13 := hcs; clear hcs
                    by_cases hcs : bt s i < 32 ∨ bt s i = 127
                    · have he : escW (bt s i) = [92, 117, 48, 48, hexD (bt s i / 16), hexD (bt s i % 16)] := by unfold escW; rw [if_neg (fun h => h.elim n34 n92), if_neg n8, if_neg n9, if_neg n10, if_neg n12, if_neg n13, if_pos hcs]
                      rw [he] at hst
                      have HS := Lib.hid hst
                      have q34 : (bt s i == 34) = false := by simp; omega
                      have q92 : (bt s i == 92) = false := by simp; omega
                      have q8 : (bt s i == 8) = false := by simp; omega
                      have q9 : (bt s i == 9) = false := by simp; omega
                      have q10 : (bt s i == 10) = false := by simp; omega
                      have q12 : (bt s i == 12) = false := by simp; omega
                      have q13 : (bt s i == 13) = false := by simp; omega
                      have z1 := hexS_bt (bt s i / 16).toNat (by omega)
                      have z2 := hexS_bt (bt s i % 16).toNat (by omega)
                      rw [Int.toNat_of_nonneg (by omega)] at z1 z2
                      have t1 : IntKind.u8.wrap ((bt s i).tdiv 16) = bt s i / 16 := by rw [Int.tdiv_eq_ediv_of_nonneg c0]; exact IntWalk.u8_in _ (by omega)
                      have t2 : (bt s i).tmod 16 = bt s i % 16 := Int.tmod_eq_emod_of_nonneg c0
                      have t3 : bt s i / 16 < 16 := by omega
                      have t4 : bt s i % 16 < 16 := by omega
                      have t5 : 0 ≤ bt s i / 16 := by omega
                      have t6 : 0 ≤ bt s i % 16 := by omega
                      unfold hexS at z1 z2
                      clear he hst
                      have hbx := bt_at ⟨#[48, 49, 50, 51, 52, 53, 54, 55, 56, 57, 65, 66, 67, 68, 69, 70]⟩
                      rcases hcs with h32 | h127
                      · have q32 : decide (bt s i < 32) = true := by simp; omega
                        clear h32
                        go_wp2_with fail
                        go_region_law ((refine step_append_lies _ (by rfl) (.tmp 69) (.tmp 78) 22 (by rfl) w.heap.size 5 i0 (.int .u8 0) 1 1 Tryd.underlying22 hi0 hz0 hz1 hz2 rfl (by omega) _ acc.length (byteVs acc) (by rfl) ((World.ownsRow.alloc HO.out _)) ⟨wr.heap.size, 0, none⟩ 6 6 [.int .u8 92, .int .u8 117, .int .u8 48, .int .u8 48, .int .u8 (hexD (bt s i / 16)).toNat, .int .u8 (hexD (bt s i % 16)).toNat] (by rfl) (by rfl) (World.news_of_block (cs := #[.int .u8 92, .int .u8 117, .int .u8 48, .int .u8 48, .int .u8 (hexD (bt s i / 16)).toNat, .int .u8 (hexD (bt s i % 16)).toNat]) (t := 5) (fr := (0, 0)) (heap_alloc_new wr _)) (by simp [Value.oneCell']) (by omega) (by unfold maxLen; omega) (by omega) (by have := Below.size hB1; simp; omega) (wr.heap.size + 1) (by simp) ?_; intro gg cap w4 hown4 hgrow4 hat hlt4))
                        go_wp2
                        all_goals
                          have hn4 := OwnB.snocs (l := [92, 117, 48, 48, hexD (bt s i / 16), hexD (bt s i % 16)]) HO.out rfl hown4
                          go_roundg G
                          case measure => omega
                          case rel => exact ⟨i + 1, _, by omega, by omega, by simp; omega, by go_num, Lib.hid hn4, (show Below w.heap.size w _ from (hB1.alloc hB1.size _).drew).grown hgrow4 (by have := Below.size hB1; simp; omega) (fun k hk => own_blk HO.out k hk), Lib.hid HS.out.symm⟩
                      · have q32 : decide (bt s i < 32) = false := by simp; omega
                        have q127 : (bt s i == 127) = true := by simp [h127]
                        clear h127
                        go_wp2_with fail
                        go_region_law ((refine step_append_lies _ (by rfl) (.tmp 69) (.tmp 78) 22 (by rfl) w.heap.size 5 i0 (.int .u8 0) 1 1 Tryd.underlying22 hi0 hz0 hz1 hz2 rfl (by omega) _ acc.length (byteVs acc) (by rfl) ((World.ownsRow.alloc HO.out _)) ⟨wr.heap.size, 0, none⟩ 6 6 [.int .u8 92, .int .u8 117, .int .u8 48, .int .u8 48, .int .u8 (hexD (bt s i / 16)).toNat, .int .u8 (hexD (bt s i % 16)).toNat] (by rfl) (by rfl) (World.news_of_block (cs := #[.int .u8 92, .int .u8 117, .int .u8 48, .int .u8 48, .int .u8 (hexD (bt s i / 16)).toNat, .int .u8 (hexD (bt s i % 16)).toNat]) (t := 5) (fr := (0, 0)) (heap_alloc_new wr _)) (by simp [Value.oneCell']) (by omega) (by unfold maxLen; omega) (by omega) (by have := Below.size hB1; simp; omega) (wr.heap.size + 1) (by simp) ?_; intro gg cap w4 hown4 hgrow4 hat hlt4))
                        go_wp2
                        all_goals
                          have hn4 := OwnB.snocs (l := [92, 117, 48, 48, hexD (bt s i / 16), hexD (bt s i % 16)]) HO.out rfl hown4
                          go_roundg G
                          case measure => omega
                          case rel => exact ⟨i + 1, _, by omega, by omega, by simp; omega, by go_num, Lib.hid hn4, (show Below w.heap.size w _ from (hB1.alloc hB1.size _).drew).grown hgrow4 (by have := Below.size hB1; simp; omega) (fun k hk => own_blk HO.out k hk), Lib.hid HS.out.symm⟩
                    · have n32 : ¬ bt s i < 32 := fun h => hcs (.inl h)
                      have n127 : ¬ bt s i = 127 := fun h => hcs (.inr h)
                      have he : escW (bt s i) = [byteOf (bt s i)] := by unfold escW; rw [if_neg (fun h => h.elim n34 n92), if_neg n8, if_neg n9, if_neg n10, if_neg n12, if_neg n13, if_neg hcs]
                      rw [he] at hst
                      have HS := Lib.hid hst
                      have q34 : (bt s i == 34) = false := by simp; omega
                      have q92 : (bt s i == 92) = false := by simp; omega
                      have q8 : (bt s i == 8) = false := by simp; omega
                      have q9 : (bt s i == 9) = false := by simp; omega
                      have q10 : (bt s i == 10) = false := by simp; omega
                      have q12 : (bt s i == 12) = false := by simp; omega
                      have q13 : (bt s i == 13) = false := by simp; omega
                      have q127 : (bt s i == 127) = false := by simp; omega
                      have q32 : decide (bt s i < 32) = false := by simp; omega
                      clear he hst hcs
                      go_wp2_with (at_builtin; go_loud (refine wpList_append_own _ rfl (.tmp 17) (.tmp 19) 22 rfl w.heap.size 5 i0 (.int .u8 0) 1 1 Tryd.underlying22 hi0 hz0 hz1 hz2 rfl (by decide) _ _ _ rfl (World.ownsRow.alloc HO.out _) ⟨wr.heap.size, 0, none⟩ 1 1 [.int .u8 (bt s i)] rfl rfl (cells_new _ _ _) (by simp [Value.oneCell']) (by unfold maxLen; omega) (by omega) (by have := Below.size hB1; simp; omega) ?_; intro v4 w4 hown4 hgrow4 _))
                      have hn4 : OwnB w.heap.size w4 v4 (acc ++ [byteOf (bt s i)]) := OwnB.snocs HO.out (by simp [byteVs, u8_val (bt s i) c0 c1]) hown4
                      go_roundg G
                      case measure => omega
                      case rel => exact ⟨i + 1, _, by omega, by omega, by simp; omega, by go_num, Lib.hid hn4, (hB1.alloc hB1.size _).grown hgrow4 (hB1.alloc hB1.size _).size (fun k hk => own_blk HO.out k hk), Lib.hid HS.out.symm⟩
    · obtain rfl : i = s.size := by omega
      have he : wrN s s.size 0 [34] = acc := HK.out.symm.trans (wrN_end s acc)
      have hwl : writtenL s = acc ++ [34] := by unfold writtenL; rw [he]
      have HW := Lib.hid hwl
      clear he hwl
      go_wp2_with (at_builtin; go_loud (refine wpList_append_own _ rfl (.tmp 80) (.tmp 81) 22 rfl w.heap.size 5 i0 (.int .u8 0) 1 1 Tryd.underlying22 hi0 hz0 hz1 hz2 rfl (by decide) _ _ _ rfl (World.ownsRow.alloc HO.out _) ⟨wr.heap.size, 0, none⟩ 1 1 [.int .u8 34] rfl rfl (cells_new _ _ _) (by simp [Value.oneCell']) (by unfold maxLen; omega) (by omega) (by have := Below.size hB1; simp; omega) ?_; intro v4 w4 hown4 hgrow4 _; have hn4 : OwnB w.heap.size w4 v4 (acc ++ [34]) := OwnB.snocs HO.out (l := [34]) rfl hown4; have hcv := run_string_own hn4))
      go_ret
      exact ⟨by rw [HW.out]; rfl, (hB1.alloc hB1.size _).grown hgrow4 (hB1.alloc hB1.size _).size (fun k hk => own_blk HO.out k hk)⟩
end Go.Proofs.YtpfgjiahpddpkaaDoor
