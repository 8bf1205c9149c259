/- utf.Put: a rune's bytes. -/
import Derived.Test.YtpfgjiahpddpkaaDoorScan
import Derived.Test.YtpfgjiahpddpkaaDoorLexF
import Derived.BigRegion
import Derived.RegionTactic
import Derived.OwnWalk
import Derived.Maps.AppendAt
set_option linter.unusedVariables false
set_option linter.unusedSimpArgs false
namespace Go.Proofs.YtpfgjiahpddpkaaDoor
open Go.RowKit
def byteVs (l : List UInt8) : List Value := l.map fun b => .int .u8 b.toNat
/-- The slice value v is the call's own row of these bytes. -/
def OwnB (base : Nat) (w : World) (v : Value) (l : List UInt8) : Prop := w.ownsRow base 5 1 v l.length (byteVs l)
theorem put_bad (r : Int) (h : mayB r = false) (w : World) : Calls Tryd.prog 40 #[.int .i64 r] w fun e w' => e = .returned (.tuple #[.slice none 0 0, .int .i64 2]) ∧ w = w' := by
  have hm := may_c r w
  rw [h] at hm
  have HM := Lib.hid hm; clear hm
  go_enter Tryd.func40, Tryd.ntmps40
  go_wp2_with (go_at_call 55; refine HM.out.mono ?_; rintro e w' ⟨rfl, rfl⟩)
  go_ret2
  exact ⟨rfl, rfl⟩
theorem own_lit {W : World} {base B : Nat} {e : TypeId} {x : Value} (h : W.heap[B]? = some (.cells #[x] e (0, 0))) (hb : base ≤ B) : W.ownsRow base e 1 (.slice (some ⟨B, 0, none⟩) 1 1) 1 [x] :=
  ⟨rfl, .inr ⟨B, 1, #[x], rfl, hb, h, Nat.le_refl _, by decide, rfl, rfl⟩⟩
theorem own_blk {w : World} {base : Nat} {e : TypeId} {size n : Nat} {v : Value} {xs : List Value} (h : w.ownsRow base e size v n xs) (k : Nat) (hk : v.ownBlock = some k) : base ≤ k := by
  rcases h.2 with ⟨rfl, _⟩ | ⟨g, cap, cur, rfl, hb, _⟩
  · simp [Value.ownBlock] at hk
  · have : g = k := by simpa [Value.ownBlock] using hk
    omega
theorem Tryd.infoU8 : (Tryd.prog.info? 5).map (fun i => (i.zero, i.size, i.bytes)) = some (some (.int .u8 0), 1, 1) := by kernel_rfl
theorem u8_val (n : Int) (h0 : 0 ≤ n) (h1 : n < 256) : ((byteOf n).toNat : Int) = n := by
  unfold byteOf
  obtain ⟨m, rfl⟩ := Int.eq_ofNat_of_zero_le h0
  simp; omega
theorem or128 (x : Int) (h0 : 0 ≤ x) (h1 : x < 64) : bits BinOp.or IntKind.i64 128 x = 128 + x := or_mul 6 2 x (by omega) (by omega) h0 (by omega) (by omega)
theorem or192 (x : Int) (h0 : 0 ≤ x) (h1 : x < 32) : bits BinOp.or IntKind.i64 192 x = 192 + x := or_mul 5 6 x (by omega) (by omega) h0 (by omega) (by omega)
theorem or224 (x : Int) (h0 : 0 ≤ x) (h1 : x < 16) : bits BinOp.or IntKind.i64 224 x = 224 + x := or_mul 4 14 x (by omega) (by omega) h0 (by omega) (by omega)
theorem or240 (x : Int) (h0 : 0 ≤ x) (h1 : x < 8) : bits BinOp.or IntKind.i64 240 x = 240 + x := or_mul 3 30 x (by omega) (by omega) h0 (by omega) (by omega)
theorem and_63 (x : Int) (h0 : 0 ≤ x) (h1 : x < 10000000) : bits BinOp.and IntKind.i64 x 63 = x % 64 := by
  obtain ⟨n, rfl⟩ := Int.eq_ofNat_of_zero_le h0
  rw [show (63 : Int) = ((63 : Nat) : Int) from rfl, and_nat _ _ (by omega) (by omega), show (63 : Nat) = 2 ^ 6 - 1 from rfl, Nat.and_two_pow_sub_one_eq_mod]
  omega
theorem ownB_lit (W : World) (base : Nat) (hb : base ≤ W.heap.size) (n : Int) (h0 : 0 ≤ n) (h1 : n < 256) : OwnB base (W.alloc (.cells #[.int .u8 n] 5)) (.slice (some ⟨W.heap.size, 0, none⟩) 1 1) [byteOf n] := by
  unfold OwnB byteVs
  simp only [List.map_cons, List.map_nil, List.length_cons, List.length_nil, u8_val n h0 h1]
  exact own_lit (World.alloc_heap_new W _) hb
theorem own_lower {w : World} {base base' : Nat} {e : TypeId} {size n : Nat} {v : Value} {xs : List Value} (h : w.ownsRow base e size v n xs) (hb : base' ≤ base) : w.ownsRow base' e size v n xs := by
  refine ⟨h.1, ?_⟩
  rcases h.2 with h2 | ⟨g, cap, cur, hv, hg, r⟩
  · exact .inl h2
  · exact .inr ⟨g, cap, cur, hv, by omega, r⟩
theorem OwnB.lower {base base' : Nat} {W : World} {v : Value} {l : List UInt8} (h : OwnB base W v l) (hb : base' ≤ base) : OwnB base' W v l := own_lower h hb
theorem OwnB.drew {base : Nat} {W : World} {v : Value} {l : List UInt8} (h : OwnB base W v l) : OwnB base W.drew v l := h
theorem OwnB.snoc {base : Nat} {W' : World} {v' : Value} {l : List UInt8} {n : Int} (h0 : 0 ≤ n) (h1 : n < 256) (h : W'.ownsRow base 5 1 v' (l.length + 1) (byteVs l ++ [.int .u8 n])) : OwnB base W' v' (l ++ [byteOf n]) := by
  unfold OwnB byteVs at *
  simpa [u8_val n h0 h1] using h
set_option maxHeartbeats 4000000 in
theorem put1 (r : Int) (h : mayB r = true) (h1 : r < 128) (w : World) : Calls Tryd.prog 40 #[.int .i64 r] w fun e w' => ∃ v, e = .returned (.tuple #[v, .int .i64 0]) ∧ OwnB w.heap.size w' v (putL r) ∧ Below w.heap.size w w' := by
  have hm := may_c r w
  rw [h] at hm
  have HM := Lib.hid hm; clear hm
  have hs := size_c r w
  have h0 : 0 ≤ r := by simp [mayB] at h; omega
  rw [show sizeI r = 1 from by unfold sizeI; rw [if_pos (by omega)]] at hs
  have HS := Lib.hid hs; clear hs
  have hp : putL r = [byteOf r] := by unfold putL; rw [if_pos (by omega)]
  have HP := Lib.hid hp; clear hp
  go_enter Tryd.func40, Tryd.ntmps40
  go_wp2_with (first | (go_at_call 55; refine HM.out.mono ?_; rintro e w' ⟨rfl, rfl⟩) | (go_at_call 56; refine HS.out.mono ?_; rintro e w' ⟨rfl, rfl⟩))
  go_ret2
  refine ⟨_, rfl, ?_, (Below.refl _ w).alloc (Nat.le_refl _) _⟩
  rw [HP.out]
  exact ownB_lit w _ (Nat.le_refl _) r (by omega) (by omega)
set_option maxHeartbeats 2000000 in
theorem put2 (r : Int) (h : mayB r = true) (h0 : 128 ≤ r) (h1 : r < 2048) (w : World) : Calls Tryd.prog 40 #[.int .i64 r] w fun e w' => ∃ v, e = .returned (.tuple #[v, .int .i64 0]) ∧ OwnB w.heap.size w' v (putL r) ∧ Below w.heap.size w w' := by
  have hm := may_c r w
  rw [h] at hm
  have HM := Lib.hid hm; clear hm
  have hs := size_c r w
  rw [show sizeI r = 2 from by unfold sizeI; rw [if_neg (by omega), if_pos (by omega)]] at hs
  have HS := Lib.hid hs; clear hs
  have hp : putL r = [byteOf (192 + r / 64), byteOf (128 + r % 64)] := by unfold putL; rw [if_neg (by omega), if_pos (by omega)]
  have HP := Lib.hid hp; clear hp
  have a1 : bits BinOp.and IntKind.i64 960 255 = 192 := by decide +kernel
  have a2 := or192 (r / 64) (by omega) (by omega)
  have a3 := and_63 r (by omega) (by omega)
  have a4 := or128 (r % 64) (by omega) (by omega)
  obtain ⟨i0, hi, hz0, hz1, hz2⟩ := info_parts Tryd.infoU8
  go_enter Tryd.func40, Tryd.ntmps40
  go_upto_region 6 with (first | (go_at_call 55; refine HM.out.mono ?_; rintro e w' ⟨rfl, rfl⟩) | (go_at_call 56; refine HS.out.mono ?_; rintro e w' ⟨rfl, rfl⟩))
  go_cut [5] (fun v wx => OwnB w.heap.size wx v [byteOf (192 + r / 64)] ∧ Below w.heap.size w wx)
  case first =>
    go_region
    all_goals (go_wp2_with fail; go_meet; exact ⟨(ownB_lit w _ (Nat.le_refl _) _ (by omega) (by omega)).drew, ((Below.refl _ w).alloc (Nat.le_refl _) _).drew⟩)
  case rest =>
    obtain ⟨hown, hB⟩ := hcut
    go_wp2_with (at_builtin; go_loud (refine wpList_append_own _ rfl (.tmp 48) (.tmp 53) 22 rfl w.heap.size 5 i0 (.int .u8 0) 1 1 Tryd.underlying22 hi hz0 hz1 hz2 rfl (by decide) _ _ _ rfl (hown.alloc _) ⟨_, 0, none⟩ 1 1 [_] rfl rfl (cell_one_new _ _ _) (by simp [Value.oneCell']) (by unfold maxLen; simp) (by simp) (by have := hB.size; simp; omega) ?_; intro v1 w1 hown1 hgrow1 _))
    go_ret2
    refine ⟨v1, rfl, ?_, (hB.alloc hB.size _).grown hgrow1 (hB.alloc hB.size _).size (fun k hk => own_blk hown k hk)⟩
    rw [HP.out]
    exact OwnB.snoc (l := [byteOf (192 + r / 64)]) (by omega) (by omega) hown1
set_option maxHeartbeats 4000000 in
theorem put3 (r : Int) (h : mayB r = true) (h0 : 2048 ≤ r) (h1 : r < 65536) (w : World) : Calls Tryd.prog 40 #[.int .i64 r] w fun e w' => ∃ v, e = .returned (.tuple #[v, .int .i64 0]) ∧ OwnB w.heap.size w' v (putL r) ∧ Below w.heap.size w w' := by
  have hm := may_c r w
  rw [h] at hm
  have HM := Lib.hid hm; clear hm
  have hs := size_c r w
  rw [show sizeI r = 3 from by unfold sizeI; rw [if_neg (by omega), if_neg (by omega), if_pos (by omega)]] at hs
  have HS := Lib.hid hs; clear hs
  have hp : putL r = [byteOf (224 + r / 4096), byteOf (128 + r / 64 % 64), byteOf (128 + r % 64)] := by unfold putL; rw [if_neg (by omega), if_neg (by omega), if_pos (by omega)]
  have HP := Lib.hid hp; clear hp
  have a1 : bits BinOp.and IntKind.i64 480 255 = 224 := by decide +kernel
  have a2 := or224 (r / 4096) (by omega) (by omega)
  have a3 := and_63 r (by omega) (by omega)
  have a4 := or128 (r % 64) (by omega) (by omega)
  have a5 := and_63 (r / 64) (by omega) (by omega)
  have a6 := or128 (r / 64 % 64) (by omega) (by omega)
  obtain ⟨i0, hi, hz0, hz1, hz2⟩ := info_parts Tryd.infoU8
  go_enter Tryd.func40, Tryd.ntmps40
  go_upto_region 6 with (first | (go_at_call 55; refine HM.out.mono ?_; rintro e w' ⟨rfl, rfl⟩) | (go_at_call 56; refine HS.out.mono ?_; rintro e w' ⟨rfl, rfl⟩))
  go_cut [5] (fun v wx => OwnB w.heap.size wx v [byteOf (224 + r / 4096)] ∧ Below w.heap.size w wx)
  case first =>
    go_region
    all_goals (go_wp2_with fail; go_meet; exact ⟨(ownB_lit w _ (Nat.le_refl _) _ (by omega) (by omega)).drew, ((Below.refl _ w).alloc (Nat.le_refl _) _).drew⟩)
  case rest =>
    obtain ⟨hown, hB⟩ := hcut
    go_wp2_with (first | (at_builtin; refine wpList_append_own _ rfl (.tmp 40) (.tmp 46) 22 rfl w.heap.size 5 i0 (.int .u8 0) 1 1 Tryd.underlying22 hi hz0 hz1 hz2 rfl (by decide) _ _ _ rfl (World.ownsRow.alloc hown _) ⟨_, 0, none⟩ 1 1 [_] rfl rfl (cell_one_new _ _ _) (by simp [Value.oneCell']) (by unfold maxLen; simp) (by simp) (by have := Below.size hB; simp; omega) ?_; intro v1 w1 hown10 hgrow1 _; have hown1 := OwnB.snoc (by omega) (by omega) hown10; have hB1 := (Below.alloc hB (Below.size hB) _).grown hgrow1 (Below.alloc hB (Below.size hB) _).size (fun k hk => own_blk hown k hk); clear hgrow1 hown10) | (at_builtin; refine wpList_append_own _ rfl (.tmp 48) (.tmp 53) 22 rfl w.heap.size 5 i0 (.int .u8 0) 1 1 Tryd.underlying22 hi hz0 hz1 hz2 rfl (by decide) _ _ _ rfl (World.ownsRow.alloc hown1 _) ⟨_, 0, none⟩ 1 1 [_] rfl rfl (cell_one_new _ _ _) (by simp [Value.oneCell']) (by unfold maxLen; simp) (by simp) (by have := Below.size hB1; simp; omega) ?_; intro v2 w2 hown20 hgrow2 _; have hown2 := OwnB.snoc (by omega) (by omega) hown20; have hB2 := (Below.alloc hB1 (Below.size hB1) _).grown hgrow2 (Below.alloc hB1 (Below.size hB1) _).size (fun k hk => own_blk hown1 k hk); clear hgrow2 hown20))
    go_ret2
    refine ⟨v2, rfl, ?_, hB2⟩
    rw [HP.out]
    exact hown2
set_option maxHeartbeats 4000000 in
theorem put4 (r : Int) (h : mayB r = true) (h0 : 65536 ≤ r) (w : World) : Calls Tryd.prog 40 #[.int .i64 r] w fun e w' => ∃ v, e = .returned (.tuple #[v, .int .i64 0]) ∧ OwnB w.heap.size w' v (putL r) ∧ Below w.heap.size w w' := by
  have hm := may_c r w
  rw [h] at hm
  have HM := Lib.hid hm; clear hm
  have hs := size_c r w
  have h1 : r ≤ 1114111 := by simp [mayB] at h; omega
  rw [show sizeI r = 4 from by unfold sizeI; rw [if_neg (by omega), if_neg (by omega), if_neg (by omega)]] at hs
  have HS := Lib.hid hs; clear hs
  have hp : putL r = [byteOf (240 + r / 262144), byteOf (128 + r / 4096 % 64), byteOf (128 + r / 64 % 64), byteOf (128 + r % 64)] := by unfold putL; rw [if_neg (by omega), if_neg (by omega), if_neg (by omega)]
  have HP := Lib.hid hp; clear hp
  have a1 : bits BinOp.and IntKind.i64 240 255 = 240 := by decide +kernel
  have a2 := or240 (r / 262144) (by omega) (by omega)
  have a3 := and_63 r (by omega) (by omega)
  have a4 := or128 (r % 64) (by omega) (by omega)
  have a5 := and_63 (r / 64) (by omega) (by omega)
  have a6 := or128 (r / 64 % 64) (by omega) (by omega)
  have a7 := and_63 (r / 4096) (by omega) (by omega)
  have a8 := or128 (r / 4096 % 64) (by omega) (by omega)
  obtain ⟨i0, hi, hz0, hz1, hz2⟩ := info_parts Tryd.infoU8
  go_enter Tryd.func40, Tryd.ntmps40
  go_upto_region 6 with (first | (go_at_call 55; refine HM.out.mono ?_; rintro e w' ⟨rfl, rfl⟩) | (go_at_call 56; refine HS.out.mono ?_; rintro e w' ⟨rfl, rfl⟩))
  go_cut [5] (fun v wx => OwnB w.heap.size wx v [byteOf (240 + r / 262144)] ∧ Below w.heap.size w wx)
  case first =>
    go_region
    all_goals (go_wp2_with fail; go_meet; exact ⟨(ownB_lit w _ (Nat.le_refl _) _ (by omega) (by omega)).drew, ((Below.refl _ w).alloc (Nat.le_refl _) _).drew⟩)
  case rest =>
    obtain ⟨hown, hB⟩ := hcut
    go_wp2_with (first | (at_builtin; refine wpList_append_own _ rfl (.tmp 32) (.tmp 38) 22 rfl w.heap.size 5 i0 (.int .u8 0) 1 1 Tryd.underlying22 hi hz0 hz1 hz2 rfl (by decide) _ _ _ rfl (World.ownsRow.alloc hown _) ⟨_, 0, none⟩ 1 1 [_] rfl rfl (cell_one_new _ _ _) (by simp [Value.oneCell']) (by unfold maxLen; simp) (by simp) (by have := Below.size hB; simp; omega) ?_; intro v1 w1 hown10 hgrow1 _; have hown1 := OwnB.snoc (by omega) (by omega) hown10; have hB1 := (Below.alloc hB (Below.size hB) _).grown hgrow1 (Below.alloc hB (Below.size hB) _).size (fun k hk => own_blk hown k hk); clear hgrow1 hown10) | (at_builtin; refine wpList_append_own _ rfl (.tmp 40) (.tmp 46) 22 rfl w.heap.size 5 i0 (.int .u8 0) 1 1 Tryd.underlying22 hi hz0 hz1 hz2 rfl (by decide) _ _ _ rfl (World.ownsRow.alloc hown1 _) ⟨_, 0, none⟩ 1 1 [_] rfl rfl (cell_one_new _ _ _) (by simp [Value.oneCell']) (by unfold maxLen; simp) (by simp) (by have := Below.size hB1; simp; omega) ?_; intro v2 w2 hown20 hgrow2 _; have hown2 := OwnB.snoc (by omega) (by omega) hown20; have hB2 := (Below.alloc hB1 (Below.size hB1) _).grown hgrow2 (Below.alloc hB1 (Below.size hB1) _).size (fun k hk => own_blk hown1 k hk); clear hgrow2 hown20) | (at_builtin; refine wpList_append_own _ rfl (.tmp 48) (.tmp 53) 22 rfl w.heap.size 5 i0 (.int .u8 0) 1 1 Tryd.underlying22 hi hz0 hz1 hz2 rfl (by decide) _ _ _ rfl (World.ownsRow.alloc hown2 _) ⟨_, 0, none⟩ 1 1 [_] rfl rfl (cell_one_new _ _ _) (by simp [Value.oneCell']) (by unfold maxLen; simp) (by simp) (by have := Below.size hB2; simp; omega) ?_; intro v3 w3 hown30 hgrow3 _; have hown3 := OwnB.snoc (by omega) (by omega) hown30; have hB3 := (Below.alloc hB2 (Below.size hB2) _).grown hgrow3 (Below.alloc hB2 (Below.size hB2) _).size (fun k hk => own_blk hown2 k hk); clear hgrow3 hown30))
    go_ret2
    refine ⟨v3, rfl, ?_, hB3⟩
    rw [HP.out]
    exact hown3
theorem put_ok (r : Int) (h : mayB r = true) (w : World) : Calls Tryd.prog 40 #[.int .i64 r] w fun e w' => ∃ v, e = .returned (.tuple #[v, .int .i64 0]) ∧ OwnB w.heap.size w' v (putL r) ∧ Below w.heap.size w w' := by
  by_cases h1 : r < 128
  · exact put1 r h h1 w
  by_cases h2 : r < 2048
  · exact put2 r h (by omega) h2 w
  by_cases h3 : r < 65536
  · exact put3 r h (by omega) h3 w
  · exact put4 r h (by omega) w
end Go.Proofs.YtpfgjiahpddpkaaDoor
