/- The walk of lex.Read without prefixes, at a string, two symbols behind it. -/
import Derived.Test.YtpfgjiahpddpkaaDoorZ10
set_option linter.unusedVariables false
set_option linter.unusedSimpArgs false
namespace Go.Proofs.YtpfgjiahpddpkaaDoor
open Go.RowKit
theorem hat2 : (⟨#[94, 94]⟩ : ByteArray).toList = [94, 94] := by rw [Go.Lib.toList_data]
set_option maxHeartbeats 4000000 in
set_option maxRecDepth 100000 in
theorem read_s4 (y : Sym) (h3 : y.kind = 3) (z u : Sym) (r : List Sym) (hz : z.kind = 4) (g off cap : Nat) (w : World) (hm0 : HasMax w) (hL : At w g off (y :: z :: u :: r)) (hsz : ∀ zz ∈ y :: z :: u :: r, zz.text.size ≤ 1000000000 ∧ zz.tt.size ≤ 1000000000) (hc : (y :: z :: u :: r).length ≤ 2000000000) :
    Calls Tryd.prog 20 #[.slice (some ⟨g, off, none⟩) (y :: z :: u :: r).length cap, .map none] w fun e w' => e = .returned (readV (readF (y :: z :: u :: r))) ∧ Below w.heap.size w w' := by
  have hgl := hL.1
  have hB1 : Below w.heap.size w (w.alloc (.cells #[.int .i64 0, .string ⟨#[]⟩, .string ⟨#[]⟩] 40)) := (Below.refl _ w).alloc (Nat.le_refl _) _
  have hm1 := hm0.below hB1
  have hL1 := hL.below hB1
  have hys := (hsz y (by simp)).1
  have hrc := res_any y (by omega) _ hm1
  obtain ⟨a0, a1, a2, a3, a4, a5⟩ := hL1.first
  have H1 := Lib.hid hL1
  have HR := Lib.hid hrc
  have HM1 := Lib.hid hm1
  have HSZ := Lib.hid hsz
  have HL := Lib.hid hL
  have HB1 := Lib.hid hB1
  have hlen : (((y :: z :: u :: r).length : Nat) : Int) = ((z :: u :: r : List Sym).length : Int) + 1 := by simp
  have d0 : ((((y :: z :: u :: r).length : Nat) : Int) == 0) = false := by rw [hlen]; simp <;> omega
  have hr0 : 0 < (y :: z :: u :: r).length := by simp
  clear hL1 hrc hm1 hsz hL hB1 hlen
  generalize hn : (y :: z :: u :: r).length = n at *
  have HN := Lib.hid hn
  have HC := Lib.hid hc
  clear hn hc hys
  obtain ⟨k, tx, tk, tt, te, pl⟩ := y
  simp only [symV] at HR
  simp only at a0 a1 a2 a3 a4 a5 h3
  subst h3
  go_enter Tryd.func20, Tryd.ntmps20
  go_upto_region 3 with fail
  go_cut [7, 8] (fun v b wx => ∃ (q : Nat) (k' : Int) (t' x' : ByteArray), v = .pointer (some ⟨q, 0, none⟩) ∧ b = .bool false ∧ w.heap.size < q ∧ wx.heap[q]? = some (termO k' t' x') ∧ wx.heap[w.heap.size]? = some (termO 0 ⟨#[]⟩ ⟨#[]⟩) ∧ True ∧ Below w.heap.size w wx)
  case first =>
    go_wp2_with (go_at_call 37; refine HR.out.mono ?_; rintro e w2 ⟨k', t', x', rfl, hk, hB2⟩; simp only [termV])
    go_meet
    have hzz := hB2.size
    rw [World.size_alloc] at hzz
    have hold : w2.heap[w.heap.size]? = some (termO 0 ⟨#[]⟩ ⟨#[]⟩) := (hB2.block w.heap.size (by rw [World.size_alloc]; omega)).trans (World.alloc_heap_new w _)
    exact ⟨w2.heap.size, k', t', x', rfl, rfl, by omega, World.alloc_heap_new w2 _, alloc_blk hold, trivial, (HB1.out.trans (hB2.mono HB1.out.size)).alloc (by omega) _⟩
  case rest =>
    obtain ⟨q, k', t', x', rfl, rfl, hq, hq1, hq0, _, hB⟩ := hcut
    have hL2 := HL.out.below hB
    obtain ⟨c0, c1, c2, c3, c4, c5⟩ := hL2.first
    obtain ⟨⟨e0, e1, e2⟩, f0, f1, f2⟩ := termO_cells hq0
    obtain ⟨⟨g0, g1, g2⟩, i0, i1, i2⟩ := termO_cells hq1
    simp only at c0 c1 c2 c3 c4 c5
    have lq := (Array.getElem?_eq_some_iff.1 hq1).1
    have HQ0 := Lib.hid hq0
    have HQ1 := Lib.hid hq1
    have HB2 := Lib.hid hB
    have HL2 := Lib.hid hL2
    have hne : ¬ w.heap.size = q := by omega
    have hne2 : ¬ q = w.heap.size := by omega
    have hgq : ¬ g = q := by omega
    clear hq0 hq1 hB hL2 a0 a1 a2 a3 a4 a5
    have hmx := fun W hb => hm0.below (w := w) (W := W) hb
    have HMX := Lib.hid hmx
    clear hmx g0 g1 g2 i0 i1 i2 e0 e1 e2 f0 f1 f2
    obtain ⟨⟨g0, g1, g2⟩, i0, i1, i2⟩ := termO_cells HQ1.out
    go_upto_region 9 with fail
    go_cut [] (fun wx => wx.heap[q]? = some (termO 3 tx ⟨#[]⟩) ∧ wx.heap[w.heap.size]? = some (termO 0 ⟨#[]⟩ ⟨#[]⟩) ∧ Below w.heap.size w wx)
    case first =>
      go_wp2_with fail
      go_meet
      exact ⟨res_sets 3 tx ⟨#[]⟩ HQ1.out, set_ne (o := 2) (v := .string ⟨#[]⟩) (set_ne (o := 1) (v := .string tx) (set_ne (o := 0) (v := .int .i64 3) HQ0.out hne) hne) hne, ((HB2.out.setCell (p := ⟨q, 0, none⟩) (by simp; omega) _).setCell (p := ⟨q, 1, none⟩) (by simp; omega) _).setCell (p := ⟨q, 2, none⟩) (by simp; omega) _⟩
    case rest =>
      clear HQ0 HQ1 HB2 HL2 g0 g1 g2 i0 i1 i2 c0 c1 c2 c3 c4 c5 lq
      obtain ⟨hSq, hS0, hSB⟩ := hcut
      have hL2 := HL.out.below hSB
      obtain ⟨⟨e0, e1, e2⟩, f0, f1, f2⟩ := termO_cells hS0
      obtain ⟨⟨g0, g1, g2⟩, i0, i1, i2⟩ := termO_cells hSq
      have HQ0 := Lib.hid hS0
      have HQ1 := Lib.hid hSq
      have HB2 := Lib.hid hSB
      have HM2 := Lib.hid (HMX.out _ hSB)
      have lq := (Array.getElem?_eq_some_iff.1 hSq).1
      have l0 := (Array.getElem?_eq_some_iff.1 hS0).1
      clear hS0 hSq hSB
      obtain ⟨z0, z1, z2, z3, z4, z5⟩ := hL2.rest.first
      simp only [Nat.add_assoc, Nat.reduceAdd] at z0 z1 z2 z3 z4 z5
      have hn1 : (n : Int) = (r.length : Int) + 3 := by rw [← HN.out]; simp; omega
      have dn : decide ((1 : Int) < (n : Int)) = true := by rw [hn1]; simp <;> omega
      have dn2 : decide ((2 : Int) < (n : Int)) = true := by rw [hn1]; simp <;> omega
      have dn3 : 1 < n := by omega
      have dn4 : 2 < n := by omega
      clear hn1
      have kz : (z.kind == 4) = true := by simp [hz]
      have HZ := Lib.hid hz
      clear hL2 hz
      go_upto_region 11 with fail
      go_cut [9] (fun v wx => v = .int .i64 2 ∧ wx.heap[q]? = some (termO 4 tx z.text) ∧ wx.heap[w.heap.size]? = some (termO 0 ⟨#[]⟩ ⟨#[]⟩) ∧ Below w.heap.size w wx)
      case first =>
        go_region
        all_goals
          go_wp2_with fail
          go_meet
          exact ⟨rfl, by first | exact lang_sets HQ1.out | (rw [drew_heap]; exact lang_sets HQ1.out), by first | exact set_ne (o := 2) (v := .string z.text) (set_ne (o := 0) (v := .int .i64 4) HQ0.out hne) hne | (rw [drew_heap]; exact set_ne (o := 2) (v := .string z.text) (set_ne (o := 0) (v := .int .i64 4) HQ0.out hne) hne), by first | exact ((HB2.out.setCell (p := ⟨q, 0, none⟩) (by simp; omega) _).setCell (p := ⟨q, 2, none⟩) (by simp; omega) _).drew | exact ((HB2.out.setCell (p := ⟨q, 0, none⟩) (by simp; omega) _).setCell (p := ⟨q, 2, none⟩) (by simp; omega) _)⟩
      case rest =>
        clear z0 z1 z2 z3 z4 z5 HQ0 HQ1 HB2 HM2 g0 g1 g2 i0 i1 i2 e0 e1 e2 f0 f1 f2 lq l0
        obtain ⟨rfl, hSq, hS0, hSB⟩ := hcut
        have hL2 := HL.out.below hSB
        obtain ⟨z0, z1, z2, z3, z4, z5⟩ := hL2.rest.first
        simp only [Nat.add_assoc, Nat.reduceAdd] at z0 z1 z2 z3 z4 z5
        obtain ⟨⟨e0, e1, e2⟩, f0, f1, f2⟩ := termO_cells hS0
        obtain ⟨⟨g0, g1, g2⟩, i0, i1, i2⟩ := termO_cells hSq
        have HQ0 := Lib.hid hS0
        have HQ1 := Lib.hid hSq
        have HB2 := Lib.hid hSB
        have HM2 := Lib.hid (HMX.out _ hSB)
        have lq := (Array.getElem?_eq_some_iff.1 hSq).1
        have l0 := (Array.getElem?_eq_some_iff.1 hS0).1
        clear hS0 hSq hSB
        have hmc := fun W => mark_c z ⟨#[94, 94]⟩ W
        rw [show (z.kind == 8 && z.text.toList == (⟨#[94, 94]⟩ : ByteArray).toList) = false by rw [show (z.kind == 8) = false by simp [HZ.out]]; rfl] at hmc
        have HMK := Lib.hid hmc
        clear hmc
        go_upto_region 12 with fail
        go_cut [65] (fun v wx => v = .bool false ∧ wx.heap[q]? = some (termO 4 tx z.text) ∧ wx.heap[w.heap.size]? = some (termO 0 ⟨#[]⟩ ⟨#[]⟩) ∧ Below w.heap.size w wx)
        case first =>
          go_wp2_with (go_at_call 24; refine (HMK.out _).mono ?_; rintro e w4 ⟨rfl, hB4⟩)
          go_meet
          exact ⟨rfl, (hB4.block q lq).trans HQ1.out, (hB4.block w.heap.size l0).trans HQ0.out, HB2.out.trans (hB4.mono HB2.out.size)⟩
        case rest =>
          clear HQ0 HQ1 HB2 HM2 g0 g1 g2 i0 i1 i2 e0 e1 e2 f0 f1 f2 lq l0
          clear z0 z1 z2 z3 z4 z5
          obtain ⟨rfl, hSq, hS0, hSB⟩ := hcut
          have hL2 := HL.out.below hSB
          obtain ⟨y0, y1, y2, y3, y4, y5⟩ := hL2.rest.rest.first
          simp only [Nat.add_assoc, Nat.reduceAdd] at y0 y1 y2 y3 y4 y5
          clear hL2
          obtain ⟨⟨e0, e1, e2⟩, f0, f1, f2⟩ := termO_cells hS0
          obtain ⟨⟨g0, g1, g2⟩, i0, i1, i2⟩ := termO_cells hSq
          have HQ0 := Lib.hid hS0
          have HQ1 := Lib.hid hSq
          have HB2 := Lib.hid hSB
          have HM2 := Lib.hid (HMX.out _ hSB)
          have lq := (Array.getElem?_eq_some_iff.1 hSq).1
          have l0 := (Array.getElem?_eq_some_iff.1 hS0).1
          clear hS0 hSq hSB
          have hmy := fun W h => mayT_c 4 tx z.text (by have := (HSZ.out ⟨3, tx, tk, tt, te, pl⟩ (by simp)).1; simp only at this; omega) (by have := (HSZ.out z (by simp)).1; omega) W h
          cases hb : mayT 4 tx z.text with
          | true =>
            rw [hb] at hmy
            have HMY := Lib.hid hmy
            have hrf : readF (⟨3, tx, tk, tt, te, pl⟩ :: z :: u :: r) = some ((4, tx, z.text), 2) := by simp only [readF]; rw [show strT ⟨3, tx, tk, tt, te, pl⟩ (z :: u :: r) = ((4, tx, z.text), 2) from if_pos HZ.out]; simp [hb]
            have HF := Lib.hid hrf
            clear hmy hb hrf
            go_wp2_with (first | (go_at_call 38; refine (HMY.out _ HM2.out).mono ?_; rintro e w5 ⟨rfl, hB5⟩; have r5 := (hB5.block q lq).trans HQ1.out; have r6 := (hB5.block w.heap.size l0).trans HQ0.out; have hb6 := HB2.out.trans (hB5.mono HB2.out.size); obtain ⟨⟨v0, v1, v2⟩, u0, u1, u2⟩ := termO_cells r5; obtain ⟨⟨s0, s1, s2⟩, t0, t1, t2⟩ := termO_cells r6; have R6 := Lib.hid r6; have HB6 := Lib.hid hb6; clear r5 r6 hb6))
            all_goals exact bodyPost_ret (ret_read 4 tx z.text rfl rfl rfl rfl (res_sets 4 tx z.text R6.out)) rfl ⟨by rw [HF.out]; rfl, ((HB6.out.setCell (p := ⟨w.heap.size, 0, none⟩) (by simp) _).setCell (p := ⟨w.heap.size, 1, none⟩) (by simp) _).setCell (p := ⟨w.heap.size, 2, none⟩) (by simp) _⟩
          | false =>
            rw [hb] at hmy
            have HMY := Lib.hid hmy
            have hrf : readF (⟨3, tx, tk, tt, te, pl⟩ :: z :: u :: r) = none := by simp only [readF]; rw [show strT ⟨3, tx, tk, tt, te, pl⟩ (z :: u :: r) = ((4, tx, z.text), 2) from if_pos HZ.out]; simp [hb]
            have HF := Lib.hid hrf
            clear hmy hb hrf
            go_wp2_with (first | (go_at_call 38; refine (HMY.out _ HM2.out).mono ?_; rintro e w5 ⟨rfl, hB5⟩; have r5 := (hB5.block q lq).trans HQ1.out; have r6 := (hB5.block w.heap.size l0).trans HQ0.out; have hb6 := HB2.out.trans (hB5.mono HB2.out.size); obtain ⟨⟨v0, v1, v2⟩, u0, u1, u2⟩ := termO_cells r5; obtain ⟨⟨s0, s1, s2⟩, t0, t1, t2⟩ := termO_cells r6; have R6 := Lib.hid r6; have HB6 := Lib.hid hb6; clear r5 r6 hb6))
            all_goals exact bodyPost_ret (ret_read 0 ⟨#[]⟩ ⟨#[]⟩ rfl rfl rfl rfl (res_sets 0 ⟨#[]⟩ ⟨#[]⟩ R6.out)) rfl ⟨by rw [HF.out]; rfl, ((HB6.out.setCell (p := ⟨w.heap.size, 0, none⟩) (by simp) _).setCell (p := ⟨w.heap.size, 1, none⟩) (by simp) _).setCell (p := ⟨w.heap.size, 2, none⟩) (by simp) _⟩
set_option maxHeartbeats 4000000 in
set_option maxRecDepth 100000 in
theorem read_s5 (y : Sym) (h3 : y.kind = 3) (z u : Sym) (r : List Sym) (hz : z.kind ≠ 4) (hmk : (z.kind == 8 && z.text.toList == [94, 94]) = false) (g off cap : Nat) (w : World) (hm0 : HasMax w) (hL : At w g off (y :: z :: u :: r)) (hsz : ∀ zz ∈ y :: z :: u :: r, zz.text.size ≤ 1000000000 ∧ zz.tt.size ≤ 1000000000) (hc : (y :: z :: u :: r).length ≤ 2000000000) :
    Calls Tryd.prog 20 #[.slice (some ⟨g, off, none⟩) (y :: z :: u :: r).length cap, .map none] w fun e w' => e = .returned (readV (readF (y :: z :: u :: r))) ∧ Below w.heap.size w w' := by
  have hgl := hL.1
  have hB1 : Below w.heap.size w (w.alloc (.cells #[.int .i64 0, .string ⟨#[]⟩, .string ⟨#[]⟩] 40)) := (Below.refl _ w).alloc (Nat.le_refl _) _
  have hm1 := hm0.below hB1
  have hL1 := hL.below hB1
  have hys := (hsz y (by simp)).1
  have hrc := res_any y (by omega) _ hm1
  obtain ⟨a0, a1, a2, a3, a4, a5⟩ := hL1.first
  have H1 := Lib.hid hL1
  have HR := Lib.hid hrc
  have HM1 := Lib.hid hm1
  have HSZ := Lib.hid hsz
  have HL := Lib.hid hL
  have HB1 := Lib.hid hB1
  have hlen : (((y :: z :: u :: r).length : Nat) : Int) = ((z :: u :: r : List Sym).length : Int) + 1 := by simp
  have d0 : ((((y :: z :: u :: r).length : Nat) : Int) == 0) = false := by rw [hlen]; simp <;> omega
  have hr0 : 0 < (y :: z :: u :: r).length := by simp
  clear hL1 hrc hm1 hsz hL hB1 hlen
  generalize hn : (y :: z :: u :: r).length = n at *
  have HN := Lib.hid hn
  have HC := Lib.hid hc
  clear hn hc hys
  obtain ⟨k, tx, tk, tt, te, pl⟩ := y
  simp only [symV] at HR
  simp only at a0 a1 a2 a3 a4 a5 h3
  subst h3
  go_enter Tryd.func20, Tryd.ntmps20
  go_upto_region 3 with fail
  go_cut [7, 8] (fun v b wx => ∃ (q : Nat) (k' : Int) (t' x' : ByteArray), v = .pointer (some ⟨q, 0, none⟩) ∧ b = .bool false ∧ w.heap.size < q ∧ wx.heap[q]? = some (termO k' t' x') ∧ wx.heap[w.heap.size]? = some (termO 0 ⟨#[]⟩ ⟨#[]⟩) ∧ True ∧ Below w.heap.size w wx)
  case first =>
    go_wp2_with (go_at_call 37; refine HR.out.mono ?_; rintro e w2 ⟨k', t', x', rfl, hk, hB2⟩; simp only [termV])
    go_meet
    have hzz := hB2.size
    rw [World.size_alloc] at hzz
    have hold : w2.heap[w.heap.size]? = some (termO 0 ⟨#[]⟩ ⟨#[]⟩) := (hB2.block w.heap.size (by rw [World.size_alloc]; omega)).trans (World.alloc_heap_new w _)
    exact ⟨w2.heap.size, k', t', x', rfl, rfl, by omega, World.alloc_heap_new w2 _, alloc_blk hold, trivial, (HB1.out.trans (hB2.mono HB1.out.size)).alloc (by omega) _⟩
  case rest =>
    obtain ⟨q, k', t', x', rfl, rfl, hq, hq1, hq0, _, hB⟩ := hcut
    have hL2 := HL.out.below hB
    obtain ⟨c0, c1, c2, c3, c4, c5⟩ := hL2.first
    obtain ⟨⟨e0, e1, e2⟩, f0, f1, f2⟩ := termO_cells hq0
    obtain ⟨⟨g0, g1, g2⟩, i0, i1, i2⟩ := termO_cells hq1
    simp only at c0 c1 c2 c3 c4 c5
    have lq := (Array.getElem?_eq_some_iff.1 hq1).1
    have HQ0 := Lib.hid hq0
    have HQ1 := Lib.hid hq1
    have HB2 := Lib.hid hB
    have HL2 := Lib.hid hL2
    have hne : ¬ w.heap.size = q := by omega
    have hne2 : ¬ q = w.heap.size := by omega
    have hgq : ¬ g = q := by omega
    clear hq0 hq1 hB hL2 a0 a1 a2 a3 a4 a5
    have hmx := fun W hb => hm0.below (w := w) (W := W) hb
    have HMX := Lib.hid hmx
    clear hmx g0 g1 g2 i0 i1 i2 e0 e1 e2 f0 f1 f2
    obtain ⟨⟨g0, g1, g2⟩, i0, i1, i2⟩ := termO_cells HQ1.out
    go_upto_region 9 with fail
    go_cut [] (fun wx => wx.heap[q]? = some (termO 3 tx ⟨#[]⟩) ∧ wx.heap[w.heap.size]? = some (termO 0 ⟨#[]⟩ ⟨#[]⟩) ∧ Below w.heap.size w wx)
    case first =>
      go_wp2_with fail
      go_meet
      exact ⟨res_sets 3 tx ⟨#[]⟩ HQ1.out, set_ne (o := 2) (v := .string ⟨#[]⟩) (set_ne (o := 1) (v := .string tx) (set_ne (o := 0) (v := .int .i64 3) HQ0.out hne) hne) hne, ((HB2.out.setCell (p := ⟨q, 0, none⟩) (by simp; omega) _).setCell (p := ⟨q, 1, none⟩) (by simp; omega) _).setCell (p := ⟨q, 2, none⟩) (by simp; omega) _⟩
    case rest =>
      clear HQ0 HQ1 HB2 HL2 g0 g1 g2 i0 i1 i2 c0 c1 c2 c3 c4 c5 lq
      obtain ⟨hSq, hS0, hSB⟩ := hcut
      have hL2 := HL.out.below hSB
      obtain ⟨⟨e0, e1, e2⟩, f0, f1, f2⟩ := termO_cells hS0
      obtain ⟨⟨g0, g1, g2⟩, i0, i1, i2⟩ := termO_cells hSq
      have HQ0 := Lib.hid hS0
      have HQ1 := Lib.hid hSq
      have HB2 := Lib.hid hSB
      have HM2 := Lib.hid (HMX.out _ hSB)
      have lq := (Array.getElem?_eq_some_iff.1 hSq).1
      have l0 := (Array.getElem?_eq_some_iff.1 hS0).1
      clear hS0 hSq hSB
      obtain ⟨z0, z1, z2, z3, z4, z5⟩ := hL2.rest.first
      simp only [Nat.add_assoc, Nat.reduceAdd] at z0 z1 z2 z3 z4 z5
      have hn1 : (n : Int) = (r.length : Int) + 3 := by rw [← HN.out]; simp; omega
      have dn : decide ((1 : Int) < (n : Int)) = true := by rw [hn1]; simp <;> omega
      have dn2 : decide ((2 : Int) < (n : Int)) = true := by rw [hn1]; simp <;> omega
      have dn3 : 1 < n := by omega
      have dn4 : 2 < n := by omega
      clear hn1
      have kz : (z.kind == 4) = false := by simp [hz]
      have HZ := Lib.hid hz
      have HMK0 := Lib.hid hmk
      clear hL2 hz hmk
      have hmc := fun W => mark_c z ⟨#[94, 94]⟩ W
      rw [show (z.kind == 8 && z.text.toList == (⟨#[94, 94]⟩ : ByteArray).toList) = false by rw [hat2]; exact HMK0.out] at hmc
      have HMK := Lib.hid hmc
      clear hmc
      go_upto_region 12 with fail
      go_cut [65] (fun v wx => v = .bool false ∧ wx.heap[q]? = some (termO 3 tx ⟨#[]⟩) ∧ wx.heap[w.heap.size]? = some (termO 0 ⟨#[]⟩ ⟨#[]⟩) ∧ Below w.heap.size w wx)
      case first =>
        go_wp2_with (go_at_call 24; refine (HMK.out _).mono ?_; rintro e w4 ⟨rfl, hB4⟩)
        go_meet
        exact ⟨rfl, (hB4.block q lq).trans HQ1.out, (hB4.block w.heap.size l0).trans HQ0.out, HB2.out.trans (hB4.mono HB2.out.size)⟩
      case rest =>
        clear HQ0 HQ1 HB2 HM2 g0 g1 g2 i0 i1 i2 e0 e1 e2 f0 f1 f2 lq l0
        clear z0 z1 z2 z3 z4 z5
        obtain ⟨rfl, hSq, hS0, hSB⟩ := hcut
        have hL2 := HL.out.below hSB
        obtain ⟨y0, y1, y2, y3, y4, y5⟩ := hL2.rest.rest.first
        simp only [Nat.add_assoc, Nat.reduceAdd] at y0 y1 y2 y3 y4 y5
        clear hL2
        obtain ⟨⟨e0, e1, e2⟩, f0, f1, f2⟩ := termO_cells hS0
        obtain ⟨⟨g0, g1, g2⟩, i0, i1, i2⟩ := termO_cells hSq
        have HQ0 := Lib.hid hS0
        have HQ1 := Lib.hid hSq
        have HB2 := Lib.hid hSB
        have HM2 := Lib.hid (HMX.out _ hSB)
        have lq := (Array.getElem?_eq_some_iff.1 hSq).1
        have l0 := (Array.getElem?_eq_some_iff.1 hS0).1
        clear hS0 hSq hSB
        have hmy := fun W h => mayT_c 3 tx ⟨#[]⟩ (by have := (HSZ.out ⟨3, tx, tk, tt, te, pl⟩ (by simp)).1; simp only at this; omega) (by simp [ByteArray.size]) W h
        cases hb : mayT 3 tx ⟨#[]⟩ with
        | true =>
          rw [hb] at hmy
          have HMY := Lib.hid hmy
          have hrf : readF (⟨3, tx, tk, tt, te, pl⟩ :: z :: u :: r) = some ((3, tx, ⟨#[]⟩), 1) := by simp only [readF]; rw [show strT ⟨3, tx, tk, tt, te, pl⟩ (z :: u :: r) = ((3, tx, ⟨#[]⟩), 1) by simp only [strT]; rw [if_neg HZ.out, if_neg (fun h => by have h1 := h.1; rw [HMK0.out] at h1; cases h1)]]; simp [hb]
          have HF := Lib.hid hrf
          clear hmy hb hrf
          go_wp2_with (first | (go_at_call 38; refine (HMY.out _ HM2.out).mono ?_; rintro e w5 ⟨rfl, hB5⟩; have r5 := (hB5.block q lq).trans HQ1.out; have r6 := (hB5.block w.heap.size l0).trans HQ0.out; have hb6 := HB2.out.trans (hB5.mono HB2.out.size); obtain ⟨⟨v0, v1, v2⟩, u0, u1, u2⟩ := termO_cells r5; obtain ⟨⟨s0, s1, s2⟩, t0, t1, t2⟩ := termO_cells r6; have R6 := Lib.hid r6; have HB6 := Lib.hid hb6; clear r5 r6 hb6))
          all_goals exact bodyPost_ret (ret_read 3 tx ⟨#[]⟩ rfl rfl rfl rfl (res_sets 3 tx ⟨#[]⟩ R6.out)) rfl ⟨by rw [HF.out]; rfl, ((HB6.out.setCell (p := ⟨w.heap.size, 0, none⟩) (by simp) _).setCell (p := ⟨w.heap.size, 1, none⟩) (by simp) _).setCell (p := ⟨w.heap.size, 2, none⟩) (by simp) _⟩
        | false =>
          rw [hb] at hmy
          have HMY := Lib.hid hmy
          have hrf : readF (⟨3, tx, tk, tt, te, pl⟩ :: z :: u :: r) = none := by simp only [readF]; rw [show strT ⟨3, tx, tk, tt, te, pl⟩ (z :: u :: r) = ((3, tx, ⟨#[]⟩), 1) by simp only [strT]; rw [if_neg HZ.out, if_neg (fun h => by have h1 := h.1; rw [HMK0.out] at h1; cases h1)]]; simp [hb]
          have HF := Lib.hid hrf
          clear hmy hb hrf
          go_wp2_with (first | (go_at_call 38; refine (HMY.out _ HM2.out).mono ?_; rintro e w5 ⟨rfl, hB5⟩; have r5 := (hB5.block q lq).trans HQ1.out; have r6 := (hB5.block w.heap.size l0).trans HQ0.out; have hb6 := HB2.out.trans (hB5.mono HB2.out.size); obtain ⟨⟨v0, v1, v2⟩, u0, u1, u2⟩ := termO_cells r5; obtain ⟨⟨s0, s1, s2⟩, t0, t1, t2⟩ := termO_cells r6; have R6 := Lib.hid r6; have HB6 := Lib.hid hb6; clear r5 r6 hb6))
          all_goals exact bodyPost_ret (ret_read 0 ⟨#[]⟩ ⟨#[]⟩ rfl rfl rfl rfl (res_sets 0 ⟨#[]⟩ ⟨#[]⟩ R6.out)) rfl ⟨by rw [HF.out]; rfl, ((HB6.out.setCell (p := ⟨w.heap.size, 0, none⟩) (by simp) _).setCell (p := ⟨w.heap.size, 1, none⟩) (by simp) _).setCell (p := ⟨w.heap.size, 2, none⟩) (by simp) _⟩
set_option maxHeartbeats 4000000 in
set_option maxRecDepth 100000 in
theorem read_s6 (y : Sym) (h3 : y.kind = 3) (z u : Sym) (r : List Sym) (hz : z.kind ≠ 4) (hmk : (z.kind == 8 && z.text.toList == [94, 94]) = true) (hu : u.kind ≠ 1) (g off cap : Nat) (w : World) (hm0 : HasMax w) (hL : At w g off (y :: z :: u :: r)) (hsz : ∀ zz ∈ y :: z :: u :: r, zz.text.size ≤ 1000000000 ∧ zz.tt.size ≤ 1000000000) (hc : (y :: z :: u :: r).length ≤ 2000000000) :
    Calls Tryd.prog 20 #[.slice (some ⟨g, off, none⟩) (y :: z :: u :: r).length cap, .map none] w fun e w' => e = .returned (readV (readF (y :: z :: u :: r))) ∧ Below w.heap.size w w' := by
  have hgl := hL.1
  have hB1 : Below w.heap.size w (w.alloc (.cells #[.int .i64 0, .string ⟨#[]⟩, .string ⟨#[]⟩] 40)) := (Below.refl _ w).alloc (Nat.le_refl _) _
  have hm1 := hm0.below hB1
  have hL1 := hL.below hB1
  have hys := (hsz y (by simp)).1
  have hrc := res_any y (by omega) _ hm1
  obtain ⟨a0, a1, a2, a3, a4, a5⟩ := hL1.first
  have H1 := Lib.hid hL1
  have HR := Lib.hid hrc
  have HM1 := Lib.hid hm1
  have HSZ := Lib.hid hsz
  have HL := Lib.hid hL
  have HB1 := Lib.hid hB1
  have hlen : (((y :: z :: u :: r).length : Nat) : Int) = ((z :: u :: r : List Sym).length : Int) + 1 := by simp
  have d0 : ((((y :: z :: u :: r).length : Nat) : Int) == 0) = false := by rw [hlen]; simp <;> omega
  have hr0 : 0 < (y :: z :: u :: r).length := by simp
  clear hL1 hrc hm1 hsz hL hB1 hlen
  generalize hn : (y :: z :: u :: r).length = n at *
  have HN := Lib.hid hn
  have HC := Lib.hid hc
  clear hn hc hys
  obtain ⟨k, tx, tk, tt, te, pl⟩ := y
  simp only [symV] at HR
  simp only at a0 a1 a2 a3 a4 a5 h3
  subst h3
  go_enter Tryd.func20, Tryd.ntmps20
  go_upto_region 3 with fail
  go_cut [7, 8] (fun v b wx => ∃ (q : Nat) (k' : Int) (t' x' : ByteArray), v = .pointer (some ⟨q, 0, none⟩) ∧ b = .bool false ∧ w.heap.size < q ∧ wx.heap[q]? = some (termO k' t' x') ∧ wx.heap[w.heap.size]? = some (termO 0 ⟨#[]⟩ ⟨#[]⟩) ∧ True ∧ Below w.heap.size w wx)
  case first =>
    go_wp2_with (go_at_call 37; refine HR.out.mono ?_; rintro e w2 ⟨k', t', x', rfl, hk, hB2⟩; simp only [termV])
    go_meet
    have hzz := hB2.size
    rw [World.size_alloc] at hzz
    have hold : w2.heap[w.heap.size]? = some (termO 0 ⟨#[]⟩ ⟨#[]⟩) := (hB2.block w.heap.size (by rw [World.size_alloc]; omega)).trans (World.alloc_heap_new w _)
    exact ⟨w2.heap.size, k', t', x', rfl, rfl, by omega, World.alloc_heap_new w2 _, alloc_blk hold, trivial, (HB1.out.trans (hB2.mono HB1.out.size)).alloc (by omega) _⟩
  case rest =>
    obtain ⟨q, k', t', x', rfl, rfl, hq, hq1, hq0, _, hB⟩ := hcut
    have hL2 := HL.out.below hB
    obtain ⟨c0, c1, c2, c3, c4, c5⟩ := hL2.first
    obtain ⟨⟨e0, e1, e2⟩, f0, f1, f2⟩ := termO_cells hq0
    obtain ⟨⟨g0, g1, g2⟩, i0, i1, i2⟩ := termO_cells hq1
    simp only at c0 c1 c2 c3 c4 c5
    have lq := (Array.getElem?_eq_some_iff.1 hq1).1
    have HQ0 := Lib.hid hq0
    have HQ1 := Lib.hid hq1
    have HB2 := Lib.hid hB
    have HL2 := Lib.hid hL2
    have hne : ¬ w.heap.size = q := by omega
    have hne2 : ¬ q = w.heap.size := by omega
    have hgq : ¬ g = q := by omega
    clear hq0 hq1 hB hL2 a0 a1 a2 a3 a4 a5
    have hmx := fun W hb => hm0.below (w := w) (W := W) hb
    have HMX := Lib.hid hmx
    clear hmx g0 g1 g2 i0 i1 i2 e0 e1 e2 f0 f1 f2
    obtain ⟨⟨g0, g1, g2⟩, i0, i1, i2⟩ := termO_cells HQ1.out
    go_upto_region 9 with fail
    go_cut [] (fun wx => wx.heap[q]? = some (termO 3 tx ⟨#[]⟩) ∧ wx.heap[w.heap.size]? = some (termO 0 ⟨#[]⟩ ⟨#[]⟩) ∧ Below w.heap.size w wx)
    case first =>
      go_wp2_with fail
      go_meet
      exact ⟨res_sets 3 tx ⟨#[]⟩ HQ1.out, set_ne (o := 2) (v := .string ⟨#[]⟩) (set_ne (o := 1) (v := .string tx) (set_ne (o := 0) (v := .int .i64 3) HQ0.out hne) hne) hne, ((HB2.out.setCell (p := ⟨q, 0, none⟩) (by simp; omega) _).setCell (p := ⟨q, 1, none⟩) (by simp; omega) _).setCell (p := ⟨q, 2, none⟩) (by simp; omega) _⟩
    case rest =>
      clear HQ0 HQ1 HB2 HL2 g0 g1 g2 i0 i1 i2 c0 c1 c2 c3 c4 c5 lq
      obtain ⟨hSq, hS0, hSB⟩ := hcut
      have hL2 := HL.out.below hSB
      obtain ⟨⟨e0, e1, e2⟩, f0, f1, f2⟩ := termO_cells hS0
      obtain ⟨⟨g0, g1, g2⟩, i0, i1, i2⟩ := termO_cells hSq
      have HQ0 := Lib.hid hS0
      have HQ1 := Lib.hid hSq
      have HB2 := Lib.hid hSB
      have HM2 := Lib.hid (HMX.out _ hSB)
      have lq := (Array.getElem?_eq_some_iff.1 hSq).1
      have l0 := (Array.getElem?_eq_some_iff.1 hS0).1
      clear hS0 hSq hSB
      obtain ⟨z0, z1, z2, z3, z4, z5⟩ := hL2.rest.first
      simp only [Nat.add_assoc, Nat.reduceAdd] at z0 z1 z2 z3 z4 z5
      have hn1 : (n : Int) = (r.length : Int) + 3 := by rw [← HN.out]; simp; omega
      have dn : decide ((1 : Int) < (n : Int)) = true := by rw [hn1]; simp <;> omega
      have dn2 : decide ((2 : Int) < (n : Int)) = true := by rw [hn1]; simp <;> omega
      have dn3 : 1 < n := by omega
      have dn4 : 2 < n := by omega
      clear hn1
      have kz : (z.kind == 4) = false := by simp [hz]
      have HZ := Lib.hid hz
      have HMK0 := Lib.hid hmk
      clear hL2 hz hmk
      have hmc := fun W => mark_c z ⟨#[94, 94]⟩ W
      rw [show (z.kind == 8 && z.text.toList == (⟨#[94, 94]⟩ : ByteArray).toList) = true by rw [hat2]; exact HMK0.out] at hmc
      have HMK := Lib.hid hmc
      clear hmc
      go_upto_region 12 with fail
      go_cut [65] (fun v wx => v = .bool true ∧ wx.heap[q]? = some (termO 3 tx ⟨#[]⟩) ∧ wx.heap[w.heap.size]? = some (termO 0 ⟨#[]⟩ ⟨#[]⟩) ∧ Below w.heap.size w wx)
      case first =>
        go_wp2_with (go_at_call 24; refine (HMK.out _).mono ?_; rintro e w4 ⟨rfl, hB4⟩)
        go_meet
        exact ⟨rfl, (hB4.block q lq).trans HQ1.out, (hB4.block w.heap.size l0).trans HQ0.out, HB2.out.trans (hB4.mono HB2.out.size)⟩
      case rest =>
        clear HQ0 HQ1 HB2 HM2 g0 g1 g2 i0 i1 i2 e0 e1 e2 f0 f1 f2 lq l0
        clear z0 z1 z2 z3 z4 z5
        obtain ⟨rfl, hSq, hS0, hSB⟩ := hcut
        have hL2 := HL.out.below hSB
        obtain ⟨y0, y1, y2, y3, y4, y5⟩ := hL2.rest.rest.first
        simp only [Nat.add_assoc, Nat.reduceAdd] at y0 y1 y2 y3 y4 y5
        clear hL2
        obtain ⟨⟨e0, e1, e2⟩, f0, f1, f2⟩ := termO_cells hS0
        obtain ⟨⟨g0, g1, g2⟩, i0, i1, i2⟩ := termO_cells hSq
        have HQ0 := Lib.hid hS0
        have HQ1 := Lib.hid hSq
        have HB2 := Lib.hid hSB
        have HM2 := Lib.hid (HMX.out _ hSB)
        have lq := (Array.getElem?_eq_some_iff.1 hSq).1
        have l0 := (Array.getElem?_eq_some_iff.1 hS0).1
        clear hS0 hSq hSB
        have HU := Lib.hid hu
        clear hu
        have hru := fun W hW => res_any u (by have := (HSZ.out u (by simp)).1; omega) W hW
        have HRU := Lib.hid hru
        clear hru
        go_upto_region 13 with fail
        go_cut [10, 11] (fun v b wx => ∃ (q2 : Nat) (k2 : Int) (t2 x2 : ByteArray), v = .pointer (some ⟨q2, 0, none⟩) ∧ b = .bool false ∧ q < q2 ∧ wx.heap[q2]? = some (termO k2 t2 x2) ∧ (u.kind = 1 → t2 = u.tt) ∧ wx.heap[q]? = some (termO 3 tx ⟨#[]⟩) ∧ wx.heap[w.heap.size]? = some (termO 0 ⟨#[]⟩ ⟨#[]⟩) ∧ Below w.heap.size w wx)
        case first =>
          go_wp2_with (go_at_call 37; refine (HRU.out _ HM2.out).mono ?_; rintro e w4 ⟨k2, t2, x2, rfl, hk2, hB4⟩; simp only [termV])
          go_meet
          have hz4 := hB4.size
          exact ⟨w4.heap.size, k2, t2, x2, rfl, by rw [show (u.kind == 1) = false by simp [HU.out]], by omega, World.alloc_heap_new w4 _, fun h => (hk2 h).2.1, alloc_blk ((hB4.block q lq).trans HQ1.out), alloc_blk ((hB4.block w.heap.size l0).trans HQ0.out), (HB2.out.trans (hB4.mono HB2.out.size)).alloc (by have := HB2.out.size; omega) _⟩
        case rest =>
          clear HQ0 HQ1 HB2 HM2 g0 g1 g2 i0 i1 i2 e0 e1 e2 f0 f1 f2 lq l0
          clear y0 y1 y2 y3 y4 y5
          obtain ⟨q2, k2, t2, x2, rfl, rfl, hq2, hSq2, htt, hSq, hS0, hSB⟩ := hcut
          clear htt hSq2
          obtain ⟨⟨e0, e1, e2⟩, f0, f1, f2⟩ := termO_cells hS0
          obtain ⟨⟨g0, g1, g2⟩, i0, i1, i2⟩ := termO_cells hSq
          have HQ0 := Lib.hid hS0
          have HQ1 := Lib.hid hSq
          have HB2 := Lib.hid hSB
          have HM2 := Lib.hid (HMX.out _ hSB)
          have lq := (Array.getElem?_eq_some_iff.1 hSq).1
          have l0 := (Array.getElem?_eq_some_iff.1 hS0).1
          clear hS0 hSq hSB
          have hmy := fun W h => mayT_c 3 tx ⟨#[]⟩ (by have := (HSZ.out ⟨3, tx, tk, tt, te, pl⟩ (by simp)).1; simp only at this; omega) (by simp [ByteArray.size]) W h
          cases hb : mayT 3 tx ⟨#[]⟩ with
          | true =>
            rw [hb] at hmy
            have HMY := Lib.hid hmy
            have hrf : readF (⟨3, tx, tk, tt, te, pl⟩ :: z :: u :: r) = some ((3, tx, ⟨#[]⟩), 1) := by simp only [readF]; rw [show strT ⟨3, tx, tk, tt, te, pl⟩ (z :: u :: r) = ((3, tx, ⟨#[]⟩), 1) by simp only [strT]; rw [if_neg HZ.out, if_neg (fun h => HU.out h.2)]]; simp [hb]
            have HF := Lib.hid hrf
            clear hmy hb hrf
            go_wp2_with (first | (go_at_call 38; refine (HMY.out _ HM2.out).mono ?_; rintro e w5 ⟨rfl, hB5⟩; have r5 := (hB5.block q lq).trans HQ1.out; have r6 := (hB5.block w.heap.size l0).trans HQ0.out; have hb6 := HB2.out.trans (hB5.mono HB2.out.size); obtain ⟨⟨v0, v1, v2⟩, u0, u1, u2⟩ := termO_cells r5; obtain ⟨⟨s0, s1, s2⟩, t0, t1, t2⟩ := termO_cells r6; have R6 := Lib.hid r6; have HB6 := Lib.hid hb6; clear r5 r6 hb6))
            all_goals exact bodyPost_ret (ret_read 3 tx ⟨#[]⟩ rfl rfl rfl rfl (res_sets 3 tx ⟨#[]⟩ R6.out)) rfl ⟨by rw [HF.out]; rfl, ((HB6.out.setCell (p := ⟨w.heap.size, 0, none⟩) (by simp) _).setCell (p := ⟨w.heap.size, 1, none⟩) (by simp) _).setCell (p := ⟨w.heap.size, 2, none⟩) (by simp) _⟩
          | false =>
            rw [hb] at hmy
            have HMY := Lib.hid hmy
            have hrf : readF (⟨3, tx, tk, tt, te, pl⟩ :: z :: u :: r) = none := by simp only [readF]; rw [show strT ⟨3, tx, tk, tt, te, pl⟩ (z :: u :: r) = ((3, tx, ⟨#[]⟩), 1) by simp only [strT]; rw [if_neg HZ.out, if_neg (fun h => HU.out h.2)]]; simp [hb]
            have HF := Lib.hid hrf
            clear hmy hb hrf
            go_wp2_with (first | (go_at_call 38; refine (HMY.out _ HM2.out).mono ?_; rintro e w5 ⟨rfl, hB5⟩; have r5 := (hB5.block q lq).trans HQ1.out; have r6 := (hB5.block w.heap.size l0).trans HQ0.out; have hb6 := HB2.out.trans (hB5.mono HB2.out.size); obtain ⟨⟨v0, v1, v2⟩, u0, u1, u2⟩ := termO_cells r5; obtain ⟨⟨s0, s1, s2⟩, t0, t1, t2⟩ := termO_cells r6; have R6 := Lib.hid r6; have HB6 := Lib.hid hb6; clear r5 r6 hb6))
            all_goals exact bodyPost_ret (ret_read 0 ⟨#[]⟩ ⟨#[]⟩ rfl rfl rfl rfl (res_sets 0 ⟨#[]⟩ ⟨#[]⟩ R6.out)) rfl ⟨by rw [HF.out]; rfl, ((HB6.out.setCell (p := ⟨w.heap.size, 0, none⟩) (by simp) _).setCell (p := ⟨w.heap.size, 1, none⟩) (by simp) _).setCell (p := ⟨w.heap.size, 2, none⟩) (by simp) _⟩
end Go.Proofs.YtpfgjiahpddpkaaDoor
