/- The walk of lex.Read without prefixes, at a string. -/
import Derived.Test.YtpfgjiahpddpkaaDoorZ9
set_option linter.unusedVariables false
set_option linter.unusedSimpArgs false
namespace Go.Proofs.YtpfgjiahpddpkaaDoor
open Go.RowKit
theorem lang_sets {r : Nat} {w : World} {k0 k : Int} {t0 x0 x : ByteArray} (h : w.heap[r]? = some (termO k0 t0 x0)) : ((w.setCell ⟨r, 0, none⟩ (.int .i64 k)).setCell ⟨r, 2, none⟩ (.string x)).heap[r]? = some (termO k t0 x) := by
  rw [heap_set (heap_set h)]; rfl
set_option maxHeartbeats 4000000 in
set_option maxRecDepth 100000 in
theorem read_s0 (y : Sym) (h3 : y.kind = 3) (g off cap : Nat) (w : World) (hm0 : HasMax w) (hL : At w g off (y :: [])) (hsz : ∀ zz ∈ y :: [], zz.text.size ≤ 1000000000 ∧ zz.tt.size ≤ 1000000000) (hc : (y :: []).length ≤ 2000000000) :
    Calls Tryd.prog 20 #[.slice (some ⟨g, off, none⟩) (y :: []).length cap, .map none] w fun e w' => e = .returned (readV (readF (y :: []))) ∧ Below w.heap.size w w' := by
  have hgl := hL.1
  have hB1 : Below w.heap.size w (w.alloc (.cells #[.int .i64 0, .string ⟨#[]⟩, .string ⟨#[]⟩] 40)) := (Below.refl _ w).alloc (Nat.le_refl _) _
  have hm1 := hm0.below hB1
  have hL1 := hL.below hB1
  have hys := (hsz y (by simp)).1
  have hrc := res_any y (by omega) _ hm1
  obtain ⟨a0, a1, a2, a3, a4, a5⟩ := hL1.first
  have H1 := Lib.hid hL1
  have HR := Lib.hid hrc
  have HM1 := Lib.hid hm1
  have HSZ := Lib.hid hsz
  have HL := Lib.hid hL
  have HB1 := Lib.hid hB1
  have hlen : (((y :: []).length : Nat) : Int) = (([] : List Sym).length : Int) + 1 := by simp
  have d0 : ((((y :: []).length : Nat) : Int) == 0) = false := by rw [hlen]; simp <;> omega
  have hr0 : 0 < (y :: []).length := by simp
  clear hL1 hrc hm1 hsz hL hB1 hlen
  generalize hn : (y :: []).length = n at *
  have HN := Lib.hid hn
  have HC := Lib.hid hc
  clear hn hc hys
  obtain ⟨k, tx, tk, tt, te, pl⟩ := y
  simp only [symV] at HR
  simp only at a0 a1 a2 a3 a4 a5 h3
  subst h3
  go_enter Tryd.func20, Tryd.ntmps20
  go_upto_region 3 with fail
  go_cut [7, 8] (fun v b wx => ∃ (q : Nat) (k' : Int) (t' x' : ByteArray), v = .pointer (some ⟨q, 0, none⟩) ∧ b = .bool false ∧ w.heap.size < q ∧ wx.heap[q]? = some (termO k' t' x') ∧ wx.heap[w.heap.size]? = some (termO 0 ⟨#[]⟩ ⟨#[]⟩) ∧ True ∧ Below w.heap.size w wx)
  case first =>
    go_wp2_with (go_at_call 37; refine HR.out.mono ?_; rintro e w2 ⟨k', t', x', rfl, hk, hB2⟩; simp only [termV])
    go_meet
    have hzz := hB2.size
    rw [World.size_alloc] at hzz
    have hold : w2.heap[w.heap.size]? = some (termO 0 ⟨#[]⟩ ⟨#[]⟩) := (hB2.block w.heap.size (by rw [World.size_alloc]; omega)).trans (World.alloc_heap_new w _)
    exact ⟨w2.heap.size, k', t', x', rfl, rfl, by omega, World.alloc_heap_new w2 _, alloc_blk hold, trivial, (HB1.out.trans (hB2.mono HB1.out.size)).alloc (by omega) _⟩
  case rest =>
    obtain ⟨q, k', t', x', rfl, rfl, hq, hq1, hq0, _, hB⟩ := hcut
    have hL2 := HL.out.below hB
    obtain ⟨c0, c1, c2, c3, c4, c5⟩ := hL2.first
    obtain ⟨⟨e0, e1, e2⟩, f0, f1, f2⟩ := termO_cells hq0
    obtain ⟨⟨g0, g1, g2⟩, i0, i1, i2⟩ := termO_cells hq1
    simp only at c0 c1 c2 c3 c4 c5
    have lq := (Array.getElem?_eq_some_iff.1 hq1).1
    have HQ0 := Lib.hid hq0
    have HQ1 := Lib.hid hq1
    have HB2 := Lib.hid hB
    have HL2 := Lib.hid hL2
    have hne : ¬ w.heap.size = q := by omega
    have hne2 : ¬ q = w.heap.size := by omega
    have hgq : ¬ g = q := by omega
    clear hq0 hq1 hB hL2 a0 a1 a2 a3 a4 a5
    have hmx := fun W hb => hm0.below (w := w) (W := W) hb
    have HMX := Lib.hid hmx
    clear hmx g0 g1 g2 i0 i1 i2 e0 e1 e2 f0 f1 f2
    obtain ⟨⟨g0, g1, g2⟩, i0, i1, i2⟩ := termO_cells HQ1.out
    go_upto_region 9 with fail
    go_cut [] (fun wx => wx.heap[q]? = some (termO 3 tx ⟨#[]⟩) ∧ wx.heap[w.heap.size]? = some (termO 0 ⟨#[]⟩ ⟨#[]⟩) ∧ Below w.heap.size w wx)
    case first =>
      go_wp2_with fail
      go_meet
      exact ⟨res_sets 3 tx ⟨#[]⟩ HQ1.out, set_ne (o := 2) (v := .string ⟨#[]⟩) (set_ne (o := 1) (v := .string tx) (set_ne (o := 0) (v := .int .i64 3) HQ0.out hne) hne) hne, ((HB2.out.setCell (p := ⟨q, 0, none⟩) (by simp; omega) _).setCell (p := ⟨q, 1, none⟩) (by simp; omega) _).setCell (p := ⟨q, 2, none⟩) (by simp; omega) _⟩
    case rest =>
      clear HQ0 HQ1 HB2 HL2 g0 g1 g2 i0 i1 i2 c0 c1 c2 c3 c4 c5 lq
      obtain ⟨hSq, hS0, hSB⟩ := hcut
      have hL2 := HL.out.below hSB
      obtain ⟨⟨e0, e1, e2⟩, f0, f1, f2⟩ := termO_cells hS0
      obtain ⟨⟨g0, g1, g2⟩, i0, i1, i2⟩ := termO_cells hSq
      have HQ0 := Lib.hid hS0
      have HQ1 := Lib.hid hSq
      have HB2 := Lib.hid hSB
      have HM2 := Lib.hid (HMX.out _ hSB)
      have lq := (Array.getElem?_eq_some_iff.1 hSq).1
      have l0 := (Array.getElem?_eq_some_iff.1 hS0).1
      clear hS0 hSq hSB
      have hn1 : n = 1 := HN.out.symm
      have dn : decide ((1 : Int) < (n : Int)) = false := by simp; omega
      have dn2 : decide ((2 : Int) < (n : Int)) = false := by simp; omega
      clear hn1 hL2
      have hmy := fun W h => mayT_c 3 tx ⟨#[]⟩ (by have := (HSZ.out ⟨3, tx, tk, tt, te, pl⟩ (by simp)).1; simp only at this; omega) (by simp [ByteArray.size]) W h
      cases hb : mayT 3 tx ⟨#[]⟩ with
      | true =>
        rw [hb] at hmy
        have HMY := Lib.hid hmy
        have hrf : readF (⟨3, tx, tk, tt, te, pl⟩ :: []) = some ((3, tx, ⟨#[]⟩), 1) := by simp only [readF]; rw [show strT ⟨3, tx, tk, tt, te, pl⟩ [] = ((3, tx, ⟨#[]⟩), 1) from rfl]; simp [hb]
        have HF := Lib.hid hrf
        clear hmy hb hrf
        go_wp2_with (first | (go_at_call 38; refine (HMY.out _ HM2.out).mono ?_; rintro e w5 ⟨rfl, hB5⟩; have r5 := (hB5.block q lq).trans HQ1.out; have r6 := (hB5.block w.heap.size l0).trans HQ0.out; have hb6 := HB2.out.trans (hB5.mono HB2.out.size); obtain ⟨⟨v0, v1, v2⟩, u0, u1, u2⟩ := termO_cells r5; obtain ⟨⟨s0, s1, s2⟩, t0, t1, t2⟩ := termO_cells r6; have R6 := Lib.hid r6; have HB6 := Lib.hid hb6; clear r5 r6 hb6))
        all_goals exact bodyPost_ret (ret_read 3 tx ⟨#[]⟩ rfl rfl rfl rfl (res_sets 3 tx ⟨#[]⟩ R6.out)) rfl ⟨by rw [HF.out]; rfl, ((HB6.out.setCell (p := ⟨w.heap.size, 0, none⟩) (by simp) _).setCell (p := ⟨w.heap.size, 1, none⟩) (by simp) _).setCell (p := ⟨w.heap.size, 2, none⟩) (by simp) _⟩
      | false =>
        rw [hb] at hmy
        have HMY := Lib.hid hmy
        have hrf : readF (⟨3, tx, tk, tt, te, pl⟩ :: []) = none := by simp only [readF]; rw [show strT ⟨3, tx, tk, tt, te, pl⟩ [] = ((3, tx, ⟨#[]⟩), 1) from rfl]; simp [hb]
        have HF := Lib.hid hrf
        clear hmy hb hrf
        go_wp2_with (first | (go_at_call 38; refine (HMY.out _ HM2.out).mono ?_; rintro e w5 ⟨rfl, hB5⟩; have r5 := (hB5.block q lq).trans HQ1.out; have r6 := (hB5.block w.heap.size l0).trans HQ0.out; have hb6 := HB2.out.trans (hB5.mono HB2.out.size); obtain ⟨⟨v0, v1, v2⟩, u0, u1, u2⟩ := termO_cells r5; obtain ⟨⟨s0, s1, s2⟩, t0, t1, t2⟩ := termO_cells r6; have R6 := Lib.hid r6; have HB6 := Lib.hid hb6; clear r5 r6 hb6))
        all_goals exact bodyPost_ret (ret_read 0 ⟨#[]⟩ ⟨#[]⟩ rfl rfl rfl rfl (res_sets 0 ⟨#[]⟩ ⟨#[]⟩ R6.out)) rfl ⟨by rw [HF.out]; rfl, ((HB6.out.setCell (p := ⟨w.heap.size, 0, none⟩) (by simp) _).setCell (p := ⟨w.heap.size, 1, none⟩) (by simp) _).setCell (p := ⟨w.heap.size, 2, none⟩) (by simp) _⟩
set_option maxHeartbeats 4000000 in
set_option maxRecDepth 100000 in
theorem read_s1 (y : Sym) (h3 : y.kind = 3) (z : Sym) (hz : z.kind ≠ 4) (g off cap : Nat) (w : World) (hm0 : HasMax w) (hL : At w g off (y :: [z])) (hsz : ∀ zz ∈ y :: [z], zz.text.size ≤ 1000000000 ∧ zz.tt.size ≤ 1000000000) (hc : (y :: [z]).length ≤ 2000000000) :
    Calls Tryd.prog 20 #[.slice (some ⟨g, off, none⟩) (y :: [z]).length cap, .map none] w fun e w' => e = .returned (readV (readF (y :: [z]))) ∧ Below w.heap.size w w' := by
  have hgl := hL.1
  have hB1 : Below w.heap.size w (w.alloc (.cells #[.int .i64 0, .string ⟨#[]⟩, .string ⟨#[]⟩] 40)) := (Below.refl _ w).alloc (Nat.le_refl _) _
  have hm1 := hm0.below hB1
  have hL1 := hL.below hB1
  have hys := (hsz y (by simp)).1
  have hrc := res_any y (by omega) _ hm1
  obtain ⟨a0, a1, a2, a3, a4, a5⟩ := hL1.first
  have H1 := Lib.hid hL1
  have HR := Lib.hid hrc
  have HM1 := Lib.hid hm1
  have HSZ := Lib.hid hsz
  have HL := Lib.hid hL
  have HB1 := Lib.hid hB1
  have hlen : (((y :: [z]).length : Nat) : Int) = (([z] : List Sym).length : Int) + 1 := by simp
  have d0 : ((((y :: [z]).length : Nat) : Int) == 0) = false := by rw [hlen]; simp <;> omega
  have hr0 : 0 < (y :: [z]).length := by simp
  clear hL1 hrc hm1 hsz hL hB1 hlen
  generalize hn : (y :: [z]).length = n at *
  have HN := Lib.hid hn
  have HC := Lib.hid hc
  clear hn hc hys
  obtain ⟨k, tx, tk, tt, te, pl⟩ := y
  simp only [symV] at HR
  simp only at a0 a1 a2 a3 a4 a5 h3
  subst h3
  go_enter Tryd.func20, Tryd.ntmps20
  go_upto_region 3 with fail
  go_cut [7, 8] (fun v b wx => ∃ (q : Nat) (k' : Int) (t' x' : ByteArray), v = .pointer (some ⟨q, 0, none⟩) ∧ b = .bool false ∧ w.heap.size < q ∧ wx.heap[q]? = some (termO k' t' x') ∧ wx.heap[w.heap.size]? = some (termO 0 ⟨#[]⟩ ⟨#[]⟩) ∧ True ∧ Below w.heap.size w wx)
  case first =>
    go_wp2_with (go_at_call 37; refine HR.out.mono ?_; rintro e w2 ⟨k', t', x', rfl, hk, hB2⟩; simp only [termV])
    go_meet
    have hzz := hB2.size
    rw [World.size_alloc] at hzz
    have hold : w2.heap[w.heap.size]? = some (termO 0 ⟨#[]⟩ ⟨#[]⟩) := (hB2.block w.heap.size (by rw [World.size_alloc]; omega)).trans (World.alloc_heap_new w _)
    exact ⟨w2.heap.size, k', t', x', rfl, rfl, by omega, World.alloc_heap_new w2 _, alloc_blk hold, trivial, (HB1.out.trans (hB2.mono HB1.out.size)).alloc (by omega) _⟩
  case rest =>
    obtain ⟨q, k', t', x', rfl, rfl, hq, hq1, hq0, _, hB⟩ := hcut
    have hL2 := HL.out.below hB
    obtain ⟨c0, c1, c2, c3, c4, c5⟩ := hL2.first
    obtain ⟨⟨e0, e1, e2⟩, f0, f1, f2⟩ := termO_cells hq0
    obtain ⟨⟨g0, g1, g2⟩, i0, i1, i2⟩ := termO_cells hq1
    simp only at c0 c1 c2 c3 c4 c5
    have lq := (Array.getElem?_eq_some_iff.1 hq1).1
    have HQ0 := Lib.hid hq0
    have HQ1 := Lib.hid hq1
    have HB2 := Lib.hid hB
    have HL2 := Lib.hid hL2
    have hne : ¬ w.heap.size = q := by omega
    have hne2 : ¬ q = w.heap.size := by omega
    have hgq : ¬ g = q := by omega
    clear hq0 hq1 hB hL2 a0 a1 a2 a3 a4 a5
    have hmx := fun W hb => hm0.below (w := w) (W := W) hb
    have HMX := Lib.hid hmx
    clear hmx g0 g1 g2 i0 i1 i2 e0 e1 e2 f0 f1 f2
    obtain ⟨⟨g0, g1, g2⟩, i0, i1, i2⟩ := termO_cells HQ1.out
    go_upto_region 9 with fail
    go_cut [] (fun wx => wx.heap[q]? = some (termO 3 tx ⟨#[]⟩) ∧ wx.heap[w.heap.size]? = some (termO 0 ⟨#[]⟩ ⟨#[]⟩) ∧ Below w.heap.size w wx)
    case first =>
      go_wp2_with fail
      go_meet
      exact ⟨res_sets 3 tx ⟨#[]⟩ HQ1.out, set_ne (o := 2) (v := .string ⟨#[]⟩) (set_ne (o := 1) (v := .string tx) (set_ne (o := 0) (v := .int .i64 3) HQ0.out hne) hne) hne, ((HB2.out.setCell (p := ⟨q, 0, none⟩) (by simp; omega) _).setCell (p := ⟨q, 1, none⟩) (by simp; omega) _).setCell (p := ⟨q, 2, none⟩) (by simp; omega) _⟩
    case rest =>
      clear HQ0 HQ1 HB2 HL2 g0 g1 g2 i0 i1 i2 c0 c1 c2 c3 c4 c5 lq
      obtain ⟨hSq, hS0, hSB⟩ := hcut
      have hL2 := HL.out.below hSB
      obtain ⟨⟨e0, e1, e2⟩, f0, f1, f2⟩ := termO_cells hS0
      obtain ⟨⟨g0, g1, g2⟩, i0, i1, i2⟩ := termO_cells hSq
      have HQ0 := Lib.hid hS0
      have HQ1 := Lib.hid hSq
      have HB2 := Lib.hid hSB
      have HM2 := Lib.hid (HMX.out _ hSB)
      have lq := (Array.getElem?_eq_some_iff.1 hSq).1
      have l0 := (Array.getElem?_eq_some_iff.1 hS0).1
      clear hS0 hSq hSB
      obtain ⟨z0, z1, z2, z3, z4, z5⟩ := hL2.rest.first
      simp only [Nat.add_assoc, Nat.reduceAdd] at z0 z1 z2 z3 z4 z5
      have hn1 : (n : Int) = 2 := by rw [← HN.out]; simp
      have dn : decide ((1 : Int) < (n : Int)) = true := by rw [hn1]; simp
      have dn2 : decide ((2 : Int) < (n : Int)) = false := by rw [hn1]; simp
      have dn3 : 1 < n := by omega
      clear hn1
      have kz : (z.kind == 4) = false := by simp [hz]
      clear hL2
      have hmy := fun W h => mayT_c 3 tx ⟨#[]⟩ (by have := (HSZ.out ⟨3, tx, tk, tt, te, pl⟩ (by simp)).1; simp only at this; omega) (by simp [ByteArray.size]) W h
      cases hb : mayT 3 tx ⟨#[]⟩ with
      | true =>
        rw [hb] at hmy
        have HMY := Lib.hid hmy
        have hrf : readF (⟨3, tx, tk, tt, te, pl⟩ :: [z]) = some ((3, tx, ⟨#[]⟩), 1) := by simp only [readF]; rw [show strT ⟨3, tx, tk, tt, te, pl⟩ [z] = ((3, tx, ⟨#[]⟩), 1) from if_neg hz]; simp [hb]
        have HF := Lib.hid hrf
        clear hmy hb hrf
        go_wp2_with (first | (go_at_call 38; refine (HMY.out _ HM2.out).mono ?_; rintro e w5 ⟨rfl, hB5⟩; have r5 := (hB5.block q lq).trans HQ1.out; have r6 := (hB5.block w.heap.size l0).trans HQ0.out; have hb6 := HB2.out.trans (hB5.mono HB2.out.size); obtain ⟨⟨v0, v1, v2⟩, u0, u1, u2⟩ := termO_cells r5; obtain ⟨⟨s0, s1, s2⟩, t0, t1, t2⟩ := termO_cells r6; have R6 := Lib.hid r6; have HB6 := Lib.hid hb6; clear r5 r6 hb6))
        all_goals exact bodyPost_ret (ret_read 3 tx ⟨#[]⟩ rfl rfl rfl rfl (res_sets 3 tx ⟨#[]⟩ R6.out)) rfl ⟨by rw [HF.out]; rfl, ((HB6.out.setCell (p := ⟨w.heap.size, 0, none⟩) (by simp) _).setCell (p := ⟨w.heap.size, 1, none⟩) (by simp) _).setCell (p := ⟨w.heap.size, 2, none⟩) (by simp) _⟩
      | false =>
        rw [hb] at hmy
        have HMY := Lib.hid hmy
        have hrf : readF (⟨3, tx, tk, tt, te, pl⟩ :: [z]) = none := by simp only [readF]; rw [show strT ⟨3, tx, tk, tt, te, pl⟩ [z] = ((3, tx, ⟨#[]⟩), 1) from if_neg hz]; simp [hb]
        have HF := Lib.hid hrf
        clear hmy hb hrf
        go_wp2_with (first | (go_at_call 38; refine (HMY.out _ HM2.out).mono ?_; rintro e w5 ⟨rfl, hB5⟩; have r5 := (hB5.block q lq).trans HQ1.out; have r6 := (hB5.block w.heap.size l0).trans HQ0.out; have hb6 := HB2.out.trans (hB5.mono HB2.out.size); obtain ⟨⟨v0, v1, v2⟩, u0, u1, u2⟩ := termO_cells r5; obtain ⟨⟨s0, s1, s2⟩, t0, t1, t2⟩ := termO_cells r6; have R6 := Lib.hid r6; have HB6 := Lib.hid hb6; clear r5 r6 hb6))
        all_goals exact bodyPost_ret (ret_read 0 ⟨#[]⟩ ⟨#[]⟩ rfl rfl rfl rfl (res_sets 0 ⟨#[]⟩ ⟨#[]⟩ R6.out)) rfl ⟨by rw [HF.out]; rfl, ((HB6.out.setCell (p := ⟨w.heap.size, 0, none⟩) (by simp) _).setCell (p := ⟨w.heap.size, 1, none⟩) (by simp) _).setCell (p := ⟨w.heap.size, 2, none⟩) (by simp) _⟩
set_option maxHeartbeats 4000000 in
set_option maxRecDepth 100000 in
theorem read_s2 (y : Sym) (h3 : y.kind = 3) (z : Sym) (hz : z.kind = 4) (g off cap : Nat) (w : World) (hm0 : HasMax w) (hL : At w g off (y :: [z])) (hsz : ∀ zz ∈ y :: [z], zz.text.size ≤ 1000000000 ∧ zz.tt.size ≤ 1000000000) (hc : (y :: [z]).length ≤ 2000000000) :
    Calls Tryd.prog 20 #[.slice (some ⟨g, off, none⟩) (y :: [z]).length cap, .map none] w fun e w' => e = .returned (readV (readF (y :: [z]))) ∧ Below w.heap.size w w' := by
  have hgl := hL.1
  have hB1 : Below w.heap.size w (w.alloc (.cells #[.int .i64 0, .string ⟨#[]⟩, .string ⟨#[]⟩] 40)) := (Below.refl _ w).alloc (Nat.le_refl _) _
  have hm1 := hm0.below hB1
  have hL1 := hL.below hB1
  have hys := (hsz y (by simp)).1
  have hrc := res_any y (by omega) _ hm1
  obtain ⟨a0, a1, a2, a3, a4, a5⟩ := hL1.first
  have H1 := Lib.hid hL1
  have HR := Lib.hid hrc
  have HM1 := Lib.hid hm1
  have HSZ := Lib.hid hsz
  have HL := Lib.hid hL
  have HB1 := Lib.hid hB1
  have hlen : (((y :: [z]).length : Nat) : Int) = (([z] : List Sym).length : Int) + 1 := by simp
  have d0 : ((((y :: [z]).length : Nat) : Int) == 0) = false := by rw [hlen]; simp <;> omega
  have hr0 : 0 < (y :: [z]).length := by simp
  clear hL1 hrc hm1 hsz hL hB1 hlen
  generalize hn : (y :: [z]).length = n at *
  have HN := Lib.hid hn
  have HC := Lib.hid hc
  clear hn hc hys
  obtain ⟨k, tx, tk, tt, te, pl⟩ := y
  simp only [symV] at HR
  simp only at a0 a1 a2 a3 a4 a5 h3
  subst h3
  go_enter Tryd.func20, Tryd.ntmps20
  go_upto_region 3 with fail
  go_cut [7, 8] (fun v b wx => ∃ (q : Nat) (k' : Int) (t' x' : ByteArray), v = .pointer (some ⟨q, 0, none⟩) ∧ b = .bool false ∧ w.heap.size < q ∧ wx.heap[q]? = some (termO k' t' x') ∧ wx.heap[w.heap.size]? = some (termO 0 ⟨#[]⟩ ⟨#[]⟩) ∧ True ∧ Below w.heap.size w wx)
  case first =>
    go_wp2_with (go_at_call 37; refine HR.out.mono ?_; rintro e w2 ⟨k', t', x', rfl, hk, hB2⟩; simp only [termV])
    go_meet
    have hzz := hB2.size
    rw [World.size_alloc] at hzz
    have hold : w2.heap[w.heap.size]? = some (termO 0 ⟨#[]⟩ ⟨#[]⟩) := (hB2.block w.heap.size (by rw [World.size_alloc]; omega)).trans (World.alloc_heap_new w _)
    exact ⟨w2.heap.size, k', t', x', rfl, rfl, by omega, World.alloc_heap_new w2 _, alloc_blk hold, trivial, (HB1.out.trans (hB2.mono HB1.out.size)).alloc (by omega) _⟩
  case rest =>
    obtain ⟨q, k', t', x', rfl, rfl, hq, hq1, hq0, _, hB⟩ := hcut
    have hL2 := HL.out.below hB
    obtain ⟨c0, c1, c2, c3, c4, c5⟩ := hL2.first
    obtain ⟨⟨e0, e1, e2⟩, f0, f1, f2⟩ := termO_cells hq0
    obtain ⟨⟨g0, g1, g2⟩, i0, i1, i2⟩ := termO_cells hq1
    simp only at c0 c1 c2 c3 c4 c5
    have lq := (Array.getElem?_eq_some_iff.1 hq1).1
    have HQ0 := Lib.hid hq0
    have HQ1 := Lib.hid hq1
    have HB2 := Lib.hid hB
    have HL2 := Lib.hid hL2
    have hne : ¬ w.heap.size = q := by omega
    have hne2 : ¬ q = w.heap.size := by omega
    have hgq : ¬ g = q := by omega
    clear hq0 hq1 hB hL2 a0 a1 a2 a3 a4 a5
    have hmx := fun W hb => hm0.below (w := w) (W := W) hb
    have HMX := Lib.hid hmx
    clear hmx g0 g1 g2 i0 i1 i2 e0 e1 e2 f0 f1 f2
    obtain ⟨⟨g0, g1, g2⟩, i0, i1, i2⟩ := termO_cells HQ1.out
    go_upto_region 9 with fail
    go_cut [] (fun wx => wx.heap[q]? = some (termO 3 tx ⟨#[]⟩) ∧ wx.heap[w.heap.size]? = some (termO 0 ⟨#[]⟩ ⟨#[]⟩) ∧ Below w.heap.size w wx)
    case first =>
      go_wp2_with fail
      go_meet
      exact ⟨res_sets 3 tx ⟨#[]⟩ HQ1.out, set_ne (o := 2) (v := .string ⟨#[]⟩) (set_ne (o := 1) (v := .string tx) (set_ne (o := 0) (v := .int .i64 3) HQ0.out hne) hne) hne, ((HB2.out.setCell (p := ⟨q, 0, none⟩) (by simp; omega) _).setCell (p := ⟨q, 1, none⟩) (by simp; omega) _).setCell (p := ⟨q, 2, none⟩) (by simp; omega) _⟩
    case rest =>
      clear HQ0 HQ1 HB2 HL2 g0 g1 g2 i0 i1 i2 c0 c1 c2 c3 c4 c5 lq
      obtain ⟨hSq, hS0, hSB⟩ := hcut
      have hL2 := HL.out.below hSB
      obtain ⟨⟨e0, e1, e2⟩, f0, f1, f2⟩ := termO_cells hS0
      obtain ⟨⟨g0, g1, g2⟩, i0, i1, i2⟩ := termO_cells hSq
      have HQ0 := Lib.hid hS0
      have HQ1 := Lib.hid hSq
      have HB2 := Lib.hid hSB
      have HM2 := Lib.hid (HMX.out _ hSB)
      have lq := (Array.getElem?_eq_some_iff.1 hSq).1
      have l0 := (Array.getElem?_eq_some_iff.1 hS0).1
      clear hS0 hSq hSB
      obtain ⟨z0, z1, z2, z3, z4, z5⟩ := hL2.rest.first
      simp only [Nat.add_assoc, Nat.reduceAdd] at z0 z1 z2 z3 z4 z5
      have hn1 : (n : Int) = 2 := by rw [← HN.out]; simp
      have dn : decide ((1 : Int) < (n : Int)) = true := by rw [hn1]; simp
      have dn2 : decide ((2 : Int) < (n : Int)) = false := by rw [hn1]; simp
      have dn3 : 1 < n := by omega
      clear hn1
      have kz : (z.kind == 4) = true := by simp [hz]
      clear hL2
      go_upto_region 11 with fail
      go_cut [9] (fun v wx => v = .int .i64 2 ∧ wx.heap[q]? = some (termO 4 tx z.text) ∧ wx.heap[w.heap.size]? = some (termO 0 ⟨#[]⟩ ⟨#[]⟩) ∧ Below w.heap.size w wx)
      case first =>
        go_region
        all_goals
          go_wp2_with fail
          go_meet
          exact ⟨rfl, by first | exact lang_sets HQ1.out | (rw [drew_heap]; exact lang_sets HQ1.out), by first | exact set_ne (o := 2) (v := .string z.text) (set_ne (o := 0) (v := .int .i64 4) HQ0.out hne) hne | (rw [drew_heap]; exact set_ne (o := 2) (v := .string z.text) (set_ne (o := 0) (v := .int .i64 4) HQ0.out hne) hne), by first | exact ((HB2.out.setCell (p := ⟨q, 0, none⟩) (by simp; omega) _).setCell (p := ⟨q, 2, none⟩) (by simp; omega) _).drew | exact ((HB2.out.setCell (p := ⟨q, 0, none⟩) (by simp; omega) _).setCell (p := ⟨q, 2, none⟩) (by simp; omega) _)⟩
      case rest =>
        clear HQ0 HQ1 HB2 HM2 g0 g1 g2 i0 i1 i2 e0 e1 e2 f0 f1 f2 lq l0
        obtain ⟨rfl, hSq, hS0, hSB⟩ := hcut
        have hL2 := HL.out.below hSB
        obtain ⟨⟨e0, e1, e2⟩, f0, f1, f2⟩ := termO_cells hS0
        obtain ⟨⟨g0, g1, g2⟩, i0, i1, i2⟩ := termO_cells hSq
        have HQ0 := Lib.hid hS0
        have HQ1 := Lib.hid hSq
        have HB2 := Lib.hid hSB
        have HM2 := Lib.hid (HMX.out _ hSB)
        have lq := (Array.getElem?_eq_some_iff.1 hSq).1
        have l0 := (Array.getElem?_eq_some_iff.1 hS0).1
        clear hS0 hSq hSB
        have hmy := fun W h => mayT_c 4 tx z.text (by have := (HSZ.out ⟨3, tx, tk, tt, te, pl⟩ (by simp)).1; simp only at this; omega) (by have := (HSZ.out z (by simp)).1; omega) W h
        cases hb : mayT 4 tx z.text with
        | true =>
          rw [hb] at hmy
          have HMY := Lib.hid hmy
          have hrf : readF (⟨3, tx, tk, tt, te, pl⟩ :: [z]) = some ((4, tx, z.text), 2) := by simp only [readF]; rw [show strT ⟨3, tx, tk, tt, te, pl⟩ [z] = ((4, tx, z.text), 2) from if_pos hz]; simp [hb]
          have HF := Lib.hid hrf
          clear hmy hb hrf
          go_wp2_with (first | (go_at_call 38; refine (HMY.out _ HM2.out).mono ?_; rintro e w5 ⟨rfl, hB5⟩; have r5 := (hB5.block q lq).trans HQ1.out; have r6 := (hB5.block w.heap.size l0).trans HQ0.out; have hb6 := HB2.out.trans (hB5.mono HB2.out.size); obtain ⟨⟨v0, v1, v2⟩, u0, u1, u2⟩ := termO_cells r5; obtain ⟨⟨s0, s1, s2⟩, t0, t1, t2⟩ := termO_cells r6; have R6 := Lib.hid r6; have HB6 := Lib.hid hb6; clear r5 r6 hb6))
          all_goals exact bodyPost_ret (ret_read 4 tx z.text rfl rfl rfl rfl (res_sets 4 tx z.text R6.out)) rfl ⟨by rw [HF.out]; rfl, ((HB6.out.setCell (p := ⟨w.heap.size, 0, none⟩) (by simp) _).setCell (p := ⟨w.heap.size, 1, none⟩) (by simp) _).setCell (p := ⟨w.heap.size, 2, none⟩) (by simp) _⟩
        | false =>
          rw [hb] at hmy
          have HMY := Lib.hid hmy
          have hrf : readF (⟨3, tx, tk, tt, te, pl⟩ :: [z]) = none := by simp only [readF]; rw [show strT ⟨3, tx, tk, tt, te, pl⟩ [z] = ((4, tx, z.text), 2) from if_pos hz]; simp [hb]
          have HF := Lib.hid hrf
          clear hmy hb hrf
          go_wp2_with (first | (go_at_call 38; refine (HMY.out _ HM2.out).mono ?_; rintro e w5 ⟨rfl, hB5⟩; have r5 := (hB5.block q lq).trans HQ1.out; have r6 := (hB5.block w.heap.size l0).trans HQ0.out; have hb6 := HB2.out.trans (hB5.mono HB2.out.size); obtain ⟨⟨v0, v1, v2⟩, u0, u1, u2⟩ := termO_cells r5; obtain ⟨⟨s0, s1, s2⟩, t0, t1, t2⟩ := termO_cells r6; have R6 := Lib.hid r6; have HB6 := Lib.hid hb6; clear r5 r6 hb6))
          all_goals exact bodyPost_ret (ret_read 0 ⟨#[]⟩ ⟨#[]⟩ rfl rfl rfl rfl (res_sets 0 ⟨#[]⟩ ⟨#[]⟩ R6.out)) rfl ⟨by rw [HF.out]; rfl, ((HB6.out.setCell (p := ⟨w.heap.size, 0, none⟩) (by simp) _).setCell (p := ⟨w.heap.size, 1, none⟩) (by simp) _).setCell (p := ⟨w.heap.size, 2, none⟩) (by simp) _⟩
end Go.Proofs.YtpfgjiahpddpkaaDoor
