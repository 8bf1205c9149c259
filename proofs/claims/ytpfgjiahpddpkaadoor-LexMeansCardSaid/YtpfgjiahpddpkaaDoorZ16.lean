/- The walk of LexMeans. LexMeans at whatever arguments. -/
import Derived.Test.YtpfgjiahpddpkaaDoorZ15
import Derived.Test.YtpfgjiahpddpkaaDoorZ14
import Derived.Test.YtpfgjiahpddpkaaDoorZ6
import Derived.Test.YtpfgjiahpddpkaaDoorZ2
set_option linter.unusedVariables false
set_option linter.unusedSimpArgs false
namespace Go.Proofs.YtpfgjiahpddpkaaDoor
open Go.RowKit
theorem all_err (s : ByteArray) (hs : s.size ≤ 1048576) : (allF s).2.2 = 0 ∧ allF s = ((allF s).1, 0, 0) ∨ (allF s).2.2 = 4 := by
  rw [all_is s hs]
  split
  · exact .inr rfl
  · unfold allR
    cases symsF s (s.size + 1) 0 [] with
    | ok l => exact .inl ⟨rfl, rfl⟩
    | error k => exact .inr rfl
set_option maxHeartbeats 8000000 in
set_option maxRecDepth 100000 in
theorem means_c (k : Int) (t x a b : ByteArray) (ht : t.size ≤ 9000) (hx : x.size ≤ 9000) (ha : a.size ≤ 3000) (hb : b.size ≤ 3000) (w : World) (hm : HasMax w) :
    Calls Tryd.prog 6 #[termV k t x, .string a, .string b] w fun e w' => e = .returned (.bool true) ∧ Below w.heap.size w w' := by
  have hlr := fun W => rlong_c k t x W
  rw [decide_eq_false (show ¬ 9000 < t.size by omega), decide_eq_false (show ¬ 9000 < x.size by omega)] at hlr
  have HLR := Lib.hid hlr
  have hmc := fun W => rmayT_c k t x (by omega) (by omega) W
  have hB1 : Below w.heap.size w (w.alloc (.cells #[.int .i64 k, .string t, .string x] 40)) := (Below.refl _ w).alloc (Nat.le_refl _) _
  have HM1 := Lib.hid (hm.below hB1)
  have HB1 := Lib.hid hB1
  have hmx := fun W hb => hm.below (w := w) (W := W) hb
  have HMX := Lib.hid hmx
  have hd1 : decide ((3000 : Int) < (a.size : Int)) = false := by simp; omega
  have hd2 : decide ((3000 : Int) < (b.size : Int)) = false := by simp; omega
  have HA := Lib.hid ha
  have HBz := Lib.hid hb
  have htr := term_read k t x
  have HTR := Lib.hid htr
  have hrt := fun W => rtext_c k t x (by omega) (by omega) W
  have HRT := Lib.hid hrt
  clear hlr hB1 hmx htr hrt ha hb ht hx hm
  unfold termV at *
  have HMC := Lib.hid hmc
  clear hmc
  go_enter Tryd.func6, Tryd.ntmps6
  go_upto_if 38 with (first
    | (go_at_call 9; refine (known_c _ HM1.out).mono ?_; rintro e w1 ⟨rfl, hB2⟩; have hz2 := hB2.size; rw [World.size_alloc] at hz2; obtain ⟨hc2, hf2⟩ := bcell hB2; rw [World.size_alloc] at hc2 hf2)
    | (go_at_call 17; refine (HLR.out _).mono ?_; rintro e w2 ⟨rfl, hB3⟩; have hz3 := hB3.size; have hl3 : w.heap.size < w1.heap.size := hz2; obtain ⟨hc3, hf3⟩ := bcell hB3)
    | (go_at_call 18; refine (HMC.out _).mono ?_; rintro e w3 ⟨rfl, hB4⟩))
  have hb5 : Below w.heap.size w w3 := HB1.out.trans ((hB2.mono (by simp)).trans ((hB3.mono (Nat.le_of_lt hl3)).trans (hB4.mono (Nat.le_trans (Nat.le_of_lt hl3) hz3))))
  have hlt3 : w.heap.size < w3.heap.size := Nat.lt_of_lt_of_le (Nat.lt_of_lt_of_le hl3 hz3) hB4.size
  have e0 : w3.cell? ⟨w.heap.size, 0, none⟩ = some (.int .i64 k) := by
    rw [(bcell hB4).1 _ _ (Nat.lt_of_lt_of_le hl3 hz3), hc3 _ _ hl3, hc2 _ _ (Nat.lt_succ_self _)]; simp
  have e1 : w3.cell? ⟨w.heap.size, 1, none⟩ = some (.string t) := by
    rw [(bcell hB4).1 _ _ (Nat.lt_of_lt_of_le hl3 hz3), hc3 _ _ hl3, hc2 _ _ (Nat.lt_succ_self _)]; simp
  have e2 : w3.cell? ⟨w.heap.size, 2, none⟩ = some (.string x) := by
    rw [(bcell hB4).1 _ _ (Nat.lt_of_lt_of_le hl3 hz3), hc3 _ _ hl3, hc2 _ _ (Nat.lt_succ_self _)]; simp
  clear hc2 hf2 hc3 hf3 hB2 hB3 hB4 hz2 hz3 hl3 w1 w2
  go_cut [] (fun wx => Below w.heap.size w wx)
  case first =>
    cases hmay : mayT k t x with
    | false =>
      clear hmay
      go_wp2
      go_meet
      exact hb5
    | true =>
      obtain ⟨L, hA1, hR1, hS1, hl1, hz1, hne⟩ := HTR.out hmay
      have hac := fun W h => all_c (termB k t x) W h (by omega)
      rw [hA1] at hac
      have HAC := Lib.hid hac
      have HR1 := Lib.hid hR1
      have HS1 := Lib.hid hS1
      have HL1 := Lib.hid hl1
      have HB5 := Lib.hid hb5
      have HNE := Lib.hid hne
      clear hac hA1 hR1 hS1 hl1 hz1 hmay hb5 hne
      go_wp2_with (first
        | (go_at_call 19; refine (HRT.out _).mono ?_; rintro e w4 ⟨rfl, hB6⟩; have hl4 : w.heap.size < w4.heap.size := Nat.lt_of_lt_of_le hlt3 hB6.size)
        | (go_at_call 7; refine (HAC.out _ (HMX.out _ (HB5.out.trans (hB6.mono HB5.out.size)))).mono ?_; rintro e w5 ⟨v5, rfl, hown5, hB7⟩; simp only; obtain ⟨g5, cap5, rfl, _, hg5, hc5⟩ := OwnS.cells hown5 HNE.out; have hAt := (show At w5 g5 0 L from ⟨hg5, fun j u hj => by rw [Nat.zero_add]; exact hc5 j u hj⟩); have HAt := Lib.hid hAt; have hl5 : w.heap.size < w5.heap.size := Nat.lt_of_lt_of_le hl4 hB7.size; clear hAt hc5 hown5)
        | (go_at_call 20; refine (read_all L g5 0 cap5 _ (HMX.out _ ((HB5.out.trans (hB6.mono HB5.out.size)).trans (hB7.mono (HB5.out.trans (hB6.mono HB5.out.size)).size))) (fun _ => HAt.out) HS1.out (by have := HL1.out; omega)).mono ?_; rintro e w6 ⟨rfl, hB8⟩; rw [HR1.out]; simp only [readV, termV]; have q0 := ((bcell hB8).1 _ 0 hl5).trans (((bcell hB7).1 _ 0 hl4).trans (((bcell hB6).1 _ 0 hlt3).trans e0)); have q1 := ((bcell hB8).1 _ 1 hl5).trans (((bcell hB7).1 _ 1 hl4).trans (((bcell hB6).1 _ 1 hlt3).trans e1)); have q2 := ((bcell hB8).1 _ 2 hl5).trans (((bcell hB7).1 _ 2 hl4).trans (((bcell hB6).1 _ 2 hlt3).trans e2)); have hl6 : w.heap.size < w6.heap.size := Nat.lt_of_lt_of_le hl5 hB8.size)
        | (go_at_call 8; refine (num_c _ _).mono ?_; rintro e w' ⟨rfl, rfl⟩))
      go_meet
      exact (bthen (bthen (bthen HB5.out hB6) hB7) hB8).alloc (Nat.le_of_lt hl6) _
  case rest =>
    clear hb5 e0 e1 e2 hlt3 HMC HTR HRT HLR HM1 HB1
    have hmw := HMX.out _ hcut
    have hA := all_err a (by have := HA.out; omega)
    have hBb := all_err b (by have := HBz.out; omega)
    have hca := fun W h => all_c a W h (by have := HA.out; omega)
    have hcb := fun W h => all_c b W h (by have := HBz.out; omega)
    have HCA := Lib.hid hca
    have HCB := Lib.hid hcb
    have HW := Lib.hid hmw
    have HC := Lib.hid hcut
    clear hca hcb hmw hcut
    rcases hA with ⟨hA0, hA1⟩ | hA4
    · rcases hBb with ⟨hB0, hB1⟩ | hB4
      · obtain ⟨la, hla⟩ : ∃ la, (allF a).1 = la := ⟨_, rfl⟩
        obtain ⟨lb, hlb⟩ : ∃ lb, (allF b).1 = lb := ⟨_, rfl⟩
        rw [hla] at hA1
        rw [hlb] at hB1
        have hcat := cat_all a b la lb hA1 hB1 (by have := HA.out; have := HBz.out; omega)
        have hpa := all_places a la hA1
        have hpb := all_places b lb hB1
        have HCT := Lib.hid hcat
        have HPA := Lib.hid hpa
        have HPB := Lib.hid hpb
        have hca := HCA.out
        have hcb := HCB.out
        rw [hA1] at hca
        rw [hB1] at hcb
        have HCA2 := Lib.hid hca
        have HCB2 := Lib.hid hcb
        clear hcat hpa hpb hca hcb hA0 hA1 hB0 hB1 hla hlb HCA HCB
        go_upto_block 0 with (first
          | (go_at_call 7; refine (HCB2.out _ (HMX.out _ (bthen HC.out hB6))).mono ?_; rintro e w5 ⟨v5, rfl, hown5, hB7⟩; have HO5 := Lib.hid hown5; clear hown5; simp only)
          | (go_at_call 7; refine (HCA2.out _ HW.out).mono ?_; rintro e w4 ⟨v4, rfl, hown4, hB6⟩; have HO4 := Lib.hid hown4; clear hown4; simp only)
          | (go_at_call 8; refine (num_c _ _).mono ?_; rintro e w' ⟨rfl, rfl⟩))
        have HB6 := Lib.hid hB6
        have HB7 := Lib.hid hB7
        clear hB6 hB7
        go_cut [] (fun wx => OwnS w4.heap.size wx v5 (lb.map (shY (a.size + 1))) ∧ Below w4.heap.size w5 wx)
        case first =>
          by_cases hlb : lb = []
          · subst hlb
            have hs5 := HO5.out.slx
            have hv5 : ∃ p c, v5 = .slice p 0 c := hs5.elim (fun h => ⟨none, 0, h.2⟩) (fun ⟨ad, c, h, _⟩ => ⟨some ad, c, h⟩)
            obtain ⟨p5, c5, rfl⟩ := hv5
            clear hs5
            go_wp2_with fail
            go_loopg [19] 1 (fun g v wr => v = .int .i64 0 ∧ w5 = wr)
            case atStart => exact ⟨rfl, rfl⟩
            case round =>
              obtain ⟨rfl, rfl⟩ := hrel
              go_wp2_with fail
              go_meet
              exact ⟨HO5.out, Below.refl _ _⟩
          · obtain ⟨g5, cap5, rfl, hg5, _, _⟩ := OwnS.cells HO5.out hlb
            have hba := HA.out
            have hll : lb.length ≤ 3000 := by have := HPB.out.1; have := HBz.out; omega
            clear hlb
            go_wp2_with fail
            go_loopg [19] (lb.length + 1) (fun g v wr => ∃ i : Nat, i ≤ lb.length ∧ lb.length + 1 ≤ i + g ∧ v = .int .i64 i ∧ Hid (OwnS w4.heap.size wr (.slice (some ⟨g5, 0, none⟩) lb.length cap5) (shl (a.size + 1) i lb)) ∧ Below w4.heap.size w5 wr)
            case atStart => exact ⟨0, by omega, by omega, rfl, Lib.hid (by rw [shl_zero]; exact HO5.out), Below.refl _ _⟩
            case round =>
              obtain ⟨i, hi, hg, rfl, HO, hB8⟩ := hrel
              obtain ⟨G, rfl⟩ : ∃ G, gk = G + 1 := ⟨gk - 1, by omega⟩
              by_cases hlt : i < lb.length
              · obtain ⟨y, hy⟩ : ∃ y, lb[i]? = some y := ⟨lb[i], List.getElem?_eq_getElem hlt⟩
                have hpl := HPB.out.2 y (List.mem_of_getElem? hy)
                have hbb := HBz.out
                have hp0 := hpl.1
                have hp1 : y.place ≤ 3000 := by omega
                have hown : wr.ownsRow w4.heap.size 49 6 (.slice (some ⟨g5, 0, none⟩) lb.length cap5) lb.length (symVs (shl (a.size + 1) i lb)) := by
                  have := HO.out
                  unfold OwnS at this
                  rw [shl_len] at this; exact this
                have hat : (shl (a.size + 1) i lb)[i]? = some y := (shl_at _ i lb hlt).trans hy
                have hcl := hown.cellAt (i * 6 + 5) (by omega)
                rw [symVs_at _ i y 5 _ hat rfl] at hcl
                have hfr := hown.frozenAt (i * 6 + 5)
                have hst := (hown.stored (i * 6 + 5) (.int .i64 (y.place + (a.size : Int) + 1))).1
                rw [symVs_set _ _ i y hat, show ({ y with place := y.place + (a.size : Int) + 1 } : Sym) = shY (a.size + 1) y by simp [shY, Int.add_assoc], shl_step _ i lb y hy] at hst
                have HST := Lib.hid hst
                have HHY := Lib.hid hy
                clear hst hown hat hy hpl hbb
                go_wp2_with fail
                go_roundg G
                case measure => omega
                case rel => exact ⟨i + 1, by omega, by omega, by go_num, Lib.hid (by unfold OwnS; rw [shl_len]; exact HST.out), hB8.setCell hg5 _⟩
              · obtain rfl : i = lb.length := by omega
                go_wp2_with fail
                go_meet
                exact ⟨by have := HO.out; rw [shl_all] at this; exact this, hB8⟩
        case rest =>
          obtain ⟨hown, hB8⟩ := hcut
          have HO := Lib.hid hown
          have hb4 : Below w.heap.size w w4 := bthen HC.out HB6.out
          have hb9 : Below w.heap.size w wc := (bthen hb4 HB7.out).trans (hB8.mono hb4.size)
          have h45 : Below w4.heap.size w4 wc := HB7.out.trans hB8
          have HX4 := Lib.hid ((HO4.out.slx).below h45)
          have HB9 := Lib.hid hb9
          have hcs := all_c ((a ++ ⟨#[10]⟩) ++ b) wc (HMX.out _ hb9) (by rw [ByteArray.size_append, ByteArray.size_append, show (⟨#[10]⟩ : ByteArray).size = 1 from rfl]; have := HA.out; have := HBz.out; omega)
          rw [HCT.out] at hcs
          have HCS := Lib.hid hcs
          clear hown hB8 hb4 hb9 h45 hcs
          have hba := HA.out
          have hbb := HBz.out
          go_upto_region 19 with (go_at_call 7; refine HCS.out.mono ?_; rintro e w6 ⟨v6, rfl, hown6, hB10⟩; have HO6 := Lib.hid hown6; have HB10 := Lib.hid hB10; clear hown6 hB10; simp only)
          have hz6 : la.length + (lb.map (shY (a.size + 1))).length ≤ 1000000 := by
            have h1 := HPA.out.1
            have h2 := HPB.out.1
            rw [List.length_map]; omega
          have HZ6 := Lib.hid hz6
          have HX4b := Lib.hid (HX4.out.below HB10.out)
          have HX5b := Lib.hid ((HO.out.slx).below HB10.out)
          clear hz6 hba hbb
          go_wp2_with (first
            | (go_at_call 8; refine (num_c _ _).mono ?_; rintro e w' ⟨rfl, rfl⟩)
            | (at_builtin; (refine wpList_append_syms (.const (.slice none 0 0)) (.tmp 120) rfl rfl w6.heap.size _ v4 [] la rfl rfl (World.ownsRow_nil _ _ _ _) HX4b.out (by have := HZ6.out; simp; omega) (Nat.le_refl _) ?_); intro v7 w7 hown7 hB11; have HO7 := Lib.hid hown7; have HX5c := Lib.hid (HX5b.out.below hB11); clear hown7)
            | (at_builtin; (refine wpList_append_syms (.tmp 121) (.tmp 122) rfl rfl w6.heap.size v7 v5 ([] ++ la) (lb.map (shY (a.size + 1))) rfl rfl HO7.out HX5c.out (by have := HZ6.out; simp at this ⊢; omega) hB11.size ?_); intro v8 w8 hown8 hB12; have HO8 := Lib.hid hown8; clear hown8)
            | (go_at_call 21; refine (same_sl (la ++ lb.map (shY (a.size + 1))) v6 v8 _ ((OwnS.sl HO6.out).below (hB11.trans hB12)) (OwnS.sl HO8.out) (by have := HZ6.out; rw [List.length_append]; omega)).mono ?_; rintro e w9 ⟨rfl, hB13⟩))
          go_ret
          exact ⟨rfl, bthen (bthen (bthen HB9.out HB10.out) (hB11.trans hB12)) hB13⟩
      · have HE1 := Lib.hid hA1
        clear hA1
        go_wp2_with (first
          | (go_at_call 7; refine (HCB.out _ (HMX.out _ (bthen HC.out hB6))).mono ?_; rintro e w5 ⟨v5, rfl, hown5, hB7⟩; simp only [hB4])
          | (go_at_call 7; refine (HCA.out _ HW.out).mono ?_; rintro e w4 ⟨v4, rfl, hown4, hB6⟩; simp only [hA0])
          | (go_at_call 8; refine (num_c _ _).mono ?_; rintro e w' ⟨rfl, rfl⟩))
        go_ret
        exact ⟨rfl, bthen (bthen HC.out hB6) hB7⟩
    · rcases hBb with ⟨hB0, hB1⟩ | hB4
      · have HE1 := Lib.hid hB1
        clear hB1
        go_wp2_with (first
          | (go_at_call 7; refine (HCB.out _ (HMX.out _ (bthen HC.out hB6))).mono ?_; rintro e w5 ⟨v5, rfl, hown5, hB7⟩; simp only [hB0])
          | (go_at_call 7; refine (HCA.out _ HW.out).mono ?_; rintro e w4 ⟨v4, rfl, hown4, hB6⟩; simp only [hA4])
          | (go_at_call 8; refine (num_c _ _).mono ?_; rintro e w' ⟨rfl, rfl⟩))
        go_ret
        exact ⟨rfl, bthen (bthen HC.out hB6) hB7⟩
      · go_wp2_with (first
          | (go_at_call 7; refine (HCB.out _ (HMX.out _ (bthen HC.out hB6))).mono ?_; rintro e w5 ⟨v5, rfl, hown5, hB7⟩; simp only [hB4])
          | (go_at_call 7; refine (HCA.out _ HW.out).mono ?_; rintro e w4 ⟨v4, rfl, hown4, hB6⟩; simp only [hA4])
          | (go_at_call 8; refine (num_c _ _).mono ?_; rintro e w' ⟨rfl, rfl⟩))
        go_ret
        exact ⟨rfl, bthen (bthen HC.out hB6) hB7⟩
end Go.Proofs.YtpfgjiahpddpkaaDoor
set_option linter.unusedVariables false
set_option linter.unusedSimpArgs false
namespace Go.Proofs.YtpfgjiahpddpkaaDoor
open Go.RowKit
set_option maxHeartbeats 4000000 in
theorem means_long (k : Int) (t x a b : ByteArray) (h : 9000 < t.size ∨ 9000 < x.size) (w : World) (hm : HasMax w) :
    Calls Tryd.prog 6 #[termV k t x, .string a, .string b] w fun e w' => e = .returned (.bool true) ∧ Below w.heap.size w w' := by
  have hlr := fun W => rlong_c k t x W
  have hd : (decide (9000 < t.size) || decide (9000 < x.size)) = true := by
    rw [Bool.or_eq_true, decide_eq_true_eq, decide_eq_true_eq]; exact h
  rw [hd] at hlr
  have HLR := Lib.hid hlr
  have hB1 : Below w.heap.size w (w.alloc (.cells #[.int .i64 k, .string t, .string x] 40)) := (Below.refl _ w).alloc (Nat.le_refl _) _
  have HM1 := Lib.hid (hm.below hB1)
  have HB1 := Lib.hid hB1
  clear hlr hB1 hm hd h
  unfold termV at *
  go_enter Tryd.func6, Tryd.ntmps6
  go_wp2_with (first
    | (go_at_call 9; refine (known_c _ HM1.out).mono ?_; rintro e w1 ⟨rfl, hB2⟩; have hz2 := hB2.size; rw [World.size_alloc] at hz2; obtain ⟨hc2, hf2⟩ := bcell hB2; rw [World.size_alloc] at hc2 hf2)
    | (go_at_call 17; refine (HLR.out _).mono ?_; rintro e w2 ⟨rfl, hB3⟩))
  go_ret
  exact ⟨rfl, bthen (bthen HB1.out hB2) hB3⟩
set_option maxHeartbeats 4000000 in
theorem means_a (k : Int) (t x a b : ByteArray) (ht : t.size ≤ 9000) (hx : x.size ≤ 9000) (h : 3000 < a.size) (w : World) (hm : HasMax w) :
    Calls Tryd.prog 6 #[termV k t x, .string a, .string b] w fun e w' => e = .returned (.bool true) ∧ Below w.heap.size w w' := by
  have hlr := fun W => rlong_c k t x W
  rw [decide_eq_false (show ¬ 9000 < t.size by omega), decide_eq_false (show ¬ 9000 < x.size by omega)] at hlr
  have HLR := Lib.hid hlr
  have hB1 : Below w.heap.size w (w.alloc (.cells #[.int .i64 k, .string t, .string x] 40)) := (Below.refl _ w).alloc (Nat.le_refl _) _
  have HM1 := Lib.hid (hm.below hB1)
  have HB1 := Lib.hid hB1
  have hd1 : decide ((3000 : Int) < (a.size : Int)) = true := by simp; omega
  clear hlr hB1 hm ht hx h
  unfold termV at *
  go_enter Tryd.func6, Tryd.ntmps6
  go_wp2_with (first
    | (go_at_call 9; refine (known_c _ HM1.out).mono ?_; rintro e w1 ⟨rfl, hB2⟩; have hz2 := hB2.size; rw [World.size_alloc] at hz2; obtain ⟨hc2, hf2⟩ := bcell hB2; rw [World.size_alloc] at hc2 hf2)
    | (go_at_call 17; refine (HLR.out _).mono ?_; rintro e w2 ⟨rfl, hB3⟩))
  go_ret
  exact ⟨rfl, bthen (bthen HB1.out hB2) hB3⟩
set_option maxHeartbeats 4000000 in
theorem means_b (k : Int) (t x a b : ByteArray) (ht : t.size ≤ 9000) (hx : x.size ≤ 9000) (ha : a.size ≤ 3000) (h : 3000 < b.size) (w : World) (hm : HasMax w) :
    Calls Tryd.prog 6 #[termV k t x, .string a, .string b] w fun e w' => e = .returned (.bool true) ∧ Below w.heap.size w w' := by
  have hlr := fun W => rlong_c k t x W
  rw [decide_eq_false (show ¬ 9000 < t.size by omega), decide_eq_false (show ¬ 9000 < x.size by omega)] at hlr
  have HLR := Lib.hid hlr
  have hB1 : Below w.heap.size w (w.alloc (.cells #[.int .i64 k, .string t, .string x] 40)) := (Below.refl _ w).alloc (Nat.le_refl _) _
  have HM1 := Lib.hid (hm.below hB1)
  have HB1 := Lib.hid hB1
  have hd1 : decide ((3000 : Int) < (a.size : Int)) = false := by simp; omega
  have hd2 : decide ((3000 : Int) < (b.size : Int)) = true := by simp; omega
  clear hlr hB1 hm ht hx ha h
  unfold termV at *
  go_enter Tryd.func6, Tryd.ntmps6
  go_wp2_with (first
    | (go_at_call 9; refine (known_c _ HM1.out).mono ?_; rintro e w1 ⟨rfl, hB2⟩; have hz2 := hB2.size; rw [World.size_alloc] at hz2; obtain ⟨hc2, hf2⟩ := bcell hB2; rw [World.size_alloc] at hc2 hf2)
    | (go_at_call 17; refine (HLR.out _).mono ?_; rintro e w2 ⟨rfl, hB3⟩))
  go_ret
  exact ⟨rfl, bthen (bthen HB1.out hB2) hB3⟩
theorem means_any (k : Int) (t x a b : ByteArray) (w : World) (hm : HasMax w) :
    Calls Tryd.prog 6 #[termV k t x, .string a, .string b] w fun e w' => e = .returned (.bool true) ∧ Below w.heap.size w w' := by
  by_cases h1 : 9000 < t.size ∨ 9000 < x.size
  · exact means_long k t x a b h1 w hm
  · by_cases h2 : 3000 < a.size
    · exact means_a k t x a b (by omega) (by omega) h2 w hm
    · by_cases h3 : 3000 < b.size
      · exact means_b k t x a b (by omega) (by omega) (by omega) h3 w hm
      · exact means_c k t x a b (by omega) (by omega) (by omega) (by omega) w hm
end Go.Proofs.YtpfgjiahpddpkaaDoor
