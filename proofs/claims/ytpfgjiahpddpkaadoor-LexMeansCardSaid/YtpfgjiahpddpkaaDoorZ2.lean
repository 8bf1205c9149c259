/- What the reference of layer 1 computes: the rune that bytes begin with; it is the program's. Plain laws. The reference's rune is the program's. Plain laws. -/
import Derived.Test.YtpfgjiahpddpkaaDoorZ1
import Derived.Test.YtpfgjiahpddpkaaDoorPut
set_option linter.unusedVariables false
namespace Go.Proofs.YtpfgjiahpddpkaaDoor
open Go.RowKit
def modN (n : Nat) : Int := if n = 2 then 32 else if n = 3 then 16 else 8
/-- The number out of the first i of n bytes. -/
def rvP (s : ByteArray) (n : Nat) : Nat → Int
  | 0 => 0
  | i+1 => 64 * rvP s n i + (if i = 0 then (if n = 1 then bt s 0 else bt s 0 % modN n) else bt s i % 64)
def rv (s : ByteArray) (n : Nat) : Int := rvP s n n
def tryB (s : ByteArray) (n : Nat) : Bool := mayB (rv s n) && ((ofL (putL (rv s n))).toList == (s.extract 0 n).toList)
def rgetN (s : ByteArray) : Nat → Nat → Int × Int
  | 0, _ => (0, 0)
  | f+1, n => if n ≤ 4 ∧ n ≤ s.size then (if tryB s n then (rv s n, (n : Int)) else rgetN s f (n+1)) else (0, 0)
def rget (s : ByteArray) : Int × Int := rgetN s 5 1
theorem modN_bd (n : Nat) : 8 ≤ modN n ∧ modN n ≤ 32 := by unfold modN; (repeat' split) <;> omega
theorem rvP_bd (s : ByteArray) (n : Nat) : ∀ i, 0 ≤ rvP s n i ∧ rvP s n i < 256 * 64 ^ i := by
  intro i
  induction i with
  | zero => simp [rvP]
  | succ i ih =>
    have h1 := modN_bd n
    have b0 := bt_lo s 0
    have b1 := bt_hi s 0
    have c0 := bt_lo s i
    have c1 := bt_hi s i
    have e : (256 : Int) * 64 ^ (i + 1) = 64 * (256 * 64 ^ i) := by rw [Int.pow_succ, ← Int.mul_assoc, Int.mul_comm]
    simp only [rvP]
    rw [e]
    have m0 := Int.emod_nonneg (bt s 0) (show modN n ≠ 0 by omega)
    have m1 := Int.emod_lt_of_pos (bt s 0) (show 0 < modN n by omega)
    by_cases hi : i = 0
    · subst hi
      rw [if_pos rfl]
      simp only [rvP]
      split <;> simp <;> omega
    · rw [if_neg hi]
      omega
/-- The bytes of a text, one by one. -/
theorem toList_bt (s : ByteArray) : ∀ n, n ≤ s.size → (s.extract 0 n).toList = (List.range n).map fun i => byteOf (bt s i) := by
  intro n hn
  rw [Go.Lib.toList_data]
  apply List.ext_getElem?
  intro i
  have hsz := size_extract s 0 n (by omega) hn
  by_cases hi : i < n
  · rw [at_list _ i (by omega), bt_extract _ _ _ _ hn (by omega), Nat.zero_add, List.getElem?_map, List.getElem?_range hi]; rfl
  · rw [List.getElem?_eq_none (by rw [← Go.Lib.size_eq]; omega), List.getElem?_eq_none (by simp; omega)]
theorem byteOf_eq (x y : Int) (h0 : 0 ≤ x) (h1 : x < 256) (h2 : 0 ≤ y) (h3 : y < 256) : byteOf x = byteOf y ↔ x = y := by
  constructor
  · intro h
    have e := u8_val x h0 h1
    rw [h, u8_val y h2 h3] at e
    exact e.symm
  · intro h; rw [h]
theorem toList_ofL (l : List UInt8) : (ofL l).toList = l := by rw [Go.Lib.toList_data]; rfl
theorem try_is (s : ByteArray) (n : Nat) (hn : n ≤ s.size) : tryB s n = true ↔ mayB (rv s n) = true ∧ putL (rv s n) = (List.range n).map fun i => byteOf (bt s i) := by
  unfold tryB
  rw [Bool.and_eq_true, beq_iff_eq, toList_ofL, toList_bt s n hn]
theorem putL_one (r : Int) (h : (putL r).length = 1) : r < 128 := by
  unfold putL at h; split at h
  · assumption
  · (repeat' split at h) <;> simp at h
theorem may_bd (r : Int) : mayB r = true ↔ 0 ≤ r ∧ r ≤ 1114111 ∧ (r < 55296 ∨ 57343 < r) := by
  unfold mayB; simp; omega
theorem range2 (f : Nat → UInt8) : (List.range 2).map f = [f 0, f 1] := rfl
theorem range3 (f : Nat → UInt8) : (List.range 3).map f = [f 0, f 1, f 2] := rfl
theorem range4 (f : Nat → UInt8) : (List.range 4).map f = [f 0, f 1, f 2, f 3] := rfl
theorem try1_is (s : ByteArray) (hn : 1 ≤ s.size) : tryB s 1 = true ↔ bt s 0 < 128 := by
  have b0 := bt_lo s 0
  have b1 := bt_hi s 0
  have e : rv s 1 = bt s 0 := by simp [rv, rvP]
  rw [try_is s 1 hn, may_bd, e]
  constructor
  · intro ⟨_, hp⟩
    exact putL_one _ (by rw [hp]; rfl)
  · intro h
    refine ⟨by omega, ?_⟩
    unfold putL; rw [if_pos h]; rfl
theorem try2_is (s : ByteArray) (hn : 2 ≤ s.size) : tryB s 2 = true ↔ 194 ≤ bt s 0 ∧ bt s 0 < 224 ∧ bt s 1 / 64 = 2 := by
  have b0 := bt_lo s 0
  have b1 := bt_hi s 0
  have c0 := bt_lo s 1
  have c1 := bt_hi s 1
  have e : rv s 2 = 64 * (bt s 0 % 32) + bt s 1 % 64 := by simp [rv, rvP, modN]
  rw [try_is s 2 hn, may_bd, e, range2]
  generalize bt s 0 = x at *
  generalize bt s 1 = y at *
  generalize hr : 64 * (x % 32) + y % 64 = r
  unfold putL
  by_cases h1 : r < 128
  · rw [if_pos h1]; simp; omega
  · by_cases h2 : r < 2048
    · rw [if_neg h1, if_pos h2]
      simp only [List.cons.injEq, and_true]
      rw [byteOf_eq _ _ (by omega) (by omega) b0 b1, byteOf_eq _ _ (by omega) (by omega) c0 c1]
      omega
    · omega
theorem try3_is (s : ByteArray) (hn : 3 ≤ s.size) : tryB s 3 = true ↔ 224 ≤ bt s 0 ∧ bt s 0 < 240 ∧ bt s 1 / 64 = 2 ∧ bt s 2 / 64 = 2 ∧ 2048 ≤ rv s 3 ∧ mayB (rv s 3) = true := by
  have b0 := bt_lo s 0
  have b1 := bt_hi s 0
  have c0 := bt_lo s 1
  have c1 := bt_hi s 1
  have d0 := bt_lo s 2
  have d1 := bt_hi s 2
  have e : rv s 3 = 64 * (64 * (bt s 0 % 16) + bt s 1 % 64) + bt s 2 % 64 := by simp [rv, rvP, modN]
  rw [try_is s 3 hn, may_bd, e, range3]
  generalize bt s 0 = x at *
  generalize bt s 1 = y at *
  generalize bt s 2 = z at *
  generalize hr : 64 * (64 * (x % 16) + y % 64) + z % 64 = r
  unfold putL
  by_cases h1 : r < 128
  · rw [if_pos h1]; simp; omega
  · by_cases h2 : r < 2048
    · rw [if_neg h1, if_pos h2]; simp; omega
    · by_cases h3 : r < 65536
      · rw [if_neg h1, if_neg h2, if_pos h3]
        simp only [List.cons.injEq, and_true]
        rw [byteOf_eq _ _ (by omega) (by omega) b0 b1, byteOf_eq _ _ (by omega) (by omega) c0 c1, byteOf_eq _ _ (by omega) (by omega) d0 d1]
        omega
      · omega
theorem try4_is (s : ByteArray) (hn : 4 ≤ s.size) : tryB s 4 = true ↔ 240 ≤ bt s 0 ∧ bt s 0 < 245 ∧ bt s 1 / 64 = 2 ∧ bt s 2 / 64 = 2 ∧ bt s 3 / 64 = 2 ∧ 65536 ≤ rv s 4 ∧ mayB (rv s 4) = true := by
  have b0 := bt_lo s 0
  have b1 := bt_hi s 0
  have c0 := bt_lo s 1
  have c1 := bt_hi s 1
  have d0 := bt_lo s 2
  have d1 := bt_hi s 2
  have f0 := bt_lo s 3
  have f1 := bt_hi s 3
  have e : rv s 4 = 64 * (64 * (64 * (bt s 0 % 8) + bt s 1 % 64) + bt s 2 % 64) + bt s 3 % 64 := by simp [rv, rvP, modN]
  rw [try_is s 4 hn, may_bd, e, range4]
  generalize bt s 0 = x at *
  generalize bt s 1 = y at *
  generalize bt s 2 = z at *
  generalize bt s 3 = u at *
  generalize hr : 64 * (64 * (64 * (x % 8) + y % 64) + z % 64) + u % 64 = r
  unfold putL
  by_cases h1 : r < 128
  · rw [if_pos h1]; simp; omega
  · by_cases h2 : r < 2048
    · rw [if_neg h1, if_pos h2]; simp; omega
    · by_cases h3 : r < 65536
      · rw [if_neg h1, if_neg h2, if_pos h3]; simp; omega
      · rw [if_neg h1, if_neg h2, if_neg h3]
        by_cases h4 : r ≤ 1114111
        · simp only [List.cons.injEq, and_true]
          rw [byteOf_eq _ _ (by omega) (by omega) b0 b1, byteOf_eq _ _ (by omega) (by omega) c0 c1, byteOf_eq _ _ (by omega) (by omega) d0 d1, byteOf_eq _ _ (by omega) (by omega) f0 f1]
          omega
        · omega
end Go.Proofs.YtpfgjiahpddpkaaDoor
set_option linter.unusedVariables false
namespace Go.Proofs.YtpfgjiahpddpkaaDoor
open Go.RowKit
def pairG (x : Int × Int × Int) : Int × Int := if x.2.2 = 0 then (x.1, x.2.1) else (0, 0)
theorem pairG_bad : pairG (0, 0, 4) = (0, 0) := by decide
theorem pairG_get (o : Option Int) (m : Int) : pairG (getE o m) = match o with | none => (0, 0) | some r => if mayB r && sizeI r == m + 1 then (r, m + 1) else (0, 0) := by
  unfold getE
  cases o with
  | none => rfl
  | some r => simp only; split <;> rfl
theorem contB_is (c : Int) : contB c = true ↔ c / 64 = 2 := by unfold contB; simp
theorem rgetN_out (s : ByteArray) (f n : Nat) (h : ¬ (n ≤ 4 ∧ n ≤ s.size)) : rgetN s f n = (0, 0) := by
  cases f with
  | zero => rfl
  | succ f => simp only [rgetN]; rw [if_neg h]
theorem rgetN_step (s : ByteArray) (f n : Nat) (h : n ≤ 4 ∧ n ≤ s.size) : rgetN s (f+1) n = if tryB s n = true then (rv s n, (n : Int)) else rgetN s f (n+1) := by
  simp only [rgetN]; rw [if_pos h]
theorem sizeI_2 (r : Int) : sizeI r = 2 ↔ 128 ≤ r ∧ r < 2048 := by unfold sizeI; (repeat' split) <;> omega
theorem sizeI_3 (r : Int) : sizeI r = 3 ↔ 2048 ≤ r ∧ r < 65536 := by unfold sizeI; (repeat' split) <;> omega
theorem sizeI_4 (r : Int) : sizeI r = 4 ↔ 65536 ≤ r := by unfold sizeI; (repeat' split) <;> omega
theorem rget_is (s : ByteArray) : rget s = pairG (getU s) := by
  unfold rget getU
  by_cases h0 : s.size = 0
  · rw [if_pos h0, pairG_bad]; exact rgetN_out s _ _ (by omega)
  · rw [if_neg h0]
    have b0 := bt_lo s 0
    have b1 := bt_hi s 0
    have t1 := try1_is s (by omega)
    rw [rgetN_step s 4 1 (by omega)]
    by_cases hc1 : bt s 0 < 128
    · have hh : headU (bt s 0) = (bt s 0, 0) := by unfold headU; rw [if_pos hc1]
      rw [if_pos (t1.2 hc1), hh, if_neg (by simp only; omega)]
      have e : rv s 1 = bt s 0 := by simp [rv, rvP]
      rw [e, pairG_get]
      have hm : mayB (bt s 0) = true := (may_bd _).2 (by omega)
      have hz : sizeI (bt s 0) = 1 := by unfold sizeI; rw [if_pos hc1]
      simp [getL, hm, hz]
    · rw [if_neg (fun h => hc1 (t1.1 h))]
      by_cases hc2 : 194 ≤ bt s 0 ∧ bt s 0 < 224
      · have hh : headU (bt s 0) = (bt s 0 % 32, 1) := by unfold headU; rw [if_neg hc1, if_pos hc2]
        rw [hh]
        by_cases h2 : s.size ≤ 1
        · rw [if_pos (by simp; omega), pairG_bad]; exact rgetN_out s _ _ (by omega)
        · rw [if_neg (by simp; omega), pairG_get, rgetN_step s 3 2 (by omega)]
          have t2 := try2_is s (by omega)
          have c0 := bt_lo s 1
          have c1 := bt_hi s 1
          have e : rv s 2 = bt s 0 % 32 * 64 + bt s 1 % 64 := by simp [rv, rvP, modN]; omega
          simp only [Int.toNat_one, getL]
          by_cases hk : contB (bt s (0 + 1)) = true
          · have hk2 := (contB_is _).1 hk
            rw [if_pos hk, if_pos (t2.2 ⟨hc2.1, hc2.2, hk2⟩), e]
            simp only
            have hz := (sizeI_2 (bt s 0 % 32 * 64 + bt s 1 % 64)).2 (by omega)
            have hm := (may_bd (bt s 0 % 32 * 64 + bt s 1 % 64)).2 (by omega)
            simp [hz, hm]
          · rw [if_neg hk, if_neg (fun h => hk ((contB_is _).2 (t2.1 h).2.2))]
            simp only
            by_cases h3 : s.size ≤ 2
            · exact rgetN_out s _ _ (by omega)
            · have t3 := try3_is s (by omega)
              rw [rgetN_step s 2 3 (by omega), if_neg (fun h => by have := t3.1 h; omega)]
              by_cases h4 : s.size ≤ 3
              · exact rgetN_out s _ _ (by omega)
              · have t4 := try4_is s (by omega)
                rw [rgetN_step s 1 4 (by omega), if_neg (fun h => by have := t4.1 h; omega)]
                exact rgetN_out s _ _ (by omega)
      · by_cases h2 : s.size ≤ 1
        · rw [rgetN_out s _ _ (by omega)]
          symm
          by_cases hx : (headU (bt s 0)).2 < 0 ∨ (s.size : Int) ≤ (headU (bt s 0)).2
          · rw [if_pos hx, pairG_bad]
          · exfalso; unfold headU at hx; rw [if_neg hc1, if_neg hc2] at hx
            (repeat' split at hx) <;> simp at hx <;> omega
        · have t2 := try2_is s (by omega)
          rw [rgetN_step s 3 2 (by omega), if_neg (fun h => by have := t2.1 h; omega)]
          by_cases hc3 : 224 ≤ bt s 0 ∧ bt s 0 < 240
          · have hh : headU (bt s 0) = (bt s 0 % 16, 2) := by unfold headU; rw [if_neg hc1, if_neg hc2, if_pos hc3]
            rw [hh]
            by_cases h3 : s.size ≤ 2
            · rw [if_pos (by simp; omega), pairG_bad]; exact rgetN_out s _ _ (by omega)
            · rw [if_neg (by simp; omega), pairG_get, rgetN_step s 2 3 (by omega)]
              have t3 := try3_is s (by omega)
              have c0 := bt_lo s 1
              have c1 := bt_hi s 1
              have d0 := bt_lo s 2
              have d1 := bt_hi s 2
              have e : rv s 3 = (bt s 0 % 16 * 64 + bt s 1 % 64) * 64 + bt s 2 % 64 := by simp [rv, rvP, modN]; omega
              have rest : rgetN s 2 (3 + 1) = (0, 0) := by
                by_cases h4 : s.size ≤ 3
                · exact rgetN_out s _ _ (by omega)
                · have t4 := try4_is s (by omega)
                  rw [rgetN_step s 1 4 (by omega), if_neg (fun h => by have := t4.1 h; omega)]; exact rgetN_out s _ _ (by omega)
              rw [show (2 : Int).toNat = 2 from rfl]
              simp only [getL]
              by_cases hk : contB (bt s (0 + 1)) = true
              · have hk2 := (contB_is _).1 hk
                rw [if_pos hk]
                by_cases hl : contB (bt s (0 + 1 + 1)) = true
                · have hl2 := (contB_is _).1 hl
                  rw [if_pos hl]
                  simp only
                  by_cases hm : mayB (rv s 3) = true ∧ 2048 ≤ rv s 3
                  · rw [if_pos (t3.2 ⟨hc3.1, hc3.2, hk2, hl2, hm.2, hm.1⟩)]
                    have hz := (sizeI_3 (rv s 3)).2 (by omega)
                    rw [e] at hz hm ⊢
                    simp only [Nat.zero_add, Nat.reduceAdd]
                    simp [hz, hm.1]
                  · rw [if_neg (fun h => hm ⟨(t3.1 h).2.2.2.2.2, (t3.1 h).2.2.2.2.1⟩)]
                    simp only [Nat.zero_add, Nat.reduceAdd] at rest ⊢
                    rw [rest, ← e, if_neg]
                    intro h5
                    rw [Bool.and_eq_true, beq_iff_eq] at h5
                    exact hm ⟨h5.1, by have := (sizeI_3 (rv s 3)).1 h5.2; omega⟩
                · rw [if_neg hl, if_neg (fun h => hl ((contB_is _).2 (t3.1 h).2.2.2.1))]; exact rest
              · rw [if_neg hk, if_neg (fun h => hk ((contB_is _).2 (t3.1 h).2.2.1))]; exact rest
          · by_cases hc4 : 240 ≤ bt s 0 ∧ bt s 0 < 245
            · have hh : headU (bt s 0) = (bt s 0 % 8, 3) := by unfold headU; rw [if_neg hc1, if_neg hc2, if_neg hc3, if_pos hc4]
              rw [hh]
              have skip3 : rgetN s 3 3 = if 3 ≤ s.size then rgetN s 2 4 else (0, 0) := by
                by_cases h3 : 3 ≤ s.size
                · have t3 := try3_is s (by omega)
                  rw [if_pos h3, rgetN_step s 2 3 (by omega), if_neg (fun h => by have := t3.1 h; omega)]
                · rw [if_neg h3]; exact rgetN_out s _ _ (by omega)
              simp only [Nat.reduceAdd] at skip3 ⊢
              rw [skip3]
              by_cases h4 : s.size ≤ 3
              · have e9 : (if 3 ≤ s.size then rgetN s 2 4 else (0, 0)) = (0, 0) := by
                  split
                  · exact rgetN_out s _ _ (by omega)
                  · rfl
                rw [e9, if_pos (by omega), pairG_bad]
              · rw [if_pos (show 3 ≤ s.size by omega), if_neg (by omega), pairG_get, rgetN_step s 1 4 (by omega)]
                have t4 := try4_is s (by omega)
                have c0 := bt_lo s 1
                have c1 := bt_hi s 1
                have d0 := bt_lo s 2
                have d1 := bt_hi s 2
                have f0 := bt_lo s 3
                have f1 := bt_hi s 3
                have e : rv s 4 = ((bt s 0 % 8 * 64 + bt s 1 % 64) * 64 + bt s 2 % 64) * 64 + bt s 3 % 64 := by simp [rv, rvP, modN]; omega
                have rest : rgetN s 1 5 = (0, 0) := rgetN_out s _ _ (by omega)
                rw [show (3 : Int).toNat = 3 from rfl]
                simp only [getL]
                by_cases hk : contB (bt s (0 + 1)) = true
                · have hk2 := (contB_is _).1 hk
                  rw [if_pos hk]
                  by_cases hl : contB (bt s (0 + 1 + 1)) = true
                  · have hl2 := (contB_is _).1 hl
                    rw [if_pos hl]
                    by_cases hu : contB (bt s (0 + 1 + 1 + 1)) = true
                    · have hu2 := (contB_is _).1 hu
                      rw [if_pos hu]
                      simp only
                      by_cases hm : mayB (rv s 4) = true ∧ 65536 ≤ rv s 4
                      · rw [if_pos (t4.2 ⟨hc4.1, hc4.2, hk2, hl2, hu2, hm.2, hm.1⟩)]
                        have hz := (sizeI_4 (rv s 4)).2 (by omega)
                        rw [e] at hz hm ⊢
                        simp only [Nat.zero_add, Nat.reduceAdd]
                        simp [hz, hm.1]
                      · rw [if_neg (fun h => hm ⟨(t4.1 h).2.2.2.2.2.2, (t4.1 h).2.2.2.2.2.1⟩)]
                        simp only [Nat.zero_add, Nat.reduceAdd] at rest ⊢
                        rw [rest, ← e, if_neg]
                        intro h5
                        rw [Bool.and_eq_true, beq_iff_eq] at h5
                        exact hm ⟨h5.1, by have := (sizeI_4 (rv s 4)).1 h5.2; omega⟩
                    · rw [if_neg hu, if_neg (fun h => hu ((contB_is _).2 (t4.1 h).2.2.2.2.1))]; exact rest
                  · rw [if_neg hl, if_neg (fun h => hl ((contB_is _).2 (t4.1 h).2.2.2.1))]; exact rest
                · rw [if_neg hk, if_neg (fun h => hk ((contB_is _).2 (t4.1 h).2.2.1))]; exact rest
            · have hh : headU (bt s 0) = (0, -1) := by unfold headU; rw [if_neg hc1, if_neg hc2, if_neg hc3, if_neg hc4]
              rw [hh, if_pos (by simp), pairG_bad]
              by_cases h3 : s.size ≤ 2
              · exact rgetN_out s _ _ (by omega)
              · have t3 := try3_is s (by omega)
                rw [rgetN_step s 2 3 (by omega), if_neg (fun h => by have := t3.1 h; omega)]
                by_cases h4 : s.size ≤ 3
                · exact rgetN_out s _ _ (by omega)
                · have t4 := try4_is s (by omega)
                  rw [rgetN_step s 1 4 (by omega), if_neg (fun h => by have := t4.1 h; omega)]
                  exact rgetN_out s _ _ (by omega)
/-- The first four bytes say it. -/
theorem getL_same (x y : ByteArray) : ∀ d i r, (∀ k, i < k → k ≤ i + d → bt x k = bt y k) → getL x d i r = getL y d i r := by
  intro d
  induction d with
  | zero => intro i r _; rfl
  | succ d ih =>
    intro i r h
    simp only [getL]
    rw [h (i+1) (by omega) (by omega), ih (i+1) _ (fun k h1 h2 => h k (by omega) (by omega))]
theorem getU_four (x y : ByteArray) (hs : x.size = min y.size 4) (h : ∀ k, k < 4 → bt x k = bt y k) : getU x = getU y := by
  have hb := headU_bd (bt y 0) (bt_lo _ _) (bt_hi _ _)
  unfold getU
  rw [h 0 (by omega)]
  by_cases h0 : y.size = 0
  · rw [if_pos h0, if_pos (by omega)]
  · rw [if_neg h0, if_neg (by omega)]
    by_cases h1 : (headU (bt y 0)).2 < 0 ∨ (y.size : Int) ≤ (headU (bt y 0)).2
    · rw [if_pos h1, if_pos (by omega)]
    · rw [if_neg h1, if_neg (by omega)]
      rw [getL_same x y _ 0 _ (fun k h2 h3 => h k (by omega))]
theorem rget_at (s : ByteArray) (i : Nat) (hi : i < s.size) : rget (s.extract i (min s.size (i + 4))) = pairG (getAt s i) := by
  rw [rget_is]
  unfold getAt
  congr 1
  have h1 := size_extract s i (min s.size (i + 4)) (by omega) (by omega)
  have h2 := size_extract s i s.size (by omega) (by omega)
  refine getU_four _ _ (by omega) ?_
  intro k hk
  rw [bt_tail s i k (by omega)]
  rcases Nat.lt_or_ge k (min s.size (i + 4) - i) with h3 | h3
  · rw [bt_extract _ _ _ _ (by omega) h3]
  · rw [bt_out _ _ (by omega), bt_out _ _ (by omega)]
end Go.Proofs.YtpfgjiahpddpkaaDoor
