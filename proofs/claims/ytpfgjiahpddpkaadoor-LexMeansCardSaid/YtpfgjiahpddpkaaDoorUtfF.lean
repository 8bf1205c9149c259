/- What package utf computes, as plain functions over the bytes of a text. No program. -/
import Derived.Test.YtpfgjiahpddpkaaDoorBase
set_option linter.unusedVariables false
namespace Go.Proofs.YtpfgjiahpddpkaaDoor
open Go.RowKit
def mayB (r : Int) : Bool := decide (0 ≤ r) && decide (r ≤ 1114111) && (decide (r < 55296) || decide (57343 < r))
def sizeI (r : Int) : Int := if r < 128 then 1 else if r < 2048 then 2 else if r < 65536 then 3 else 4
def headU (c : Int) : Int × Int := if c < 128 then (c, 0) else if 194 ≤ c ∧ c < 224 then (c % 32, 1) else if 224 ≤ c ∧ c < 240 then (c % 16, 2) else if 240 ≤ c ∧ c < 245 then (c % 8, 3) else (0, -1)
theorem headU_bd (c : Int) (h0 : 0 ≤ c) (h1 : c < 256) : -1 ≤ (headU c).2 ∧ (headU c).2 ≤ 3 ∧ 0 ≤ (headU c).1 ∧ (headU c).1 < 256 := by
  unfold headU; (repeat' split) <;> simp <;> omega
def contB (c : Int) : Bool := c / 64 == 2
/-- The bytes behind the first one: d of them from place i + 1 on, taken into r. -/
def getL (s : ByteArray) : Nat → Nat → Int → Option Int
  | 0, _, r => some r
  | d+1, i, r => if contB (bt s (i+1)) then getL s d (i+1) (r*64 + bt s (i+1) % 64) else none
def getE (o : Option Int) (m : Int) : Int × Int × Int := match o with
  | none => (0, 0, 4)
  | some r => if mayB r && sizeI r == m + 1 then (r, m + 1, 0) else (0, 0, 4)
/-- utf.Get: the rune, how many bytes, the error. -/
def getU (s : ByteArray) : Int × Int × Int :=
  if s.size = 0 then (0, 0, 4) else
  if (headU (bt s 0)).2 < 0 ∨ (s.size : Int) ≤ (headU (bt s 0)).2 then (0, 0, 4) else getE (getL s (headU (bt s 0)).2.toNat 0 (headU (bt s 0)).1) (headU (bt s 0)).2
def tri (x : Int × Int × Int) : Value := .tuple #[.int .i64 x.1, .int .i64 x.2.1, .int .i64 x.2.2]
theorem getE_cases (o : Option Int) (m : Int) (hm : 0 ≤ m) : (getE o m).2.2 = 4 ∧ getE o m = (0,0,4) ∨ (getE o m).2.2 = 0 ∧ (getE o m).2.1 = m + 1 ∧ mayB (getE o m).1 = true ∧ sizeI (getE o m).1 = m + 1 ∧ o = some (getE o m).1 := by
  unfold getE; cases o with
  | none => simp
  | some r =>
    by_cases h : (mayB r && sizeI r == m + 1) = true
    · simp only [h, if_true]; simp at h; right; simp [h]
    · simp [h]
/-- What a rune that was got is: it fits, and is whole. -/
theorem getU_cases (s : ByteArray) : getU s = (0, 0, 4) ∨ ∃ r n : Int, getU s = (r, n, 0) ∧ 1 ≤ n ∧ n ≤ 4 ∧ n ≤ s.size ∧ mayB r = true ∧ sizeI r = n := by
  unfold getU
  by_cases h : s.size = 0
  · rw [if_pos h]; exact .inl rfl
  · rw [if_neg h]
    have hb := headU_bd (bt s 0) (bt_lo _ _) (bt_hi _ _)
    by_cases h1 : (headU (bt s 0)).2 < 0 ∨ (s.size : Int) ≤ (headU (bt s 0)).2
    · rw [if_pos h1]; exact .inl rfl
    · rw [if_neg h1]
      have hm : 0 ≤ (headU (bt s 0)).2 := by omega
      rcases getE_cases (getL s (headU (bt s 0)).2.toNat 0 (headU (bt s 0)).1) _ hm with h2 | h2
      · exact .inl h2.2
      · refine .inr ⟨_, (headU (bt s 0)).2 + 1, ?_, by omega, by omega, by omega, h2.2.2.1, h2.2.2.2.1⟩
        rw [← h2.2.1, ← h2.1]
end Go.Proofs.YtpfgjiahpddpkaaDoor
