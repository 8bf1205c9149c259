/- What package term's tests of texts compute, as plain functions. No program. -/
import Derived.Test.YtpfgjiahpddpkaaDoorRunF
import Derived.Lib.Index
import Derived.Lib.SplitLaws
set_option linter.unusedVariables false
namespace Go.Proofs.YtpfgjiahpddpkaaDoor
open Go.RowKit
def letterB (c : Int) : Bool := (decide (65 ≤ c) && decide (c ≤ 90)) || (decide (97 ≤ c) && decide (c ≤ 122))
def digitB (c : Int) : Bool := decide (48 ≤ c) && decide (c ≤ 57)
/-- Letters and digits, a letter first, from place i on, d more. -/
def namedB (i : Nat) (c : Int) : Bool := letterB c || (decide (0 < i) && digitB c)
def wordsB (s : ByteArray) (k : Nat) : Bool := (List.range k).all fun i => namedB i (bt s i)
theorem wordsB_succ (s : ByteArray) (k : Nat) : wordsB s (k + 1) = (wordsB s k && namedB k (bt s k)) := by simp [wordsB, List.range_succ, List.all_append]
theorem wordsB_false (s : ByteArray) (k m : Nat) (h : k < m) (hb : namedB k (bt s k) = false) : wordsB s m = false := by
  unfold wordsB; rw [List.all_eq_false]; exact ⟨k, List.mem_range.2 h, by simp [hb]⟩
def blankB (s : ByteArray) : Bool := wordsB s s.size && decide (1 ≤ s.size) && decide (s.size ≤ 64)
def valueB (s : ByteArray) : Bool := decide (s.size ≤ 4000) && validB s
def badIri : List UInt8 := [60, 62, 34, 123, 125, 124, 94, 96, 92]
def badC (c : Int) : Bool := c == 60 || c == 62 || c == 34 || c == 123 || c == 125 || c == 124 || c == 94 || c == 96 || c == 92
def okRune (r : Int) : Bool := decide (32 < r) && (decide (128 ≤ r) || !badC r)
def iriB (s : ByteArray) : Bool := decide (1 ≤ s.size) && decide (s.size ≤ 1000) && validB s && (runesL s).all fun x => okRune x.2
theorem badC_index (c : Int) (h0 : 0 ≤ c) (h1 : c < 256) : decide (0 ≤ Go.Lib.indexByte badIri c.toNat.toUInt8) = badC c := by
  have := (by decide +kernel : ∀ c : Fin 256, decide (0 ≤ Go.Lib.indexByte badIri (c.val : Int).toNat.toUInt8) = badC (c.val : Int))
  have h := this ⟨c.toNat, by omega⟩
  simp only [Int.toNat_of_nonneg h0] at h; exact h
def tagC (i : Nat) (c : Int) : Bool := (decide (97 ≤ c) && decide (c ≤ 122)) || (decide (0 < i) && digitB c)
def charsOk (i : Nat) (p : ByteArray) (m : Nat) : Bool := (List.range m).all fun k => tagC i (bt p k)
theorem charsOk_succ (i : Nat) (p : ByteArray) (m : Nat) : charsOk i p (m + 1) = (charsOk i p m && tagC i (bt p m)) := by simp [charsOk, List.range_succ, List.all_append]
theorem charsOk_false (i : Nat) (p : ByteArray) (k m : Nat) (h : k < m) (hb : tagC i (bt p k) = false) : charsOk i p m = false := by
  unfold charsOk; rw [List.all_eq_false]; exact ⟨k, List.mem_range.2 h, by simp [hb]⟩
def okPart (i : Nat) (p : ByteArray) : Bool := decide (1 ≤ p.size) && charsOk i p p.size
def tagPs (P : List ByteArray) (k : Nat) : Bool := (List.range k).all fun i => okPart i (P[i]?.getD ByteArray.empty)
theorem tagPs_succ (P : List ByteArray) (k : Nat) : tagPs P (k + 1) = (tagPs P k && okPart k (P[k]?.getD ByteArray.empty)) := by simp [tagPs, List.range_succ, List.all_append]
theorem tagPs_false (P : List ByteArray) (k m : Nat) (h : k < m) (hb : okPart k (P[k]?.getD ByteArray.empty) = false) : tagPs P m = false := by
  unfold tagPs; rw [List.all_eq_false]; exact ⟨k, List.mem_range.2 h, by simp [hb]⟩
def dash : ByteArray := ⟨#[45]⟩
def parts (s : ByteArray) : List ByteArray := Go.Lib.splitB dash 0 (Go.Lib.countB s dash) s
theorem parts_length (s : ByteArray) : (parts s).length = Go.Lib.countB s dash + 1 := Go.Lib.splitB_all dash (by decide) 0 _ s rfl
def tagB (s : ByteArray) : Bool := tagPs (parts s) (parts s).length && decide (s.size ≤ 35)
theorem parts_small (s : ByteArray) : ∀ p ∈ parts s, p.size ≤ s.size := by
  have : ∀ k (s : ByteArray), ∀ p ∈ Go.Lib.splitB dash 0 k s, p.size ≤ s.size := by
    intro k
    induction k with
    | zero => intro s p hp; simp [Go.Lib.splitB] at hp; subst hp; omega
    | succ k ih =>
      intro s p hp
      unfold Go.Lib.splitB at hp
      split at hp
      · simp at hp; subst hp; omega
      · rcases List.mem_cons.1 hp with rfl | hp
        · simp; omega
        · have := ih _ _ hp; simp at this; omega
  exact this _ s
def xsdL : List UInt8 := [104, 116, 116, 112, 58, 47, 47, 119, 119, 119, 46, 119, 51, 46, 111, 114, 103, 47, 50, 48, 48, 49, 47, 88, 77, 76, 83, 99, 104, 101, 109, 97, 35, 115, 116, 114, 105, 110, 103]
end Go.Proofs.YtpfgjiahpddpkaaDoor
