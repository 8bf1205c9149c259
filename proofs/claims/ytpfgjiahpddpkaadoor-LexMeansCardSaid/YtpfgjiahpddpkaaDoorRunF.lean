/- The runes of a text, and their places, as a plain list. No program. -/
import Derived.Test.YtpfgjiahpddpkaaDoorUtfF
set_option linter.unusedVariables false
namespace Go.Proofs.YtpfgjiahpddpkaaDoor
open Go.RowKit
def getAt (s : ByteArray) (i : Nat) : Int × Int × Int := getU (s.extract i s.size)
def runesF (s : ByteArray) : Nat → Nat → List (Nat × Int)
  | 0, _ => []
  | f+1, i => if i < s.size then (if (getAt s i).2.2 = 0 then (i, (getAt s i).1) :: runesF s f (i + (getAt s i).2.1.toNat) else []) else []
def runesL (s : ByteArray) : List (Nat × Int) := runesF s s.size 0
theorem getAt_cases (s : ByteArray) (i : Nat) (h : i < s.size) : getAt s i = (0, 0, 4) ∨ ∃ (r : Int) (n : Nat), getAt s i = (r, (n : Int), 0) ∧ 1 ≤ n ∧ n ≤ 4 ∧ i + n ≤ s.size ∧ mayB r = true ∧ sizeI r = n := by
  rcases getU_cases (s.extract i s.size) with h1 | ⟨r, n, h1, h2, h3, h4, h5, h6⟩
  · exact .inl h1
  · refine .inr ⟨r, n.toNat, ?_, by omega, by omega, ?_, h5, by omega⟩
    · unfold getAt; rw [h1, Int.toNat_of_nonneg (by omega)]
    · rw [size_extract _ _ _ (by omega) (by omega)] at h4; omega
theorem runesF_out (s : ByteArray) (f i : Nat) (h : s.size ≤ i) : runesF s f i = [] := by
  cases f with
  | zero => rfl
  | succ f => simp only [runesF]; rw [if_neg (by omega)]
theorem runesF_bad (s : ByteArray) (f i : Nat) (h : getAt s i = (0, 0, 4)) : runesF s f i = [] := by
  cases f with
  | zero => rfl
  | succ f => simp only [runesF, h]; split <;> simp
theorem runesF_step (s : ByteArray) (f i n : Nat) (r : Int) (hi : i < s.size) (h : getAt s i = (r, (n : Int), 0)) : runesF s (f + 1) i = (i, r) :: runesF s f (i + n) := by
  simp only [runesF, h]; rw [if_pos hi]; simp
/-- Enough rounds are enough. -/
theorem runesF_more (s : ByteArray) : ∀ f g i, s.size ≤ i + f → s.size ≤ i + g → runesF s f i = runesF s g i := by
  intro f
  induction f with
  | zero => intro g i h _; rw [runesF_out s g i (by omega)]; rfl
  | succ f ih =>
    intro g i h hg
    by_cases hi : i < s.size
    · cases g with
      | zero => omega
      | succ g =>
        rcases getAt_cases s i hi with h1 | ⟨r, n, h1, h2, _⟩
        · rw [runesF_bad _ _ _ h1, runesF_bad _ _ _ h1]
        · rw [runesF_step _ _ _ _ _ hi h1, runesF_step _ _ _ _ _ hi h1, ih g (i + n) (by omega) (by omega)]
    · rw [runesF_out _ _ _ (by omega), runesF_out _ _ _ (by omega)]
/-- Where the runes end. -/
def endF (s : ByteArray) : Nat → Nat → Nat
  | 0, i => i
  | f+1, i => if i < s.size then (if (getAt s i).2.2 = 0 then endF s f (i + (getAt s i).2.1.toNat) else i) else i
def endU (s : ByteArray) : Nat := endF s s.size 0
def lastE (l : List (Nat × Int)) : Int := match l.getLast? with
  | none => 0
  | some (i, r) => i + sizeI r
theorem lastE_snoc (l : List (Nat × Int)) (i : Nat) (r : Int) : lastE (l ++ [(i, r)]) = i + sizeI r := by simp [lastE]
theorem lastE_runes (s : ByteArray) : ∀ (f i : Nat) (pre : List (Nat × Int)), lastE pre = (i : Int) → i ≤ s.size → s.size ≤ i + f → lastE (pre ++ runesF s f i) = endF s f i := by
  intro f
  induction f with
  | zero => intro i pre h _ _; simp [runesF, endF, h]
  | succ f ih =>
    intro i pre h h0 hf
    by_cases hi : i < s.size
    · rcases getAt_cases s i hi with h1 | ⟨r, n, h1, h2, h3, h4, h5, h6⟩
      · rw [runesF_bad _ _ _ h1, List.append_nil, h]; simp [endF, h1]
      · rw [runesF_step _ _ _ _ _ hi h1]
        have := ih (i + n) (pre ++ [(i, r)]) (by rw [lastE_snoc, h6]; omega) h4 (by omega)
        rw [List.append_assoc] at this
        rw [show ([(i, r)] ++ runesF s f (i + n)) = (i, r) :: runesF s f (i + n) from rfl] at this
        rw [this]; simp only [endF, h1]; rw [if_pos hi]; simp
    · rw [runesF_out _ _ _ (by omega), List.append_nil, h]; simp only [endF]; rw [if_neg hi]
theorem lastE_all (s : ByteArray) : lastE (runesL s) = endU s := by
  have := lastE_runes s s.size 0 [] rfl (by omega) (by omega)
  simpa [runesL, endU] using this
theorem endF_le (s : ByteArray) : ∀ f i, i ≤ s.size → i ≤ endF s f i ∧ endF s f i ≤ s.size := by
  intro f
  induction f with
  | zero => intro i h; simp [endF, h]
  | succ f ih =>
    intro i h
    by_cases hi : i < s.size
    · rcases getAt_cases s i hi with h1 | ⟨r, n, h1, h2, h3, h4, h5, h6⟩
      · simp [endF, h1, h]
      · simp only [endF, h1]; rw [if_pos hi]; simp
        have := ih (i + n) h4; omega
    · simp only [endF]; rw [if_neg hi]; omega
theorem endU_le (s : ByteArray) : endU s ≤ s.size := (endF_le s _ 0 (by omega)).2
def validB (s : ByteArray) : Bool := endU s == s.size
/-- Every rune that came lies in the text, and may be. -/
theorem runesF_mem (s : ByteArray) : ∀ f i, ∀ x ∈ runesF s f i, x.1 < s.size ∧ mayB x.2 = true ∧ i ≤ x.1 ∧ (x.1 : Int) + sizeI x.2 ≤ s.size := by
  intro f
  induction f with
  | zero => intro i x hx; simp [runesF] at hx
  | succ f ih =>
    intro i x hx
    by_cases hi : i < s.size
    · rcases getAt_cases s i hi with h1 | ⟨r, n, h1, h2, h3, h4, h5, h6⟩
      · rw [runesF_bad _ _ _ h1] at hx; simp at hx
      · rw [runesF_step _ _ _ _ _ hi h1] at hx
        rcases List.mem_cons.1 hx with rfl | hx
        · exact ⟨hi, h5, Nat.le_refl _, by simp only; omega⟩
        · have := ih _ _ hx; exact ⟨this.1, this.2.1, by omega, this.2.2.2⟩
    · rw [runesF_out _ _ _ (by omega)] at hx; simp at hx
end Go.Proofs.YtpfgjiahpddpkaaDoor
