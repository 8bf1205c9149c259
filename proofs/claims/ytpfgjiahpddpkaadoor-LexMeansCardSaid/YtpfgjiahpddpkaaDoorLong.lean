/- Texts of spaces alone have no symbols. Plain laws. -/
import Derived.Test.YtpfgjiahpddpkaaDoorKnow
set_option linter.unusedVariables false
namespace Go.Proofs.YtpfgjiahpddpkaaDoor
open Go.RowKit
theorem skip_spaces (s : ByteArray) (h : ∀ k, k < s.size → bt s k = 32) : ∀ d i, i + d = s.size → skipU s i = s.size := by
  intro d
  induction d with
  | zero => intro i hi; rw [skipU_out s i (by omega)]; omega
  | succ d ih =>
    intro i hi
    rw [skipU_step s i (by omega), h i (by omega), if_neg (by decide), if_pos (by decide)]
    exact ih (i+1) (by omega)
theorem getAt_space (s : ByteArray) (i : Nat) (hi : i < s.size) (h : bt s i = 32) : getAt s i = (32, 1, 0) := by
  have h1 := size_extract s i s.size (by omega) (by omega)
  have h2 := bt_extract s i s.size 0 (by omega) (by omega)
  rw [Nat.add_zero, h] at h2
  have h3 : headU 32 = (32, 0) := by decide
  unfold getAt getU
  rw [h2, h3, if_neg (by omega), if_neg (by simp; omega)]
  rfl
theorem end_spaces (s : ByteArray) (h : ∀ k, k < s.size → bt s k = 32) : ∀ f i, i ≤ s.size → s.size ≤ i + f → endF s f i = s.size := by
  intro f
  induction f with
  | zero => intro i h0 h1; simp only [endF]; omega
  | succ f ih =>
    intro i h0 h1
    by_cases hi : i < s.size
    · simp only [endF]
      rw [if_pos hi, getAt_space s i hi (h i hi)]
      exact ih (i+1) (by omega) (by omega)
    · simp only [endF]; rw [if_neg hi]; omega
theorem all_spaces (s : ByteArray) (h : ∀ k, k < s.size → bt s k = 32) (hs : s.size ≤ 1048576) : allF s = ([], 0, 0) := by
  have h1 : endU s = s.size := end_spaces s h s.size 0 (by omega) (by omega)
  have h2 : nextF s 0 = .no := by unfold nextF; rw [skip_spaces s h s.size 0 (by omega), if_neg (by omega)]
  unfold allF
  rw [if_neg (by omega), if_neg (by omega)]
  rw [symsF_step, h2]
theorem all_long (s : ByteArray) (hs : 1048576 < s.size) : allF s = ([], 0, 3) := if_pos hs
theorem num_c (n : Int) (w : World) : Calls Tryd.prog 8 #[.int .i64 n] w fun e w' => e = .returned (.int .i64 n) ∧ w = w' := by
  go_enter Tryd.func8, Tryd.ntmps8
  go_wp2
  go_ret
  exact ⟨rfl, rfl⟩
theorem ascii_one (c : UInt8) (hc : c.toNat < 128) : ∀ (j : Nat) b, (⟨#[c]⟩ : ByteArray).data.toList[j]? = some b → b.toNat < 128 := by
  intro j b h
  match j, h with
  | 0, h => simp at h; subst h; exact hc
  | j + 1, h => simp at h
theorem fold_aA (w : World) : Calls Tryd.prog 43 #[.string ⟨#[97]⟩, .string ⟨#[65]⟩] w fun e w' => e = .returned (.bool true) ∧ w = w' :=
  (Tryd.strings_EqualFold ⟨#[97]⟩ ⟨#[65]⟩ w (by decide) (ascii_one 97 (by decide)) (ascii_one 65 (by decide))).mono fun e w' h => ⟨h.1.trans (by rw [show Lib.equalFold (⟨#[97]⟩ : ByteArray).data.toList (⟨#[65]⟩ : ByteArray).data.toList = true from by decide]), h.2.symm⟩
theorem word_aA (w : World) : Calls Tryd.prog 25 #[.agg #[.int .i64 6, .string ⟨#[97]⟩, .int .i64 0, .string ⟨#[]⟩, .string ⟨#[]⟩, .int .i64 6], .string ⟨#[65]⟩] w fun e w' => e = .returned (.bool true) ∧ Below w.heap.size w w' := by
  go_enter Tryd.func25, Tryd.ntmps25
  go_wp2_with (go_at_call 43; refine (fold_aA _).mono ?_; rintro e w' ⟨rfl, rfl⟩)
  go_ret
  exact ⟨rfl, (Below.refl _ w).alloc (Nat.le_refl _) _⟩
end Go.Proofs.YtpfgjiahpddpkaaDoor
