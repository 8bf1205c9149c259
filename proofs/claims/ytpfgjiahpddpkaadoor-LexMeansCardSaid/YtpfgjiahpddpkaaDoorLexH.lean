/- A symbol has at least one byte and ends in the text. Plain laws. -/
import Derived.Test.YtpfgjiahpddpkaaDoorWell
set_option linter.unusedVariables false
namespace Go.Proofs.YtpfgjiahpddpkaaDoor
open Go.RowKit
def Goes (s : ByteArray) (i : Nat) (R : LR) : Prop := ∀ y j, R = .ok y j → i < j ∧ j ≤ s.size
theorem goes_iri (s : ByteArray) (i : Nat) : Goes s i (iriF s i) := by
  intro y j h
  unfold iriF at h
  split at h
  · split at h
    · cases h
    · rename_i l k hq
      have := quotedU_bd s 62 false i (by decide) l k hq
      split at h
      · cases h; omega
      · cases h
  · cases h
theorem goes_text (s : ByteArray) (i : Nat) : Goes s i (textF s i) := by
  intro y j h
  unfold textF at h
  split at h
  · split at h
    · cases h
    · rename_i l k hq
      have := quotedU_bd s 34 true i (by decide) l k hq
      cases h; omega
  · cases h
theorem goes_blank (s : ByteArray) (i : Nat) : Goes s i (blankF s i) := by
  intro y j h
  unfold blankF at h
  split at h
  · rename_i h1
    have := bt_in s (i+1) (by rw [h1.2]; decide)
    have := runU_bd s namedP (i+2) (by omega)
    split at h
    · cases h
    · split at h
      · cases h; omega
      · cases h
  · cases h
theorem goes_lang (s : ByteArray) (i : Nat) : Goes s i (langF s i) := by
  intro y j h
  unfold langF at h
  split at h
  · rename_i h1
    have := bt_in s i (by rw [h1]; decide)
    have := runU_bd s langP (i+1) (by omega)
    split at h
    · cases h
    · split at h
      · cases h; omega
      · cases h
  · cases h
theorem goes_var (s : ByteArray) (i : Nat) : Goes s i (varF s i) := by
  intro y j h
  unfold varF at h
  split at h
  · rename_i h1
    have := bt_in s i (by rw [h1]; decide)
    have := runU_bd s namedP (i+1) (by omega)
    split at h
    · cases h
    · cases h; omega
  · cases h
theorem runN_more (s : ByteArray) (p : Nat → Int → Bool) (i : Nat) : ∀ f k, k ≤ runN s p i f k := by
  intro f
  induction f with
  | zero => intro k; exact Nat.le_refl _
  | succ f ih => intro k; simp only [runN]; split; have := ih (k+1); omega; exact Nat.le_refl _
theorem runU_pos (s : ByteArray) (p : Nat → Int → Bool) (i : Nat) (h : i < s.size) (hp : p 0 (bt s i) = true) : 1 ≤ runU s p i := by
  obtain ⟨n, hn⟩ : ∃ n, s.size = n + 1 := ⟨s.size - 1, by omega⟩
  unfold runU; rw [hn]; simp only [runN, Nat.add_zero]
  rw [if_pos ⟨h, hp⟩]; exact runN_more s p i n 1
theorem goes_word (s : ByteArray) (i : Nat) (hi : i < s.size) : Goes s i (wordF s i) := by
  intro y j h
  unfold wordF at h
  split at h
  · rename_i h1
    have hb := runU_bd s namedP i (by omega)
    simp only at h
    split at h
    · cases h
    · split at h
      · rename_i h2
        cases h
        rcases Nat.eq_zero_or_pos (runU s namedP i) with h0 | h0
        · exfalso
          rw [h0, Nat.add_zero] at h2
          rcases h1 with h1 | h1
          · have := runU_pos s namedP i hi (by simp [namedP, namedB, h1]); omega
          · rcases h2 with h2 | h2
            · exact h2 h1.1
            · exact h1.2 h2
        · omega
      · rename_i h2
        have hin := bt_in s (i + runU s namedP i) (by
          by_cases hx : bt s (i + runU s namedP i) = 58
          · omega
          · exact absurd (.inl hx) h2)
        have hb2 := runU_bd s nameP (i + runU s namedP i + 1) (by omega)
        split at h
        · cases h
        · cases h; omega
  · cases h
theorem prefix_len (l m : List UInt8) (h : Go.Lib.hasPrefix l m = true) : m.length ≤ l.length := by
  exact (List.isPrefixOf_iff_prefix.1 h).length_le
theorem goes_mark (s : ByteArray) (i : Nat) (hi : i < s.size) : Goes s i (markF s i) := by
  have hgo : ∀ L : List (List UInt8), (∀ m ∈ L, 0 < m.length) → Goes s i (markGo s i L) := by
    intro L
    induction L with
    | nil => intro _ y j h; cases h
    | cons m L ih =>
      intro hL y j h
      simp only [markGo] at h
      split at h
      · rename_i hp
        have h1 := prefix_len _ _ hp
        have h2 := hL m (by simp)
        have h3 := size_extract s i s.size (by omega) (by omega)
        have h4 := Go.Lib.size_eq (s.extract i s.size)
        cases h; omega
      · exact ih (fun x hx => hL x (by simp [hx])) y j h
  exact hgo marksL (by decide)
theorem goes_next (s : ByteArray) (i : Nat) (hi : i ≤ s.size) : Goes s i (nextF s i) := by
  have hsk := skipU_ge s i hi
  intro y j h
  unfold nextF at h
  split at h
  · rename_i hp
    have hgo : ∀ L : List (ByteArray → Nat → LR), (∀ f ∈ L, Goes s (skipU s i) (f s (skipU s i))) → Goes s (skipU s i) (tryAll s (skipU s i) L) := by
      intro L
      induction L with
      | nil => intro _ y j h; cases h
      | cons f L ih =>
        intro hL y j h
        simp only [tryAll] at h
        split at h
        · exact ih (fun x hx => hL x (by simp [hx])) y j h
        · cases h
        · rename_i y2 j2 hf
          have := hL f (by simp) y2 j2 hf
          cases h; exact this
    have := hgo readers (by
      intro f hf
      simp only [readers, List.mem_cons, List.not_mem_nil, or_false] at hf
      rcases hf with rfl | rfl | rfl | rfl | rfl | rfl | rfl
      · exact goes_iri _ _
      · exact goes_blank _ _
      · exact goes_text _ _
      · exact goes_lang _ _
      · exact goes_var _ _
      · exact goes_word _ _ hp
      · exact goes_mark _ _ hp) y j h
    omega
  · cases h
end Go.Proofs.YtpfgjiahpddpkaaDoor
