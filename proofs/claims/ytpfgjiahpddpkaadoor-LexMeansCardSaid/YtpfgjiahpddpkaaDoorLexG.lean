/- Small laws of the scanner's plain functions. No program. -/
import Derived.Test.YtpfgjiahpddpkaaDoorLexF
import Derived.Lib.IndexLaws
set_option linter.unusedVariables false
namespace Go.Proofs.YtpfgjiahpddpkaaDoor
open Go.RowKit
theorem list_at (s : ByteArray) (i : Nat) (c : UInt8) (h : s.data.toList[i]? = some c) : i < s.size ∧ bt s i = c.toNat := by
  have hl : i < s.data.toList.length := by
    rcases Nat.lt_or_ge i s.data.toList.length with h1 | h1
    · exact h1
    · rw [List.getElem?_eq_none h1] at h; simp at h
  have hs : i < s.size := by rw [Go.Lib.size_eq]; exact hl
  refine ⟨hs, ?_⟩
  unfold bt; rw [dif_pos hs]
  rw [List.getElem?_eq_getElem hl] at h
  have h2 : s.data.toList[i] = c := by simpa using h
  have : s[i] = c := by rw [← h2]; rfl
  rw [this]
theorem at_list (s : ByteArray) (i : Nat) (h : i < s.size) : s.data.toList[i]? = some (byteOf (bt s i)) := by
  have hl : i < s.data.toList.length := by rw [← Go.Lib.size_eq]; exact h
  rw [List.getElem?_eq_getElem hl]
  unfold bt; rw [dif_pos h]
  have : s.data.toList[i] = s[i] := rfl
  rw [this]; simp [byteOf]
theorem cmt_bd (s : ByteArray) (i : Nat) (h : i < s.size) : i ≤ cmtEnd s i ∧ cmtEnd s i ≤ s.size ∧ (bt s i ≠ 10 → i < cmtEnd s i) ∧ -1 ≤ cmtN s i ∧ cmtN s i < s.size := by
  have hge : -1 ≤ cmtN s i := Go.Lib.indexByte_ge _ _
  have hsz := size_extract s i s.size (by omega) (by omega)
  unfold cmtEnd
  by_cases h0 : 0 ≤ cmtN s i
  · rw [if_pos h0]
    obtain ⟨o, ho⟩ := Int.eq_ofNat_of_zero_le h0
    have hs := Go.Lib.indexByte_some (l := (s.extract i s.size).data.toList) (c := 10) (o := o) ho
    have h1 := list_at _ _ _ hs.1
    rw [hsz] at h1
    rw [bt_extract _ _ _ _ (by omega) h1.1] at h1
    refine ⟨by omega, by omega, ?_, hge, by omega⟩
    intro hne
    rcases Nat.eq_zero_or_pos o with h2 | h2
    · subst h2; exact absurd h1.2 hne
    · omega
  · rw [if_neg h0]; exact ⟨by omega, by omega, fun _ => h, hge, by omega⟩
theorem skipF_out (s : ByteArray) (f i : Nat) (h : s.size ≤ i) : skipF s f i = i := by
  cases f with
  | zero => rfl
  | succ f => simp only [skipF]; rw [if_neg (by omega)]
theorem skipF_more (s : ByteArray) : ∀ f g i, s.size ≤ i + f → s.size ≤ i + g → skipF s f i = skipF s g i := by
  intro f
  induction f with
  | zero => intro g i h _; rw [skipF_out s g i (by omega)]; rfl
  | succ f ih =>
    intro g i h hg
    by_cases hi : i < s.size
    · cases g with
      | zero => omega
      | succ g =>
        simp only [skipF]; rw [if_pos hi, if_pos hi]
        by_cases h35 : bt s i = 35
        · rw [if_pos h35, if_pos h35]
          have := cmt_bd s i hi
          have h2 := this.2.2.1 (by omega)
          exact ih _ _ (by omega) (by omega)
        · rw [if_neg h35, if_neg h35]
          split
          · exact ih _ _ (by omega) (by omega)
          · rfl
    · rw [skipF_out _ _ _ (by omega), skipF_out _ _ _ (by omega)]
theorem skipU_step (s : ByteArray) (i : Nat) (h : i < s.size) : skipU s i = if bt s i = 35 then skipU s (cmtEnd s i) else if spaceC (bt s i) then skipU s (i+1) else i := by
  obtain ⟨n, hn⟩ : ∃ n, s.size = n + 1 := ⟨s.size - 1, by omega⟩
  unfold skipU
  rw [skipF_more s s.size (n + 1) i (by omega) (by omega)]
  conv => lhs; unfold skipF
  rw [if_pos h]
  have := cmt_bd s i h
  by_cases h35 : bt s i = 35
  · rw [if_pos h35, if_pos h35]; have h2 := this.2.2.1 (by omega); exact skipF_more _ _ _ _ (by omega) (by omega)
  · rw [if_neg h35, if_neg h35]
    split
    · exact skipF_more _ _ _ _ (by omega) (by omega)
    · rfl
theorem skipU_out (s : ByteArray) (i : Nat) (h : s.size ≤ i) : skipU s i = i := skipF_out _ _ _ h
theorem skipF_ge (s : ByteArray) : ∀ f i, i ≤ s.size → i ≤ skipF s f i ∧ skipF s f i ≤ s.size := by
  intro f
  induction f with
  | zero => intro i h; exact ⟨Nat.le_refl _, h⟩
  | succ f ih =>
    intro i h
    simp only [skipF]
    by_cases hi : i < s.size
    · have hc := cmt_bd s i hi
      rw [if_pos hi]
      split
      · have := ih (cmtEnd s i) hc.2.1; omega
      · split
        · have := ih (i+1) (by omega); omega
        · omega
    · rw [if_neg hi]; omega
theorem skipU_ge (s : ByteArray) (i : Nat) (h : i ≤ s.size) : i ≤ skipU s i ∧ skipU s i ≤ s.size := skipF_ge s _ i h
end Go.Proofs.YtpfgjiahpddpkaaDoor
