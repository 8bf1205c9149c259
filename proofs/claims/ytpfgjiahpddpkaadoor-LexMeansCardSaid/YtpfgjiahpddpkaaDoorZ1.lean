/- A text that lies behind another one in a third: what the scanner's plain functions say of it, moved. Plain laws. The symbols of a text that lies behind another one: the same, each at its place moved. Plain laws. A text that stands at the beginning of another one, a line's end behind it: its symbols are the other's first ones. Plain laws. Two texts, a line's end between: their symbols are those of both. Plain laws. -/
import Derived.Test.YtpfgjiahpddpkaaDoorLexH
import Derived.Test.YtpfgjiahpddpkaaDoorLong
set_option linter.unusedVariables false
namespace Go.Proofs.YtpfgjiahpddpkaaDoor
open Go.RowKit
theorem ba_ext (x y : ByteArray) (hs : x.size = y.size) (h : ∀ k, k < x.size → bt x k = bt y k) : x = y := by
  apply ByteArray.ext
  apply Array.ext
  · exact hs
  · intro i h1 h2
    have h3 : i < x.size := h1
    have h4 : i < y.size := h2
    have e := h i h3
    unfold bt at e
    rw [dif_pos h3, dif_pos h4] at e
    have e2 : (x[i]'h3).toNat = (y[i]'h4).toNat := by omega
    exact UInt8.toNat_inj.1 e2
/-- s from place d on is b. -/
structure Tail (b s : ByteArray) (d : Nat) : Prop where
  size : s.size = d + b.size
  eq : ∀ k, bt s (d + k) = bt b k
theorem Tail.ext {b s : ByteArray} {d : Nat} (h : Tail b s d) (i j : Nat) (hj : j ≤ b.size) : s.extract (d + i) (d + j) = b.extract i j := by
  have hs := h.size
  by_cases hij : i ≤ j
  · refine ba_ext _ _ ?_ ?_
    · rw [size_extract _ _ _ (by omega) (by omega), size_extract _ _ _ (by omega) (by omega)]; omega
    · intro k hk
      rw [size_extract _ _ _ (by omega) (by omega)] at hk
      rw [bt_extract _ _ _ _ (by omega) (by omega), bt_extract _ _ _ _ (by omega) (by omega), Nat.add_assoc, h.eq]
  · refine ba_ext _ _ ?_ ?_
    · simp; omega
    · intro k hk; simp at hk; omega
/-! ### comments -/
theorem cmt_char (s : ByteArray) (i : Nat) (h : i ≤ s.size) : i ≤ cmtEnd s i ∧ cmtEnd s i ≤ s.size ∧ (∀ k, i ≤ k → k < cmtEnd s i → bt s k ≠ 10) ∧ (cmtEnd s i < s.size → bt s (cmtEnd s i) = 10) := by
  have hge : -1 ≤ cmtN s i := Go.Lib.indexByte_ge _ _
  have hsz := size_extract s i s.size (by omega) (by omega)
  have hno : ∀ o, o < s.size - i → bt s (i + o) = 10 → (s.extract i s.size).data.toList[o]? = some 10 := by
    intro o ho e
    rw [at_list _ o (by omega), bt_extract _ _ _ _ (by omega) (by omega), e]; rfl
  unfold cmtEnd
  by_cases h0 : 0 ≤ cmtN s i
  · rw [if_pos h0]
    obtain ⟨o, ho⟩ := Int.eq_ofNat_of_zero_le h0
    have hs := Go.Lib.indexByte_some (l := (s.extract i s.size).data.toList) (c := 10) (o := o) ho
    have h1 := list_at _ _ _ hs.1
    rw [hsz] at h1
    rw [bt_extract _ _ _ _ (by omega) h1.1] at h1
    rw [ho, Int.toNat_natCast]
    refine ⟨by omega, by omega, ?_, fun _ => h1.2⟩
    intro k hk hk2 e
    have h2 := hs.2 (k - i) (by omega)
    exact h2 (hno _ (by omega) (by rw [Nat.add_sub_cancel' hk]; exact e))
  · rw [if_neg h0]
    refine ⟨h, Nat.le_refl _, ?_, fun hh => absurd hh (Nat.lt_irrefl _)⟩
    intro k hk hk2 e
    have h2 := Go.Lib.indexByte_none (l := (s.extract i s.size).data.toList) (c := 10) (show cmtN s i = -1 by omega) (k - i)
    exact h2 (hno _ (by omega) (by rw [Nat.add_sub_cancel' hk]; exact e))
/-- A comment's end is what it is. -/
theorem cmt_is (s : ByteArray) (i e : Nat) (h : i ≤ e) (he : e ≤ s.size) (hn : ∀ k, i ≤ k → k < e → bt s k ≠ 10) (hl : e < s.size → bt s e = 10) : cmtEnd s i = e := by
  have hc := cmt_char s i (by omega)
  rcases Nat.lt_trichotomy (cmtEnd s i) e with h1 | h1 | h1
  · exact absurd (hc.2.2.2 (by omega)) (hn _ hc.1 h1)
  · exact h1
  · exact absurd (hl (by omega)) (hc.2.2.1 _ h h1)
theorem Tail.cmt {b s : ByteArray} {d : Nat} (h : Tail b s d) (i : Nat) (hi : i ≤ b.size) : cmtEnd s (d + i) = d + cmtEnd b i := by
  have hs := h.size
  have hc := cmt_char b i hi
  refine cmt_is _ _ _ (by omega) (by omega) ?_ ?_
  · intro k hk hk2
    obtain ⟨m, rfl⟩ : ∃ m, k = d + m := ⟨k - d, by omega⟩
    rw [h.eq]; exact hc.2.2.1 m (by omega) (by omega)
  · intro hh; rw [h.eq]; exact hc.2.2.2 (by omega)
theorem Tail.skip {b s : ByteArray} {d : Nat} (h : Tail b s d) : ∀ n i, i ≤ b.size → b.size ≤ i + n → skipU s (d + i) = d + skipU b i := by
  have hs := h.size
  intro n
  induction n with
  | zero => intro i hi h0; rw [skipU_out _ _ (by omega), skipU_out _ _ (by omega)]
  | succ n ih =>
    intro i hi h0
    by_cases hlt : i < b.size
    · have hc := cmt_bd b i hlt
      rw [skipU_step s _ (by omega), skipU_step b i hlt, h.eq, h.cmt i hi]
      by_cases h35 : bt b i = 35
      · have := hc.2.2.1 (by omega)
        rw [if_pos h35, if_pos h35]; exact ih _ hc.2.1 (by omega)
      · rw [if_neg h35, if_neg h35]
        split
        · exact ih (i+1) (by omega) (by omega)
        · rfl
    · rw [skipU_out _ _ (by omega), skipU_out _ _ (by omega)]
theorem Tail.skU {b s : ByteArray} {d : Nat} (h : Tail b s d) (i : Nat) (hi : i ≤ b.size) : skipU s (d + i) = d + skipU b i := h.skip b.size i hi (by omega)
/-! ### quoted texts -/
theorem Tail.digits {b s : ByteArray} {d : Nat} (h : Tail b s d) : ∀ n i r, digitsF s n (d + i) r = ((digitsF b n i r).1, d + (digitsF b n i r).2) := by
  intro n
  induction n with
  | zero => intro i r; rfl
  | succ n ih =>
    intro i r
    simp only [digitsF]
    rw [h.eq]
    by_cases h0 : hexV (bt b i) < 0
    · rw [if_pos h0, if_pos h0]
    · rw [if_neg h0, if_neg h0, Nat.add_assoc d i 1]; exact ih (i+1) _
theorem Tail.esR {b s : ByteArray} {d : Nat} (h : Tail b s d) (all : Bool) (i : Nat) : escR s all (d + i) = ((escR b all i).1, d + (escR b all i).2) := by
  unfold escR
  rw [show d + i + 1 = d + (i + 1) by omega, show d + i + 2 = d + (i + 2) by omega, h.eq, h.digits, h.digits]
  split
  · rfl
  · split <;> rfl
def shE (d : Nat) (x : List UInt8 × Nat) : List UInt8 × Nat := (x.1, d + x.2)
theorem Tail.es {b s : ByteArray} {d : Nat} (h : Tail b s d) (all : Bool) (i : Nat) : escF s all (d + i) = (escF b all i).map (shE d) := by
  unfold escF
  rw [h.esR]
  simp only
  split <;> rfl
theorem Tail.quF {b s : ByteArray} {d : Nat} (h : Tail b s d) (en : Int) (all : Bool) : ∀ f i acc, quotedF s en all f (d + i) acc = (quotedF b en all f i acc).map (shE d) := by
  have hs := h.size
  intro f
  induction f with
  | zero => intro i acc; rfl
  | succ f ih =>
    intro i acc
    have e1 : (s.size ≤ d + i ∨ (all = true ∧ (bt b i = 10 ∨ bt b i = 13))) ↔ (b.size ≤ i ∨ (all = true ∧ (bt b i = 10 ∨ bt b i = 13))) := by rw [hs]; exact or_congr_left (by omega)
    simp only [quotedF, h.eq, h.es, e1]
    by_cases h1 : bt b i = en
    · rw [if_pos h1, if_pos h1]; rfl
    · rw [if_neg h1, if_neg h1]
      by_cases h2 : b.size ≤ i ∨ (all = true ∧ (bt b i = 10 ∨ bt b i = 13))
      · rw [if_pos h2, if_pos h2]; rfl
      · rw [if_neg h2, if_neg h2]
        by_cases h3 : bt b i = 92
        · rw [if_pos h3, if_pos h3]
          cases he : escF b all i with
          | none => rfl
          | some x => obtain ⟨x1, x2⟩ := x; exact ih x2 _
        · rw [if_neg h3, if_neg h3]
          rw [show d + i + 1 = d + (i + 1) by omega]; exact ih (i+1) _
/-- Enough rounds are enough. -/
theorem quotedF_more (s : ByteArray) (en : Int) (all : Bool) (hen : 0 < en) : ∀ f g i acc, s.size ≤ i + f → s.size ≤ i + g → quotedF s en all f i acc = quotedF s en all g i acc := by
  intro f
  induction f with
  | zero => intro g i acc h _; rw [quotedF_out s en all g i acc hen (by omega), quotedF_out s en all 0 i acc hen (by omega)]
  | succ f ih =>
    intro g i acc h hg
    by_cases hi : s.size ≤ i
    · rw [quotedF_out s en all _ i acc hen hi, quotedF_out s en all _ i acc hen hi]
    · obtain ⟨g, rfl⟩ : ∃ k, g = k + 1 := ⟨g - 1, by omega⟩
      simp only [quotedF]
      split
      · rfl
      · split
        · rfl
        · split
          · split
            · rfl
            · rename_i b j he
              have := escF_bd s all i j b he
              exact ih g j _ (by omega) (by omega)
          · exact ih g (i+1) _ (by omega) (by omega)
theorem Tail.quU {b s : ByteArray} {d : Nat} (h : Tail b s d) (en : Int) (all : Bool) (hen : 0 < en) (i : Nat) : quotedU s en all (d + i) = (quotedU b en all i).map (shE d) := by
  have hs := h.size
  unfold quotedU
  rw [show d + i + 1 = d + (i + 1) by omega, quotedF_more s en all hen (s.size + 1) (b.size + 1 + d) _ _ (by omega) (by omega), h.quF, quotedF_more b en all hen (b.size + 1 + d) (b.size + 1) _ _ (by omega) (by omega)]
/-! ### runs -/
theorem runN_fuel (s : ByteArray) (p : Nat → Int → Bool) (i : Nat) : ∀ f g k, s.size ≤ i + k + f → s.size ≤ i + k + g → runN s p i f k = runN s p i g k := by
  intro f
  induction f with
  | zero => intro g k h _; rw [runN_out s p i g k (by omega)]; rfl
  | succ f ih =>
    intro g k h hg
    by_cases hi : s.size ≤ i + k
    · rw [runN_out s p i _ k hi, runN_out s p i _ k hi]
    · obtain ⟨g, rfl⟩ : ∃ m, g = m + 1 := ⟨g - 1, by omega⟩
      simp only [runN]
      split
      · exact ih g (k+1) (by omega) (by omega)
      · rfl
theorem Tail.ruN {b s : ByteArray} {d : Nat} (h : Tail b s d) (p : Nat → Int → Bool) (i : Nat) : ∀ f k, runN s p (d + i) f k = runN b p i f k := by
  have hs := h.size
  intro f
  induction f with
  | zero => intro k; rfl
  | succ f ih =>
    intro k
    have e1 : (d + i + k < s.size ∧ p k (bt b (i + k)) = true) ↔ (i + k < b.size ∧ p k (bt b (i + k)) = true) := by rw [hs]; exact and_congr_left' (by omega)
    simp only [runN, show d + i + k = d + (i + k) by omega, h.eq]
    rw [show d + i + k = d + (i + k) by omega] at e1
    simp only [e1, ih]
theorem Tail.ruU {b s : ByteArray} {d : Nat} (h : Tail b s d) (p : Nat → Int → Bool) (i : Nat) : runU s p (d + i) = runU b p i := by
  have hs := h.size
  unfold runU
  rw [h.ruN]; exact runN_fuel b p i _ _ 0 (by omega) (by omega)
end Go.Proofs.YtpfgjiahpddpkaaDoor
set_option linter.unusedVariables false
namespace Go.Proofs.YtpfgjiahpddpkaaDoor
open Go.RowKit
/-- A reader's answer, its places moved (the symbol's own place is laid later). -/
def shR (d : Nat) : LR → LR
  | .no => .no
  | .bad k => .bad (d + k)
  | .ok y j => .ok y (d + j)
def shY (d : Nat) (y : Sym) : Sym := { y with place := y.place + d }
def shN (d : Nat) : LR → LR
  | .no => .no
  | .bad k => .bad (d + k)
  | .ok y j => .ok (shY d y) (d + j)
theorem Tail.iri {b s : ByteArray} {d : Nat} (h : Tail b s d) (i : Nat) : iriF s (d + i) = shR d (iriF b i) := by
  unfold iriF
  rw [h.eq, h.quU 62 false (by decide)]
  split
  · cases quotedU b 62 false i with
    | none => rfl
    | some x =>
      obtain ⟨l, j⟩ := x
      simp only [Option.map_some, shE]
      split <;> rfl
  · rfl
theorem Tail.text {b s : ByteArray} {d : Nat} (h : Tail b s d) (i : Nat) : textF s (d + i) = shR d (textF b i) := by
  unfold textF
  rw [h.eq, h.quU 34 true (by decide)]
  split
  · cases quotedU b 34 true i with
    | none => rfl
    | some x => rfl
  · rfl
theorem Tail.blank {b s : ByteArray} {d : Nat} (h : Tail b s d) (i : Nat) : blankF s (d + i) = shR d (blankF b i) := by
  unfold blankF
  rw [show d + i + 1 = d + (i + 1) by omega, show d + i + 2 = d + (i + 2) by omega, h.eq, h.eq, h.ruU]
  by_cases h1 : bt b i = 95 ∧ bt b (i + 1) = 58
  · have := bt_in b (i+1) (by rw [h1.2]; decide)
    have := runU_bd b namedP (i+2) (by omega)
    rw [if_pos h1, if_pos h1, Nat.add_assoc d, h.ext _ _ (by omega)]
    split
    · rfl
    · split <;> rfl
  · rw [if_neg h1, if_neg h1]; rfl
theorem Tail.lang {b s : ByteArray} {d : Nat} (h : Tail b s d) (i : Nat) : langF s (d + i) = shR d (langF b i) := by
  unfold langF
  rw [show d + i + 1 = d + (i + 1) by omega, h.eq, h.ruU]
  by_cases h1 : bt b i = 64
  · have := bt_in b i (by rw [h1]; decide)
    have := runU_bd b langP (i+1) (by omega)
    rw [if_pos h1, if_pos h1, Nat.add_assoc d, h.ext _ _ (by omega)]
    split
    · rfl
    · split <;> rfl
  · rw [if_neg h1, if_neg h1]; rfl
theorem Tail.var {b s : ByteArray} {d : Nat} (h : Tail b s d) (i : Nat) : varF s (d + i) = shR d (varF b i) := by
  unfold varF
  rw [show d + i + 1 = d + (i + 1) by omega, h.eq, h.ruU]
  by_cases h1 : bt b i = 63
  · have := bt_in b i (by rw [h1]; decide)
    have := runU_bd b namedP (i+1) (by omega)
    rw [if_pos h1, if_pos h1, Nat.add_assoc d, h.ext _ _ (by omega)]
    split <;> rfl
  · rw [if_neg h1, if_neg h1]; rfl
theorem Tail.word {b s : ByteArray} {d : Nat} (h : Tail b s d) (i : Nat) (hi : i ≤ b.size) : wordF s (d + i) = shR d (wordF b i) := by
  have hr := runU_bd b namedP i hi
  unfold wordF
  simp only
  rw [h.ruU, show d + i + 1 = d + (i + 1) by omega, show d + i + runU b namedP i = d + (i + runU b namedP i) by omega, show d + (i + runU b namedP i) + 1 = d + (i + runU b namedP i + 1) by omega, h.eq, h.eq, h.eq, h.eq, h.ruU]
  by_cases h1 : letterB (bt b i) = true ∨ bt b i = 58 ∧ bt b (i + 1) ≠ 45
  · rw [if_pos h1, if_pos h1]
    by_cases h2 : 32 < runU b namedP i
    · rw [if_pos h2, if_pos h2]; rfl
    · rw [if_neg h2, if_neg h2]
      by_cases h3 : bt b (i + runU b namedP i) ≠ 58 ∨ bt b (i + runU b namedP i + 1) = 45
      · rw [if_pos h3, if_pos h3, h.ext _ _ (by omega)]; rfl
      · rw [if_neg h3, if_neg h3]
        have hin := bt_in b (i + runU b namedP i) (by
          by_cases hx : bt b (i + runU b namedP i) = 58
          · omega
          · exact absurd (.inl hx) h3)
        have hb2 := runU_bd b nameP (i + runU b namedP i + 1) (by omega)
        by_cases h4 : 64 < runU b nameP (i + runU b namedP i + 1)
        · rw [if_pos h4, if_pos h4]; rfl
        · rw [if_neg h4, if_neg h4, Nat.add_assoc d, h.ext _ _ (by omega)]; rfl
  · rw [if_neg h1, if_neg h1]; rfl
/-- A mark's bytes, one by one. -/
theorem prefix_bt (s : ByteArray) (i : Nat) (m : List UInt8) (hm : ∀ c ∈ m, 0 < c.toNat) : Go.Lib.hasPrefix (s.extract i s.size).data.toList m = true ↔ ∀ j (h : j < m.length), bt s (i + j) = (m[j].toNat : Int) := by
  have hget : ∀ j, (s.extract i s.size).data.toList[j]? = if i + j < s.size then some (byteOf (bt s (i + j))) else none := by
    intro j
    by_cases hj : i + j < s.size
    · rw [if_pos hj, at_list _ j (by rw [size_extract _ _ _ (by omega) (by omega)]; omega), bt_extract _ _ _ _ (by omega) (by omega)]
    · rw [if_neg hj, List.getElem?_eq_none]
      rw [← Go.Lib.size_eq]; simp; omega
  unfold Go.Lib.hasPrefix
  rw [List.isPrefixOf_iff_prefix, List.prefix_iff_getElem?]
  constructor
  · intro h j hj
    have h1 := h j hj
    rw [hget] at h1
    split at h1
    · have h2 : byteOf (bt s (i + j)) = m[j] := Option.some.inj h1
      have h0 := bt_lo s (i + j)
      have h3 := bt_hi s (i + j)
      rw [← h2]; unfold byteOf
      rw [show (bt s (i + j)).toNat.toUInt8.toNat = (bt s (i + j)).toNat % 256 from UInt8.toNat_ofNat']
      omega
    · cases h1
  · intro h j hj
    have h1 := h j hj
    have h2 := hm m[j] (List.getElem_mem hj)
    have h3 := bt_in s (i + j) (by omega)
    rw [hget, if_pos h3, h1]
    congr 1
    unfold byteOf
    rw [Int.toNat_natCast]
    exact UInt8.toNat_inj.1 (by rw [show (m[j].toNat.toUInt8).toNat = m[j].toNat % 256 from UInt8.toNat_ofNat']; have := m[j].toNat_lt; omega)
theorem marks_pos : ∀ m ∈ marksL, ∀ c ∈ m, 0 < c.toNat := by decide
theorem Tail.markGo {b s : ByteArray} {d : Nat} (h : Tail b s d) (i : Nat) : ∀ L : List (List UInt8), (∀ m ∈ L, ∀ c ∈ m, 0 < c.toNat) → markGo s (d + i) L = shR d (markGo b i L) := by
  intro L
  induction L with
  | nil => intro _; rfl
  | cons m L ih =>
    intro hL
    have e : Go.Lib.hasPrefix (s.extract (d + i) s.size).data.toList m = Go.Lib.hasPrefix (b.extract i b.size).data.toList m := by
      rw [Bool.eq_iff_iff, prefix_bt s _ m (hL m (by simp)), prefix_bt b _ m (hL m (by simp))]
      constructor <;> intro h1 j hj
      · rw [← h.eq, ← Nat.add_assoc]; exact h1 j hj
      · rw [Nat.add_assoc, h.eq]; exact h1 j hj
    simp only [Go.Proofs.YtpfgjiahpddpkaaDoor.markGo, e]
    split
    · simp only [shR]; rw [Nat.add_assoc]
    · exact ih (fun x hx => hL x (by simp [hx]))
theorem Tail.mark {b s : ByteArray} {d : Nat} (h : Tail b s d) (i : Nat) : markF s (d + i) = shR d (markF b i) := h.markGo i marksL marks_pos
theorem tryAll_cons (s : ByteArray) (i : Nat) (f : ByteArray → Nat → LR) (l : List (ByteArray → Nat → LR)) : tryAll s i (f :: l) = (match f s i with | .no => tryAll s i l | .bad k => .bad k | .ok y j => .ok { y with place := i } j) := rfl
theorem Tail.tryAll {b s : ByteArray} {d : Nat} (h : Tail b s d) (i : Nat) : ∀ L : List (ByteArray → Nat → LR), (∀ f ∈ L, f s (d + i) = shR d (f b i)) → tryAll s (d + i) L = shN d (tryAll b i L) := by
  intro L
  induction L with
  | nil => intro _; rfl
  | cons f L ih =>
    intro hL
    rw [tryAll_cons, tryAll_cons, hL f (by simp)]
    cases f b i with
    | no => exact ih (fun x hx => hL x (by simp [hx]))
    | bad k => rfl
    | ok y j =>
      simp only [shR, shN, shY]
      congr 2
      omega
theorem Tail.next {b s : ByteArray} {d : Nat} (h : Tail b s d) (i : Nat) (hi : i ≤ b.size) : nextF s (d + i) = shN d (nextF b i) := by
  have hs := h.size
  have hg := skipU_ge b i hi
  unfold nextF
  rw [h.skU i hi]
  by_cases h1 : skipU b i < b.size
  · rw [if_pos h1, if_pos (by omega)]
    refine h.tryAll _ readers ?_
    intro f hf
    simp only [readers, List.mem_cons, List.not_mem_nil, or_false] at hf
    rcases hf with rfl | rfl | rfl | rfl | rfl | rfl | rfl
    · exact h.iri _
    · exact h.blank _
    · exact h.text _
    · exact h.lang _
    · exact h.var _
    · exact h.word _ hg.2
    · exact h.mark _
  · rw [if_neg h1, if_neg (by omega)]; rfl
/-! ### symbols -/
def mapE (f : List Sym → List Sym) (g : Nat → Nat) : Except Nat (List Sym) → Except Nat (List Sym)
  | .ok l => .ok (f l)
  | .error k => .error (g k)
theorem symsF_acc (s : ByteArray) : ∀ f i acc, symsF s f i acc = mapE (acc ++ ·) id (symsF s f i []) := by
  intro f
  induction f with
  | zero => intro i acc; simp [symsF, mapE]
  | succ f ih =>
    intro i acc
    rw [symsF_step, symsF_step]
    cases nextF s i with
    | no => simp [mapE]
    | bad k => rfl
    | ok y j =>
      simp only
      rw [ih j (acc ++ [y]), ih j ([] ++ [y])]
      cases symsF s f j [] with
      | ok l => simp [mapE]
      | error k => rfl
theorem Tail.syms {b s : ByteArray} {d : Nat} (h : Tail b s d) : ∀ f i, i ≤ b.size → symsF s f (d + i) [] = mapE (·.map (shY d)) (d + ·) (symsF b f i []) := by
  intro f
  induction f with
  | zero => intro i _; rfl
  | succ f ih =>
    intro i hi
    have hgo := goes_next b i hi
    rw [symsF_step, symsF_step, h.next i hi]
    cases hR : nextF b i with
    | no => rfl
    | bad k => rfl
    | ok y j =>
      have := hgo y j hR
      simp only [shN]
      rw [symsF_acc s f (d + j), symsF_acc b f j, ih j (by omega)]
      cases symsF b f j [] with
      | ok l => simp [mapE]
      | error k => rfl
/-- Enough rounds are enough. -/
theorem symsF_more (s : ByteArray) : ∀ f g i, i ≤ s.size → s.size + 1 ≤ i + f → s.size + 1 ≤ i + g → symsF s f i [] = symsF s g i [] := by
  intro f
  induction f with
  | zero => intro g i h h0; omega
  | succ f ih =>
    intro g i hi h hg
    obtain ⟨g, rfl⟩ : ∃ m, g = m + 1 := ⟨g - 1, by omega⟩
    have hgo := goes_next s i hi
    rw [symsF_step, symsF_step]
    cases hR : nextF s i with
    | no => rfl
    | bad k => rfl
    | ok y j =>
      have := hgo y j hR
      simp only
      rw [symsF_acc s f j, symsF_acc s g j, ih g j (by omega) (by omega) (by omega)]
end Go.Proofs.YtpfgjiahpddpkaaDoor
set_option linter.unusedVariables false
namespace Go.Proofs.YtpfgjiahpddpkaaDoor
open Go.RowKit
/-- s begins with a, and a line's end. -/
structure Head (a s : ByteArray) : Prop where
  size : a.size < s.size
  eq : ∀ k, k < a.size → bt s k = bt a k
  nl : bt s a.size = 10
theorem Head.is {a s : ByteArray} (h : Head a s) (k : Nat) (hk : k ≤ a.size) (c : Int) (h0 : c ≠ 0) (h1 : c ≠ 10) : bt s k = c ↔ bt a k = c := by
  rcases Nat.lt_or_ge k a.size with h2 | h2
  · rw [h.eq k h2]
  · obtain rfl : k = a.size := by omega
    rw [h.nl, bt_out a _ (Nat.le_refl _)]
    omega
theorem Head.ext {a s : ByteArray} (h : Head a s) (i j : Nat) (hj : j ≤ a.size) : s.extract i j = a.extract i j := by
  have hs := h.size
  by_cases hij : i ≤ j
  · refine ba_ext _ _ ?_ ?_
    · rw [size_extract _ _ _ hij (by omega), size_extract _ _ _ hij hj]
    · intro k hk
      rw [size_extract _ _ _ hij (by omega)] at hk
      rw [bt_extract _ _ _ _ (by omega) (by omega), bt_extract _ _ _ _ hj (by omega), h.eq _ (by omega)]
  · refine ba_ext _ _ ?_ ?_
    · simp; omega
    · intro k hk; simp at hk; omega
theorem Head.cmt {a s : ByteArray} (h : Head a s) (i : Nat) (hi : i ≤ a.size) : cmtEnd s i = cmtEnd a i := by
  have hs := h.size
  have hc := cmt_char a i hi
  refine cmt_is _ _ _ hc.1 (by omega) ?_ ?_
  · intro k hk hk2
    rw [h.eq k (by omega)]; exact hc.2.2.1 k hk hk2
  · intro _
    rcases Nat.lt_or_ge (cmtEnd a i) a.size with h2 | h2
    · rw [h.eq _ h2]; exact hc.2.2.2 h2
    · rw [show cmtEnd a i = a.size by omega]; exact h.nl
theorem Head.skip {a s : ByteArray} (h : Head a s) : ∀ n i, i ≤ a.size → a.size ≤ i + n → skipU s i = if skipU a i < a.size then skipU a i else skipU s (a.size + 1) := by
  have hs := h.size
  have hend : skipU s a.size = skipU s (a.size + 1) := by
    rw [skipU_step s _ hs, h.nl, if_neg (by decide), if_pos (by decide)]
  intro n
  induction n with
  | zero =>
    intro i hi h0
    obtain rfl : i = a.size := by omega
    rw [skipU_out a _ (by omega), if_neg (by omega), hend]
  | succ n ih =>
    intro i hi h0
    by_cases hlt : i < a.size
    · have hc := cmt_bd a i hlt
      rw [skipU_step s _ (by omega), skipU_step a i hlt, h.eq i hlt, h.cmt i hi]
      by_cases h35 : bt a i = 35
      · have := hc.2.2.1 (by omega)
        rw [if_pos h35, if_pos h35]; exact ih _ hc.2.1 (by omega)
      · rw [if_neg h35, if_neg h35]
        split
        · exact ih (i+1) (by omega) (by omega)
        · first | rfl | rw [if_pos hlt]
    · obtain rfl : i = a.size := by omega
      rw [skipU_out a _ (by omega), if_neg (by omega), hend]
theorem hexV_zero : hexV 0 = -1 := by decide
theorem Head.digits {a s : ByteArray} (h : Head a s) : ∀ n i r, 0 ≤ (digitsF a n i r).1 → digitsF s n i r = digitsF a n i r := by
  intro n
  induction n with
  | zero => intro i r _; rfl
  | succ n ih =>
    intro i r h0
    simp only [digitsF] at h0 ⊢
    by_cases h1 : hexV (bt a i) < 0
    · rw [if_pos h1] at h0; simp at h0
    · rw [if_neg h1] at h0
      have hi : i < a.size := by
        rcases Nat.lt_or_ge i a.size with h2 | h2
        · exact h2
        · rw [bt_out a i h2, hexV_zero] at h1; exact absurd (by decide) h1
      rw [h.eq i hi, if_neg h1, if_neg h1]
      exact ih _ _ h0
theorem mayB_pos (r : Int) (h : mayB r = true) : 0 ≤ r := by
  unfold mayB at h; simp at h; omega
theorem escK_zero : escK 0 = -1 := by decide
theorem Head.es {a s : ByteArray} (h : Head a s) (all : Bool) (i : Nat) (x : List UInt8 × Nat) (hx : escF a all i = some x) : escF s all i = some x := by
  unfold escF at hx ⊢
  by_cases hm : mayB (escR a all i).1 = true
  · rw [if_pos hm] at hx
    have h0 := mayB_pos _ hm
    have hi : i + 1 < a.size := by
      rcases Nat.lt_or_ge (i+1) a.size with h2 | h2
      · exact h2
      · unfold escR at h0
        rw [bt_out a _ h2, if_neg (by decide), if_neg (by decide), escK_zero] at h0
        cases all <;> simp at h0
    have e : escR s all i = escR a all i := by
      unfold escR at h0 ⊢
      rw [h.eq _ hi]
      by_cases h1 : bt a (i + 1) = 117
      · rw [if_pos h1] at h0; rw [if_pos h1, if_pos h1]; exact h.digits _ _ _ h0
      · rw [if_neg h1] at h0; rw [if_neg h1, if_neg h1]
        by_cases h2 : bt a (i + 1) = 85
        · rw [if_pos h2] at h0; rw [if_pos h2, if_pos h2]; exact h.digits _ _ _ h0
        · rw [if_neg h2, if_neg h2]
    rw [e, if_pos hm]; exact hx
  · rw [if_neg hm] at hx; cases hx
theorem Head.quF {a s : ByteArray} (h : Head a s) (en : Int) (all : Bool) (hen : 0 < en) : ∀ f i acc x, quotedF a en all f i acc = some x → quotedF s en all f i acc = some x := by
  have hs := h.size
  intro f
  induction f with
  | zero => intro i acc x hx; cases hx
  | succ f ih =>
    intro i acc x hx
    have hi : i < a.size := by
      rcases Nat.lt_or_ge i a.size with h2 | h2
      · exact h2
      · rw [quotedF_out a en all _ i acc hen h2] at hx; cases hx
    simp only [quotedF] at hx ⊢
    rw [h.eq i hi]
    by_cases h1 : bt a i = en
    · rw [if_pos h1] at hx; rw [if_pos h1]; exact hx
    · rw [if_neg h1] at hx; rw [if_neg h1]
      by_cases h2 : a.size ≤ i ∨ (all = true ∧ (bt a i = 10 ∨ bt a i = 13))
      · rw [if_pos h2] at hx; cases hx
      · rw [if_neg h2] at hx
        rw [if_neg (fun h3 => h2 (h3.elim (fun h4 => absurd h4 (by omega)) .inr))]
        by_cases h3 : bt a i = 92
        · rw [if_pos h3] at hx; rw [if_pos h3]
          cases he : escF a all i with
          | none => rw [he] at hx; cases hx
          | some y =>
            rw [he] at hx
            rw [h.es all i y he]
            obtain ⟨y1, y2⟩ := y
            exact ih _ _ _ hx
        · rw [if_neg h3] at hx; rw [if_neg h3]; exact ih _ _ _ hx
theorem quotedF_up (s : ByteArray) (en : Int) (all : Bool) : ∀ f i acc x d, quotedF s en all f i acc = some x → quotedF s en all (f + d) i acc = some x := by
  intro f
  induction f with
  | zero => intro i acc x d hx; cases hx
  | succ f ih =>
    intro i acc x d hx
    rw [show f + 1 + d = (f + d) + 1 by omega]
    simp only [quotedF] at hx ⊢
    split at hx
    · rename_i h1; rw [if_pos h1]; exact hx
    · rename_i h1; rw [if_neg h1]
      split at hx
      · cases hx
      · rename_i h2; rw [if_neg h2]
        split at hx
        · rename_i h3; rw [if_pos h3]
          split at hx
          · cases hx
          · exact ih _ _ _ d hx
        · rename_i h3; rw [if_neg h3]; exact ih _ _ _ d hx
theorem Head.quU {a s : ByteArray} (h : Head a s) (en : Int) (all : Bool) (hen : 0 < en) (i : Nat) (x : List UInt8 × Nat) (hx : quotedU a en all i = some x) : quotedU s en all i = some x := by
  have hs := h.size
  unfold quotedU at hx ⊢
  have h1 := quotedF_up s en all _ _ _ _ (s.size - a.size) (h.quF en all hen _ _ _ _ hx)
  rw [show a.size + 1 + (s.size - a.size) = s.size + 1 by omega] at h1
  exact h1
theorem Head.ruN {a s : ByteArray} (h : Head a s) (p : Nat → Int → Bool) (hp : ∀ k, p k 10 = false) (i : Nat) : ∀ f k, i + k ≤ a.size → runN s p i f k = runN a p i f k := by
  have hs := h.size
  intro f
  induction f with
  | zero => intro k _; rfl
  | succ f ih =>
    intro k hk
    simp only [runN]
    rcases Nat.lt_or_ge (i + k) a.size with h2 | h2
    · rw [h.eq _ h2]
      by_cases h3 : p k (bt a (i + k)) = true
      · rw [if_pos ⟨by omega, h3⟩, if_pos ⟨h2, h3⟩]; exact ih _ (by omega)
      · rw [if_neg (fun h4 => h3 h4.2), if_neg (fun h4 => h3 h4.2)]
    · have e : i + k = a.size := by omega
      rw [e, h.nl, hp, if_neg (fun h4 => by cases h4.2), if_neg (fun h4 => absurd h4.1 (Nat.lt_irrefl _))]
theorem Head.ruU {a s : ByteArray} (h : Head a s) (p : Nat → Int → Bool) (hp : ∀ k, p k 10 = false) (i : Nat) (hi : i ≤ a.size) : runU s p i = runU a p i := by
  have hs := h.size
  unfold runU
  rw [h.ruN p hp i _ 0 (by omega)]
  exact runN_fuel a p i _ _ 0 (by omega) (by omega)
theorem namedP_nl : ∀ k, namedP k 10 = false := by intro k; simp [namedP, namedB, letterB, digitB]
theorem langP_nl : ∀ k, langP k 10 = false := by intro k; simp [langP, digitB]
theorem nameP_nl : ∀ k, nameP k 10 = false := by intro k; simp [nameP, letterB, digitB]
/-- An answer that is no refusal. -/
def Fine (R : LR) : Prop := ∀ k, R ≠ .bad k
theorem Head.iri {a s : ByteArray} (h : Head a s) (i : Nat) (hi : i < a.size) (hf : Fine (iriF a i)) : iriF s i = iriF a i := by
  unfold iriF at hf ⊢
  rw [h.eq i hi]
  by_cases h1 : bt a i = 60
  · rw [if_pos h1] at hf; rw [if_pos h1, if_pos h1]
    cases hq : quotedU a 62 false i with
    | none => rw [hq] at hf; exact absurd rfl (hf i)
    | some x => rw [h.quU 62 false (by decide) i x hq]
  · rw [if_neg h1, if_neg h1]
theorem Head.text {a s : ByteArray} (h : Head a s) (i : Nat) (hi : i < a.size) (hf : Fine (textF a i)) : textF s i = textF a i := by
  unfold textF at hf ⊢
  rw [h.eq i hi]
  by_cases h1 : bt a i = 34
  · rw [if_pos h1] at hf; rw [if_pos h1, if_pos h1]
    cases hq : quotedU a 34 true i with
    | none => rw [hq] at hf; exact absurd rfl (hf i)
    | some x => rw [h.quU 34 true (by decide) i x hq]
  · rw [if_neg h1, if_neg h1]
theorem Head.blank {a s : ByteArray} (h : Head a s) (i : Nat) (hi : i < a.size) : blankF s i = blankF a i := by
  unfold blankF
  by_cases h1 : bt a i = 95 ∧ bt a (i + 1) = 58
  · have := bt_in a (i+1) (by rw [h1.2]; decide)
    have := runU_bd a namedP (i+2) (by omega)
    rw [if_pos ⟨(h.is i (by omega) 95 (by decide) (by decide)).2 h1.1, (h.is (i+1) (by omega) 58 (by decide) (by decide)).2 h1.2⟩, if_pos h1, h.ruU namedP namedP_nl _ (by omega), h.ext _ _ (by omega)]
  · rw [if_neg h1, if_neg (fun h2 => h1 ⟨(h.is i (by omega) 95 (by decide) (by decide)).1 h2.1, (h.is (i+1) (by omega) 58 (by decide) (by decide)).1 h2.2⟩)]
theorem Head.lang {a s : ByteArray} (h : Head a s) (i : Nat) (hi : i < a.size) : langF s i = langF a i := by
  unfold langF
  rw [h.eq i hi]
  by_cases h1 : bt a i = 64
  · have := runU_bd a langP (i+1) (by omega)
    rw [if_pos h1, if_pos h1, h.ruU langP langP_nl _ (by omega), h.ext _ _ (by omega)]
  · rw [if_neg h1, if_neg h1]
theorem Head.var {a s : ByteArray} (h : Head a s) (i : Nat) (hi : i < a.size) : varF s i = varF a i := by
  unfold varF
  rw [h.eq i hi]
  by_cases h1 : bt a i = 63
  · have := runU_bd a namedP (i+1) (by omega)
    rw [if_pos h1, if_pos h1, h.ruU namedP namedP_nl _ (by omega), h.ext _ _ (by omega)]
  · rw [if_neg h1, if_neg h1]
theorem Head.word {a s : ByteArray} (h : Head a s) (i : Nat) (hi : i < a.size) : wordF s i = wordF a i := by
  have hr := runU_bd a namedP i (by omega)
  unfold wordF
  simp only
  rw [h.ruU namedP namedP_nl i (by omega), h.eq i hi]
  have e1 : (letterB (bt a i) = true ∨ bt a i = 58 ∧ bt s (i + 1) ≠ 45) ↔ (letterB (bt a i) = true ∨ bt a i = 58 ∧ bt a (i + 1) ≠ 45) :=
    or_congr_right (and_congr_right' (not_congr (h.is (i+1) (by omega) 45 (by decide) (by decide))))
  by_cases h1 : letterB (bt a i) = true ∨ bt a i = 58 ∧ bt a (i + 1) ≠ 45
  · rw [if_pos (e1.2 h1), if_pos h1]
    by_cases h2 : 32 < runU a namedP i
    · rw [if_pos h2, if_pos h2]
    · rw [if_neg h2, if_neg h2]
      generalize runU a namedP i = n at *
      have e2 := h.is (i + n) (by omega) 58 (by decide) (by decide)
      by_cases h5 : bt a (i + n) = 58
      · have hin := bt_in a (i + n) (by omega)
        have e3 := h.is (i + n + 1) (by omega) 45 (by decide) (by decide)
        by_cases h6 : bt a (i + n + 1) = 45
        · rw [if_pos (.inr (e3.2 h6)), if_pos (.inr h6), h.ext _ _ (by omega)]
        · have c1 : ¬ (bt s (i + n) ≠ 58 ∨ bt s (i + n + 1) = 45) := fun h7 => h7.elim (fun h8 => h8 (e2.2 h5)) (fun h8 => h6 (e3.1 h8))
          have c2 : ¬ (bt a (i + n) ≠ 58 ∨ bt a (i + n + 1) = 45) := fun h7 => h7.elim (fun h8 => h8 h5) h6
          have hb2 := runU_bd a nameP (i + n + 1) (by omega)
          rw [if_neg c1, if_neg c2, h.ruU nameP nameP_nl _ (by omega), h.ext _ _ (by omega)]
      · rw [if_pos (.inl (fun h7 => h5 (e2.1 h7))), if_pos (.inl h5), h.ext _ _ (by omega)]
  · rw [if_neg (fun h2 => h1 (e1.1 h2)), if_neg h1]
theorem marks_small : ∀ m ∈ marksL, m.length ≤ 2 ∧ ∀ c ∈ m, c.toNat ≠ 10 := by decide
theorem Head.markGo {a s : ByteArray} (h : Head a s) (i : Nat) (hi : i < a.size) : ∀ L : List (List UInt8), (∀ m ∈ L, ∀ c ∈ m, 0 < c.toNat) → (∀ m ∈ L, m.length ≤ 2 ∧ ∀ c ∈ m, c.toNat ≠ 10) → markGo s i L = markGo a i L := by
  intro L
  induction L with
  | nil => intro _ _; rfl
  | cons m L ih =>
    intro hL hL2
    have hm := hL2 m (by simp)
    have e : Go.Lib.hasPrefix (s.extract i s.size).data.toList m = Go.Lib.hasPrefix (a.extract i a.size).data.toList m := by
      rw [Bool.eq_iff_iff, prefix_bt s _ m (hL m (by simp)), prefix_bt a _ m (hL m (by simp))]
      have hk : ∀ j (hj : j < m.length), bt s (i + j) = (m[j].toNat : Int) ↔ bt a (i + j) = (m[j].toNat : Int) := by
        intro j hj
        have h1 := hL m (by simp) m[j] (List.getElem_mem hj)
        have h2 := hm.2 m[j] (List.getElem_mem hj)
        exact h.is (i + j) (by omega) _ (by omega) (by omega)
      exact ⟨fun h1 j hj => (hk j hj).1 (h1 j hj), fun h1 j hj => (hk j hj).2 (h1 j hj)⟩
    simp only [Go.Proofs.YtpfgjiahpddpkaaDoor.markGo, e]
    split
    · rfl
    · exact ih (fun x hx => hL x (by simp [hx])) (fun x hx => hL2 x (by simp [hx]))
theorem Head.tryAll {a s : ByteArray} (h : Head a s) (i : Nat) : ∀ L : List (ByteArray → Nat → LR), (∀ f ∈ L, Fine (f a i) → f s i = f a i) → Fine (tryAll a i L) → tryAll s i L = tryAll a i L := by
  intro L
  induction L with
  | nil => intro _ _; rfl
  | cons f L ih =>
    intro hL hf
    rw [tryAll_cons] at hf
    rw [tryAll_cons, tryAll_cons]
    have h1 : Fine (f a i) := by
      intro k e; rw [e] at hf; exact hf k rfl
    rw [hL f (by simp) h1]
    cases hR : f a i with
    | no => rw [hR] at hf; exact ih (fun x hx => hL x (by simp [hx])) hf
    | bad k => rfl
    | ok y j => rfl
theorem tryAll_not_no (s : ByteArray) (i : Nat) : ∀ L : List (ByteArray → Nat → LR), tryAll s i L ≠ .no := by
  intro L
  induction L with
  | nil => intro h; cases h
  | cons f L ih =>
    rw [tryAll_cons]
    cases f s i with
    | no => exact ih
    | bad k => intro h; cases h
    | ok y j => intro h; cases h
theorem Head.next {a s : ByteArray} (h : Head a s) (i : Nat) (hi : i ≤ a.size) (hf : Fine (nextF a i)) : nextF s i = match nextF a i with | .no => nextF s (a.size + 1) | R => R := by
  have hs := h.size
  have hg := skipU_ge a i hi
  have hsk := h.skip a.size i hi (by omega)
  unfold nextF at hf ⊢
  rw [hsk]
  by_cases h1 : skipU a i < a.size
  · rw [if_pos h1] at hf
    rw [if_pos h1, if_pos (by omega), if_pos h1]
    have e : Go.Proofs.YtpfgjiahpddpkaaDoor.tryAll s (skipU a i) readers = Go.Proofs.YtpfgjiahpddpkaaDoor.tryAll a (skipU a i) readers := by
      refine h.tryAll _ readers ?_ hf
      intro f hf2 hfi
      simp only [readers, List.mem_cons, List.not_mem_nil, or_false] at hf2
      rcases hf2 with rfl | rfl | rfl | rfl | rfl | rfl | rfl
      · exact h.iri _ h1 hfi
      · exact h.blank _ h1
      · exact h.text _ h1 hfi
      · exact h.lang _ h1
      · exact h.var _ h1
      · exact h.word _ h1
      · exact h.markGo _ h1 marksL marks_pos marks_small
    rw [e]
    cases hR : Go.Proofs.YtpfgjiahpddpkaaDoor.tryAll a (skipU a i) readers with
    | no => exact absurd hR (tryAll_not_no a _ readers)
    | bad k => rfl
    | ok y j => rfl
  · rw [if_neg h1, if_neg h1]
end Go.Proofs.YtpfgjiahpddpkaaDoor
set_option linter.unusedVariables false
namespace Go.Proofs.YtpfgjiahpddpkaaDoor
open Go.RowKit
theorem mapE_nil (x : Except Nat (List Sym)) : mapE (fun l => [] ++ l) id x = x := by cases x <;> rfl
theorem mapE_comp (la : List Sym) (y : Sym) (x : Except Nat (List Sym)) : mapE (fun l => [] ++ [y] ++ l) id (mapE (fun l => la ++ l) id x) = mapE (fun l => (y :: la) ++ l) id x := by cases x <;> rfl
theorem Head.syms {a s : ByteArray} (h : Head a s) : ∀ f i la, i ≤ a.size → symsF a f i [] = .ok la → a.size + 1 ≤ i + f → ∀ g, s.size + 1 ≤ i + g → symsF s g i [] = mapE (la ++ ·) id (symsF s (s.size + 1) (a.size + 1) []) := by
  have hs := h.size
  intro f
  induction f with
  | zero => intro i la hi _ h0; omega
  | succ f ih =>
    intro i la hi hla h0 g hg
    obtain ⟨g, rfl⟩ : ∃ m, g = m + 1 := ⟨g - 1, by omega⟩
    have hgo := goes_next a i hi
    have hn := h.next i hi
    rw [symsF_step] at hla
    cases hR : nextF a i with
    | no =>
      rw [hR] at hla hn
      have hn2 := hn (fun k e => by cases e)
      simp only at hla hn2
      obtain rfl : la = [] := by injection hla with e; exact e.symm
      rw [mapE_nil, symsF_step, hn2, ← symsF_step]
      exact symsF_more s _ _ _ (by omega) (by omega) (by omega)
    | bad k => rw [hR] at hla; cases hla
    | ok y j =>
      rw [hR] at hla hn
      have hn2 := hn (fun k e => by cases e)
      simp only at hla hn2
      have hj := hgo y j hR
      rw [symsF_acc] at hla
      cases hx : symsF a f j [] with
      | error k => rw [hx] at hla; cases hla
      | ok l =>
        rw [hx] at hla
        obtain rfl : y :: l = la := by injection hla
        rw [symsF_step, hn2]
        simp only
        rw [symsF_acc, ih j l (by omega) hx (by omega) g (by omega), mapE_comp]
/-! ### where the runes end -/
theorem bt_tail (s : ByteArray) (i k : Nat) (hi : i ≤ s.size) : bt (s.extract i s.size) k = bt s (i + k) := by
  have h := size_extract s i s.size hi (Nat.le_refl _)
  rcases Nat.lt_or_ge k (s.size - i) with h1 | h1
  · exact bt_extract s i s.size k (Nat.le_refl _) h1
  · rw [bt_out _ _ (by omega), bt_out _ _ (by omega)]
theorem getL_tail (s : ByteArray) (i : Nat) (hi : i ≤ s.size) : ∀ d k r, getL (s.extract i s.size) d k r = getL s d (i + k) r := by
  intro d
  induction d with
  | zero => intro k r; rfl
  | succ d ih =>
    intro k r
    simp only [getL]
    rw [bt_tail s i _ hi, ih, show i + k + 1 = i + (k + 1) by omega]
theorem getAt_is (s : ByteArray) (i : Nat) (hi : i < s.size) : getAt s i = if (headU (bt s i)).2 < 0 ∨ ((s.size - i : Nat) : Int) ≤ (headU (bt s i)).2 then (0, 0, 4) else getE (getL s (headU (bt s i)).2.toNat i (headU (bt s i)).1) (headU (bt s i)).2 := by
  have h := size_extract s i s.size (by omega) (Nat.le_refl _)
  unfold getAt getU
  rw [if_neg (by omega), bt_tail s i 0 (by omega), Nat.add_zero, getL_tail s i (by omega), Nat.add_zero, h]
theorem Head.getL {a s : ByteArray} (h : Head a s) : ∀ d i r, i + d < a.size → getL s d i r = getL a d i r := by
  intro d
  induction d with
  | zero => intro i r _; rfl
  | succ d ih =>
    intro i r hi
    simp only [Go.Proofs.YtpfgjiahpddpkaaDoor.getL]
    rw [h.eq _ (by omega), ih _ _ (by omega)]
theorem Head.getAt {a s : ByteArray} (h : Head a s) (i : Nat) (hi : i < a.size) (r : Int) (n : Nat) (hg : getAt a i = (r, (n : Int), 0)) : getAt s i = (r, (n : Int), 0) := by
  have hs := h.size
  rw [getAt_is a i hi] at hg
  rw [getAt_is s i (by omega), h.eq i hi]
  by_cases h1 : (headU (bt a i)).2 < 0 ∨ ((a.size - i : Nat) : Int) ≤ (headU (bt a i)).2
  · rw [if_pos h1] at hg; cases hg
  · rw [if_neg h1] at hg
    rw [if_neg (by omega), h.getL _ _ _ (by omega)]; exact hg
theorem endF_more (s : ByteArray) : ∀ f g i, s.size ≤ i + f → s.size ≤ i + g → endF s f i = endF s g i := by
  intro f
  induction f with
  | zero =>
    intro g i h hg
    cases g with
    | zero => rfl
    | succ g => simp only [endF]; rw [if_neg (by omega)]
  | succ f ih =>
    intro g i h hg
    by_cases hi : i < s.size
    · obtain ⟨g, rfl⟩ : ∃ m, g = m + 1 := ⟨g - 1, by omega⟩
      simp only [endF]
      rw [if_pos hi, if_pos hi]
      rcases getAt_cases s i hi with h1 | ⟨r, n, h1, h2, _⟩
      · rw [h1]; rfl
      · rw [h1]
        simp only [Int.toNat_natCast, if_true]
        exact ih _ _ (by omega) (by omega)
    · cases g with
      | zero => simp only [endF]; rw [if_neg hi]
      | succ g => simp only [endF]; rw [if_neg hi, if_neg hi]
theorem Tail.getAt {b s : ByteArray} {d : Nat} (h : Tail b s d) (i : Nat) : getAt s (d + i) = getAt b i := by
  have hs := h.size
  unfold Go.Proofs.YtpfgjiahpddpkaaDoor.getAt
  rw [hs, h.ext i b.size (Nat.le_refl _)]
theorem Tail.endF {b s : ByteArray} {d : Nat} (h : Tail b s d) : ∀ f i, endF s f (d + i) = d + endF b f i := by
  have hs := h.size
  intro f
  induction f with
  | zero => intro i; rfl
  | succ f ih =>
    intro i
    simp only [Go.Proofs.YtpfgjiahpddpkaaDoor.endF]
    rw [h.getAt]
    by_cases hi : i < b.size
    · rw [if_pos hi, if_pos (by omega)]
      split
      · rw [Nat.add_assoc]; exact ih _
      · rfl
    · rw [if_neg hi, if_neg (by omega)]
theorem Head.endF {a s : ByteArray} (h : Head a s) : ∀ f i, i ≤ a.size → a.size ≤ i + f → endF a f i = a.size → ∀ g, s.size ≤ i + g → endF s g i = endF s s.size a.size := by
  have hs := h.size
  intro f
  induction f with
  | zero =>
    intro i hi h0 _ g hg
    obtain rfl : i = a.size := by omega
    exact endF_more s _ _ _ hg (by omega)
  | succ f ih =>
    intro i hi h0 he g hg
    by_cases hlt : i < a.size
    · simp only [Go.Proofs.YtpfgjiahpddpkaaDoor.endF] at he
      rw [if_pos hlt] at he
      rcases getAt_cases a i hlt with h1 | ⟨r, n, h1, h2, h3, h4, _⟩
      · rw [h1, if_neg (by decide)] at he; omega
      · rw [h1] at he
        simp only [Int.toNat_natCast, if_true] at he
        obtain ⟨g, rfl⟩ : ∃ m, g = m + 1 := ⟨g - 1, by omega⟩
        simp only [Go.Proofs.YtpfgjiahpddpkaaDoor.endF]
        rw [if_pos (by omega), h.getAt i hlt r n h1]
        simp only [Int.toNat_natCast, if_true]
        exact ih _ h4 (by omega) he g (by omega)
    · obtain rfl : i = a.size := by omega
      exact endF_more s _ _ _ hg (by omega)
theorem getAt_nl (s : ByteArray) (i : Nat) (hi : i < s.size) (h : bt s i = 10) : getAt s i = (10, 1, 0) := by
  have h3 : headU 10 = (10, 0) := by decide
  rw [getAt_is s i hi, h, h3, if_neg (by simp; omega)]
  rfl
theorem end_cat {a b s : ByteArray} (h : Head a s) (t : Tail b s (a.size + 1)) (ha : endU a = a.size) : endU s = a.size + 1 + endU b := by
  have hs := h.size
  have ht := t.size
  unfold endU at ha ⊢
  rw [h.endF a.size 0 (by omega) (by omega) ha s.size (by omega)]
  obtain ⟨n, hn⟩ : ∃ n, s.size = n + 1 := ⟨s.size - 1, by omega⟩
  have e1 : endF s (n + 1) a.size = endF s n (a.size + 1) := by
    conv => lhs; unfold endF
    rw [if_pos (by omega), getAt_nl s _ hs h.nl]; rfl
  have e2 := t.endF b.size 0
  rw [hn, e1, endF_more s n b.size _ (by omega) (by omega)]
  exact e2
theorem all_ok (a : ByteArray) (la : List Sym) (h : allF a = (la, 0, 0)) : a.size ≤ 1048576 ∧ endU a = a.size ∧ symsF a (a.size + 1) 0 [] = .ok la := by
  unfold allF at h
  have hle := endU_le a
  by_cases h1 : 1048576 < a.size
  · rw [if_pos h1] at h; simp at h
  · rw [if_neg h1] at h
    by_cases h2 : endU a < a.size
    · rw [if_pos h2] at h; simp at h
    · rw [if_neg h2] at h
      refine ⟨by omega, by omega, ?_⟩
      cases hx : symsF a (a.size + 1) 0 [] with
      | ok l => rw [hx] at h; simp only [Prod.mk.injEq, and_true] at h; rw [h]
      | error k => rw [hx] at h; simp at h
theorem all_is (b : ByteArray) (hb : b.size ≤ 1048576) : allF b = if endU b < b.size then (([] : List Sym), (endU b : Int), (4 : Int)) else allR b := by
  exact if_neg (by omega)
theorem all_cat {a b s : ByteArray} (h : Head a s) (t : Tail b s (a.size + 1)) (hs : s.size ≤ 1048576) (la : List Sym) (ha : allF a = (la, 0, 0)) :
    allF s = if (allF b).2.2 = 0 then (la ++ (allF b).1.map (shY (a.size + 1)), 0, 0) else ([], (a.size : Int) + 1 + (allF b).2.1, 4) := by
  obtain ⟨h1, h2, h3⟩ := all_ok a la ha
  have ht := t.size
  have he := end_cat h t h2
  rw [all_is s hs, all_is b (by omega), he]
  by_cases hb : endU b < b.size
  · rw [if_pos hb, if_pos (by omega), if_neg (by simp)]
    simp
  · rw [if_neg hb, if_neg (by omega)]
    unfold allR
    rw [h.syms (a.size + 1) 0 la (by omega) h3 (by omega) (s.size + 1) (by omega)]
    have e := t.syms (s.size + 1) 0 (by omega)
    rw [Nat.add_zero] at e
    rw [e, symsF_more b (s.size + 1) (b.size + 1) 0 (by omega) (by omega) (by omega)]
    cases symsF b (b.size + 1) 0 [] with
    | ok l => simp [mapE]
    | error k => simp [mapE]
end Go.Proofs.YtpfgjiahpddpkaaDoor
