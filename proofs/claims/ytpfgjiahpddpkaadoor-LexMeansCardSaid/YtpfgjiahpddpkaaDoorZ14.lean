/- A term's text has its symbols alone; they are read as it. Plain laws. A term's text is read as it. The plain law. -/
import Derived.Test.YtpfgjiahpddpkaaDoorZ13
import Derived.Test.YtpfgjiahpddpkaaDoorZ12
set_option linter.unusedVariables false
namespace Go.Proofs.YtpfgjiahpddpkaaDoor
open Go.RowKit
theorem syms_end (s : ByteArray) : symsF s (s.size + 1) s.size [] = .ok [] := by
  rw [symsF_step]
  have : nextF s s.size = .no := by unfold nextF; rw [skipU_out s _ (Nat.le_refl _), if_neg (Nat.lt_irrefl _)]
  rw [this]
theorem syms_cons (s : ByteArray) (i j : Nat) (y : Sym) (l : List Sym) (hi : i ≤ s.size) (h : nextF s i = .ok y j) (hl : symsF s (s.size + 1) j [] = .ok l) : symsF s (s.size + 1) i [] = .ok (y :: l) := by
  have hg := goes_next s i hi y j h
  rw [symsF_step, h]
  simp only
  rw [symsF_acc, symsF_more s s.size (s.size + 1) j (by omega) (by omega) (by omega), hl]
  rfl
theorem skip_here (s : ByteArray) (i : Nat) (hi : i < s.size) (h : bt s i ≠ 35) (h2 : spaceC (bt s i) = false) : skipU s i = i := by
  rw [skipU_step s i hi, if_neg h, h2]; rfl
theorem next_is (s : ByteArray) (i : Nat) (hi : i < s.size) (c : Int) (hc : bt s i = c) (h : c ≠ 35) (h2 : spaceC c = false) : nextF s i = tryAll s i readers := by
  unfold nextF; rw [skip_here s i hi (by rw [hc]; exact h) (by rw [hc]; exact h2), if_pos hi]
theorem no_iri (s : ByteArray) (i : Nat) (h : bt s i ≠ 60) : iriF s i = .no := by unfold iriF; rw [if_neg h]
theorem no_blank (s : ByteArray) (i : Nat) (h : bt s i ≠ 95) : blankF s i = .no := by unfold blankF; rw [if_neg (fun h2 => h h2.1)]
theorem no_text (s : ByteArray) (i : Nat) (h : bt s i ≠ 34) : textF s i = .no := by unfold textF; rw [if_neg h]
theorem no_lang (s : ByteArray) (i : Nat) (h : bt s i ≠ 64) : langF s i = .no := by unfold langF; rw [if_neg h]
theorem no_var (s : ByteArray) (i : Nat) (h : bt s i ≠ 63) : varF s i = .no := by unfold varF; rw [if_neg h]
theorem no_word (s : ByteArray) (i : Nat) (h : letterB (bt s i) = false) (h2 : bt s i ≠ 58) : wordF s i = .no := by
  unfold wordF; rw [if_neg (fun h3 => h3.elim (fun h4 => by rw [h] at h4; cases h4) (fun h4 => h2 h4.1))]
/-- A text in a sign each side, without a sign or a backslash within. -/
theorem quoted_plain (s t : ByteArray) (en : Int) (p : Nat) (hb : ∀ k, k < t.size → bt s (p + k) = bt t k) (hn : ∀ k, k < t.size → bt t k ≠ en ∧ bt t k ≠ 92) (he : bt s (p + t.size) = en) (hz : p + t.size < s.size) :
    ∀ d i acc f, i + d = t.size → d < f → quotedF s en false f (p + i) acc = some (acc ++ BL t d i, p + t.size + 1) := by
  intro d
  induction d with
  | zero =>
    intro i acc f hi hf
    obtain ⟨f, rfl⟩ : ∃ m, f = m + 1 := ⟨f - 1, by omega⟩
    obtain rfl : i = t.size := by omega
    simp only [quotedF, BL]
    rw [if_pos he]; simp
  | succ d ih =>
    intro i acc f hi hf
    obtain ⟨f, rfl⟩ : ∃ m, f = m + 1 := ⟨f - 1, by omega⟩
    have h1 := hb i (by omega)
    have h2 := hn i (by omega)
    simp only [quotedF]
    rw [h1, if_neg h2.1, if_neg (fun h => h.elim (fun h3 => absurd h3 (by omega)) (fun h3 => by cases h3.1)), if_neg h2.2, show p + i + 1 = p + (i + 1) by omega, ih (i+1) _ f (by omega) (by omega)]
    simp [BL]
theorem rok_bytes (t : ByteArray) (h : iriB t = true) : 1 ≤ t.size ∧ t.size ≤ 1000 ∧ validB t = true ∧ ∀ k, k < t.size → bt t k ≠ 62 ∧ bt t k ≠ 92 := by
  rw [← riri_is] at h
  unfold ririB at h
  simp only [Bool.and_eq_true, decide_eq_true_eq, all_iff] at h
  obtain ⟨⟨⟨h1, h2⟩, h3⟩, h4⟩ := h
  refine ⟨h1, h2, h3, fun k hk => ?_⟩
  have h5 := h4 k hk
  rw [rok_is _ (bt_lo _ _) (bt_hi _ _)] at h5
  constructor <;> intro e <;> rw [e] at h5 <;> revert h5 <;> decide
theorem ofL_data (t : ByteArray) : ofL t.data.toList = t := by apply ByteArray.ext; simp [ofL]
theorem iri_here (s t : ByteArray) (p : Nat) (h : iriB t = true) (h0 : bt s p = 60) (hb : ∀ k, k < t.size → bt s (p + 1 + k) = bt t k) (he : bt s (p + 1 + t.size) = 62) (hz : p + 1 + t.size < s.size) :
    iriF s p = .ok { noSym with kind := 1, tk := 1, tt := t } (p + 1 + t.size + 1) := by
  obtain ⟨h1, h2, h3, h4⟩ := rok_bytes t h
  unfold iriF
  have hq : quotedU s 62 false p = some (t.data.toList, p + 1 + t.size + 1) := by
    unfold quotedU
    have := quoted_plain s t 62 (p+1) hb h4 he hz t.size 0 [] (s.size + 1) (by omega) (by omega)
    rw [Nat.add_zero] at this
    rw [this, BL_is t t.size 0 (by omega), List.drop_zero, List.nil_append]
  rw [if_pos h0, hq]
  simp only
  rw [ofL_data, if_pos h]
theorem run_is (s : ByteArray) (p : Nat → Int → Bool) (i n : Nat) (h : ∀ k, k < n → p k (bt s (i + k)) = true) (hn : i + n = s.size ∨ p n (bt s (i + n)) = false) (hz : i + n ≤ s.size) : runU s p i = n := by
  have : ∀ d k f, k + d = n → d < f → runN s p i f k = n := by
    intro d
    induction d with
    | zero =>
      intro k f hk hf
      obtain ⟨f, rfl⟩ : ∃ m, f = m + 1 := ⟨f - 1, by omega⟩
      obtain rfl : k = n := by omega
      simp only [runN]
      rw [if_neg (fun h2 => hn.elim (fun h3 => by omega) (fun h3 => by rw [h3] at h2; cases h2.2))]
    | succ d ih =>
      intro k f hk hf
      obtain ⟨f, rfl⟩ : ∃ m, f = m + 1 := ⟨f - 1, by omega⟩
      simp only [runN]
      rw [if_pos ⟨by omega, h k (by omega)⟩]
      exact ih (k+1) f (by omega) (by omega)
  unfold runU
  rw [runN_fuel s p i s.size (s.size + 1) 0 (by omega) (by omega)]
  exact this n 0 (s.size + 1) (by omega) (by omega)
theorem tag_bytes (x : ByteArray) (h : tagB x = true) : x.size ≤ 35 ∧ ∀ k, k < x.size → langP k (bt x k) = true := by
  rw [← rtag_is] at h
  unfold rtagB at h
  simp only [Bool.and_eq_true, decide_eq_true_eq] at h
  obtain ⟨⟨⟨⟨_, h2⟩, _⟩, _⟩, h5⟩ := h
  refine ⟨h2, ?_⟩
  have : ∀ d i b, i + d = x.size → rtagN x x.size i b = true → ∀ k, i ≤ k → k < x.size → langP k (bt x k) = true := by
    intro d
    induction d with
    | zero => intro i b hi _ k h1 h2; omega
    | succ d ih =>
      intro i b hi hr k h1 h2
      rw [rtagN_step x i b (by omega)] at hr
      by_cases h45 : bt x i = 45
      · rw [if_pos h45] at hr
        split at hr
        · cases hr
        · rcases Nat.eq_or_lt_of_le h1 with rfl | h3
          · unfold langP; rw [h45]; rfl
          · exact ih (i+1) _ (by omega) hr k h3 h2
      · rw [if_neg h45] at hr
        split at hr
        · cases hr
        · rename_i hc
          rcases Nat.eq_or_lt_of_le h1 with rfl | h3
          · unfold langP
            have hs : smallC (bt x i) = (decide (97 ≤ bt x i) && decide (bt x i ≤ 122)) := rfl
            rw [← hs]
            cases e1 : smallC (bt x i) with
            | true => rfl
            | false =>
              cases e2 : digitB (bt x i) with
              | true => rfl
              | false => rw [e1, e2] at hc; simp at hc
          · exact ih (i+1) _ (by omega) hr k h3 h2
  exact fun k hk => this x.size 0 true (by omega) h5 k (by omega) hk
end Go.Proofs.YtpfgjiahpddpkaaDoor
set_option linter.unusedVariables false
namespace Go.Proofs.YtpfgjiahpddpkaaDoor
open Go.RowKit
theorem all_of (s : ByteArray) (L : List Sym) (hs : s.size ≤ 1048576) (hv : validB s = true) (h : symsF s (s.size + 1) 0 [] = .ok L) : allF s = (L, 0, 0) := by
  rw [all_is s hs, if_neg (by unfold validB at hv; have : endU s = s.size := by simpa using hv
                              omega)]
  unfold allR; rw [h]
theorem nil_of (x : ByteArray) (h : (x.size == 0) = true) : x = ⟨#[]⟩ := by
  have hz : x.size = 0 := by simpa using h
  refine ba_ext _ _ (by rw [hz]; rfl) (fun k hk => by omega)
theorem value_parts (t : ByteArray) (h : valueB t = true) : t.size ≤ 4000 ∧ validB t = true := by
  unfold valueB at h; simpa using h
theorem text_here (s t : ByteArray) (p : Nat) (hs : Has s p (writtenL t)) (hp : p + (writtenL t).length ≤ s.size) : nextF s p = .ok { noSym with kind := 3, text := t, place := p } (p + (writtenL t).length) := by
  obtain ⟨h0, hq⟩ := quoted_text s t p hs hp
  have hl : 2 ≤ (writtenL t).length := by rw [written_is]; simp
  rw [next_is s p (by omega) 34 h0 (by decide) (by decide)]
  simp only [readers]
  rw [tryAll_cons, no_iri s p (by rw [h0]; decide)]
  simp only
  rw [tryAll_cons, no_blank s p (by rw [h0]; decide)]
  simp only
  rw [tryAll_cons]
  have ht : textF s p = .ok { noSym with kind := 3, text := t } (p + (writtenL t).length) := by
    unfold textF
    rw [if_pos h0, hq]
    simp only
    rw [ofL_data]
  rw [ht]
theorem has_ofL (l : List UInt8) (s : ByteArray) (h : ∀ k, k < l.length → bt s k = bt (ofL l) k) : Has s 0 l := by
  intro j hj
  rw [Nat.zero_add, h j hj, bt_ofL l j hj]
theorem term_one (t : ByteArray) (h : iriB t = true) : allF ((⟨#[60]⟩ ++ t) ++ ⟨#[62]⟩) = ([{ noSym with kind := 1, tk := 1, tt := t }], 0, 0) := by
  obtain ⟨h1, h2, h3, h4⟩ := rok_bytes t h
  have z1 : ((⟨#[60]⟩ : ByteArray) ++ t).size = 1 + t.size := ByteArray.size_append
  have z2 : (((⟨#[60]⟩ : ByteArray) ++ t) ++ ⟨#[62]⟩).size = 1 + t.size + 1 := by rw [ByteArray.size_append, z1]; rfl
  have b0 : bt (((⟨#[60]⟩ : ByteArray) ++ t) ++ ⟨#[62]⟩) 0 = 60 := by
    rw [bt_app1 _ _ 0 (by omega), bt_app1 _ _ 0 (by decide)]; decide
  have b1 : ∀ k, k < t.size → bt (((⟨#[60]⟩ : ByteArray) ++ t) ++ ⟨#[62]⟩) (0 + 1 + k) = bt t k := fun k hk => by
    rw [bt_app1 _ _ _ (by omega)]; exact bt_app2 ⟨#[60]⟩ t k
  have b2 : bt (((⟨#[60]⟩ : ByteArray) ++ t) ++ ⟨#[62]⟩) (0 + 1 + t.size) = 62 := by
    have := bt_app2 ((⟨#[60]⟩ : ByteArray) ++ t) ⟨#[62]⟩ 0
    rw [z1] at this
    rw [show 0 + 1 + t.size = 1 + t.size + 0 by omega, this]; decide
  have hv : validB (((⟨#[60]⟩ : ByteArray) ++ t) ++ ⟨#[62]⟩) = true := valid_app _ _ (valid_app _ _ (valid_list [60] (by decide)) h3) (valid_list [62] (by decide))
  generalize ((⟨#[60]⟩ : ByteArray) ++ t) ++ ⟨#[62]⟩ = s at *
  refine all_of s _ (by omega) hv ?_
  have hn : nextF s 0 = .ok { noSym with kind := 1, tk := 1, tt := t, place := 0 } s.size := by
    rw [next_is s 0 (by omega) 60 b0 (by decide) (by decide)]
    simp only [readers]
    rw [tryAll_cons, iri_here s t 0 h b0 b1 b2 (by omega)]
    simp only
    rw [show 0 + 1 + t.size + 1 = s.size by omega]; rfl
  exact syms_cons s 0 s.size _ [] (by omega) hn (syms_end s)
theorem term_two (t : ByteArray) (h : blankB t = true) : allF (⟨#[95, 58]⟩ ++ t) = ([{ noSym with kind := 2, tk := 2, tt := t }], 0, 0) := by
  have hb := h
  unfold blankB wordsB at h
  simp only [Bool.and_eq_true, decide_eq_true_eq, List.all_eq_true, List.mem_range] at h
  obtain ⟨⟨h1, h2⟩, h3⟩ := h
  have z1 : ((⟨#[95, 58]⟩ : ByteArray) ++ t).size = 2 + t.size := ByteArray.size_append
  have b0 : bt ((⟨#[95, 58]⟩ : ByteArray) ++ t) 0 = 95 := by rw [bt_app1 _ _ 0 (by decide)]; decide
  have b1 : bt ((⟨#[95, 58]⟩ : ByteArray) ++ t) (0 + 1) = 58 := by rw [bt_app1 _ _ 1 (by decide)]; decide
  have b2 : ∀ k, bt ((⟨#[95, 58]⟩ : ByteArray) ++ t) (2 + k) = bt t k := fun k => bt_app2 ⟨#[95, 58]⟩ t k
  have hasc : ∀ k, k < t.size → bt t k < 128 := by
    intro k hk
    have := h1 k hk
    unfold namedB letterB digitB at this
    simp only [Bool.or_eq_true, Bool.and_eq_true, decide_eq_true_eq] at this
    omega
  have hv : validB ((⟨#[95, 58]⟩ : ByteArray) ++ t) = true := valid_app _ _ (valid_list [95, 58] (by decide)) (valid_ascii t hasc)
  have hx : ((⟨#[95, 58]⟩ : ByteArray) ++ t).extract 2 (2 + t.size) = t := by
    refine ba_ext _ _ ?_ ?_
    · rw [size_extract _ _ _ (by omega) (by omega)]; omega
    · intro k hk
      rw [size_extract _ _ _ (by omega) (by omega)] at hk
      rw [bt_extract _ _ _ _ (by omega) (by omega), b2]
  generalize (⟨#[95, 58]⟩ : ByteArray) ++ t = s at *
  refine all_of s _ (by omega) hv ?_
  have hr : runU s namedP (0 + 2) = t.size := run_is s namedP 2 t.size (fun k hk => by rw [b2]; exact h1 k hk) (.inl (by omega)) (by omega)
  have hn : nextF s 0 = .ok { noSym with kind := 2, tk := 2, tt := t, place := 0 } s.size := by
    rw [next_is s 0 (by omega) 95 b0 (by decide) (by decide)]
    simp only [readers]
    rw [tryAll_cons, no_iri s 0 (by rw [b0]; decide)]
    simp only
    rw [tryAll_cons]
    have : blankF s 0 = .ok { noSym with kind := 2, tk := 2, tt := t } s.size := by
      unfold blankF
      rw [if_pos ⟨b0, b1⟩, hr, if_neg (by omega), Nat.zero_add, hx, if_pos hb, z1]
    rw [this]; rfl
  exact syms_cons s 0 s.size _ [] (by omega) hn (syms_end s)
theorem term_three (t : ByteArray) (h : valueB t = true) : allF (ofL (writtenL t)) = ([{ noSym with kind := 3, text := t }], 0, 0) := by
  obtain ⟨h1, h2⟩ := value_parts t h
  have hl := written_len t
  have hz := ofL_size (writtenL t)
  refine all_of _ _ (by omega) (valid_written t h2) ?_
  have hn := text_here (ofL (writtenL t)) t 0 (has_ofL _ _ (fun k _ => rfl)) (by omega)
  rw [Nat.zero_add, ← hz] at hn
  exact syms_cons _ 0 _ _ [] (by omega) hn (syms_end _)
theorem term_four (t x : ByteArray) (h : valueB t = true) (hx : tagB x = true) : allF ((ofL (writtenL t) ++ ⟨#[64]⟩) ++ x) = ([{ noSym with kind := 3, text := t }, { noSym with kind := 4, text := x, place := ((writtenL t).length : Nat) }], 0, 0) := by
  obtain ⟨h1, h2⟩ := value_parts t h
  obtain ⟨hx1, hx2⟩ := tag_bytes x hx
  have hl := written_len t
  have hz := ofL_size (writtenL t)
  have z1 : (ofL (writtenL t) ++ ⟨#[64]⟩).size = (writtenL t).length + 1 := by rw [ByteArray.size_append, hz]; rfl
  have z2 : ((ofL (writtenL t) ++ ⟨#[64]⟩) ++ x).size = (writtenL t).length + 1 + x.size := by rw [ByteArray.size_append, z1]
  have b0 : ∀ k, k < (writtenL t).length → bt ((ofL (writtenL t) ++ ⟨#[64]⟩) ++ x) k = bt (ofL (writtenL t)) k := fun k hk => by
    rw [bt_app1 _ _ _ (by omega), bt_app1 _ _ _ (by omega)]
  have b1 : bt ((ofL (writtenL t) ++ ⟨#[64]⟩) ++ x) (writtenL t).length = 64 := by
    rw [bt_app1 _ _ _ (by omega)]
    have := bt_app2 (ofL (writtenL t)) ⟨#[64]⟩ 0
    rw [hz, Nat.add_zero] at this
    rw [this]; decide
  have b2 : ∀ k, bt ((ofL (writtenL t) ++ ⟨#[64]⟩) ++ x) ((writtenL t).length + 1 + k) = bt x k := fun k => by
    have := bt_app2 (ofL (writtenL t) ++ ⟨#[64]⟩) x k
    rw [z1] at this; exact this
  have hasc : ∀ k, k < x.size → bt x k < 128 := by
    intro k hk
    have := hx2 k hk
    unfold langP digitB at this
    simp only [Bool.or_eq_true, Bool.and_eq_true, decide_eq_true_eq, beq_iff_eq] at this
    omega
  have hv : validB ((ofL (writtenL t) ++ ⟨#[64]⟩) ++ x) = true := valid_app _ _ (valid_app _ _ (valid_written t h2) (valid_list [64] (by decide))) (valid_ascii x hasc)
  have hex : ((ofL (writtenL t) ++ ⟨#[64]⟩) ++ x).extract ((writtenL t).length + 1) ((writtenL t).length + 1 + x.size) = x := by
    refine ba_ext _ _ ?_ ?_
    · rw [size_extract _ _ _ (by omega) (by omega)]; omega
    · intro k hk
      rw [size_extract _ _ _ (by omega) (by omega)] at hk
      rw [bt_extract _ _ _ _ (by omega) (by omega), b2]
  generalize (ofL (writtenL t) ++ ⟨#[64]⟩) ++ x = s at *
  generalize hn0 : (writtenL t).length = n at *
  refine all_of s _ (by omega) hv ?_
  have hn := text_here s t 0 (has_ofL _ _ (by rw [hn0]; exact b0)) (by rw [hn0]; omega)
  rw [hn0, Nat.zero_add] at hn
  have hr : runU s langP (n + 1) = x.size := run_is s langP (n+1) x.size (fun k hk => by rw [b2]; exact hx2 k hk) (.inl (by omega)) (by omega)
  have hn2 : nextF s n = .ok { noSym with kind := 4, text := x, place := (n : Nat) } s.size := by
    rw [next_is s n (by omega) 64 b1 (by decide) (by decide)]
    simp only [readers]
    rw [tryAll_cons, no_iri s n (by rw [b1]; decide)]
    simp only
    rw [tryAll_cons, no_blank s n (by rw [b1]; decide)]
    simp only
    rw [tryAll_cons, no_text s n (by rw [b1]; decide)]
    simp only
    rw [tryAll_cons]
    have : langF s n = .ok { noSym with kind := 4, text := x } s.size := by
      unfold langF
      rw [if_pos b1, hr, if_neg (by omega), hex, if_pos hx, z2]
    rw [this]
  exact syms_cons s 0 n _ _ (by omega) hn (syms_cons s n s.size _ [] (by omega) hn2 (syms_end s))
theorem term_five (t x : ByteArray) (h : valueB t = true) (hx : iriB x = true) : allF (((ofL (writtenL t) ++ ⟨#[94, 94, 60]⟩) ++ x) ++ ⟨#[62]⟩) =
    ([{ noSym with kind := 3, text := t }, { noSym with kind := 8, text := ofL [94, 94], place := ((writtenL t).length : Nat) }, { noSym with kind := 1, tk := 1, tt := x, place := ((writtenL t).length + 2 : Nat) }], 0, 0) := by
  obtain ⟨h1, h2⟩ := value_parts t h
  obtain ⟨x1, x2, x3, x4⟩ := rok_bytes x hx
  have hl := written_len t
  have hz := ofL_size (writtenL t)
  have z1 : (ofL (writtenL t) ++ ⟨#[94, 94, 60]⟩).size = (writtenL t).length + 3 := by rw [ByteArray.size_append, hz]; rfl
  have z2 : ((ofL (writtenL t) ++ ⟨#[94, 94, 60]⟩) ++ x).size = (writtenL t).length + 3 + x.size := by rw [ByteArray.size_append, z1]
  have z3 : (((ofL (writtenL t) ++ ⟨#[94, 94, 60]⟩) ++ x) ++ ⟨#[62]⟩).size = (writtenL t).length + 3 + x.size + 1 := by rw [ByteArray.size_append, z2]; rfl
  have b0 : ∀ k, k < (writtenL t).length → bt (((ofL (writtenL t) ++ ⟨#[94, 94, 60]⟩) ++ x) ++ ⟨#[62]⟩) k = bt (ofL (writtenL t)) k := fun k hk => by
    rw [bt_app1 _ _ _ (by omega), bt_app1 _ _ _ (by omega), bt_app1 _ _ _ (by omega)]
  have bm : ∀ k, k < 3 → bt (((ofL (writtenL t) ++ ⟨#[94, 94, 60]⟩) ++ x) ++ ⟨#[62]⟩) ((writtenL t).length + k) = bt ⟨#[94, 94, 60]⟩ k := fun k hk => by
    rw [bt_app1 _ _ _ (by omega), bt_app1 _ _ _ (by omega)]
    have := bt_app2 (ofL (writtenL t)) ⟨#[94, 94, 60]⟩ k
    rw [hz] at this; exact this
  have b2 : ∀ k, k < x.size → bt (((ofL (writtenL t) ++ ⟨#[94, 94, 60]⟩) ++ x) ++ ⟨#[62]⟩) ((writtenL t).length + 2 + 1 + k) = bt x k := fun k hk => by
    rw [bt_app1 _ _ _ (by omega)]
    have := bt_app2 (ofL (writtenL t) ++ ⟨#[94, 94, 60]⟩) x k
    rw [z1] at this; exact this
  have b3 : bt (((ofL (writtenL t) ++ ⟨#[94, 94, 60]⟩) ++ x) ++ ⟨#[62]⟩) ((writtenL t).length + 2 + 1 + x.size) = 62 := by
    have := bt_app2 ((ofL (writtenL t) ++ ⟨#[94, 94, 60]⟩) ++ x) ⟨#[62]⟩ 0
    rw [z2, Nat.add_zero] at this
    rw [this]; decide
  have hv : validB (((ofL (writtenL t) ++ ⟨#[94, 94, 60]⟩) ++ x) ++ ⟨#[62]⟩) = true := valid_app _ _ (valid_app _ _ (valid_app _ _ (valid_written t h2) (valid_list [94, 94, 60] (by decide))) x3) (valid_list [62] (by decide))
  generalize ((ofL (writtenL t) ++ ⟨#[94, 94, 60]⟩) ++ x) ++ ⟨#[62]⟩ = s at *
  generalize hn0 : (writtenL t).length = n at *
  refine all_of s _ (by omega) hv ?_
  have hn := text_here s t 0 (has_ofL _ _ (by rw [hn0]; exact b0)) (by rw [hn0]; omega)
  rw [hn0, Nat.zero_add] at hn
  have m0 : bt s n = 94 := by have := bm 0 (by omega); rw [Nat.add_zero] at this; rw [this]; decide
  have m1 : bt s (n + 1) = 94 := by rw [bm 1 (by omega)]; decide
  have m2 : bt s (n + 2) = 60 := by rw [bm 2 (by omega)]; decide
  have hn2 : nextF s n = .ok { noSym with kind := 8, text := ofL [94, 94], place := (n : Nat) } (n + 2) := by
    rw [next_is s n (by omega) 94 m0 (by decide) (by decide)]
    simp only [readers]
    rw [tryAll_cons, no_iri s n (by rw [m0]; decide)]
    simp only
    rw [tryAll_cons, no_blank s n (by rw [m0]; decide)]
    simp only
    rw [tryAll_cons, no_text s n (by rw [m0]; decide)]
    simp only
    rw [tryAll_cons, no_lang s n (by rw [m0]; decide)]
    simp only
    rw [tryAll_cons, no_var s n (by rw [m0]; decide)]
    simp only
    rw [tryAll_cons, no_word s n (by rw [m0]; decide) (by rw [m0]; decide)]
    simp only
    rw [tryAll_cons]
    have : markF s n = .ok { noSym with kind := 8, text := ofL [94, 94] } (n + 2) := by
      have hp : Go.Lib.hasPrefix (s.extract n s.size).data.toList [94, 94] = true := by
        rw [prefix_bt s n [94, 94] (by decide)]
        intro j hj
        match j, hj with
        | 0, _ => rw [Nat.add_zero, m0]; rfl
        | 1, _ => rw [m1]; rfl
      unfold markF marksL
      simp only [markGo]
      rw [if_pos hp]; rfl
    rw [this]
  have hn3 : nextF s (n + 2) = .ok { noSym with kind := 1, tk := 1, tt := x, place := (n + 2 : Nat) } s.size := by
    rw [next_is s (n+2) (by omega) 60 m2 (by decide) (by decide)]
    simp only [readers]
    rw [tryAll_cons, iri_here s x (n+2) hx m2 b2 b3 (by omega)]
    simp only
    rw [show n + 2 + 1 + x.size + 1 = s.size by omega]
  exact syms_cons s 0 n _ _ (by omega) hn (syms_cons s n (n+2) _ _ (by omega) hn2 (syms_cons s (n+2) s.size _ [] (by omega) hn3 (syms_end s)))
theorem readF_str (y : Sym) (r : List Sym) (k : Int) (t x : ByteArray) (n : Nat) (hy : y.kind = 3) (hs : strT y r = ((k, t, x), n)) (hm : mayT k t x = true) : readF (y :: r) = some ((k, t, x), n) := by
  simp only [readF]
  rw [if_neg (by omega), if_pos hy, hs]
  exact if_pos hm
theorem strT_lang (y z : Sym) (h : z.kind = 4) : strT y [z] = ((4, y.text, z.text), 2) := if_pos h
theorem strT_typed (y z u : Sym) (r : List Sym) (h1 : z.kind = 8) (h2 : z.text.toList = [94, 94]) (h3 : u.kind = 1) (h4 : (u.tt.toList == xsdL) = false) : strT y (z :: u :: r) = ((5, y.text, u.tt), 3) := by
  simp only [strT]
  rw [if_neg (by omega), if_pos ⟨by rw [h1, h2]; decide, h3⟩, if_neg (by rw [h4]; decide)]
/-- A term's text, read. -/
theorem term_read (k : Int) (t x : ByteArray) (h : mayT k t x = true) : ∃ L : List Sym, allF (termB k t x) = (L, 0, 0) ∧ readF L = some ((k, t, x), L.length) ∧ (∀ z ∈ L, z.text.size ≤ 1000000000 ∧ z.tt.size ≤ 1000000000) ∧ L.length ≤ 3 ∧ (termB k t x).size ≤ 100000 ∧ L ≠ [] := by
  have hh := h
  unfold mayT at h
  have hl := written_len t
  have hz := ofL_size (writtenL t)
  by_cases k1 : k = 1
  · subst k1
    rw [if_pos rfl, Bool.and_eq_true] at h
    obtain rfl := nil_of x h.2
    have hp := rok_bytes t h.1
    have e : termB 1 t ⟨#[]⟩ = (⟨#[60]⟩ ++ t) ++ ⟨#[62]⟩ := if_pos rfl
    rw [e]
    refine ⟨_, term_one t h.1, rfl, ?_, by simp, ?_, by simp⟩
    · intro z hz2; simp at hz2; subst hz2; exact ⟨by simp [noSym, ByteArray.size], by simp only; omega⟩
    · rw [ByteArray.size_append, ByteArray.size_append, show (⟨#[60]⟩ : ByteArray).size = 1 from rfl, show (⟨#[62]⟩ : ByteArray).size = 1 from rfl]; omega
  · rw [if_neg k1] at h
    by_cases k2 : k = 2
    · subst k2
      rw [if_pos rfl, Bool.and_eq_true] at h
      obtain rfl := nil_of x h.2
      have hb := h.1
      unfold blankB at hb
      simp only [Bool.and_eq_true, decide_eq_true_eq] at hb
      have e : termB 2 t ⟨#[]⟩ = ⟨#[95, 58]⟩ ++ t := rfl
      rw [e]
      refine ⟨_, term_two t h.1, rfl, ?_, by simp, ?_, by simp⟩
      · intro z hz2; simp at hz2; subst hz2; exact ⟨by simp [noSym, ByteArray.size], by simp only; omega⟩
      · rw [ByteArray.size_append, show (⟨#[95, 58]⟩ : ByteArray).size = 2 from rfl]; omega
    · rw [if_neg k2] at h
      by_cases k3 : k = 3
      · subst k3
        rw [if_pos rfl, Bool.and_eq_true] at h
        obtain rfl := nil_of x h.2
        have hp := value_parts t h.1
        have e : termB 3 t ⟨#[]⟩ = ofL (writtenL t) := rfl
        rw [e]
        refine ⟨_, term_three t h.1, ?_, ?_, by simp, by omega, by simp⟩
        · exact readF_str _ _ _ _ _ _ rfl rfl hh
        · intro z hz2; simp at hz2; subst hz2; exact ⟨by simp only; omega, by simp [noSym, ByteArray.size]⟩
      · rw [if_neg k3] at h
        by_cases k4 : k = 4
        · subst k4
          rw [if_pos rfl, Bool.and_eq_true] at h
          have hp := value_parts t h.1
          have hq := tag_bytes x h.2
          have e : termB 4 t x = (ofL (writtenL t) ++ ⟨#[64]⟩) ++ x := rfl
          rw [e]
          refine ⟨_, term_four t x h.1 h.2, ?_, ?_, by simp, ?_, by simp⟩
          · exact readF_str _ _ _ _ _ _ rfl (strT_lang _ _ rfl) hh
          · intro z hz2
            simp only [List.mem_cons, List.not_mem_nil, or_false] at hz2
            rcases hz2 with rfl | rfl
            · exact ⟨by simp only; omega, by simp [noSym, ByteArray.size]⟩
            · exact ⟨by simp only; omega, by simp [noSym, ByteArray.size]⟩
          · rw [ByteArray.size_append, ByteArray.size_append, hz, show (⟨#[64]⟩ : ByteArray).size = 1 from rfl]; omega
        · rw [if_neg k4] at h
          by_cases k5 : k = 5
          · subst k5
            rw [if_pos rfl, Bool.and_eq_true, Bool.and_eq_true] at h
            have hp := value_parts t h.1
            have hq := rok_bytes x h.2.1
            have hxs : (x.toList == xsdL) = false := by simpa using h.2.2
            have e : termB 5 t x = ((ofL (writtenL t) ++ ⟨#[94, 94, 60]⟩) ++ x) ++ ⟨#[62]⟩ := rfl
            rw [e]
            refine ⟨_, term_five t x h.1 h.2.1, ?_, ?_, by simp, ?_, by simp⟩
            · exact readF_str _ _ _ _ _ _ rfl (strT_typed _ _ _ [] rfl (toList_ofL _) rfl hxs) hh
            · intro z hz2
              simp only [List.mem_cons, List.not_mem_nil, or_false] at hz2
              rcases hz2 with rfl | rfl | rfl
              · exact ⟨by simp only; omega, by simp [noSym, ByteArray.size]⟩
              · exact ⟨by simp [ofL, ByteArray.size], by simp [noSym, ByteArray.size]⟩
              · exact ⟨by simp [noSym, ByteArray.size], by simp only; omega⟩
            · rw [ByteArray.size_append, ByteArray.size_append, ByteArray.size_append, hz, show (⟨#[94, 94, 60]⟩ : ByteArray).size = 3 from rfl, show (⟨#[62]⟩ : ByteArray).size = 1 from rfl]; omega
          · rw [if_neg k5] at h; cases h
end Go.Proofs.YtpfgjiahpddpkaaDoor
