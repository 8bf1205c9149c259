/- A value's text, written, is read as it. Plain laws. Well made texts: put together; written. Plain laws. -/
import Derived.Test.YtpfgjiahpddpkaaDoorZ8
import Derived.Test.YtpfgjiahpddpkaaDoorZ1
import Derived.Test.YtpfgjiahpddpkaaDoorZ4
set_option linter.unusedVariables false
namespace Go.Proofs.YtpfgjiahpddpkaaDoor
open Go.RowKit
/-- s has the bytes l from place p on. -/
def Has (s : ByteArray) (p : Nat) (l : List UInt8) : Prop := ∀ j (h : j < l.length), bt s (p + j) = (l[j].toNat : Int)
theorem Has.app {s : ByteArray} {p : Nat} {l m : List UInt8} (h : Has s p (l ++ m)) : Has s p l ∧ Has s (p + l.length) m := by
  constructor
  · intro j hj
    have := h j (by rw [List.length_append]; omega)
    rw [List.getElem_append_left hj] at this; exact this
  · intro j hj
    have := h (l.length + j) (by rw [List.length_append]; omega)
    rw [List.getElem_append_right (by omega)] at this
    simp only [Nat.add_sub_cancel_left] at this
    rw [Nat.add_assoc]; exact this
theorem Has.head {s : ByteArray} {p : Nat} {c : UInt8} {l : List UInt8} (h : Has s p (c :: l)) : bt s p = (c.toNat : Int) ∧ Has s (p + 1) l := by
  have h2 := Has.app (l := [c]) (m := l) h
  exact ⟨h2.1 0 (by simp), h2.2⟩
def WL (t : ByteArray) (i : Nat) : List UInt8 := wrN t t.size i []
theorem wrN_acc (t : ByteArray) : ∀ f i acc, wrN t f i acc = acc ++ wrN t f i [] := by
  intro f
  induction f with
  | zero => intro i acc; simp [wrN]
  | succ f ih =>
    intro i acc
    simp only [wrN]
    split
    · rw [ih (i+1) (acc ++ escW (bt t i)), ih (i+1) ([] ++ escW (bt t i))]; simp
    · simp
theorem WL_step (t : ByteArray) (i : Nat) (h : i < t.size) : WL t i = escW (bt t i) ++ WL t (i+1) := by
  unfold WL; rw [wrN_step t i [] h, wrN_acc]; simp
theorem WL_end (t : ByteArray) (i : Nat) (h : t.size ≤ i) : WL t i = [] := by
  unfold WL; rw [wrN_more t t.size 0 i [] (by omega) (by omega)]; rfl
theorem written_is (t : ByteArray) : writtenL t = 34 :: (WL t 0 ++ [34]) := by
  unfold writtenL; rw [wrN_acc]; rfl
def BL (t : ByteArray) : Nat → Nat → List UInt8
  | 0, _ => []
  | d+1, i => byteOf (bt t i) :: BL t d (i+1)
theorem BL_is (t : ByteArray) : ∀ d i, i + d = t.size → BL t d i = t.data.toList.drop i := by
  intro d
  induction d with
  | zero => intro i hi; rw [List.drop_eq_nil_of_le (by rw [← Go.Lib.size_eq]; omega)]; rfl
  | succ d ih =>
    intro i hi
    have hl : i < t.data.toList.length := by rw [← Go.Lib.size_eq]; omega
    rw [List.drop_eq_getElem_cons hl, ← ih (i+1) (by omega)]
    have h1 := at_list t i (by omega)
    rw [List.getElem?_eq_getElem hl] at h1
    rw [Option.some.inj h1]; rfl
theorem hexV_hexD (n : Nat) (h : n < 16) : hexV ((hexD n).toNat : Int) = n := by
  have := (by decide +kernel : ∀ n : Fin 16, hexV ((hexD (n.val : Nat)).toNat : Int) = (n.val : Nat))
  exact this ⟨n, h⟩
theorem escW_ne (c : Int) : escW c ≠ [] := by have := (escW_len c).2; intro e; rw [e] at this; simp at this
theorem putL_small (r : Int) (h : r < 128) : putL r = [byteOf r] := by unfold putL; rw [if_pos h]
/-- One byte, written, is read as it. -/
theorem quoted_one (s : ByteArray) (c : Int) (h0 : 0 ≤ c) (h1 : c < 256) (p f : Nat) (acc : List UInt8) (hs : Has s p (escW c)) (hp : p + (escW c).length < s.size) :
    quotedF s 34 true (f + 1) p acc = quotedF s 34 true f (p + (escW c).length) (acc ++ [byteOf c]) := by
  -- an escape of one letter
  have esc : ∀ (l : UInt8), escW c = [92, l] → (l.toNat ≠ 117) → (l.toNat ≠ 85) → escK (l.toNat : Int) = c → c < 128 → quotedF s 34 true (f + 1) p acc = quotedF s 34 true f (p + (escW c).length) (acc ++ [byteOf c]) := by
    intro l he hu hU hk hc
    rw [he] at hs hp ⊢
    obtain ⟨b0, hs2⟩ := hs.head
    obtain ⟨b1, _⟩ := hs2.head
    simp only [List.length_cons, List.length_nil] at hp ⊢
    have e92 : bt s p = 92 := b0
    have hr : escR s true p = (c, p + 2) := by
      unfold escR; rw [b1, if_neg (by omega), if_neg (by omega), if_pos rfl, hk]
    have hf : escF s true p = some ([byteOf c], p + 2) := by
      unfold escF; rw [hr, if_pos ((may_bd c).2 (by omega)), putL_small c hc]
    simp only [quotedF]
    rw [e92, if_neg (by decide), if_neg (fun h => h.elim (fun h2 => absurd h2 (by omega)) (fun h2 => by omega)), if_pos rfl, hf]
  by_cases a1 : c = 34 ∨ c = 92
  · have hv := u8_val c h0 h1
    exact esc (byteOf c) (by unfold escW; rw [if_pos a1]) (by omega) (by omega) (by rw [hv]; rcases a1 with rfl | rfl <;> rfl) (by omega)
  · by_cases a2 : c = 8
    · subst a2; exact esc 98 rfl (by decide) (by decide) (by decide) (by omega)
    by_cases a3 : c = 9
    · subst a3; exact esc 116 rfl (by decide) (by decide) (by decide) (by omega)
    by_cases a4 : c = 10
    · subst a4; exact esc 110 rfl (by decide) (by decide) (by decide) (by omega)
    by_cases a5 : c = 12
    · subst a5; exact esc 102 rfl (by decide) (by decide) (by decide) (by omega)
    by_cases a6 : c = 13
    · subst a6; exact esc 114 rfl (by decide) (by decide) (by decide) (by omega)
    by_cases a7 : c < 32 ∨ c = 127
    · have he : escW c = [92, 117, 48, 48, hexD (c / 16), hexD (c % 16)] := by
        unfold escW; rw [if_neg a1, if_neg a2, if_neg a3, if_neg a4, if_neg a5, if_neg a6, if_pos a7]
      rw [he] at hs hp ⊢
      obtain ⟨b0, hs⟩ := hs.head
      obtain ⟨b1, hs⟩ := hs.head
      obtain ⟨b2, hs⟩ := hs.head
      obtain ⟨b3, hs⟩ := hs.head
      obtain ⟨b4, hs⟩ := hs.head
      obtain ⟨b5, hs⟩ := hs.head
      simp only [List.length_cons, List.length_nil] at hp ⊢
      have e92 : bt s p = 92 := b0
      have v4 := hexV_hexD (c / 16).toNat (by omega)
      have v5 := hexV_hexD (c % 16).toNat (by omega)
      rw [Int.toNat_of_nonneg (by omega)] at v4 v5
      have d2 : hexV (bt s (p + 2)) = 0 := by rw [show p + 2 = p + 1 + 1 by omega, b2]; decide
      have d3 : hexV (bt s (p + 2 + 1)) = 0 := by rw [show p + 2 + 1 = p + 1 + 1 + 1 by omega, b3]; decide
      have d4 : hexV (bt s (p + 2 + 1 + 1)) = c / 16 := by rw [show p + 2 + 1 + 1 = p + 1 + 1 + 1 + 1 by omega, b4]; exact v4
      have d5 : hexV (bt s (p + 2 + 1 + 1 + 1)) = c % 16 := by rw [show p + 2 + 1 + 1 + 1 = p + 1 + 1 + 1 + 1 + 1 by omega, b5]; exact v5
      have hr : escR s true p = (c, p + 6) := by
        unfold escR; rw [b1, if_pos (by decide)]
        simp only [digitsF]
        rw [d2, d3, d4, d5, if_neg (by decide), if_neg (by decide), if_neg (by omega), if_neg (by omega)]
        congr 1
        omega
      have hf : escF s true p = some ([byteOf c], p + 6) := by
        unfold escF; rw [hr, if_pos ((may_bd c).2 (by omega)), putL_small c (by omega)]
      simp only [quotedF]
      rw [e92, if_neg (by decide), if_neg (fun h => h.elim (fun h2 => absurd h2 (by omega)) (fun h2 => by omega)), if_pos rfl, hf]
    · have he : escW c = [byteOf c] := by
        unfold escW; rw [if_neg a1, if_neg a2, if_neg a3, if_neg a4, if_neg a5, if_neg a6, if_neg a7]
      rw [he] at hs hp ⊢
      obtain ⟨b0, _⟩ := hs.head
      rw [u8_val c h0 h1] at b0
      simp only [List.length_cons, List.length_nil] at hp ⊢
      simp only [quotedF]
      rw [b0, if_neg (fun h => a1 (.inl h)), if_neg (fun h => h.elim (fun h2 => absurd h2 (by omega)) (fun h2 => by omega)), if_neg (fun h => a1 (.inr h))]
theorem quoted_all (s t : ByteArray) : ∀ d i p acc f, i + d = t.size → Has s p (WL t i ++ [34]) → p + (WL t i).length < s.size → d < f → quotedF s 34 true f p acc = some (acc ++ BL t d i, p + (WL t i).length + 1) := by
  intro d
  induction d with
  | zero =>
    intro i p acc f hi hs hp hf
    obtain ⟨f, rfl⟩ : ∃ m, f = m + 1 := ⟨f - 1, by omega⟩
    rw [WL_end t i (by omega)] at hs hp ⊢
    have b0 : bt s p = 34 := hs.head.1
    simp only [quotedF, BL]
    rw [if_pos b0]; simp
  | succ d ih =>
    intro i p acc f hi hs hp hf
    obtain ⟨f, rfl⟩ : ∃ m, f = m + 1 := ⟨f - 1, by omega⟩
    rw [WL_step t i (by omega)] at hs hp ⊢
    rw [List.append_assoc] at hs
    rw [List.length_append] at hp ⊢
    have h2 := hs.app
    rw [quoted_one s (bt t i) (bt_lo _ _) (bt_hi _ _) p f acc h2.1 (by omega)]
    rw [ih (i+1) (p + (escW (bt t i)).length) _ f (by omega) h2.2 (by omega) (by omega)]
    simp only [BL, List.append_assoc, List.singleton_append, Nat.add_assoc]
/-- A written text, read from its sign on. -/
theorem quoted_text (s t : ByteArray) (p : Nat) (hs : Has s p (writtenL t)) (hp : p + (writtenL t).length ≤ s.size) : bt s p = 34 ∧ quotedU s 34 true p = some (t.data.toList, p + (writtenL t).length) := by
  rw [written_is] at hs hp ⊢
  obtain ⟨b0, h2⟩ := hs.head
  simp only [List.length_cons, List.length_append, List.length_nil] at hp ⊢
  refine ⟨b0, ?_⟩
  unfold quotedU
  have hlen : t.size ≤ (WL t 0).length := by
    have : ∀ d i, i + d = t.size → d ≤ (WL t i).length := by
      intro d
      induction d with
      | zero => intro i _; omega
      | succ d ih =>
        intro i hi
        rw [WL_step t i (by omega), List.length_append]
        have h1 := ih (i+1) (by omega)
        have h3 := (escW_len (bt t i)).2
        omega
    exact this t.size 0 (by omega)
  rw [quoted_all s t t.size 0 (p+1) [] (s.size + 1) (by omega) h2 (by omega) (by omega), BL_is t t.size 0 (by omega), List.drop_zero, List.nil_append]
  congr 2
  omega
end Go.Proofs.YtpfgjiahpddpkaaDoor
set_option linter.unusedVariables false
namespace Go.Proofs.YtpfgjiahpddpkaaDoor
open Go.RowKit
structure Begin (a s : ByteArray) : Prop where
  size : a.size ≤ s.size
  eq : ∀ k, k < a.size → bt s k = bt a k
theorem bt_app1 (x y : ByteArray) (k : Nat) (h : k < x.size) : bt (x ++ y) k = bt x k := by
  have h2 : k < (x ++ y).size := by rw [ByteArray.size_append]; omega
  unfold bt; rw [dif_pos h2, dif_pos h, ByteArray.getElem_append_left h]
theorem bt_app2 (x y : ByteArray) (k : Nat) : bt (x ++ y) (x.size + k) = bt y k := by
  rcases Nat.lt_or_ge k y.size with h | h
  · have h2 : x.size + k < (x ++ y).size := by rw [ByteArray.size_append]; omega
    unfold bt; rw [dif_pos h2, dif_pos h, ByteArray.getElem_append_right (by omega)]
    simp only [Nat.add_sub_cancel_left]
  · rw [bt_out _ _ (by rw [ByteArray.size_append]; omega), bt_out _ _ h]
theorem begin_app (x y : ByteArray) : Begin x (x ++ y) := ⟨by rw [ByteArray.size_append]; omega, fun k h => bt_app1 x y k h⟩
theorem tail_app (x y : ByteArray) : Tail y (x ++ y) x.size := ⟨by rw [ByteArray.size_append], fun k => bt_app2 x y k⟩
theorem Begin.getL {a s : ByteArray} (h : Begin a s) : ∀ d i r, i + d < a.size → getL s d i r = getL a d i r := by
  intro d
  induction d with
  | zero => intro i r _; rfl
  | succ d ih =>
    intro i r hi
    simp only [Go.Proofs.YtpfgjiahpddpkaaDoor.getL]
    rw [h.eq _ (by omega), ih _ _ (by omega)]
theorem Begin.getAt {a s : ByteArray} (h : Begin a s) (i : Nat) (hi : i < a.size) (r : Int) (n : Nat) (hg : getAt a i = (r, (n : Int), 0)) : getAt s i = (r, (n : Int), 0) := by
  have hs := h.size
  rw [getAt_is a i hi] at hg
  rw [getAt_is s i (by omega), h.eq i hi]
  by_cases h1 : (headU (bt a i)).2 < 0 ∨ ((a.size - i : Nat) : Int) ≤ (headU (bt a i)).2
  · rw [if_pos h1] at hg; cases hg
  · rw [if_neg h1] at hg
    rw [if_neg (by omega), h.getL _ _ _ (by omega)]; exact hg
theorem Begin.endF {a s : ByteArray} (h : Begin a s) : ∀ f i, i ≤ a.size → a.size ≤ i + f → endF a f i = a.size → ∀ g, s.size ≤ i + g → endF s g i = endF s s.size a.size := by
  have hs := h.size
  intro f
  induction f with
  | zero =>
    intro i hi h0 _ g hg
    obtain rfl : i = a.size := by omega
    exact endF_more s _ _ _ hg (by omega)
  | succ f ih =>
    intro i hi h0 he g hg
    by_cases hlt : i < a.size
    · simp only [Go.Proofs.YtpfgjiahpddpkaaDoor.endF] at he
      rw [if_pos hlt] at he
      rcases getAt_cases a i hlt with h1 | ⟨r, n, h1, h2, h3, h4, _⟩
      · rw [h1, if_neg (by decide)] at he; omega
      · rw [h1] at he
        simp only [Int.toNat_natCast, if_true] at he
        obtain ⟨g, rfl⟩ : ∃ m, g = m + 1 := ⟨g - 1, by omega⟩
        simp only [Go.Proofs.YtpfgjiahpddpkaaDoor.endF]
        rw [if_pos (by omega), h.getAt i hlt r n h1]
        simp only [Int.toNat_natCast, if_true]
        exact ih _ h4 (by omega) he g (by omega)
    · obtain rfl : i = a.size := by omega
      exact endF_more s _ _ _ hg (by omega)
theorem valid_iff (s : ByteArray) : validB s = true ↔ endF s s.size 0 = s.size := by unfold validB endU; simp
theorem valid_app (x y : ByteArray) (hx : validB x = true) (hy : validB y = true) : validB (x ++ y) = true := by
  rw [valid_iff] at hx hy ⊢
  have hb := begin_app x y
  have ht := tail_app x y
  have hz : (x ++ y).size = x.size + y.size := ByteArray.size_append
  rw [hb.endF x.size 0 (by omega) (by omega) hx _ (by omega)]
  have e := ht.endF (x ++ y).size 0
  rw [Nat.add_zero] at e
  rw [e, endF_more y (x ++ y).size y.size 0 (by omega) (by omega), hy, hz]
theorem valid_ascii (s : ByteArray) (h : ∀ k, k < s.size → bt s k < 128) : validB s = true := by
  rw [valid_iff]
  have : ∀ f i, i ≤ s.size → s.size ≤ i + f → endF s f i = s.size := by
    intro f
    induction f with
    | zero => intro i h0 h1; simp only [endF]; omega
    | succ f ih =>
      intro i h0 h1
      by_cases hi : i < s.size
      · have b0 := bt_lo s i
        have hc := h i hi
        have hh : headU (bt s i) = (bt s i, 0) := by unfold headU; rw [if_pos hc]
        have hm : mayB (bt s i) = true := (may_bd _).2 (by omega)
        have hz : sizeI (bt s i) = 1 := by unfold sizeI; rw [if_pos hc]
        have hg : getAt s i = (bt s i, ((1 : Nat) : Int), 0) := by
          rw [getAt_is s i hi, hh, if_neg (by simp only; omega)]
          simp [getL, getE, hm, hz]
        rw [endF_step s f i 1 _ hi hg]
        exact ih (i+1) (by omega) (by omega)
      · simp only [endF]; rw [if_neg hi]; omega
  exact this s.size 0 (by omega) (by omega)
theorem valid_empty : validB (ofL []) = true := by rw [valid_iff]; rfl
theorem ofL_app (l m : List UInt8) : ofL (l ++ m) = ofL l ++ ofL m := by
  apply ByteArray.ext
  simp [ofL]
theorem bt_ofL (l : List UInt8) (k : Nat) (h : k < l.length) : bt (ofL l) k = (l[k].toNat : Int) := by
  have h2 : k < (ofL l).size := by rw [ofL_size]; exact h
  unfold bt; rw [dif_pos h2]; rfl
theorem escW_ascii (c : Int) (h0 : 0 ≤ c) (h1 : c < 128) : ∀ x ∈ escW c, x.toNat < 128 := by
  have := (by decide +kernel : ∀ c : Fin 128, ∀ x ∈ escW (c.val : Int), x.toNat < 128)
  have h := this ⟨c.toNat, by omega⟩
  simp only [Int.toNat_of_nonneg h0] at h; exact h
theorem valid_list (l : List UInt8) (h : ∀ x ∈ l, x.toNat < 128) : validB (ofL l) = true := by
  refine valid_ascii _ (fun k hk => ?_)
  rw [ofL_size] at hk
  rw [bt_ofL l k hk]
  have := h l[k] (List.getElem_mem hk)
  omega
theorem escW_big (c : Int) (h : 128 ≤ c) : escW c = [byteOf c] := by
  unfold escW
  rw [if_neg (by omega), if_neg (by omega), if_neg (by omega), if_neg (by omega), if_neg (by omega), if_neg (by omega), if_neg (by omega)]
/-- A rune's own bytes are well made. -/
theorem valid_rune (t : ByteArray) (i n : Nat) (r : Int) (hi : i < t.size) (h : getAt t i = (r, (n : Int), 0)) (hn : i + n ≤ t.size) (h1 : 1 ≤ n) : validB (t.extract i (i + n)) = true := by
  have hz := size_extract t i (i + n) (by omega) hn
  rw [show i + n - i = n by omega] at hz
  have hbt : ∀ k, k < n → bt (t.extract i (i + n)) k = bt t (i + k) := fun k hk => bt_extract t i (i + n) k hn (by omega)
  rw [valid_iff, hz]
  obtain ⟨m, rfl⟩ : ∃ m, n = m + 1 := ⟨n - 1, by omega⟩
  have hg : getAt (t.extract i (i + (m + 1))) 0 = (r, ((m + 1 : Nat) : Int), 0) := by
    rw [getAt_is t i hi] at h
    rw [getAt_is _ 0 (by omega), hbt 0 (by omega), Nat.add_zero, hz, Nat.sub_zero]
    by_cases hc : (headU (bt t i)).2 < 0 ∨ ((t.size - i : Nat) : Int) ≤ (headU (bt t i)).2
    · rw [if_pos hc] at h; cases h
    · rw [if_neg hc] at h
      have he := getE_cases (getL t (headU (bt t i)).2.toNat i (headU (bt t i)).1) (headU (bt t i)).2 (by omega)
      rw [h] at he
      rcases he with ⟨he, _⟩ | ⟨_, hn2, _⟩
      · simp at he
      · simp only at hn2
        rw [if_neg (by omega)]
        have hl : ∀ d k r, k + d ≤ m → getL (t.extract i (i + (m + 1))) d k r = getL t d (i + k) r := by
          intro d
          induction d with
          | zero => intro k r _; rfl
          | succ d ih =>
            intro k r hk
            simp only [getL]
            rw [hbt (k+1) (by omega), ih (k+1) _ (by omega), Nat.add_assoc]
        rw [hl _ 0 _ (by omega), Nat.add_zero]; exact h
  rw [endF_step _ m 0 (m+1) r (by omega) hg]
  rw [endF_more _ m 0 (0 + (m+1)) (by omega) (by omega)]
  show 0 + (m + 1) = m + 1
  omega
theorem WL_rune (t : ByteArray) : ∀ n i, i + n ≤ t.size → (∀ k, k < n → 128 ≤ bt t (i + k)) → WL t i = (t.extract i (i + n)).data.toList ++ WL t (i + n) := by
  intro n
  induction n with
  | zero =>
    intro i hi _
    rw [Nat.add_zero]
    have : (t.extract i i).data.toList = [] := by rw [← List.length_eq_zero_iff, ← Go.Lib.size_eq]; simp
    rw [this]; rfl
  | succ n ih =>
    intro i hi h
    have h0 := h 0 (by omega)
    rw [Nat.add_zero] at h0
    rw [WL_step t i (by omega), escW_big _ h0, ih (i+1) (by omega) (fun k hk => by have := h (k+1) (by omega); rw [show i + 1 + k = i + (k + 1) by omega]; exact this)]
    have e : (t.extract i (i + (n + 1))).data.toList = byteOf (bt t i) :: (t.extract (i+1) (i + 1 + n)).data.toList := by
      apply List.ext_getElem?
      intro j
      have z1 := size_extract t i (i + (n + 1)) (by omega) hi
      have z2 := size_extract t (i+1) (i + 1 + n) (by omega) (by omega)
      cases j with
      | zero => rw [at_list _ 0 (by omega), bt_extract _ _ _ _ hi (by omega), Nat.add_zero]; rfl
      | succ j =>
        rw [List.getElem?_cons_succ]
        by_cases hj : j < n
        · rw [at_list _ (j+1) (by omega), at_list _ j (by omega), bt_extract _ _ _ _ hi (by omega), bt_extract _ _ _ _ (by omega) (by omega), show i + 1 + j = i + (j + 1) by omega]
        · rw [List.getElem?_eq_none (by rw [← Go.Lib.size_eq]; omega), List.getElem?_eq_none (by rw [← Go.Lib.size_eq]; omega)]
    rw [e, show i + (n + 1) = i + 1 + n by omega]
    rfl
theorem valid_WL (t : ByteArray) : ∀ f i, i ≤ t.size → t.size ≤ i + f → endF t f i = t.size → validB (ofL (WL t i)) = true := by
  intro f
  induction f with
  | zero => intro i hi h0 _; rw [WL_end t i (by omega)]; exact valid_empty
  | succ f ih =>
    intro i hi h0 he
    by_cases hlt : i < t.size
    · rcases getAt_cases t i hlt with h1 | ⟨r, n, h1, h2, h3, h4, _⟩
      · rw [endF_bad t _ i h1] at he; omega
      · rw [endF_step t f i n r hlt h1] at he
        have hrest := ih (i + n) h4 (by omega) he
        rcases getAt_bytes t i hlt r n h1 with ⟨rfl, rfl, hr⟩ | ⟨hn, hr, hb⟩
        · rw [WL_step t i hlt, ofL_app]
          exact valid_app _ _ (valid_list _ (escW_ascii _ (bt_lo _ _) hr)) hrest
        · rw [WL_rune t n i h4 hb, ofL_app]
          exact valid_app _ _ (valid_rune t i n r hlt h1 h4 h2) hrest
    · rw [WL_end t i (by omega)]; exact valid_empty
theorem valid_written (t : ByteArray) (h : validB t = true) : validB (ofL (writtenL t)) = true := by
  rw [valid_iff] at h
  rw [written_is, show (34 :: (WL t 0 ++ [34]) : List UInt8) = [34] ++ (WL t 0 ++ [34]) from rfl, ofL_app, ofL_app]
  exact valid_app _ _ (valid_list _ (by decide)) (valid_app _ _ (valid_WL t t.size 0 (by omega) (by omega) h) (valid_list _ (by decide)))
end Go.Proofs.YtpfgjiahpddpkaaDoor
