/- The walks of the reference of layer 2: Letter, Digit, in, IRI, Word, tag. The walks of the reference of layer 2: Word, tag. The reference's tests of texts are the program's. Plain laws. -/
import Derived.Test.YtpfgjiahpddpkaaDoorZ3
set_option linter.unusedVariables false
set_option linter.unusedSimpArgs false
namespace Go.Proofs.YtpfgjiahpddpkaaDoor
open Go.RowKit
theorem rletter_c (c : Int) (w : World) : Calls Tryd.prog 49 #[.int .u8 c] w fun e w' => e = .returned (.bool (letterB c)) ∧ w = w' := by
  go_enter Tryd.func49, Tryd.ntmps49
  go_wp2
  all_goals (go_ret; refine ⟨?_, rfl⟩; simp [letterB, *])
  all_goals omega
theorem rdigit_c (c : Int) (w : World) : Calls Tryd.prog 50 #[.int .u8 c] w fun e w' => e = .returned (.bool (digitB c)) ∧ w = w' := by
  go_enter Tryd.func50, Tryd.ntmps50
  go_wp2
  all_goals (go_ret; refine ⟨?_, rfl⟩; simp [digitB, *])
  all_goals omega
/-- Is a byte among a text's? -/
def inN (c : Int) (s : ByteArray) : Nat → Nat → Bool
  | 0, _ => false
  | f+1, i => if i < s.size then (if bt s i = c then true else inN c s f (i+1)) else false
def inS (c : Int) (s : ByteArray) : Bool := inN c s s.size 0
theorem inN_more (c : Int) (s : ByteArray) : ∀ f g i, s.size ≤ i + f → s.size ≤ i + g → inN c s f i = inN c s g i := by
  intro f
  induction f with
  | zero =>
    intro g i h hg
    cases g with
    | zero => rfl
    | succ g => simp only [inN]; rw [if_neg (by omega)]
  | succ f ih =>
    intro g i h hg
    by_cases hi : i < s.size
    · obtain ⟨g, rfl⟩ : ∃ m, g = m + 1 := ⟨g - 1, by omega⟩
      simp only [inN]; rw [if_pos hi, if_pos hi, ih g (i+1) (by omega) (by omega)]
    · cases g with
      | zero => simp only [inN]; rw [if_neg hi]
      | succ g => simp only [inN]; rw [if_neg hi, if_neg hi]
theorem in_c (c : Int) (s : ByteArray) (hs : s.size ≤ 2000000000) (w : World) : Calls Tryd.prog 48 #[.int .u8 c, .string s] w fun e w' => e = .returned (.bool (inS c s)) ∧ w = w' := by
  have hb := bt_at s
  go_enter Tryd.func48, Tryd.ntmps48
  go_wp2
  go_loopg [5] (s.size + 1) (fun g v wr => ∃ i : Nat, i ≤ s.size ∧ s.size + 1 ≤ i + g ∧ v = .int .i64 i ∧ w = wr ∧ Hid (inN c s s.size i = inS c s))
  case atStart => exact ⟨0, by omega, by omega, rfl, rfl, Lib.hid rfl⟩
  case round =>
    obtain ⟨i, hi, hg, rfl, rfl, HK⟩ := hrel
    obtain ⟨G, rfl⟩ : ∃ G, gk = G + 1 := ⟨gk - 1, by omega⟩
    by_cases hlt : i < s.size
    · have hst : inN c s (s.size - 1 + 1) i = if bt s i = c then true else inN c s (s.size - 1) (i+1) := by simp only [inN]; rw [if_pos hlt]
      rw [show s.size - 1 + 1 = s.size by omega, HK.out] at hst
      by_cases he : bt s i = c
      · rw [if_pos he] at hst
        have HS := Lib.hid hst; clear hst
        have hq : (bt s i == c) = true := by simp [he]
        clear he
        go_wp2
        go_ret
        exact ⟨by rw [HS.out]; rfl, rfl⟩
      · rw [if_neg he, inN_more c s _ s.size _ (by omega) (by omega)] at hst
        have HS := Lib.hid hst; clear hst
        have hq : (bt s i == c) = false := by simp [he]
        clear he
        go_wp2
        go_roundg G
        case measure => omega
        case rel => exact ⟨i + 1, by omega, by omega, by go_num, rfl, Lib.hid HS.out.symm⟩
    · obtain rfl : i = s.size := by omega
      have hst : inN c s s.size s.size = false := by
        rw [inN_more c s _ 0 _ (by omega) (by omega)]; rfl
      have HS := Lib.hid (HK.out.symm.trans hst); clear hst
      go_wp2
      go_ret
      exact ⟨by rw [HS.out]; rfl, rfl⟩
/-- Does each place hold? -/
def allN (p : Nat → Bool) (n : Nat) : Nat → Nat → Bool
  | 0, _ => true
  | f+1, i => if i < n then (if p i then allN p n f (i+1) else false) else true
theorem allN_more (p : Nat → Bool) (n : Nat) : ∀ f g i, n ≤ i + f → n ≤ i + g → allN p n f i = allN p n g i := by
  intro f
  induction f with
  | zero =>
    intro g i h hg
    cases g with
    | zero => rfl
    | succ g => simp only [allN]; rw [if_neg (by omega)]
  | succ f ih =>
    intro g i h hg
    by_cases hi : i < n
    · obtain ⟨g, rfl⟩ : ∃ m, g = m + 1 := ⟨g - 1, by omega⟩
      simp only [allN]; rw [if_pos hi, if_pos hi, ih g (i+1) (by omega) (by omega)]
    · cases g with
      | zero => simp only [allN]; rw [if_neg hi]
      | succ g => simp only [allN]; rw [if_neg hi, if_neg hi]
theorem allN_step (p : Nat → Bool) (n i : Nat) (hi : i < n) : allN p n n i = if p i then allN p n n (i+1) else false := by
  rw [allN_more p n n (n - 1 + 1) i (by omega) (by omega)]
  simp only [allN]; rw [if_pos hi, allN_more p n (n - 1) n (i+1) (by omega) (by omega)]
theorem allN_end (p : Nat → Bool) (n : Nat) : allN p n n n = true := by
  rw [allN_more p n n 0 n (by omega) (by omega)]; rfl
def rbadS : ByteArray := ⟨#[60, 62, 123, 125, 124, 94]⟩
def rokC (c : Int) : Bool := !(decide (c ≤ 32) || inS c rbadS || c == 34 || c == 92 || c == 96)
def ririB (s : ByteArray) : Bool := decide (1 ≤ s.size) && decide (s.size ≤ 1000) && validB s && allN (fun i => rokC (bt s i)) s.size s.size 0
theorem rok_no {c : Int} {b : Bool} (h : false = !(decide (c ≤ 32) || b || c == 34 || c == 92 || c == 96)) (h1 : 32 < c) (h2 : ¬ b = true) (h3 : ¬ c = 34) (h4 : ¬ c = 92) (h5 : (c == 96) = false) : False := by
  have e1 : decide (c ≤ 32) = false := by simp; omega
  have e2 : b = false := by simpa using h2
  have e3 : (c == 34) = false := by simp [h3]
  have e4 : (c == 92) = false := by simp [h4]
  rw [e1, e2, e3, e4, h5] at h
  cases h
set_option maxHeartbeats 4000000 in
theorem riri_e (s : ByteArray) (hs : s.size ≤ 2000000000) (w : World) : Calls Tryd.prog 33 #[.string s] w fun e w' => e = .returned (.bool (ririB s)) ∧ Below w.heap.size w w' := by
  have hb := bt_at s
  by_cases h1 : s.size < 1
  · have hr : ririB s = false := by unfold ririB; rw [decide_eq_false (show ¬ 1 ≤ s.size by omega)]; rfl
    have HR := Lib.hid hr; clear hr
    have d1 : decide ((s.size : Int) < 1) = true := by simp; omega
    go_enter Tryd.func33, Tryd.ntmps33
    go_wp2
    go_ret
    exact ⟨by rw [HR.out]; rfl, Below.refl _ w⟩
  · have d1 : decide ((s.size : Int) < 1) = false := by simp; omega
    by_cases h2 : 1000 < s.size
    · have hr : ririB s = false := by unfold ririB; rw [decide_eq_false (show ¬ s.size ≤ 1000 by omega)]; simp
      have HR := Lib.hid hr; clear hr
      have d2 : decide ((1000 : Int) < (s.size : Int)) = true := by simp; omega
      go_enter Tryd.func33, Tryd.ntmps33
      go_wp2
      go_ret
      exact ⟨by rw [HR.out]; rfl, Below.refl _ w⟩
    · have d2 : decide ((1000 : Int) < (s.size : Int)) = false := by simp; omega
      have hvc := fun W => rvalid_c s hs W
      cases hv : validB s with
      | false =>
        rw [hv] at hvc
        have hr : ririB s = false := by unfold ririB; rw [hv]; simp
        have HR := Lib.hid hr; clear hr
        have HV := Lib.hid hvc; clear hvc
        go_enter Tryd.func33, Tryd.ntmps33
        go_wp2_with (go_at_call 32; refine (HV.out _).mono ?_; rintro e w1 ⟨rfl, hB⟩)
        go_ret
        exact ⟨by rw [HR.out]; rfl, hB⟩
      | true =>
        rw [hv] at hvc
        have hr : ririB s = allN (fun i => rokC (bt s i)) s.size s.size 0 := by unfold ririB; rw [hv, decide_eq_true (show 1 ≤ s.size by omega), decide_eq_true (show s.size ≤ 1000 by omega)]; rfl
        have HR := Lib.hid hr; clear hr
        have HV := Lib.hid hvc; clear hvc
        clear hv
        go_enter Tryd.func33, Tryd.ntmps33
        go_wp2_with (go_at_call 32; refine (HV.out _).mono ?_; rintro e w1 ⟨rfl, hB⟩)
        go_loopg [3] (s.size + 1) (fun g v wr => ∃ i : Nat, i ≤ s.size ∧ s.size + 1 ≤ i + g ∧ v = .int .i64 i ∧ Below w.heap.size w wr ∧ Hid (allN (fun i => rokC (bt s i)) s.size s.size i = ririB s))
        case atStart => exact ⟨0, by omega, by omega, rfl, hB, Lib.hid HR.out.symm⟩
        case round =>
          obtain ⟨i, hi, hg, rfl, hB1, HK⟩ := hrel
          obtain ⟨G, rfl⟩ : ∃ G, gk = G + 1 := ⟨gk - 1, by omega⟩
          by_cases hlt : i < s.size
          · have hst := allN_step (fun i => rokC (bt s i)) s.size i hlt
            rw [HK.out] at hst
            have hcc : rokC (bt s i) = !(decide (bt s i ≤ 32) || inS (bt s i) rbadS || bt s i == 34 || bt s i == 92 || bt s i == 96) := rfl
            have HS := Lib.hid hst; clear hst
            have hic := fun W => in_c (bt s i) rbadS (by decide) W
            have hub : rbadS = ⟨#[60, 62, 123, 125, 124, 94]⟩ := rfl
            cases ho : rokC (bt s i) with
            | true =>
              rw [ho] at hcc
              simp at hcc
              obtain ⟨⟨⟨⟨e1, e2⟩, e3⟩, e4⟩, e5⟩ := hcc
              rw [e2, hub] at hic
              have HIC := Lib.hid hic; clear hic e2 hub
              have q1 : decide (bt s i ≤ 32) = false := by simp; omega
              have q3 : (bt s i == 34) = false := by simp [e3]
              have q4 : (bt s i == 92) = false := by simp [e4]
              have q5 : (bt s i == 96) = false := by simp [e5]
              have HO := Lib.hid ho
              clear ho e3 e4 e5
              go_wp2_with (go_at_call 48; refine (HIC.out _).mono ?_; rintro e w' ⟨rfl, rfl⟩)
              go_roundg G
              case measure => omega
              case rel => exact ⟨i + 1, by omega, by omega, by go_num, hB1, Lib.hid (by have := HS.out; rw [HO.out, if_pos rfl] at this; exact this.symm)⟩
            | false =>
              rw [ho] at hcc
              have HO := Lib.hid ho
              clear ho
              rw [hub] at hic hcc
              have HIC := Lib.hid hic; clear hic hub
              have HCC := Lib.hid hcc; clear hcc
              go_wp2_with (go_at_call 48; refine (HIC.out _).mono ?_; rintro e w' ⟨rfl, rfl⟩)
              all_goals first
                | (go_ret; exact ⟨by have := HS.out; rw [HO.out] at this; rw [this]; rfl, hB1⟩)
                | (exfalso; exact rok_no HCC.out (by assumption) (show ¬ inS (bt s i) ⟨#[60, 62, 123, 125, 124, 94]⟩ = true by assumption) (by assumption) (by assumption) (And.right (show ((32 < bt s i ∧ (bt s i == 34) = false) ∧ (bt s i == 92) = false) ∧ (bt s i == 96) = false by assumption)))
          · obtain rfl : i = s.size := by omega
            have he := allN_end (fun i => rokC (bt s i)) s.size
            have HE := Lib.hid (HK.out.symm.trans he); clear he
            go_wp2
            go_ret
            exact ⟨by rw [HE.out]; rfl, hB1⟩
end Go.Proofs.YtpfgjiahpddpkaaDoor
set_option linter.unusedVariables false
set_option linter.unusedSimpArgs false
namespace Go.Proofs.YtpfgjiahpddpkaaDoor
open Go.RowKit
def rldB (c : Int) : Bool := letterB c || digitB c
def rwordB (s : ByteArray) (most : Nat) : Bool := decide (1 ≤ s.size) && decide (s.size ≤ most) && letterB (bt s 0) && allN (fun i => rldB (bt s i)) s.size s.size 0
set_option maxHeartbeats 4000000 in
theorem rword_e (s : ByteArray) (hs : s.size ≤ 2000000000) (most : Nat) (hm : most ≤ 1000) (w : World) : Calls Tryd.prog 34 #[.string s, .int .i64 most] w fun e w' => e = .returned (.bool (rwordB s most)) ∧ w = w' := by
  have hb := bt_at s
  by_cases h1 : s.size < 1
  · have hr : rwordB s most = false := by unfold rwordB; rw [decide_eq_false (show ¬ 1 ≤ s.size by omega)]; rfl
    have HR := Lib.hid hr; clear hr
    have d1 : decide ((s.size : Int) < 1) = true := by simp; omega
    go_enter Tryd.func34, Tryd.ntmps34
    go_wp2
    go_ret
    exact ⟨by rw [HR.out]; rfl, rfl⟩
  · have d1 : decide ((s.size : Int) < 1) = false := by simp; omega
    have hp : 0 < s.size := by omega
    by_cases h2 : most < s.size
    · have hr : rwordB s most = false := by unfold rwordB; rw [decide_eq_false (show ¬ s.size ≤ most by omega)]; simp
      have HR := Lib.hid hr; clear hr
      have d2 : decide (most < s.size) = true := by simp; omega
      go_enter Tryd.func34, Tryd.ntmps34
      go_wp2
      go_ret
      exact ⟨by rw [HR.out]; rfl, rfl⟩
    · have d2 : decide (most < s.size) = false := by simp; omega
      have hlc := fun c W => rletter_c c W
      have hdc := fun c W => rdigit_c c W
      cases hl : letterB (bt s 0) with
      | false =>
        have hr : rwordB s most = false := by unfold rwordB; rw [hl]; simp
        have HR := Lib.hid hr; clear hr
        have h0 := fun W => rletter_c (bt s 0) W
        rw [hl] at h0
        have H0 := Lib.hid h0; clear h0 hl hlc hdc
        go_enter Tryd.func34, Tryd.ntmps34
        go_wp2_with (go_at_call 49; refine (H0.out _).mono ?_; rintro e w1 ⟨rfl, rfl⟩)
        go_ret
        exact ⟨by rw [HR.out]; rfl, rfl⟩
      | true =>
        have hr : rwordB s most = allN (fun i => rldB (bt s i)) s.size s.size 0 := by unfold rwordB; rw [hl, decide_eq_true (show 1 ≤ s.size by omega), decide_eq_true (show s.size ≤ most by omega)]; rfl
        have HR := Lib.hid hr; clear hr
        have h0 := fun W => rletter_c (bt s 0) W
        rw [hl] at h0
        have H0 := Lib.hid h0; clear h0 hl hlc hdc
        go_enter Tryd.func34, Tryd.ntmps34
        go_wp2_with (go_at_call 49; refine (H0.out _).mono ?_; rintro e w1 ⟨rfl, rfl⟩)
        go_loopg [5] (s.size + 1) (fun g v wr => ∃ i : Nat, i ≤ s.size ∧ s.size + 1 ≤ i + g ∧ v = .int .i64 i ∧ w = wr ∧ Hid (allN (fun i => rldB (bt s i)) s.size s.size i = rwordB s most))
        case atStart => exact ⟨0, by omega, by omega, rfl, rfl, Lib.hid HR.out.symm⟩
        case round =>
          obtain ⟨i, hi, hg, rfl, rfl, HK⟩ := hrel
          obtain ⟨G, rfl⟩ : ∃ G, gk = G + 1 := ⟨gk - 1, by omega⟩
          by_cases hlt : i < s.size
          · have hst := allN_step (fun i => rldB (bt s i)) s.size i hlt
            rw [HK.out] at hst
            have HS := Lib.hid hst; clear hst
            have h1c := fun W => rletter_c (bt s i) W
            have h2c := fun W => rdigit_c (bt s i) W
            have hcc : rldB (bt s i) = (letterB (bt s i) || digitB (bt s i)) := rfl
            cases e1 : letterB (bt s i) with
            | true =>
              rw [e1] at h1c hcc
              have H1 := Lib.hid h1c
              have HC := Lib.hid hcc
              clear h1c h2c hcc e1
              go_wp2_with (go_at_call 49; refine (H1.out _).mono ?_; rintro e w1 ⟨rfl, rfl⟩)
              go_roundg G
              case measure => omega
              case rel => exact ⟨i + 1, by omega, by omega, by go_num, rfl, Lib.hid (by have := HS.out; rw [HC.out, Bool.true_or, if_pos rfl] at this; exact this.symm)⟩
            | false =>
              cases e2 : digitB (bt s i) with
              | true =>
                rw [e1] at h1c hcc
                rw [e2] at h2c hcc
                have H1 := Lib.hid h1c
                have H2 := Lib.hid h2c
                have HC := Lib.hid hcc
                clear h1c h2c hcc e1 e2
                go_wp2_with (first | (go_at_call 49; refine (H1.out _).mono ?_; rintro e w1 ⟨rfl, rfl⟩) | (go_at_call 50; refine (H2.out _).mono ?_; rintro e w1 ⟨rfl, rfl⟩))
                go_roundg G
                case measure => omega
                case rel => exact ⟨i + 1, by omega, by omega, by go_num, rfl, Lib.hid (by have := HS.out; rw [HC.out, Bool.or_true, if_pos rfl] at this; exact this.symm)⟩
              | false =>
                rw [e1] at h1c hcc
                rw [e2] at h2c hcc
                have H1 := Lib.hid h1c
                have H2 := Lib.hid h2c
                have HC := Lib.hid hcc
                clear h1c h2c hcc e1 e2
                go_wp2_with (first | (go_at_call 49; refine (H1.out _).mono ?_; rintro e w1 ⟨rfl, rfl⟩) | (go_at_call 50; refine (H2.out _).mono ?_; rintro e w1 ⟨rfl, rfl⟩))
                go_ret
                exact ⟨by have := HS.out; rw [HC.out] at this; rw [this]; rfl, rfl⟩
          · obtain rfl : i = s.size := by omega
            have he := allN_end (fun i => rldB (bt s i)) s.size
            have HE := Lib.hid (HK.out.symm.trans he); clear he
            go_wp2
            go_ret
            exact ⟨by rw [HE.out]; rfl, rfl⟩
/-- A language, gone through byte by byte. -/
def smallC (c : Int) : Bool := decide (97 ≤ c) && decide (c ≤ 122)
def rtagN (s : ByteArray) : Nat → Nat → Bool → Bool
  | 0, _, _ => true
  | f+1, i, first => if i < s.size then (if bt s i = 45 then (if bt s (i-1) = 45 then false else rtagN s f (i+1) false)
      else if (!smallC (bt s i) && (first || !digitB (bt s i))) = true then false else rtagN s f (i+1) first) else true
theorem rtagN_more (s : ByteArray) : ∀ f g i b, s.size ≤ i + f → s.size ≤ i + g → rtagN s f i b = rtagN s g i b := by
  intro f
  induction f with
  | zero =>
    intro g i b h hg
    cases g with
    | zero => rfl
    | succ g => simp only [rtagN]; rw [if_neg (by omega)]
  | succ f ih =>
    intro g i b h hg
    by_cases hi : i < s.size
    · obtain ⟨g, rfl⟩ : ∃ m, g = m + 1 := ⟨g - 1, by omega⟩
      simp only [rtagN]; rw [if_pos hi, if_pos hi, ih g (i+1) _ (by omega) (by omega), ih g (i+1) _ (by omega) (by omega)]
    · cases g with
      | zero => simp only [rtagN]; rw [if_neg hi]
      | succ g => simp only [rtagN]; rw [if_neg hi, if_neg hi]
theorem rtagN_step (s : ByteArray) (i : Nat) (b : Bool) (hi : i < s.size) : rtagN s s.size i b = if bt s i = 45 then (if bt s (i-1) = 45 then false else rtagN s s.size (i+1) false)
      else if (!smallC (bt s i) && (b || !digitB (bt s i))) = true then false else rtagN s s.size (i+1) b := by
  rw [rtagN_more s s.size (s.size - 1 + 1) i b (by omega) (by omega)]
  simp only [rtagN]
  rw [if_pos hi, rtagN_more s (s.size - 1) s.size (i+1) _ (by omega) (by omega), rtagN_more s (s.size - 1) s.size (i+1) _ (by omega) (by omega)]
theorem rtagN_end (s : ByteArray) (b : Bool) : rtagN s s.size s.size b = true := by
  rw [rtagN_more s s.size 0 s.size b (by omega) (by omega)]; rfl
def rtagB (s : ByteArray) : Bool := decide (1 ≤ s.size) && decide (s.size ≤ 35) && !(bt s 0 == 45) && !(bt s (s.size - 1) == 45) && rtagN s s.size 0 true
end Go.Proofs.YtpfgjiahpddpkaaDoor
set_option linter.unusedVariables false
namespace Go.Proofs.YtpfgjiahpddpkaaDoor
open Go.RowKit
theorem allN_iff (p : Nat → Bool) (n : Nat) : ∀ d i, i + d = n → (allN p n n i = true ↔ ∀ k, i ≤ k → k < n → p k = true) := by
  intro d
  induction d with
  | zero =>
    intro i hi
    obtain rfl : i = n := by omega
    rw [allN_end]
    exact ⟨fun _ k h1 h2 => by omega, fun _ => rfl⟩
  | succ d ih =>
    intro i hi
    rw [allN_step p n i (by omega)]
    by_cases hp : p i = true
    · rw [if_pos hp, ih (i+1) (by omega)]
      constructor
      · intro h k h1 h2
        rcases Nat.eq_or_lt_of_le h1 with rfl | h3
        · exact hp
        · exact h k h3 h2
      · intro h k h1 h2; exact h k (by omega) h2
    · rw [if_neg hp]
      exact ⟨fun h => (by cases h), fun h => absurd (h i (Nat.le_refl _) (by omega)) hp⟩
theorem all_iff (p : Nat → Bool) (n : Nat) : allN p n n 0 = true ↔ ∀ k, k < n → p k = true := by
  rw [allN_iff p n n 0 (by omega)]
  exact ⟨fun h k hk => h k (by omega) hk, fun h k _ hk => h k hk⟩
theorem rword_is (s : ByteArray) : rwordB s 64 = blankB s := by
  rw [Bool.eq_iff_iff]
  unfold rwordB blankB wordsB
  simp only [Bool.and_eq_true, decide_eq_true_eq, all_iff, List.all_eq_true, List.mem_range]
  constructor
  · rintro ⟨⟨⟨h1, h2⟩, h3⟩, h4⟩
    refine ⟨⟨fun k hk => ?_, h1⟩, h2⟩
    have h5 := h4 k hk
    unfold rldB at h5
    unfold namedB
    rcases Nat.eq_zero_or_pos k with rfl | hp
    · rw [h3]; rfl
    · rw [decide_eq_true hp, Bool.true_and]; exact h5
  · rintro ⟨⟨h1, h2⟩, h3⟩
    refine ⟨⟨⟨h2, h3⟩, ?_⟩, fun k hk => ?_⟩
    · have := h1 0 (by omega); unfold namedB at this; simpa using this
    · have h5 := h1 k hk
      unfold namedB at h5; unfold rldB
      rw [Bool.or_eq_true] at h5 ⊢
      rcases h5 with h5 | h5
      · exact .inl h5
      · rw [Bool.and_eq_true] at h5; exact .inr h5.2
/-! ### IRIs -/
theorem rok_is (c : Int) (h0 : 0 ≤ c) (h1 : c < 256) : rokC c = (decide (32 < c) && !badC c) := by
  have := (by decide +kernel : ∀ c : Fin 256, rokC (c.val : Int) = (decide (32 < (c.val : Int)) && !badC (c.val : Int)))
  have h := this ⟨c.toNat, by omega⟩
  simp only [Int.toNat_of_nonneg h0] at h; exact h
theorem getL_cont (s : ByteArray) : ∀ d i r x, getL s d i r = some x → ∀ k, 1 ≤ k → k ≤ d → contB (bt s (i + k)) = true := by
  intro d
  induction d with
  | zero => intro i r x _ k h1 h2; omega
  | succ d ih =>
    intro i r x h k h1 h2
    simp only [getL] at h
    by_cases hc : contB (bt s (i+1)) = true
    · rw [if_pos hc] at h
      rcases Nat.eq_or_lt_of_le h1 with rfl | h3
      · exact hc
      · have := ih (i+1) _ x h (k-1) (by omega) (by omega)
        rw [show i + 1 + (k - 1) = i + k by omega] at this; exact this
    · rw [if_neg hc] at h; cases h
theorem getAt_bytes (s : ByteArray) (i : Nat) (hi : i < s.size) (r : Int) (n : Nat) (h : getAt s i = (r, (n : Int), 0)) : (n = 1 ∧ r = bt s i ∧ r < 128) ∨ (2 ≤ n ∧ 128 ≤ r ∧ ∀ k, k < n → 128 ≤ bt s (i + k)) := by
  rw [getAt_is s i hi] at h
  have b0 := bt_lo s i
  have b1 := bt_hi s i
  by_cases h1 : (headU (bt s i)).2 < 0 ∨ ((s.size - i : Nat) : Int) ≤ (headU (bt s i)).2
  · rw [if_pos h1] at h; simp at h
  · rw [if_neg h1] at h
    have hc := getE_cases (getL s (headU (bt s i)).2.toNat i (headU (bt s i)).1) (headU (bt s i)).2 (by omega)
    rw [h] at hc
    rcases hc with ⟨hc, _⟩ | ⟨_, hn, hm, hz, ho⟩
    · simp at hc
    · simp only at hn hm hz ho
      by_cases h128 : bt s i < 128
      · have hh : headU (bt s i) = (bt s i, 0) := by unfold headU; rw [if_pos h128]
        rw [hh] at hn ho
        simp [getL] at ho
        exact .inl ⟨by omega, ho.symm, by omega⟩
      · have hm1 : 1 ≤ (headU (bt s i)).2 := by
          unfold headU at h1 ⊢; rw [if_neg h128] at h1 ⊢
          (repeat' split) <;> simp_all
        have h194 : 194 ≤ bt s i := by
          unfold headU at h1; rw [if_neg h128] at h1
          split at h1
          · omega
          · split at h1
            · omega
            · split at h1
              · omega
              · simp at h1
        refine .inr ⟨by omega, ?_, ?_⟩
        · unfold sizeI at hz; split at hz
          · omega
          · omega
        · intro k hk
          rcases Nat.eq_zero_or_pos k with rfl | hp
          · rw [Nat.add_zero]; omega
          · have h5 := getL_cont s _ i _ r ho k hp (by omega)
            have h6 := (contB_is _).1 h5
            omega
theorem okRune_big (r : Int) (h : 128 ≤ r) : okRune r = true := by
  unfold okRune; rw [decide_eq_true (show 32 < r by omega), decide_eq_true h]; rfl
theorem okRune_small (r : Int) (h : r < 128) : okRune r = (decide (32 < r) && !badC r) := by
  unfold okRune; rw [decide_eq_false (show ¬ 128 ≤ r by omega), Bool.false_or]
theorem rok_big (c : Int) (h0 : 128 ≤ c) (h1 : c < 256) : rokC c = true := by
  rw [rok_is c (by omega) h1, decide_eq_true (show 32 < c by omega)]
  have : badC c = false := by unfold badC; simp; omega
  rw [this]; rfl
theorem runes_bytes (s : ByteArray) : ∀ f i, i ≤ s.size → s.size ≤ i + f → endF s f i = s.size → ((∀ x ∈ runesF s f i, okRune x.2 = true) ↔ ∀ k, i ≤ k → k < s.size → rokC (bt s k) = true) := by
  intro f
  induction f with
  | zero => intro i hi h0 _; simp only [runesF]; exact ⟨fun _ k h1 h2 => by omega, fun _ x hx => by simp at hx⟩
  | succ f ih =>
    intro i hi h0 he
    by_cases hlt : i < s.size
    · rcases getAt_cases s i hlt with h1 | ⟨r, n, h1, h2, h3, h4, _⟩
      · rw [endF_bad s _ i h1] at he; omega
      · rw [runesF_step s f i n r hlt h1]
        rw [endF_step s f i n r hlt h1] at he
        have hb := getAt_bytes s i hlt r n h1
        rw [List.forall_mem_cons, ih (i + n) h4 (by omega) he]
        rcases hb with ⟨rfl, rfl, hr⟩ | ⟨hn, hr, hbs⟩
        · rw [show okRune (i, bt s i).2 = rokC (bt s i) by rw [okRune_small _ hr, rok_is _ (bt_lo _ _) (bt_hi _ _)]]
          constructor
          · rintro ⟨q1, q2⟩ k hk hk2
            rcases Nat.eq_or_lt_of_le hk with rfl | h5
            · exact q1
            · exact q2 k h5 hk2
          · intro q
            exact ⟨q i (Nat.le_refl _) hlt, fun k hk hk2 => q k (by omega) hk2⟩
        · rw [show okRune (i, r).2 = true from okRune_big r hr]
          constructor
          · rintro ⟨_, q2⟩ k hk hk2
            rcases Nat.lt_or_ge k (i + n) with h5 | h5
            · have := hbs (k - i) (by omega)
              rw [show i + (k - i) = k by omega] at this
              exact rok_big _ this (bt_hi _ _)
            · exact q2 k h5 hk2
          · intro q
            exact ⟨rfl, fun k hk hk2 => q k (by omega) hk2⟩
    · rw [runesF_out s _ i (by omega)]
      exact ⟨fun _ k h1 h2 => by omega, fun _ x hx => by simp at hx⟩
theorem riri_is (s : ByteArray) : ririB s = iriB s := by
  rw [Bool.eq_iff_iff]
  unfold ririB iriB
  simp only [Bool.and_eq_true, decide_eq_true_eq, all_iff, List.all_eq_true]
  constructor
  · rintro ⟨⟨⟨h1, h2⟩, h3⟩, h4⟩
    have he : endF s s.size 0 = s.size := by unfold validB endU at h3; simpa using h3
    exact ⟨⟨⟨h1, h2⟩, h3⟩, (runes_bytes s s.size 0 (by omega) (by omega) he).2 (fun k _ hk => h4 k hk)⟩
  · rintro ⟨⟨⟨h1, h2⟩, h3⟩, h4⟩
    have he : endF s s.size 0 = s.size := by unfold validB endU at h3; simpa using h3
    exact ⟨⟨⟨h1, h2⟩, h3⟩, fun k hk => (runes_bytes s s.size 0 (by omega) (by omega) he).1 h4 k (by omega) hk⟩
/-! ### languages -/
theorem index_one (c : UInt8) : ∀ l : List UInt8, Go.Lib.index l [c] = Go.Lib.indexByte l c := by
  intro l
  induction l with
  | nil => rfl
  | cons b l ih =>
    unfold Go.Lib.index Go.Lib.indexByte
    rw [ih]
    have e : ([c].isPrefixOf (b :: l)) = (b == c) := by simp [List.isPrefixOf, Bool.beq_comm]
    rw [e]
theorem dash_none (s : ByteArray) (h : Go.Lib.indexB s dash = -1) : ∀ k, bt s k ≠ 45 := by
  intro k e
  have h1 : Go.Lib.indexByte s.data.toList 45 = -1 := (index_one 45 _).symm.trans h
  have hk := bt_in s k (by rw [e]; decide)
  have h2 := Go.Lib.indexByte_none h1 k
  rw [at_list s k hk, e] at h2
  exact h2 rfl
theorem dash_some (s : ByteArray) (i : Nat) (h : Go.Lib.indexB s dash = i) : i < s.size ∧ bt s i = 45 ∧ ∀ k, k < i → bt s k ≠ 45 := by
  have h1 : Go.Lib.indexByte s.data.toList 45 = i := (index_one 45 _).symm.trans h
  have h2 := Go.Lib.indexByte_some h1
  have h3 := list_at s i 45 h2.1
  refine ⟨h3.1, h3.2, ?_⟩
  intro k hk e
  have h4 := h2.2 k hk
  rw [at_list s k (by omega), e] at h4
  exact h4 rfl
def tagL (later : Bool) (c : Int) : Bool := smallC c || (later && digitB c)
theorem tagL_is (i : Nat) (c : Int) : tagC i c = tagL (decide (0 < i)) c := rfl
/-- A language, from place i on: is a part behind the first one begun; was the byte ahead a dash, or none? -/
def tgN (s : ByteArray) : Nat → Nat → Bool → Bool → Bool
  | 0, _, _, prev => !prev
  | f+1, i, later, prev => if i < s.size then (if bt s i = 45 then (if prev then false else tgN s f (i+1) true true) else (tagL later (bt s i) && tgN s f (i+1) later false)) else !prev
theorem tgN_more (s : ByteArray) : ∀ f g i a b, s.size ≤ i + f → s.size ≤ i + g → tgN s f i a b = tgN s g i a b := by
  intro f
  induction f with
  | zero =>
    intro g i a b h hg
    cases g with
    | zero => rfl
    | succ g => simp only [tgN]; rw [if_neg (by omega)]
  | succ f ih =>
    intro g i a b h hg
    by_cases hi : i < s.size
    · obtain ⟨g, rfl⟩ : ∃ m, g = m + 1 := ⟨g - 1, by omega⟩
      simp only [tgN]; rw [if_pos hi, if_pos hi, ih g (i+1) _ _ (by omega) (by omega), ih g (i+1) _ _ (by omega) (by omega)]
    · cases g with
      | zero => simp only [tgN]; rw [if_neg hi]
      | succ g => simp only [tgN]; rw [if_neg hi, if_neg hi]
def tg (s : ByteArray) (i : Nat) (a b : Bool) : Bool := tgN s s.size i a b
theorem tg_end (s : ByteArray) (i : Nat) (a b : Bool) (h : s.size ≤ i) : tg s i a b = !b := by
  unfold tg; rw [tgN_more s s.size 0 i a b (by omega) (by omega)]; rfl
theorem tg_step (s : ByteArray) (i : Nat) (a b : Bool) (h : i < s.size) : tg s i a b = if bt s i = 45 then (if b then false else tg s (i+1) true true) else (tagL a (bt s i) && tg s (i+1) a false) := by
  unfold tg
  rw [tgN_more s s.size (s.size - 1 + 1) i a b (by omega) (by omega)]
  simp only [tgN]
  rw [if_pos h, tgN_more s (s.size - 1) s.size (i+1) _ _ (by omega) (by omega), tgN_more s (s.size - 1) s.size (i+1) _ _ (by omega) (by omega)]
theorem Tail.tg {b s : ByteArray} {d : Nat} (h : Tail b s d) : ∀ n i x y, i + n = b.size → tg s (d + i) x y = tg b i x y := by
  have hs := h.size
  intro n
  induction n with
  | zero => intro i x y hi; rw [tg_end _ _ _ _ (by omega), tg_end _ _ _ _ (by omega)]
  | succ n ih =>
    intro i x y hi
    rw [tg_step s _ _ _ (by omega), tg_step b _ _ _ (by omega), h.eq, show d + i + 1 = d + (i + 1) by omega, ih (i+1) _ _ (by omega), ih (i+1) _ _ (by omega)]
/-- A part without a dash. -/
theorem tg_part (s : ByteArray) (later : Bool) : ∀ n i e prev, i + n = e → e ≤ s.size → (∀ k, i ≤ k → k < e → bt s k ≠ 45) → tg s i later prev = (((List.range n).all fun k => tagL later (bt s (i + k))) && tg s e later (prev && decide (n = 0))) := by
  intro n
  induction n with
  | zero => intro i e prev hi he _; obtain rfl : i = e := by omega
            simp
  | succ n ih =>
    intro i e prev hi he hn
    rw [tg_step s i later prev (by omega), if_neg (hn i (Nat.le_refl _) (by omega)), ih (i+1) e false (by omega) he (fun k h1 h2 => hn k (by omega) h2), List.range_succ_eq_map, List.all_cons, List.all_map]
    simp only [Bool.false_and, Nat.add_zero, decide_eq_false (show ¬ n + 1 = 0 by omega), Bool.and_false, Bool.and_assoc]
    congr 1
    congr 1
    congr 1
    funext k
    simp only [Function.comp]
    rw [show i + 1 + k = i + (k + 1) by omega]
def partsOk : Nat → List ByteArray → Bool
  | _, [] => true
  | j, p :: r => okPart j p && partsOk (j+1) r
theorem partsOk_is : ∀ (L : List ByteArray) (j : Nat), partsOk j L = ((List.range L.length).all fun i => okPart (j + i) (L[i]?.getD ByteArray.empty)) := by
  intro L
  induction L with
  | nil => intro j; rfl
  | cons p r ih =>
    intro j
    rw [List.length_cons, List.range_succ_eq_map, List.all_cons, List.all_map]
    simp only [partsOk, ih]
    congr 1
    congr 1
    funext k
    simp only [Function.comp, List.getElem?_cons_succ]
    rw [show j + 1 + k = j + (k + 1) by omega]
theorem part_all (s : ByteArray) (j e : Nat) (he : e ≤ s.size) : okPart j (s.extract 0 e) = (decide (1 ≤ e) && (List.range e).all fun k => tagL (decide (0 < j)) (bt s (0 + k))) := by
  have hz := size_extract s 0 e (by omega) he
  unfold okPart charsOk
  rw [hz, Nat.sub_zero]
  refine congrArg (fun x => decide (1 ≤ e) && x) ?_
  rw [Bool.eq_iff_iff, List.all_eq_true, List.all_eq_true]
  have hk' : ∀ k, k < e → tagC j (bt (s.extract 0 e) k) = tagL (decide (0 < j)) (bt s (0 + k)) := by
    intro k hk
    rw [bt_extract s 0 e k he (by omega), tagL_is]
  constructor
  · intro h k hk
    rw [← hk' k (List.mem_range.1 hk)]; exact h k hk
  · intro h k hk
    rw [hk' k (List.mem_range.1 hk)]; exact h k hk
theorem dash_size : dash.size = 1 := rfl
set_option maxHeartbeats 1000000 in
theorem parts_tg : ∀ (k : Nat) (s : ByteArray) (j : Nat), Go.Lib.countB s dash = k → partsOk j (Go.Lib.splitB dash 0 k s) = tg s 0 (decide (0 < j)) true := by
  intro k
  induction k with
  | zero =>
    intro s j hk
    have hno : Go.Lib.indexB s dash = -1 := by
      have hge : -1 ≤ Go.Lib.indexB s dash := Go.Lib.index_ge _ _
      rcases Int.lt_or_eq_of_le hge with h1 | h1
      · obtain ⟨i, hi⟩ := Int.eq_ofNat_of_zero_le (show 0 ≤ Go.Lib.indexB s dash by omega)
        have := Go.Lib.countB_hit s dash i (Nat.le_of_eq dash_size.symm) hi
        omega
      · exact h1.symm
    have hd := dash_none s hno
    have e : s.extract 0 s.size = s := by
      refine ba_ext _ _ ?_ ?_
      · rw [size_extract _ _ _ (by omega) (by omega)]; omega
      · intro k hk
        rw [size_extract _ _ _ (by omega) (by omega)] at hk
        rw [bt_extract _ _ _ _ (by omega) hk, Nat.zero_add]
    have hp := part_all s j s.size (Nat.le_refl _)
    rw [e] at hp
    rw [Go.Lib.splitB_zero]
    simp only [partsOk, Bool.and_true]
    rw [hp, tg_part s (decide (0 < j)) s.size 0 s.size true (by omega) (Nat.le_refl _) (fun k _ _ => hd k), tg_end _ _ _ _ (Nat.le_refl _), Bool.and_comm]
    congr 1
    by_cases hz : s.size = 0
    · rw [decide_eq_true hz, decide_eq_false (by omega)]; rfl
    · rw [decide_eq_false hz, decide_eq_true (by omega)]; rfl
  | succ k ih =>
    intro s j hk
    have hge : -1 ≤ Go.Lib.indexB s dash := Go.Lib.index_ge _ _
    rcases Int.lt_or_eq_of_le hge with h1 | h1
    · obtain ⟨i, hi⟩ := Int.eq_ofNat_of_zero_le (show 0 ≤ Go.Lib.indexB s dash by omega)
      have hc := Go.Lib.countB_hit s dash i (Nat.le_of_eq dash_size.symm) hi
      rw [dash_size] at hc
      obtain ⟨d1, d2, d3⟩ := dash_some s i hi
      rw [Go.Lib.splitB_hit dash 0 k s i hi, dash_size, Nat.add_zero]
      simp only [partsOk]
      have ht : Tail (s.extract (i + 1) s.size) s (i + 1) := ⟨by rw [size_extract _ _ _ (by omega) (Nat.le_refl _)]; omega, fun q => (bt_tail s (i+1) q (by omega)).symm⟩
      rw [ih (s.extract (i + 1) s.size) (j+1) (by omega), part_all s j i (by omega)]
      rw [← ht.tg (s.extract (i + 1) s.size).size 0 _ _ (by omega), Nat.add_zero, decide_eq_true (show 0 < j + 1 by omega)]
      rw [tg_part s (decide (0 < j)) i 0 i true (by omega) (by omega) (fun k _ hk => d3 k hk), tg_step s i _ _ d1, if_pos d2, Bool.true_and]
      by_cases hz : i = 0
      · rw [decide_eq_true hz, decide_eq_false (show ¬ 1 ≤ i by omega)]; simp
      · rw [decide_eq_false hz, decide_eq_true (show 1 ≤ i by omega)]; simp
    · have := Go.Lib.countB_miss s dash h1.symm
      omega
theorem rtag_tg (s : ByteArray) : ∀ n i later, i + n = s.size → 1 ≤ i → tg s i later (bt s (i - 1) == 45) = (rtagN s s.size i (!later) && !(bt s (s.size - 1) == 45)) := by
  intro n
  induction n with
  | zero =>
    intro i later hi h1
    obtain rfl : i = s.size := by omega
    rw [tg_end _ _ _ _ (Nat.le_refl _), rtagN_end, Bool.true_and]
  | succ n ih =>
    intro i later hi h1
    have h2 := ih (i+1)
    rw [Nat.add_sub_cancel] at h2
    rw [tg_step s i _ _ (by omega), rtagN_step s i _ (by omega)]
    by_cases hc : bt s i = 45
    · rw [if_pos hc, if_pos hc]
      have h3 := h2 true (by omega) (by omega)
      rw [hc] at h3
      by_cases hp : bt s (i - 1) = 45
      · rw [hp, if_pos (by decide), if_pos rfl]; rfl
      · rw [if_neg (by simpa using hp), if_neg hp]; exact h3
    · rw [if_neg hc, if_neg hc]
      have h3 := h2 later (by omega) (by omega)
      rw [show (bt s i == 45) = false by simpa using hc] at h3
      rw [h3]
      unfold tagL
      cases smallC (bt s i) <;> cases later <;> cases digitB (bt s i) <;> simp
theorem rtag_is (s : ByteArray) : rtagB s = tagB s := by
  have e : tagB s = (tg s 0 false true && decide (s.size ≤ 35)) := by
    unfold tagB
    congr 1
    have h1 := parts_tg (Go.Lib.countB s dash) s 0 rfl
    rw [decide_eq_false (Nat.lt_irrefl 0)] at h1
    rw [← h1, partsOk_is]
    unfold tagPs parts
    simp only [Nat.zero_add]
  rw [e]
  unfold rtagB
  by_cases hz : s.size = 0
  · rw [decide_eq_false (show ¬ 1 ≤ s.size by omega), tg_end _ _ _ _ (by omega)]; rfl
  · rw [decide_eq_true (show 1 ≤ s.size by omega), tg_step s 0 _ _ (by omega), rtagN_step s 0 _ (by omega)]
    by_cases hc : bt s 0 = 45
    · rw [if_pos hc, if_pos rfl, hc]; simp
    · have h3 := rtag_tg s (s.size - 1) 1 false (by omega) (by omega)
      rw [Nat.sub_self, show (bt s 0 == 45) = false by simpa using hc] at h3
      rw [if_neg hc, if_neg hc, show (bt s 0 == 45) = false by simpa using hc, Nat.zero_add, h3]
      unfold tagL
      simp only [Bool.not_false]
      generalize rtagN s s.size 1 true = R
      generalize (bt s (s.size - 1) == 45) = E
      generalize decide (s.size ≤ 35) = Q
      cases smallC (bt s 0) <;> cases digitB (bt s 0) <;> cases R <;> cases E <;> cases Q <;> rfl
end Go.Proofs.YtpfgjiahpddpkaaDoor
