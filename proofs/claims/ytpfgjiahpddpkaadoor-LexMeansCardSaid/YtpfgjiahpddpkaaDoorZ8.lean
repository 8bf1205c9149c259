/- The walks of the reference of layer 2: Text, Long. -/
import Derived.Test.YtpfgjiahpddpkaaDoorZ7
import Derived.Test.YtpfgjiahpddpkaaDoorLex7
set_option linter.unusedVariables false
set_option linter.unusedSimpArgs false
namespace Go.Proofs.YtpfgjiahpddpkaaDoor
open Go.RowKit
def termB (k : Int) (t x : ByteArray) : ByteArray :=
  if k = 1 then (⟨#[60]⟩ ++ t) ++ ⟨#[62]⟩ else if k = 2 then ⟨#[95, 58]⟩ ++ t else if k = 4 then (ofL (writtenL t) ++ ⟨#[64]⟩) ++ x
  else if k = 5 then ((ofL (writtenL t) ++ ⟨#[94, 94, 60]⟩) ++ x) ++ ⟨#[62]⟩ else ofL (writtenL t)
theorem escW_len (c : Int) : (escW c).length ≤ 6 ∧ 1 ≤ (escW c).length := by unfold escW; (repeat' split) <;> simp
theorem wrN_len (s : ByteArray) : ∀ f i acc, i ≤ s.size → (wrN s f i acc).length ≤ acc.length + 6 * (s.size - i) := by
  intro f
  induction f with
  | zero => intro i acc h; simp only [wrN]; omega
  | succ f ih =>
    intro i acc h
    simp only [wrN]
    split
    · have h1 := ih (i+1) (acc ++ escW (bt s i)) (by omega)
      have h2 := escW_len (bt s i)
      rw [List.length_append] at h1
      omega
    · omega
theorem written_len (s : ByteArray) : (writtenL s).length ≤ 6 * s.size + 2 := by
  have h := wrN_len s s.size 0 [34] (by omega)
  unfold writtenL
  rw [List.length_append]
  simp at h ⊢
  omega
theorem dec9 (n : Nat) : decide ((9000 : Int) < (n : Int)) = decide (9000 < n) := by
  rw [Bool.eq_iff_iff, decide_eq_true_eq, decide_eq_true_eq]; omega
theorem rlong_c (k : Int) (t x : ByteArray) (w : World) : Calls Tryd.prog 17 #[termV k t x] w fun e w' => e = .returned (.bool (decide (9000 < t.size) || decide (9000 < x.size))) ∧ Below w.heap.size w w' := by
  unfold termV
  go_enter Tryd.func17, Tryd.ntmps17
  go_wp2
  all_goals (go_ret; refine ⟨?_, (Below.refl _ w).alloc (Nat.le_refl _) _⟩; simp [*])
  all_goals first | omega | (rw [dec9 t.size, dec9 x.size])
set_option maxHeartbeats 4000000 in
theorem rtext_c (k : Int) (t x : ByteArray) (ht : t.size ≤ 100000) (hx : x.size ≤ 100000) (w : World) : Calls Tryd.prog 19 #[termV k t x] w fun e w' => e = .returned (.string (termB k t x)) ∧ Below w.heap.size w w' := by
  have hB0 : Below w.heap.size w (w.alloc (.cells #[.int .i64 k, .string t, .string x] 40)) := (Below.refl _ w).alloc (Nat.le_refl _) _
  have htb : termB k t x = if k = 1 then (⟨#[60]⟩ ++ t) ++ ⟨#[62]⟩ else if k = 2 then ⟨#[95, 58]⟩ ++ t else if k = 4 then (ofL (writtenL t) ++ ⟨#[64]⟩) ++ x
    else if k = 5 then ((ofL (writtenL t) ++ ⟨#[94, 94, 60]⟩) ++ x) ++ ⟨#[62]⟩ else ofL (writtenL t) := rfl
  have HT := Lib.hid htb; clear htb
  have hwl := written_len t
  have hwz : (ofL (writtenL t)).size ≤ 700000 := by rw [ofL_size]; omega
  clear hwl
  unfold termV
  by_cases k1 : k = 1
  · subst k1
    have e := HT.out
    rw [if_pos rfl] at e
    have HE := Lib.hid e; clear e HT
    go_enter Tryd.func19, Tryd.ntmps19
    go_wp2
    go_ret
    exact ⟨by rw [HE.out]; rfl, hB0⟩
  · by_cases k2 : k = 2
    · subst k2
      have e := HT.out
      rw [if_neg (by decide), if_pos rfl] at e
      have HE := Lib.hid e; clear e HT
      go_enter Tryd.func19, Tryd.ntmps19
      go_wp2
      go_ret
      exact ⟨by rw [HE.out]; rfl, hB0⟩
    · by_cases k4 : k = 4
      · subst k4
        have e := HT.out
        rw [if_neg (by decide), if_neg (by decide), if_pos rfl] at e
        have HE := Lib.hid e; clear e HT
        go_enter Tryd.func19, Tryd.ntmps19
        go_wp2_with fail
        go_region_with (go_at_call 36; refine (rwritten_c t (by omega) _).mono ?_; rintro e w2 ⟨rfl, hb2⟩; have hcx : w2.cell? ⟨w.heap.size, 2, none⟩ = some (.string x) := ((bcell hb2).1 _ _ (by simp)).trans (by simp))
        all_goals
          go_wp2
          go_ret
          exact ⟨by rw [HE.out]; rfl, hB0.drew.trans (hb2.mono hB0.drew.size)⟩
      · by_cases k5 : k = 5
        · subst k5
          have e := HT.out
          rw [if_neg (by decide), if_neg (by decide), if_neg (by decide), if_pos rfl] at e
          have HE := Lib.hid e; clear e HT
          go_enter Tryd.func19, Tryd.ntmps19
          go_wp2_with fail
          go_region_with (go_at_call 36; refine (rwritten_c t (by omega) _).mono ?_; rintro e w2 ⟨rfl, hb2⟩; have hcx : w2.cell? ⟨w.heap.size, 2, none⟩ = some (.string x) := ((bcell hb2).1 _ _ (by simp)).trans (by simp))
          all_goals
            go_wp2
            go_ret
            exact ⟨by rw [HE.out]; rfl, hB0.drew.trans (hb2.mono hB0.drew.size)⟩
        · have e := HT.out
          rw [if_neg k1, if_neg k2, if_neg k4, if_neg k5] at e
          have HE := Lib.hid e; clear e HT
          have b1 : (k == 1) = false := by simp [k1]
          have b2 : (k == 2) = false := by simp [k2]
          have b4 : (k == 4) = false := by simp [k4]
          have b5 : (k == 5) = false := by simp [k5]
          clear k1 k2 k4 k5
          go_enter Tryd.func19, Tryd.ntmps19
          go_wp2_with (go_at_call 36; refine (rwritten_c t (by omega) _).mono ?_; rintro e w2 ⟨rfl, hb2⟩)
          go_ret
          exact ⟨by rw [HE.out]; rfl, hB0.trans (hb2.mono hB0.size)⟩
end Go.Proofs.YtpfgjiahpddpkaaDoor
