/- Small lemmas used by the walks of this seat: bytes of a string as numbers, bit operations, worlds. No program. -/
import Derived.WalkKit
import Derived.Below
import Derived.Lib.Hide
import Derived.Lib.Strings
import Derived.Laws.BitsAllLaws
set_option linter.unusedVariables false
set_option linter.unusedSimpArgs false
namespace Go.Proofs.YtpfgjiahpddpkaaDoor
open Go.RowKit

/-- Byte i of s as a number; 0 beyond the end. -/
def bt (s : ByteArray) (i : Nat) : Int := if h : i < s.size then ((s[i]'h).toNat : Int) else 0
theorem bt_at (s : ByteArray) : ∀ (i : Nat) (h : i < s.size), ((s[i]'h).toNat : Int) = bt s i := fun i h => by simp [bt, h]
theorem bt_lo (s : ByteArray) (i : Nat) : 0 ≤ bt s i := by unfold bt; split <;> omega
theorem bt_hi (s : ByteArray) (i : Nat) : bt s i < 256 := by
  unfold bt; split
  · rename_i h; have := (s[i]'h).toNat_lt; omega
  · omega
theorem bt_out (s : ByteArray) (i : Nat) (h : s.size ≤ i) : bt s i = 0 := by unfold bt; rw [dif_neg (by omega)]
theorem toList_len (s : ByteArray) : s.toList.length = s.size := by rw [Go.Lib.toList_data]; rfl
theorem empty_true (s : ByteArray) (h : s.size = 0) : s.toList = [] := by
  rw [← List.length_eq_zero_iff, toList_len]; exact h
theorem empty_false (s : ByteArray) (h : 0 < s.size) : (!s.toList.isEmpty) = true := by
  have := toList_len s
  cases hh : s.toList with
  | nil => rw [hh] at this; simp at this; omega
  | cons a l => rfl
theorem size_extract (s : ByteArray) (a b : Nat) (h : a ≤ b) (hb : b ≤ s.size) : (s.extract a b).size = b - a := by simp; omega
theorem bt_extract (s : ByteArray) (a b i : Nat) (hb : b ≤ s.size) (hi : i < b - a) : bt (s.extract a b) i = bt s (a + i) := by
  have h1 : i < (s.extract a b).size := by simp; omega
  have h2 : a + i < s.size := by omega
  unfold bt; rw [dif_pos h1, dif_pos h2, ByteArray.getElem_extract]

theorem and192 (c : Int) (h0 : 0 ≤ c) (h1 : c < 256) : bits BinOp.and IntKind.u8 c 192 = c / 64 * 64 := by
  have := (by decide +kernel : ∀ c : Fin 256, bits BinOp.and IntKind.u8 (c.val : Int) 192 = (c.val : Int) / 64 * 64)
  have h := this ⟨c.toNat, by omega⟩
  simp only [Int.toNat_of_nonneg h0] at h; exact h
theorem and63 (c : Int) (h0 : 0 ≤ c) (h1 : c < 256) : bits BinOp.and IntKind.u8 c 63 = c % 64 := by
  have := (by decide +kernel : ∀ c : Fin 256, bits BinOp.and IntKind.u8 (c.val : Int) 63 = (c.val : Int) % 64)
  have h := this ⟨c.toNat, by omega⟩
  simp only [Int.toNat_of_nonneg h0] at h; exact h
theorem wrap_in (x : Int) (h0 : -9223372036854775808 ≤ x) (h1 : x < 9223372036854775808) : wrap64 x = x := by unfold wrap64; omega
theorem or_nat (a b : Nat) (ha : a < 9223372036854775808) (hb : b < 9223372036854775808) : bits .or .i64 (a : Int) (b : Int) = ((a ||| b : Nat) : Int) := by
  have h : a ||| b < 2 ^ 63 := Nat.or_lt_two_pow (by omega) (by omega)
  have e : ∀ x : Nat, x < 9223372036854775808 → (BitVec.ofInt 64 (x : Int)) = BitVec.ofNat 64 x := fun x _ => by simp
  show IntKind.i64.wrap ((BitVec.ofInt 64 (a : Int) ||| BitVec.ofInt 64 (b : Int)).toNat : Int) = _
  rw [e a ha, e b hb, ← BitVec.ofNat_or, BitVec.toNat_ofNat, Nat.mod_eq_of_lt (by omega)]
  exact IntWalk.i64_in _ (by omega)
theorem and_nat (a b : Nat) (ha : a < 9223372036854775808) (hb : b < 9223372036854775808) : bits .and .i64 (a : Int) (b : Int) = ((a &&& b : Nat) : Int) := by
  have h : a &&& b < 2 ^ 63 := Nat.lt_of_le_of_lt Nat.and_le_left (by omega)
  have e : ∀ x : Nat, x < 9223372036854775808 → (BitVec.ofInt 64 (x : Int)) = BitVec.ofNat 64 x := fun x _ => by simp
  show IntKind.i64.wrap ((BitVec.ofInt 64 (a : Int) &&& BitVec.ofInt 64 (b : Int)).toNat : Int) = _
  rw [e a ha, e b hb, ← BitVec.ofNat_and, BitVec.toNat_ofNat, Nat.mod_eq_of_lt (by omega)]
  exact IntWalk.i64_in _ (by omega)
theorem or_mul (k : Nat) (a b : Int) (h0 : 0 ≤ a) (h1 : a * ((2 ^ k : Nat) : Int) < 9223372036854775808) (h2 : 0 ≤ b) (h3 : b < ((2 ^ k : Nat) : Int)) (hk : k ≤ 62) : bits BinOp.or IntKind.i64 (a * ((2 ^ k : Nat) : Int)) b = a * ((2 ^ k : Nat) : Int) + b := by
  obtain ⟨a, rfl⟩ := Int.eq_ofNat_of_zero_le h0
  obtain ⟨b, rfl⟩ := Int.eq_ofNat_of_zero_le h2
  have hb : b < 2 ^ k := by omega
  have ha : a * 2 ^ k < 9223372036854775808 := by rw [← Int.natCast_mul] at h1; omega
  have hk2 : 2 ^ k ≤ 2 ^ 62 := Nat.pow_le_pow_right (by omega) hk
  rw [← Int.natCast_mul, or_nat _ _ ha (by omega), ← Nat.shiftLeft_eq, ← Nat.shiftLeft_add_eq_or_of_lt hb, Int.natCast_add]
theorem or64 (a b : Int) (h0 : 0 ≤ a) (h1 : a < 1000000000000) (h2 : 0 ≤ b) (h3 : b < 64) : bits BinOp.or IntKind.i64 (a * 64) b = a * 64 + b :=
  or_mul 6 a b h0 (by omega) h2 (by omega) (by omega)
theorem or16 (a b : Int) (h0 : 0 ≤ a) (h1 : a < 1000000000000) (h2 : 0 ≤ b) (h3 : b < 16) : bits BinOp.or IntKind.i64 (a * 16) b = a * 16 + b :=
  or_mul 4 a b h0 (by omega) h2 (by omega) (by omega)

theorem beq_cast (a b : Nat) : ((a : Int) == (b : Int)) = (a == b) := by rw [Bool.eq_iff_iff]; simp only [beq_iff_eq]; omega
/-- What was there when the world was W reads as before. -/
theorem bcell {W w1 : World} (hb : Below W.heap.size W w1) : (∀ b o, b < W.heap.size → w1.cell? ⟨b, o, none⟩ = W.cell? ⟨b, o, none⟩) ∧ (∀ b o, b < W.heap.size → w1.frozen? ⟨b, o, none⟩ = W.frozen? ⟨b, o, none⟩) :=
  ⟨fun b o h => hb.cell (p := ⟨b, o, none⟩) h, fun b o h => hb.frozen (p := ⟨b, o, none⟩) h⟩
/-- One step behind another. -/
theorem bthen {a b c : World} (h : Below a.heap.size a b) (k : Below b.heap.size b c) : Below a.heap.size a c := h.trans (k.mono h.size)
/-- What begins with a new block. -/
theorem bnew {w w1 : World} {o : Obj} (h : Below (w.alloc o).heap.size (w.alloc o) w1) : Below w.heap.size w w1 := bthen ((Below.refl _ w).alloc (Nat.le_refl _) _) h
end Go.Proofs.YtpfgjiahpddpkaaDoor
