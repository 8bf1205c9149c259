/- The chapter's rows: what two texts' symbols are; marks. -/
import Derived.Test.YtpfgjiahpddpkaaDoorAll
import Derived.KernelRfl
set_option linter.unusedVariables false
set_option linter.unusedSimpArgs false
namespace Go.Proofs.YtpfgjiahpddpkaaDoor
open Go.RowKit
def kn1 : ByteArray := ⟨#[60, 97, 62, 58, 45, 63, 120, 32, 33, 61, 32, 34, 98, 34, 64, 101, 110, 32, 46]⟩
def kn2 : ByteArray := ⟨#[97, 58, 98, 45, 99, 32, 97, 32, 58]⟩
def kl1 : List Sym := [{ noSym with kind := 1, tk := 1, tt := ⟨#[97]⟩ }, { noSym with kind := 8, text := ⟨#[58, 45]⟩, place := 3 }, { noSym with kind := 5, text := ⟨#[120]⟩, place := 5 }, { noSym with kind := 8, text := ⟨#[33, 61]⟩, place := 8 }, { noSym with kind := 3, text := ⟨#[98]⟩, place := 11 }, { noSym with kind := 4, text := ⟨#[101, 110]⟩, place := 14 }, { noSym with kind := 8, text := ⟨#[46]⟩, place := 18 }]
def kl2 : List Sym := [{ noSym with kind := 7, text := ⟨#[97, 58, 98, 45, 99]⟩ }, { noSym with kind := 6, text := ⟨#[97]⟩, place := 6 }, { noSym with kind := 7, text := ⟨#[58]⟩, place := 8 }]
theorem all_kn1 : allF kn1 = (kl1, 0, 0) := by kernel_rfl
theorem all_kn2 : allF kn2 = (kl2, 0, 0) := by kernel_rfl
theorem mark_c (y : Sym) (m : ByteArray) (w : World) : Calls Tryd.prog 24 #[symV y, .string m] w fun e w' => e = .returned (.bool (y.kind == 8 && y.text.toList == m.toList)) ∧ Below w.heap.size w w' := by
  unfold symV
  go_enter Tryd.func24, Tryd.ntmps24
  go_wp2
  all_goals (go_ret; refine ⟨?_, (Below.refl _ w).alloc (Nat.le_refl _) _⟩; simp [*])
end Go.Proofs.YtpfgjiahpddpkaaDoor
