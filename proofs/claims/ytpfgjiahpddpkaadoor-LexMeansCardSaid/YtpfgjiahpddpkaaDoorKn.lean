/- lex.All at the two known texts. -/
import Derived.Test.YtpfgjiahpddpkaaDoorLong
namespace Go.Proofs.YtpfgjiahpddpkaaDoor
open Go.RowKit
theorem all_kn1_c (W : World) (h : HasMax W) : Calls Tryd.prog 7 #[.string ⟨#[60, 97, 62, 58, 45, 63, 120, 32, 33, 61, 32, 34, 98, 34, 64, 101, 110, 32, 46]⟩] W (AllPost kn1 W (kl1, 0, 0)) := by
  have h0 := all_c kn1 W h (by decide)
  rw [all_kn1] at h0
  exact h0
theorem all_kn2_c (W : World) (h : HasMax W) : Calls Tryd.prog 7 #[.string ⟨#[97, 58, 98, 45, 99, 32, 97, 32, 58]⟩] W (AllPost kn2 W (kl2, 0, 0)) := by
  have h0 := all_c kn2 W h (by decide)
  rw [all_kn2] at h0
  exact h0
end Go.Proofs.YtpfgjiahpddpkaaDoor
