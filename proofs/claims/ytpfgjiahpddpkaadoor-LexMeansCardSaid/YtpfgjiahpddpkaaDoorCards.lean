/-
  DERIVED. GIVEN WITH THE SEED: THE CARDS: each row of YtpfgjiahpddpkaaDoorRows.lean that lists a variable, with what it lists TIED to the program's text (the seventh form; the later family's looks); each row that meets fmt, with fmt's text TOLD by the authors' own Lean function (tested against real Go, not proved from fmt's source: count such statements apart). THE CARD IS WHAT COUNTS. Prove the row's statement (the work); the ties are given (YtpfgjiahpddpkaaDoorTie.lean); close each card by the builder's one call (the guide's Derived/Test/ToyasCard.lean, 'card_holds'). Laid BY PROGRAM, IN A SANDBOX (cutbox-door.mjs). By AI agents, Wed Nov 11 2026. No macro, syntax, notation, axiom, sorry.
-/
import Derived.Test.YtpfgjiahpddpkaaDoorRows
import GoSem.ClaimSeven
namespace Go.Proofs.YtpfgjiahpddpkaaDoor
namespace Rows

/-- THE TIED CARD OF 'rhizomelaw04.LexLong'. -/
def lexLongCard : Claim7 := { stood := { row := lexLongRow, standIns := [], harness := (true, "9decab12ee2175690f3c133a8e69f2874e31f3b0607d77965475ce4b75f4bc58"), looks := true }, kinds := [], alts := [], laidByText := true, laidKinds := [.data, .data, .data, .pinned, .pinned], laidTests := true, laidLooks := .later }
def LexLongCardSaid : Prop := Claim7.holds Tryd.pinned (.plain (OpenSpec.ofChange lexLongSpec)) lexLongCard

/-- THE TIED CARD OF 'rhizomelaw05.TripleMeans'. -/
def tripleMeansCard : Claim7 := { stood := { row := tripleMeansRow, standIns := [], harness := (true, "9decab12ee2175690f3c133a8e69f2874e31f3b0607d77965475ce4b75f4bc58"), looks := true }, kinds := [], alts := [], laidByText := true, laidKinds := [.data, .pinned], laidTests := true, laidLooks := .later }
def TripleMeansCardSaid : Prop := Claim7.holds Tryd.pinned (.plain (OpenSpec.ofChange tripleMeansSpec)) tripleMeansCard

/-- THE TIED CARD OF 'rhizomelaw05.TripleCuts'. -/
def tripleCutsCard : Claim7 := { stood := { row := tripleCutsRow, standIns := [], harness := (true, "9decab12ee2175690f3c133a8e69f2874e31f3b0607d77965475ce4b75f4bc58"), looks := true }, kinds := [], alts := [], laidByText := true, laidKinds := [.data, .pinned], laidTests := true, laidLooks := .later }
def TripleCutsCardSaid : Prop := Claim7.holds Tryd.pinned (.plain (OpenSpec.ofChange tripleCutsSpec)) tripleCutsCard

/-- THE TIED CARD OF 'rhizomelaw04.LexMeans'. -/
def lexMeansCard : Claim7 := { stood := { row := lexMeansRow, standIns := [], harness := (true, "9decab12ee2175690f3c133a8e69f2874e31f3b0607d77965475ce4b75f4bc58"), looks := true }, kinds := [], alts := [], laidByText := true, laidKinds := [.data, .data, .data, .pinned, .pinned], laidTests := true, laidLooks := .later }
def LexMeansCardSaid : Prop := Claim7.holds Tryd.pinned (.plain (OpenSpec.ofChange lexMeansSpec)) lexMeansCard

/-- THE SECOND FORM's CARD OF 'rhizomelaw04.LexLong'. -/
def lexLongUptoCard : Claim7 := { stood := { row := lexLongUptoRow, standIns := [], harness := (true, "9decab12ee2175690f3c133a8e69f2874e31f3b0607d77965475ce4b75f4bc58"), looks := true }, kinds := [], alts := [], laidByText := true, laidKinds := [.data, .data, .data, .pinned, .pinned], laidTests := true, laidLooks := .later }
def LexLongUptoCardSaid : Prop := Claim7.holds Tryd.pinned (.plain (OpenSpec.upto lexLongSpec)) lexLongUptoCard

/-- THE SECOND FORM's CARD OF 'rhizomelaw05.TripleMeans'. -/
def tripleMeansUptoCard : Claim7 := { stood := { row := tripleMeansUptoRow, standIns := [], harness := (true, "9decab12ee2175690f3c133a8e69f2874e31f3b0607d77965475ce4b75f4bc58"), looks := true }, kinds := [], alts := [], laidByText := true, laidKinds := [.data, .pinned], laidTests := true, laidLooks := .later }
def TripleMeansUptoCardSaid : Prop := Claim7.holds Tryd.pinned (.plain (OpenSpec.upto tripleMeansSpec)) tripleMeansUptoCard

/-- THE SECOND FORM's CARD OF 'rhizomelaw05.TripleCuts'. -/
def tripleCutsUptoCard : Claim7 := { stood := { row := tripleCutsUptoRow, standIns := [], harness := (true, "9decab12ee2175690f3c133a8e69f2874e31f3b0607d77965475ce4b75f4bc58"), looks := true }, kinds := [], alts := [], laidByText := true, laidKinds := [.data, .pinned], laidTests := true, laidLooks := .later }
def TripleCutsUptoCardSaid : Prop := Claim7.holds Tryd.pinned (.plain (OpenSpec.upto tripleCutsSpec)) tripleCutsUptoCard

/-- THE SECOND FORM's CARD OF 'rhizomelaw04.LexMeans'. -/
def lexMeansUptoCard : Claim7 := { stood := { row := lexMeansUptoRow, standIns := [], harness := (true, "9decab12ee2175690f3c133a8e69f2874e31f3b0607d77965475ce4b75f4bc58"), looks := true }, kinds := [], alts := [], laidByText := true, laidKinds := [.data, .data, .data, .pinned, .pinned], laidTests := true, laidLooks := .later }
def LexMeansUptoCardSaid : Prop := Claim7.holds Tryd.pinned (.plain (OpenSpec.upto lexMeansSpec)) lexMeansUptoCard
end Rows
end Go.Proofs.YtpfgjiahpddpkaaDoor
