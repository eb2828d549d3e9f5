/-
  DERIVED. GIVEN WITH THE SEED: THE CARDS: each row of YtapapedpecpfgaaDoorRows.lean that lists a variable, with what it lists TIED to the program's text (the seventh form; the later family's looks); each row that meets fmt, with fmt's text TOLD by the authors' own Lean function (tested against real Go, not proved from fmt's source: count such statements apart). THE CARD IS WHAT COUNTS. Prove the row's statement (the work); the ties are given (YtapapedpecpfgaaDoorTie.lean); close each card by the builder's one call (the guide's Derived/Test/ToyasCard.lean, 'card_holds'). Laid BY PROGRAM, IN A SANDBOX (cutbox-door.mjs). By AI agents, Wed Nov 11 2026. No macro, syntax, notation, axiom, sorry.
-/
import Derived.Test.YtapapedpecpfgaaDoorRows
import GoSem.ClaimSeven
namespace Go.Proofs.YtapapedpecpfgaaDoor
namespace Rows

/-- THE TIED CARD OF 'kinkeeplaw17.JournalReopens'. -/
def journalReopensCard : Claim7 := { stood := { row := journalReopensRow, standIns := [], harness := (true, "8930dbca40d734cdd2f749417f8f4960a36fa5e9e421b0a656ea50812bf4bef7"), looks := false }, kinds := [], alts := [], laidByText := true, laidKinds := [.data], laidTests := true, laidLooks := .later }
def JournalReopensCardSaid : Prop := Claim7.holds Tryd.pinned (.plain (OpenSpec.ofChange journalReopensSpec)) journalReopensCard

/-- THE TIED CARD OF 'kinkeeplaw17.JournalPlays'. -/
def journalPlaysCard : Claim7 := { stood := { row := journalPlaysRow, standIns := [], harness := (true, "8930dbca40d734cdd2f749417f8f4960a36fa5e9e421b0a656ea50812bf4bef7"), looks := false }, kinds := [], alts := [], laidByText := true, laidKinds := [.data], laidTests := true, laidLooks := .later }
def JournalPlaysCardSaid : Prop := Claim7.holds Tryd.pinned (.plain (OpenSpec.ofChange journalPlaysSpec)) journalPlaysCard

/-- THE TIED CARD OF 'kinkeeplaw17.JournalSurvives'. -/
def journalSurvivesCard : Claim7 := { stood := { row := journalSurvivesRow, standIns := [], harness := (true, "8930dbca40d734cdd2f749417f8f4960a36fa5e9e421b0a656ea50812bf4bef7"), looks := false }, kinds := [], alts := [], laidByText := true, laidKinds := [.data], laidTests := true, laidLooks := .later }
def JournalSurvivesCardSaid : Prop := Claim7.holds Tryd.pinned (.plain (OpenSpec.ofChange journalSurvivesSpec)) journalSurvivesCard

/-- THE TIED CARD OF 'kinkeeplaw17.JournalResets'. -/
def journalResetsCard : Claim7 := { stood := { row := journalResetsRow, standIns := [], harness := (true, "8930dbca40d734cdd2f749417f8f4960a36fa5e9e421b0a656ea50812bf4bef7"), looks := false }, kinds := [], alts := [], laidByText := true, laidKinds := [.data], laidTests := true, laidLooks := .later }
def JournalResetsCardSaid : Prop := Claim7.holds Tryd.pinned (.plain (OpenSpec.ofChange journalResetsSpec)) journalResetsCard

/-- THE SECOND FORM's CARD OF 'kinkeeplaw17.JournalReopens'. -/
def journalReopensUptoCard : Claim7 := { stood := { row := journalReopensUptoRow, standIns := [], harness := (true, "8930dbca40d734cdd2f749417f8f4960a36fa5e9e421b0a656ea50812bf4bef7"), looks := false }, kinds := [], alts := [], laidByText := true, laidKinds := [.data], laidTests := true, laidLooks := .later }
def JournalReopensUptoCardSaid : Prop := Claim7.holds Tryd.pinned (.plain (OpenSpec.upto journalReopensSpec)) journalReopensUptoCard

/-- THE SECOND FORM's CARD OF 'kinkeeplaw17.JournalPlays'. -/
def journalPlaysUptoCard : Claim7 := { stood := { row := journalPlaysUptoRow, standIns := [], harness := (true, "8930dbca40d734cdd2f749417f8f4960a36fa5e9e421b0a656ea50812bf4bef7"), looks := false }, kinds := [], alts := [], laidByText := true, laidKinds := [.data], laidTests := true, laidLooks := .later }
def JournalPlaysUptoCardSaid : Prop := Claim7.holds Tryd.pinned (.plain (OpenSpec.upto journalPlaysSpec)) journalPlaysUptoCard

/-- THE SECOND FORM's CARD OF 'kinkeeplaw17.JournalSurvives'. -/
def journalSurvivesUptoCard : Claim7 := { stood := { row := journalSurvivesUptoRow, standIns := [], harness := (true, "8930dbca40d734cdd2f749417f8f4960a36fa5e9e421b0a656ea50812bf4bef7"), looks := false }, kinds := [], alts := [], laidByText := true, laidKinds := [.data], laidTests := true, laidLooks := .later }
def JournalSurvivesUptoCardSaid : Prop := Claim7.holds Tryd.pinned (.plain (OpenSpec.upto journalSurvivesSpec)) journalSurvivesUptoCard

/-- THE SECOND FORM's CARD OF 'kinkeeplaw17.JournalResets'. -/
def journalResetsUptoCard : Claim7 := { stood := { row := journalResetsUptoRow, standIns := [], harness := (true, "8930dbca40d734cdd2f749417f8f4960a36fa5e9e421b0a656ea50812bf4bef7"), looks := false }, kinds := [], alts := [], laidByText := true, laidKinds := [.data], laidTests := true, laidLooks := .later }
def JournalResetsUptoCardSaid : Prop := Claim7.holds Tryd.pinned (.plain (OpenSpec.upto journalResetsSpec)) journalResetsUptoCard
end Rows
end Go.Proofs.YtapapedpecpfgaaDoor
