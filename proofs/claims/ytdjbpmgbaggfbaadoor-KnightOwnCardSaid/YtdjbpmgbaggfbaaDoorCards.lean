/-
  DERIVED. GIVEN WITH THE SEED: THE CARDS: each row of YtdjbpmgbaggfbaaDoorRows.lean that lists a variable, with what it lists TIED to the program's text (the seventh form; the later family's looks); each row that meets fmt, with fmt's text TOLD by the authors' own Lean function (tested against real Go, not proved from fmt's source: count such statements apart). THE CARD IS WHAT COUNTS. Prove the row's statement (the work); the ties are given (YtdjbpmgbaggfbaaDoorTie.lean); close each card by the builder's one call (the guide's Derived/Test/ToyasCard.lean, 'card_holds'). Laid BY PROGRAM, IN A SANDBOX (cutbox-door.mjs). By AI agents, Wed Nov 11 2026. No macro, syntax, notation, axiom, sorry.
-/
import Derived.Test.YtdjbpmgbaggfbaaDoorRows
import GoSem.ClaimSeven
namespace Go.Proofs.YtdjbpmgbaggfbaaDoor
namespace Rows

/-- THE TIED CARD OF 'bibelotlaw06.KnightFinds'. -/
def knightFindsCard : Claim7 := { stood := { row := knightFindsRow, standIns := [], harness := (true, "5dfa758c4d8318a384d82922247a2c92f0a4f093a08ea0e5cb6ec208c917765b"), looks := false }, kinds := [], alts := [], laidByText := true, laidKinds := [.data], laidTests := true, laidLooks := .later }
def KnightFindsCardSaid : Prop := Claim7.holds Tryd.pinned (.plain (OpenSpec.ofChange knightFindsSpec)) knightFindsCard

/-- THE TIED CARD OF 'bibelotlaw06.KnightWalks'. -/
def knightWalksCard : Claim7 := { stood := { row := knightWalksRow, standIns := [], harness := (true, "5dfa758c4d8318a384d82922247a2c92f0a4f093a08ea0e5cb6ec208c917765b"), looks := false }, kinds := [], alts := [], laidByText := true, laidKinds := [.data], laidTests := true, laidLooks := .later }
def KnightWalksCardSaid : Prop := Claim7.holds Tryd.pinned (.plain (OpenSpec.ofChange knightWalksSpec)) knightWalksCard

/-- THE TIED CARD OF 'bibelotlaw06.KnightSteps'. -/
def knightStepsCard : Claim7 := { stood := { row := knightStepsRow, standIns := [], harness := (true, "5dfa758c4d8318a384d82922247a2c92f0a4f093a08ea0e5cb6ec208c917765b"), looks := false }, kinds := [], alts := [], laidByText := true, laidKinds := [.data], laidTests := true, laidLooks := .later }
def KnightStepsCardSaid : Prop := Claim7.holds Tryd.pinned (.plain (OpenSpec.ofChange knightStepsSpec)) knightStepsCard

/-- THE TIED CARD OF 'bibelotlaw06.KnightMoves'. -/
def knightMovesCard : Claim7 := { stood := { row := knightMovesRow, standIns := [], harness := (true, "5dfa758c4d8318a384d82922247a2c92f0a4f093a08ea0e5cb6ec208c917765b"), looks := false }, kinds := [], alts := [], laidByText := true, laidKinds := [.data], laidTests := true, laidLooks := .later }
def KnightMovesCardSaid : Prop := Claim7.holds Tryd.pinned (.plain (OpenSpec.ofChange knightMovesSpec)) knightMovesCard

/-- THE TIED CARD OF 'bibelotlaw06.KnightTight'. -/
def knightTightCard : Claim7 := { stood := { row := knightTightRow, standIns := [], harness := (true, "5dfa758c4d8318a384d82922247a2c92f0a4f093a08ea0e5cb6ec208c917765b"), looks := false }, kinds := [], alts := [], laidByText := true, laidKinds := [.data], laidTests := true, laidLooks := .later }
def KnightTightCardSaid : Prop := Claim7.holds Tryd.pinned (.plain (OpenSpec.ofChange knightTightSpec)) knightTightCard

/-- THE TIED CARD OF 'bibelotlaw06.KnightRides'. -/
def knightRidesCard : Claim7 := { stood := { row := knightRidesRow, standIns := [], harness := (true, "5dfa758c4d8318a384d82922247a2c92f0a4f093a08ea0e5cb6ec208c917765b"), looks := false }, kinds := [], alts := [], laidByText := true, laidKinds := [.data], laidTests := true, laidLooks := .later }
def KnightRidesCardSaid : Prop := Claim7.holds Tryd.pinned (.plain (OpenSpec.ofChange knightRidesSpec)) knightRidesCard

/-- THE TIED CARD OF 'bibelotlaw06.KnightMetric'. -/
def knightMetricCard : Claim7 := { stood := { row := knightMetricRow, standIns := [], harness := (true, "5dfa758c4d8318a384d82922247a2c92f0a4f093a08ea0e5cb6ec208c917765b"), looks := false }, kinds := [], alts := [], laidByText := true, laidKinds := [.data], laidTests := true, laidLooks := .later }
def KnightMetricCardSaid : Prop := Claim7.holds Tryd.pinned (.plain (OpenSpec.ofChange knightMetricSpec)) knightMetricCard

/-- THE TIED CARD OF 'bibelotlaw06.KnightQuiet'. -/
def knightQuietCard : Claim7 := { stood := { row := knightQuietRow, standIns := [], harness := (true, "5dfa758c4d8318a384d82922247a2c92f0a4f093a08ea0e5cb6ec208c917765b"), looks := false }, kinds := [], alts := [], laidByText := true, laidKinds := [.data], laidTests := true, laidLooks := .later }
def KnightQuietCardSaid : Prop := Claim7.holds Tryd.pinned (.plain (OpenSpec.ofChange knightQuietSpec)) knightQuietCard

/-- THE TIED CARD OF 'bibelotlaw06.KnightTours'. -/
def knightToursCard : Claim7 := { stood := { row := knightToursRow, standIns := [], harness := (true, "5dfa758c4d8318a384d82922247a2c92f0a4f093a08ea0e5cb6ec208c917765b"), looks := false }, kinds := [], alts := [], laidByText := true, laidKinds := [.data], laidTests := true, laidLooks := .later }
def KnightToursCardSaid : Prop := Claim7.holds Tryd.pinned (.plain (OpenSpec.ofChange knightToursSpec)) knightToursCard

/-- THE TIED CARD OF 'bibelotlaw06.KnightKonig'. -/
def knightKonigCard : Claim7 := { stood := { row := knightKonigRow, standIns := [], harness := (true, "5dfa758c4d8318a384d82922247a2c92f0a4f093a08ea0e5cb6ec208c917765b"), looks := false }, kinds := [], alts := [], laidByText := true, laidKinds := [.data], laidTests := true, laidLooks := .later }
def KnightKonigCardSaid : Prop := Claim7.holds Tryd.pinned (.plain (OpenSpec.ofChange knightKonigSpec)) knightKonigCard

/-- THE TIED CARD OF 'bibelotlaw06.KnightSchwenk'. -/
def knightSchwenkCard : Claim7 := { stood := { row := knightSchwenkRow, standIns := [], harness := (true, "5dfa758c4d8318a384d82922247a2c92f0a4f093a08ea0e5cb6ec208c917765b"), looks := false }, kinds := [], alts := [], laidByText := true, laidKinds := [.data], laidTests := true, laidLooks := .later }
def KnightSchwenkCardSaid : Prop := Claim7.holds Tryd.pinned (.plain (OpenSpec.ofChange knightSchwenkSpec)) knightSchwenkCard

/-- THE TIED CARD OF 'bibelotlaw06.KnightTurns'. -/
def knightTurnsCard : Claim7 := { stood := { row := knightTurnsRow, standIns := [], harness := (true, "5dfa758c4d8318a384d82922247a2c92f0a4f093a08ea0e5cb6ec208c917765b"), looks := false }, kinds := [], alts := [], laidByText := true, laidKinds := [.data], laidTests := true, laidLooks := .later }
def KnightTurnsCardSaid : Prop := Claim7.holds Tryd.pinned (.plain (OpenSpec.ofChange knightTurnsSpec)) knightTurnsCard

/-- THE TIED CARD OF 'bibelotlaw06.KnightGuards'. -/
def knightGuardsCard : Claim7 := { stood := { row := knightGuardsRow, standIns := [], harness := (true, "5dfa758c4d8318a384d82922247a2c92f0a4f093a08ea0e5cb6ec208c917765b"), looks := false }, kinds := [], alts := [], laidByText := true, laidKinds := [.data], laidTests := true, laidLooks := .later }
def KnightGuardsCardSaid : Prop := Claim7.holds Tryd.pinned (.plain (OpenSpec.ofChange knightGuardsSpec)) knightGuardsCard

/-- THE TIED CARD OF 'bibelotlaw06.KnightOwn'. -/
def knightOwnCard : Claim7 := { stood := { row := knightOwnRow, standIns := [], harness := (true, "5dfa758c4d8318a384d82922247a2c92f0a4f093a08ea0e5cb6ec208c917765b"), looks := false }, kinds := [], alts := [], laidByText := true, laidKinds := [.data], laidTests := true, laidLooks := .later }
def KnightOwnCardSaid : Prop := Claim7.holds Tryd.pinned (.plain (OpenSpec.ofChange knightOwnSpec)) knightOwnCard

/-- THE TIED CARD OF 'bibelotlaw06.KnightChecks'. -/
def knightChecksCard : Claim7 := { stood := { row := knightChecksRow, standIns := [], harness := (true, "5dfa758c4d8318a384d82922247a2c92f0a4f093a08ea0e5cb6ec208c917765b"), looks := false }, kinds := [], alts := [], laidByText := true, laidKinds := [.data], laidTests := true, laidLooks := .later }
def KnightChecksCardSaid : Prop := Claim7.holds Tryd.pinned (.plain (OpenSpec.ofChange knightChecksSpec)) knightChecksCard

/-- THE SECOND FORM's CARD OF 'bibelotlaw06.KnightFinds'. -/
def knightFindsUptoCard : Claim7 := { stood := { row := knightFindsUptoRow, standIns := [], harness := (true, "5dfa758c4d8318a384d82922247a2c92f0a4f093a08ea0e5cb6ec208c917765b"), looks := false }, kinds := [], alts := [], laidByText := true, laidKinds := [.data], laidTests := true, laidLooks := .later }
def KnightFindsUptoCardSaid : Prop := Claim7.holds Tryd.pinned (.plain (OpenSpec.upto knightFindsSpec)) knightFindsUptoCard

/-- THE SECOND FORM's CARD OF 'bibelotlaw06.KnightWalks'. -/
def knightWalksUptoCard : Claim7 := { stood := { row := knightWalksUptoRow, standIns := [], harness := (true, "5dfa758c4d8318a384d82922247a2c92f0a4f093a08ea0e5cb6ec208c917765b"), looks := false }, kinds := [], alts := [], laidByText := true, laidKinds := [.data], laidTests := true, laidLooks := .later }
def KnightWalksUptoCardSaid : Prop := Claim7.holds Tryd.pinned (.plain (OpenSpec.upto knightWalksSpec)) knightWalksUptoCard

/-- THE SECOND FORM's CARD OF 'bibelotlaw06.KnightSteps'. -/
def knightStepsUptoCard : Claim7 := { stood := { row := knightStepsUptoRow, standIns := [], harness := (true, "5dfa758c4d8318a384d82922247a2c92f0a4f093a08ea0e5cb6ec208c917765b"), looks := false }, kinds := [], alts := [], laidByText := true, laidKinds := [.data], laidTests := true, laidLooks := .later }
def KnightStepsUptoCardSaid : Prop := Claim7.holds Tryd.pinned (.plain (OpenSpec.upto knightStepsSpec)) knightStepsUptoCard

/-- THE SECOND FORM's CARD OF 'bibelotlaw06.KnightMoves'. -/
def knightMovesUptoCard : Claim7 := { stood := { row := knightMovesUptoRow, standIns := [], harness := (true, "5dfa758c4d8318a384d82922247a2c92f0a4f093a08ea0e5cb6ec208c917765b"), looks := false }, kinds := [], alts := [], laidByText := true, laidKinds := [.data], laidTests := true, laidLooks := .later }
def KnightMovesUptoCardSaid : Prop := Claim7.holds Tryd.pinned (.plain (OpenSpec.upto knightMovesSpec)) knightMovesUptoCard

/-- THE SECOND FORM's CARD OF 'bibelotlaw06.KnightTight'. -/
def knightTightUptoCard : Claim7 := { stood := { row := knightTightUptoRow, standIns := [], harness := (true, "5dfa758c4d8318a384d82922247a2c92f0a4f093a08ea0e5cb6ec208c917765b"), looks := false }, kinds := [], alts := [], laidByText := true, laidKinds := [.data], laidTests := true, laidLooks := .later }
def KnightTightUptoCardSaid : Prop := Claim7.holds Tryd.pinned (.plain (OpenSpec.upto knightTightSpec)) knightTightUptoCard

/-- THE SECOND FORM's CARD OF 'bibelotlaw06.KnightRides'. -/
def knightRidesUptoCard : Claim7 := { stood := { row := knightRidesUptoRow, standIns := [], harness := (true, "5dfa758c4d8318a384d82922247a2c92f0a4f093a08ea0e5cb6ec208c917765b"), looks := false }, kinds := [], alts := [], laidByText := true, laidKinds := [.data], laidTests := true, laidLooks := .later }
def KnightRidesUptoCardSaid : Prop := Claim7.holds Tryd.pinned (.plain (OpenSpec.upto knightRidesSpec)) knightRidesUptoCard

/-- THE SECOND FORM's CARD OF 'bibelotlaw06.KnightMetric'. -/
def knightMetricUptoCard : Claim7 := { stood := { row := knightMetricUptoRow, standIns := [], harness := (true, "5dfa758c4d8318a384d82922247a2c92f0a4f093a08ea0e5cb6ec208c917765b"), looks := false }, kinds := [], alts := [], laidByText := true, laidKinds := [.data], laidTests := true, laidLooks := .later }
def KnightMetricUptoCardSaid : Prop := Claim7.holds Tryd.pinned (.plain (OpenSpec.upto knightMetricSpec)) knightMetricUptoCard

/-- THE SECOND FORM's CARD OF 'bibelotlaw06.KnightQuiet'. -/
def knightQuietUptoCard : Claim7 := { stood := { row := knightQuietUptoRow, standIns := [], harness := (true, "5dfa758c4d8318a384d82922247a2c92f0a4f093a08ea0e5cb6ec208c917765b"), looks := false }, kinds := [], alts := [], laidByText := true, laidKinds := [.data], laidTests := true, laidLooks := .later }
def KnightQuietUptoCardSaid : Prop := Claim7.holds Tryd.pinned (.plain (OpenSpec.upto knightQuietSpec)) knightQuietUptoCard

/-- THE SECOND FORM's CARD OF 'bibelotlaw06.KnightTours'. -/
def knightToursUptoCard : Claim7 := { stood := { row := knightToursUptoRow, standIns := [], harness := (true, "5dfa758c4d8318a384d82922247a2c92f0a4f093a08ea0e5cb6ec208c917765b"), looks := false }, kinds := [], alts := [], laidByText := true, laidKinds := [.data], laidTests := true, laidLooks := .later }
def KnightToursUptoCardSaid : Prop := Claim7.holds Tryd.pinned (.plain (OpenSpec.upto knightToursSpec)) knightToursUptoCard

/-- THE SECOND FORM's CARD OF 'bibelotlaw06.KnightKonig'. -/
def knightKonigUptoCard : Claim7 := { stood := { row := knightKonigUptoRow, standIns := [], harness := (true, "5dfa758c4d8318a384d82922247a2c92f0a4f093a08ea0e5cb6ec208c917765b"), looks := false }, kinds := [], alts := [], laidByText := true, laidKinds := [.data], laidTests := true, laidLooks := .later }
def KnightKonigUptoCardSaid : Prop := Claim7.holds Tryd.pinned (.plain (OpenSpec.upto knightKonigSpec)) knightKonigUptoCard

/-- THE SECOND FORM's CARD OF 'bibelotlaw06.KnightSchwenk'. -/
def knightSchwenkUptoCard : Claim7 := { stood := { row := knightSchwenkUptoRow, standIns := [], harness := (true, "5dfa758c4d8318a384d82922247a2c92f0a4f093a08ea0e5cb6ec208c917765b"), looks := false }, kinds := [], alts := [], laidByText := true, laidKinds := [.data], laidTests := true, laidLooks := .later }
def KnightSchwenkUptoCardSaid : Prop := Claim7.holds Tryd.pinned (.plain (OpenSpec.upto knightSchwenkSpec)) knightSchwenkUptoCard

/-- THE SECOND FORM's CARD OF 'bibelotlaw06.KnightTurns'. -/
def knightTurnsUptoCard : Claim7 := { stood := { row := knightTurnsUptoRow, standIns := [], harness := (true, "5dfa758c4d8318a384d82922247a2c92f0a4f093a08ea0e5cb6ec208c917765b"), looks := false }, kinds := [], alts := [], laidByText := true, laidKinds := [.data], laidTests := true, laidLooks := .later }
def KnightTurnsUptoCardSaid : Prop := Claim7.holds Tryd.pinned (.plain (OpenSpec.upto knightTurnsSpec)) knightTurnsUptoCard

/-- THE SECOND FORM's CARD OF 'bibelotlaw06.KnightGuards'. -/
def knightGuardsUptoCard : Claim7 := { stood := { row := knightGuardsUptoRow, standIns := [], harness := (true, "5dfa758c4d8318a384d82922247a2c92f0a4f093a08ea0e5cb6ec208c917765b"), looks := false }, kinds := [], alts := [], laidByText := true, laidKinds := [.data], laidTests := true, laidLooks := .later }
def KnightGuardsUptoCardSaid : Prop := Claim7.holds Tryd.pinned (.plain (OpenSpec.upto knightGuardsSpec)) knightGuardsUptoCard

/-- THE SECOND FORM's CARD OF 'bibelotlaw06.KnightOwn'. -/
def knightOwnUptoCard : Claim7 := { stood := { row := knightOwnUptoRow, standIns := [], harness := (true, "5dfa758c4d8318a384d82922247a2c92f0a4f093a08ea0e5cb6ec208c917765b"), looks := false }, kinds := [], alts := [], laidByText := true, laidKinds := [.data], laidTests := true, laidLooks := .later }
def KnightOwnUptoCardSaid : Prop := Claim7.holds Tryd.pinned (.plain (OpenSpec.upto knightOwnSpec)) knightOwnUptoCard

/-- THE SECOND FORM's CARD OF 'bibelotlaw06.KnightChecks'. -/
def knightChecksUptoCard : Claim7 := { stood := { row := knightChecksUptoRow, standIns := [], harness := (true, "5dfa758c4d8318a384d82922247a2c92f0a4f093a08ea0e5cb6ec208c917765b"), looks := false }, kinds := [], alts := [], laidByText := true, laidKinds := [.data], laidTests := true, laidLooks := .later }
def KnightChecksUptoCardSaid : Prop := Claim7.holds Tryd.pinned (.plain (OpenSpec.upto knightChecksSpec)) knightChecksUptoCard
end Rows
end Go.Proofs.YtdjbpmgbaggfbaaDoor
