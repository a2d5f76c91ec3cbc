/-
  NARROWER THAN 'FOR EVERY INPUT', by the rows' own cells (each row's printed sentence says how): KnightFinds: laid · KnightWalks: laid · KnightSteps: laid · KnightMoves: laid · KnightTight: laid · KnightRides: laid · KnightMetric: laid · KnightQuiet: laid · KnightTours: laid · KnightKonig: laid · KnightSchwenk: laid · KnightTurns: laid · KnightGuards: laid · KnightOwn: laid · KnightChecks: laid.
  DERIVED. THE GIVEN ROWS OF THIS SEAT. 15 by the template 'for every input the law returns true; each argument reads behind the call as it read before'; 0 by the template 'total and deterministic' (their statements: YtdjbpmgbaggfbaaDoorTotals.lean).
  GIVEN WITH THE SEED: the statements are not yours to turn. If you find one false, say at which input.
  Laid BY PROGRAM, IN A SANDBOX (cutbox-rows.mjs): the forced cells as the released guide's own fill.sh prints them over the translation 550926b0ca3ba26c… (all of the seat's roots in one cut). By AI agents, Wed Nov 11 2026. No macro, syntax, notation, axiom, sorry.
-/
import Derived.Test.YtdjbpmgbaggfbaaDoorChecked
import GoSem.Claim
import GoSem.ClaimJoined
import GoSem.ClaimMapViews
import Derived.JoinedTies
import Derived.KernelRfl
namespace Go.Proofs.YtdjbpmgbaggfbaaDoor
/- THE CELL 'sum', in the pinned program and in every row, IS THE sha256 OF THE DUMP (.gsa) THAT YtdjbpmgbaggfbaaDoorProg.lean LOADS. Nothing in Lean hashes anything: it is a label: what it is worth is what the hold of that sum in a sandbox is worth. -/
noncomputable def Tryd.pinned : Pinned := { name := "ytdjbpmgbaggfbaadoor", sum := "550926b0ca3ba26c004ddc249e31878ff5ebce88112264e4ac7999637a3e481b", checked := Tryd.checked }
namespace Rows
def none {H : Type} : Left H := { results := [], args := [] }

/- WHAT THE LISTED PACKAGE-LEVEL VARIABLES READ AS WHEN THE CALL BEGINS. Each datum BY PROGRAM (the guide's laid-datum.mjs) off the statement by which the dump's own 'gosem.cut.vars' lays the variable. In a bare row this is a premise. The card (YtdjbpmgbaggfbaaDoorCards.lean) ties it to the program's text. -/
def laid_math_bits_deBruijn64tab {H : Type} : DataW H := .agg [.lit (.int .u8 0), .lit (.int .u8 1), .lit (.int .u8 56), .lit (.int .u8 2), .lit (.int .u8 57), .lit (.int .u8 49), .lit (.int .u8 28), .lit (.int .u8 3), .lit (.int .u8 61), .lit (.int .u8 58), .lit (.int .u8 42), .lit (.int .u8 50), .lit (.int .u8 38), .lit (.int .u8 29), .lit (.int .u8 17), .lit (.int .u8 4), .lit (.int .u8 62), .lit (.int .u8 47), .lit (.int .u8 59), .lit (.int .u8 36), .lit (.int .u8 45), .lit (.int .u8 43), .lit (.int .u8 51), .lit (.int .u8 22), .lit (.int .u8 53), .lit (.int .u8 39), .lit (.int .u8 33), .lit (.int .u8 30), .lit (.int .u8 24), .lit (.int .u8 18), .lit (.int .u8 12), .lit (.int .u8 5), .lit (.int .u8 63), .lit (.int .u8 55), .lit (.int .u8 48), .lit (.int .u8 27), .lit (.int .u8 60), .lit (.int .u8 41), .lit (.int .u8 37), .lit (.int .u8 16), .lit (.int .u8 46), .lit (.int .u8 35), .lit (.int .u8 44), .lit (.int .u8 21), .lit (.int .u8 52), .lit (.int .u8 32), .lit (.int .u8 23), .lit (.int .u8 11), .lit (.int .u8 54), .lit (.int .u8 26), .lit (.int .u8 40), .lit (.int .u8 15), .lit (.int .u8 34), .lit (.int .u8 20), .lit (.int .u8 31), .lit (.int .u8 10), .lit (.int .u8 25), .lit (.int .u8 14), .lit (.int .u8 19), .lit (.int .u8 9), .lit (.int .u8 13), .lit (.int .u8 8), .lit (.int .u8 7), .lit (.int .u8 6)]

/-- 'bibelotlaw06.KnightFinds': WHATEVER THE INPUT: true; the input reads as it did. -/
def knightFindsSpec : ChangeSpec := { name := "knightFinds", fn := fun _ => fun
  | [d1, d2] => { results := [.lit (.bool true)], args := [d1, d2] }
  | _ => none }
def knightFindsRow : OpenClaim := { program := "ytdjbpmgbaggfbaadoor", sum := "550926b0ca3ba26c004ddc249e31878ff5ebce88112264e4ac7999637a3e481b", func := "bibelot/bibelotlaw06.KnightFinds", spec := "knightFinds", unfollowed := true, recurses := true, named := ["math/bits.deBruijn64tab"], plainKeys := false, apart := false, laid := [("math/bits.deBruijn64tab", laid_math_bits_deBruijn64tab)] }
def KnightFindsSaid : Prop := knightFindsRow.holds Tryd.pinned (OpenSpec.ofChange knightFindsSpec)

/-- ITS FALSE NEIGHBOUR: 'it returns false'. Refute it at one input. -/
def knightFindsWrong : ChangeSpec := { name := "knightFinds", fn := fun _ => fun
  | [d1, d2] => { results := [.lit (.bool false)], args := [d1, d2] }
  | _ => none }
def KnightFindsWrongFalsely : Prop := knightFindsRow.holds Tryd.pinned (OpenSpec.ofChange knightFindsWrong)

/-- 'bibelotlaw06.KnightWalks': WHATEVER THE INPUT: true; the input reads as it did. -/
def knightWalksSpec : ChangeSpec := { name := "knightWalks", fn := fun _ => fun
  | [d1, d2, d3] => { results := [.lit (.bool true)], args := [d1, d2, d3] }
  | _ => none }
def knightWalksRow : OpenClaim := { program := "ytdjbpmgbaggfbaadoor", sum := "550926b0ca3ba26c004ddc249e31878ff5ebce88112264e4ac7999637a3e481b", func := "bibelot/bibelotlaw06.KnightWalks", spec := "knightWalks", unfollowed := true, recurses := true, named := ["math/bits.deBruijn64tab"], plainKeys := false, apart := false, laid := [("math/bits.deBruijn64tab", laid_math_bits_deBruijn64tab)] }
def KnightWalksSaid : Prop := knightWalksRow.holds Tryd.pinned (OpenSpec.ofChange knightWalksSpec)

/-- ITS FALSE NEIGHBOUR: 'it returns false'. Refute it at one input. -/
def knightWalksWrong : ChangeSpec := { name := "knightWalks", fn := fun _ => fun
  | [d1, d2, d3] => { results := [.lit (.bool false)], args := [d1, d2, d3] }
  | _ => none }
def KnightWalksWrongFalsely : Prop := knightWalksRow.holds Tryd.pinned (OpenSpec.ofChange knightWalksWrong)

/-- 'bibelotlaw06.KnightSteps': WHATEVER THE INPUT: true; the input reads as it did. -/
def knightStepsSpec : ChangeSpec := { name := "knightSteps", fn := fun _ => fun
  | [d1, d2, d3] => { results := [.lit (.bool true)], args := [d1, d2, d3] }
  | _ => none }
def knightStepsRow : OpenClaim := { program := "ytdjbpmgbaggfbaadoor", sum := "550926b0ca3ba26c004ddc249e31878ff5ebce88112264e4ac7999637a3e481b", func := "bibelot/bibelotlaw06.KnightSteps", spec := "knightSteps", unfollowed := true, recurses := true, named := ["math/bits.deBruijn64tab"], plainKeys := false, apart := false, laid := [("math/bits.deBruijn64tab", laid_math_bits_deBruijn64tab)] }
def KnightStepsSaid : Prop := knightStepsRow.holds Tryd.pinned (OpenSpec.ofChange knightStepsSpec)

/-- ITS FALSE NEIGHBOUR: 'it returns false'. Refute it at one input. -/
def knightStepsWrong : ChangeSpec := { name := "knightSteps", fn := fun _ => fun
  | [d1, d2, d3] => { results := [.lit (.bool false)], args := [d1, d2, d3] }
  | _ => none }
def KnightStepsWrongFalsely : Prop := knightStepsRow.holds Tryd.pinned (OpenSpec.ofChange knightStepsWrong)

/-- 'bibelotlaw06.KnightMoves': WHATEVER THE INPUT: true; the input reads as it did. -/
def knightMovesSpec : ChangeSpec := { name := "knightMoves", fn := fun _ => fun
  | [d1, d2, d3] => { results := [.lit (.bool true)], args := [d1, d2, d3] }
  | _ => none }
def knightMovesRow : OpenClaim := { program := "ytdjbpmgbaggfbaadoor", sum := "550926b0ca3ba26c004ddc249e31878ff5ebce88112264e4ac7999637a3e481b", func := "bibelot/bibelotlaw06.KnightMoves", spec := "knightMoves", unfollowed := true, recurses := true, named := ["math/bits.deBruijn64tab"], plainKeys := false, apart := false, laid := [("math/bits.deBruijn64tab", laid_math_bits_deBruijn64tab)] }
def KnightMovesSaid : Prop := knightMovesRow.holds Tryd.pinned (OpenSpec.ofChange knightMovesSpec)

/-- ITS FALSE NEIGHBOUR: 'it returns false'. Refute it at one input. -/
def knightMovesWrong : ChangeSpec := { name := "knightMoves", fn := fun _ => fun
  | [d1, d2, d3] => { results := [.lit (.bool false)], args := [d1, d2, d3] }
  | _ => none }
def KnightMovesWrongFalsely : Prop := knightMovesRow.holds Tryd.pinned (OpenSpec.ofChange knightMovesWrong)

/-- 'bibelotlaw06.KnightTight': WHATEVER THE INPUT: true; the input reads as it did. -/
def knightTightSpec : ChangeSpec := { name := "knightTight", fn := fun _ => fun
  | [d1, d2, d3] => { results := [.lit (.bool true)], args := [d1, d2, d3] }
  | _ => none }
def knightTightRow : OpenClaim := { program := "ytdjbpmgbaggfbaadoor", sum := "550926b0ca3ba26c004ddc249e31878ff5ebce88112264e4ac7999637a3e481b", func := "bibelot/bibelotlaw06.KnightTight", spec := "knightTight", unfollowed := true, recurses := true, named := ["math/bits.deBruijn64tab"], plainKeys := false, apart := false, laid := [("math/bits.deBruijn64tab", laid_math_bits_deBruijn64tab)] }
def KnightTightSaid : Prop := knightTightRow.holds Tryd.pinned (OpenSpec.ofChange knightTightSpec)

/-- ITS FALSE NEIGHBOUR: 'it returns false'. Refute it at one input. -/
def knightTightWrong : ChangeSpec := { name := "knightTight", fn := fun _ => fun
  | [d1, d2, d3] => { results := [.lit (.bool false)], args := [d1, d2, d3] }
  | _ => none }
def KnightTightWrongFalsely : Prop := knightTightRow.holds Tryd.pinned (OpenSpec.ofChange knightTightWrong)

/-- 'bibelotlaw06.KnightRides': WHATEVER THE INPUT: true; the input reads as it did. -/
def knightRidesSpec : ChangeSpec := { name := "knightRides", fn := fun _ => fun
  | [d1, d2, d3] => { results := [.lit (.bool true)], args := [d1, d2, d3] }
  | _ => none }
def knightRidesRow : OpenClaim := { program := "ytdjbpmgbaggfbaadoor", sum := "550926b0ca3ba26c004ddc249e31878ff5ebce88112264e4ac7999637a3e481b", func := "bibelot/bibelotlaw06.KnightRides", spec := "knightRides", unfollowed := true, recurses := true, named := ["math/bits.deBruijn64tab"], plainKeys := false, apart := false, laid := [("math/bits.deBruijn64tab", laid_math_bits_deBruijn64tab)] }
def KnightRidesSaid : Prop := knightRidesRow.holds Tryd.pinned (OpenSpec.ofChange knightRidesSpec)

/-- ITS FALSE NEIGHBOUR: 'it returns false'. Refute it at one input. -/
def knightRidesWrong : ChangeSpec := { name := "knightRides", fn := fun _ => fun
  | [d1, d2, d3] => { results := [.lit (.bool false)], args := [d1, d2, d3] }
  | _ => none }
def KnightRidesWrongFalsely : Prop := knightRidesRow.holds Tryd.pinned (OpenSpec.ofChange knightRidesWrong)

/-- 'bibelotlaw06.KnightMetric': WHATEVER THE INPUT: true; the input reads as it did. -/
def knightMetricSpec : ChangeSpec := { name := "knightMetric", fn := fun _ => fun
  | [d1, d2, d3] => { results := [.lit (.bool true)], args := [d1, d2, d3] }
  | _ => none }
def knightMetricRow : OpenClaim := { program := "ytdjbpmgbaggfbaadoor", sum := "550926b0ca3ba26c004ddc249e31878ff5ebce88112264e4ac7999637a3e481b", func := "bibelot/bibelotlaw06.KnightMetric", spec := "knightMetric", unfollowed := true, recurses := true, named := ["math/bits.deBruijn64tab"], plainKeys := false, apart := false, laid := [("math/bits.deBruijn64tab", laid_math_bits_deBruijn64tab)] }
def KnightMetricSaid : Prop := knightMetricRow.holds Tryd.pinned (OpenSpec.ofChange knightMetricSpec)

/-- ITS FALSE NEIGHBOUR: 'it returns false'. Refute it at one input. -/
def knightMetricWrong : ChangeSpec := { name := "knightMetric", fn := fun _ => fun
  | [d1, d2, d3] => { results := [.lit (.bool false)], args := [d1, d2, d3] }
  | _ => none }
def KnightMetricWrongFalsely : Prop := knightMetricRow.holds Tryd.pinned (OpenSpec.ofChange knightMetricWrong)

/-- 'bibelotlaw06.KnightQuiet': WHATEVER THE INPUT: true; the input reads as it did. -/
def knightQuietSpec : ChangeSpec := { name := "knightQuiet", fn := fun _ => fun
  | [d1, d2] => { results := [.lit (.bool true)], args := [d1, d2] }
  | _ => none }
def knightQuietRow : OpenClaim := { program := "ytdjbpmgbaggfbaadoor", sum := "550926b0ca3ba26c004ddc249e31878ff5ebce88112264e4ac7999637a3e481b", func := "bibelot/bibelotlaw06.KnightQuiet", spec := "knightQuiet", unfollowed := true, recurses := true, named := ["math/bits.deBruijn64tab"], plainKeys := false, apart := false, laid := [("math/bits.deBruijn64tab", laid_math_bits_deBruijn64tab)] }
def KnightQuietSaid : Prop := knightQuietRow.holds Tryd.pinned (OpenSpec.ofChange knightQuietSpec)

/-- ITS FALSE NEIGHBOUR: 'it returns false'. Refute it at one input. -/
def knightQuietWrong : ChangeSpec := { name := "knightQuiet", fn := fun _ => fun
  | [d1, d2] => { results := [.lit (.bool false)], args := [d1, d2] }
  | _ => none }
def KnightQuietWrongFalsely : Prop := knightQuietRow.holds Tryd.pinned (OpenSpec.ofChange knightQuietWrong)

/-- 'bibelotlaw06.KnightTours': WHATEVER THE INPUT: true; the input reads as it did. -/
def knightToursSpec : ChangeSpec := { name := "knightTours", fn := fun _ => fun
  | [d1, d2, d3] => { results := [.lit (.bool true)], args := [d1, d2, d3] }
  | _ => none }
def knightToursRow : OpenClaim := { program := "ytdjbpmgbaggfbaadoor", sum := "550926b0ca3ba26c004ddc249e31878ff5ebce88112264e4ac7999637a3e481b", func := "bibelot/bibelotlaw06.KnightTours", spec := "knightTours", unfollowed := true, recurses := true, named := ["math/bits.deBruijn64tab"], plainKeys := false, apart := false, laid := [("math/bits.deBruijn64tab", laid_math_bits_deBruijn64tab)] }
def KnightToursSaid : Prop := knightToursRow.holds Tryd.pinned (OpenSpec.ofChange knightToursSpec)

/-- ITS FALSE NEIGHBOUR: 'it returns false'. Refute it at one input. -/
def knightToursWrong : ChangeSpec := { name := "knightTours", fn := fun _ => fun
  | [d1, d2, d3] => { results := [.lit (.bool false)], args := [d1, d2, d3] }
  | _ => none }
def KnightToursWrongFalsely : Prop := knightToursRow.holds Tryd.pinned (OpenSpec.ofChange knightToursWrong)

/-- 'bibelotlaw06.KnightKonig': WHATEVER THE INPUT: true; the input reads as it did. -/
def knightKonigSpec : ChangeSpec := { name := "knightKonig", fn := fun _ => fun
  | [d1, d2, d3] => { results := [.lit (.bool true)], args := [d1, d2, d3] }
  | _ => none }
def knightKonigRow : OpenClaim := { program := "ytdjbpmgbaggfbaadoor", sum := "550926b0ca3ba26c004ddc249e31878ff5ebce88112264e4ac7999637a3e481b", func := "bibelot/bibelotlaw06.KnightKonig", spec := "knightKonig", unfollowed := true, recurses := true, named := ["math/bits.deBruijn64tab"], plainKeys := false, apart := false, laid := [("math/bits.deBruijn64tab", laid_math_bits_deBruijn64tab)] }
def KnightKonigSaid : Prop := knightKonigRow.holds Tryd.pinned (OpenSpec.ofChange knightKonigSpec)

/-- ITS FALSE NEIGHBOUR: 'it returns false'. Refute it at one input. -/
def knightKonigWrong : ChangeSpec := { name := "knightKonig", fn := fun _ => fun
  | [d1, d2, d3] => { results := [.lit (.bool false)], args := [d1, d2, d3] }
  | _ => none }
def KnightKonigWrongFalsely : Prop := knightKonigRow.holds Tryd.pinned (OpenSpec.ofChange knightKonigWrong)

/-- 'bibelotlaw06.KnightSchwenk': WHATEVER THE INPUT: true; the input reads as it did. -/
def knightSchwenkSpec : ChangeSpec := { name := "knightSchwenk", fn := fun _ => fun
  | [d1, d2] => { results := [.lit (.bool true)], args := [d1, d2] }
  | _ => none }
def knightSchwenkRow : OpenClaim := { program := "ytdjbpmgbaggfbaadoor", sum := "550926b0ca3ba26c004ddc249e31878ff5ebce88112264e4ac7999637a3e481b", func := "bibelot/bibelotlaw06.KnightSchwenk", spec := "knightSchwenk", unfollowed := true, recurses := true, named := ["math/bits.deBruijn64tab"], plainKeys := false, apart := false, laid := [("math/bits.deBruijn64tab", laid_math_bits_deBruijn64tab)] }
def KnightSchwenkSaid : Prop := knightSchwenkRow.holds Tryd.pinned (OpenSpec.ofChange knightSchwenkSpec)

/-- ITS FALSE NEIGHBOUR: 'it returns false'. Refute it at one input. -/
def knightSchwenkWrong : ChangeSpec := { name := "knightSchwenk", fn := fun _ => fun
  | [d1, d2] => { results := [.lit (.bool false)], args := [d1, d2] }
  | _ => none }
def KnightSchwenkWrongFalsely : Prop := knightSchwenkRow.holds Tryd.pinned (OpenSpec.ofChange knightSchwenkWrong)

/-- 'bibelotlaw06.KnightTurns': WHATEVER THE INPUT: true; the input reads as it did. -/
def knightTurnsSpec : ChangeSpec := { name := "knightTurns", fn := fun _ => fun
  | [d1, d2, d3] => { results := [.lit (.bool true)], args := [d1, d2, d3] }
  | _ => none }
def knightTurnsRow : OpenClaim := { program := "ytdjbpmgbaggfbaadoor", sum := "550926b0ca3ba26c004ddc249e31878ff5ebce88112264e4ac7999637a3e481b", func := "bibelot/bibelotlaw06.KnightTurns", spec := "knightTurns", unfollowed := true, recurses := true, named := ["math/bits.deBruijn64tab"], plainKeys := false, apart := false, laid := [("math/bits.deBruijn64tab", laid_math_bits_deBruijn64tab)] }
def KnightTurnsSaid : Prop := knightTurnsRow.holds Tryd.pinned (OpenSpec.ofChange knightTurnsSpec)

/-- ITS FALSE NEIGHBOUR: 'it returns false'. Refute it at one input. -/
def knightTurnsWrong : ChangeSpec := { name := "knightTurns", fn := fun _ => fun
  | [d1, d2, d3] => { results := [.lit (.bool false)], args := [d1, d2, d3] }
  | _ => none }
def KnightTurnsWrongFalsely : Prop := knightTurnsRow.holds Tryd.pinned (OpenSpec.ofChange knightTurnsWrong)

/-- 'bibelotlaw06.KnightGuards': WHATEVER THE INPUT: true; the input reads as it did. -/
def knightGuardsSpec : ChangeSpec := { name := "knightGuards", fn := fun _ => fun
  | [d1, d2] => { results := [.lit (.bool true)], args := [d1, d2] }
  | _ => none }
def knightGuardsRow : OpenClaim := { program := "ytdjbpmgbaggfbaadoor", sum := "550926b0ca3ba26c004ddc249e31878ff5ebce88112264e4ac7999637a3e481b", func := "bibelot/bibelotlaw06.KnightGuards", spec := "knightGuards", unfollowed := true, recurses := true, named := ["math/bits.deBruijn64tab"], plainKeys := false, apart := false, laid := [("math/bits.deBruijn64tab", laid_math_bits_deBruijn64tab)] }
def KnightGuardsSaid : Prop := knightGuardsRow.holds Tryd.pinned (OpenSpec.ofChange knightGuardsSpec)

/-- ITS FALSE NEIGHBOUR: 'it returns false'. Refute it at one input. -/
def knightGuardsWrong : ChangeSpec := { name := "knightGuards", fn := fun _ => fun
  | [d1, d2] => { results := [.lit (.bool false)], args := [d1, d2] }
  | _ => none }
def KnightGuardsWrongFalsely : Prop := knightGuardsRow.holds Tryd.pinned (OpenSpec.ofChange knightGuardsWrong)

/-- 'bibelotlaw06.KnightOwn': WHATEVER THE INPUT: true; the input reads as it did. -/
def knightOwnSpec : ChangeSpec := { name := "knightOwn", fn := fun _ => fun
  | [d1, d2, d3] => { results := [.lit (.bool true)], args := [d1, d2, d3] }
  | _ => none }
def knightOwnRow : OpenClaim := { program := "ytdjbpmgbaggfbaadoor", sum := "550926b0ca3ba26c004ddc249e31878ff5ebce88112264e4ac7999637a3e481b", func := "bibelot/bibelotlaw06.KnightOwn", spec := "knightOwn", unfollowed := true, recurses := true, named := ["math/bits.deBruijn64tab"], plainKeys := false, apart := false, laid := [("math/bits.deBruijn64tab", laid_math_bits_deBruijn64tab)] }
def KnightOwnSaid : Prop := knightOwnRow.holds Tryd.pinned (OpenSpec.ofChange knightOwnSpec)

/-- ITS FALSE NEIGHBOUR: 'it returns false'. Refute it at one input. -/
def knightOwnWrong : ChangeSpec := { name := "knightOwn", fn := fun _ => fun
  | [d1, d2, d3] => { results := [.lit (.bool false)], args := [d1, d2, d3] }
  | _ => none }
def KnightOwnWrongFalsely : Prop := knightOwnRow.holds Tryd.pinned (OpenSpec.ofChange knightOwnWrong)

/-- 'bibelotlaw06.KnightChecks': WHATEVER THE INPUT: true; the input reads as it did. -/
def knightChecksSpec : ChangeSpec := { name := "knightChecks", fn := fun _ => fun
  | [d1, d2, d3] => { results := [.lit (.bool true)], args := [d1, d2, d3] }
  | _ => none }
def knightChecksRow : OpenClaim := { program := "ytdjbpmgbaggfbaadoor", sum := "550926b0ca3ba26c004ddc249e31878ff5ebce88112264e4ac7999637a3e481b", func := "bibelot/bibelotlaw06.KnightChecks", spec := "knightChecks", unfollowed := true, recurses := true, named := ["math/bits.deBruijn64tab"], plainKeys := false, apart := false, laid := [("math/bits.deBruijn64tab", laid_math_bits_deBruijn64tab)] }
def KnightChecksSaid : Prop := knightChecksRow.holds Tryd.pinned (OpenSpec.ofChange knightChecksSpec)

/-- ITS FALSE NEIGHBOUR: 'it returns false'. Refute it at one input. -/
def knightChecksWrong : ChangeSpec := { name := "knightChecks", fn := fun _ => fun
  | [d1, d2, d3] => { results := [.lit (.bool false)], args := [d1, d2, d3] }
  | _ => none }
def KnightChecksWrongFalsely : Prop := knightChecksRow.holds Tryd.pinned (OpenSpec.ofChange knightChecksWrong)

/- THE SECOND FORM. 'bulk': how many values and letters a reading holds, each counted each time it is reached (what is shared counts as often as it is met; a slice's spare places count too). A statement '..UptoSaid' is the law's where the arguments, and the package variables that the reading takes, are together of bulk at most 1048576: NARROWER than '..Said'. Prove '..Said' where nothing that the law and all that it calls make is longer than what came in: it says more and counts as full. Else prove '..UptoSaid'. A law counts once. -/
mutual
def uptoBulk {H : Type} : DataW H → Nat
  | .lit (.string bytes) => bytes.length + 1
  | .lit _ => 1
  | .nil => 1
  | .ptr d => uptoBulk d + 1
  | .slice elems spare => uptoBulkAll elems + uptoBulkAll spare + 1
  | .agg parts => uptoBulkAll parts + 1
  | .iface _ d => uptoBulk d + 1
  | .map entries => uptoBulkEntries entries + 1
  | .held _ => 1
def uptoBulkAll {H : Type} : List (DataW H) → Nat
  | [] => 0
  | d :: r => uptoBulk d + uptoBulkAll r
def uptoBulkEntries {H : Type} : List (Lit × DataW H) → Nat
  | [] => 0
  | x :: r => uptoBulkEntry x + uptoBulkEntries r
def uptoBulkEntry {H : Type} : Lit × DataW H → Nat
  | (.string bytes, d) => bytes.length + uptoBulk d + 1
  | (_, d) => uptoBulk d + 1
 end
def uptoSmall : (H : Type) → List (DataW H) → Bool := fun _ ds => decide (uptoBulkAll ds ≤ 1048576)
def OpenSpec.upto (s : _root_.Go.ChangeSpec) : _root_.Go.OpenSpec := { _root_.Go.OpenSpec.ofChange s with cond := some uptoSmall }

/-- 'bibelotlaw06.KnightFinds', WHERE WHAT IT READS IS OF BULK AT MOST 1048576: true; the input reads as it did. -/
def knightFindsUptoRow : OpenClaim := { program := "ytdjbpmgbaggfbaadoor", sum := "550926b0ca3ba26c004ddc249e31878ff5ebce88112264e4ac7999637a3e481b", func := "bibelot/bibelotlaw06.KnightFinds", spec := "knightFinds", unfollowed := true, recurses := true, named := ["math/bits.deBruijn64tab"], plainKeys := false, apart := false, laid := [("math/bits.deBruijn64tab", laid_math_bits_deBruijn64tab)], narrowed := true }
def KnightFindsUptoSaid : Prop := knightFindsUptoRow.holds Tryd.pinned (OpenSpec.upto knightFindsSpec)

/-- 'bibelotlaw06.KnightWalks', WHERE WHAT IT READS IS OF BULK AT MOST 1048576: true; the input reads as it did. -/
def knightWalksUptoRow : OpenClaim := { program := "ytdjbpmgbaggfbaadoor", sum := "550926b0ca3ba26c004ddc249e31878ff5ebce88112264e4ac7999637a3e481b", func := "bibelot/bibelotlaw06.KnightWalks", spec := "knightWalks", unfollowed := true, recurses := true, named := ["math/bits.deBruijn64tab"], plainKeys := false, apart := false, laid := [("math/bits.deBruijn64tab", laid_math_bits_deBruijn64tab)], narrowed := true }
def KnightWalksUptoSaid : Prop := knightWalksUptoRow.holds Tryd.pinned (OpenSpec.upto knightWalksSpec)

/-- 'bibelotlaw06.KnightSteps', WHERE WHAT IT READS IS OF BULK AT MOST 1048576: true; the input reads as it did. -/
def knightStepsUptoRow : OpenClaim := { program := "ytdjbpmgbaggfbaadoor", sum := "550926b0ca3ba26c004ddc249e31878ff5ebce88112264e4ac7999637a3e481b", func := "bibelot/bibelotlaw06.KnightSteps", spec := "knightSteps", unfollowed := true, recurses := true, named := ["math/bits.deBruijn64tab"], plainKeys := false, apart := false, laid := [("math/bits.deBruijn64tab", laid_math_bits_deBruijn64tab)], narrowed := true }
def KnightStepsUptoSaid : Prop := knightStepsUptoRow.holds Tryd.pinned (OpenSpec.upto knightStepsSpec)

/-- 'bibelotlaw06.KnightMoves', WHERE WHAT IT READS IS OF BULK AT MOST 1048576: true; the input reads as it did. -/
def knightMovesUptoRow : OpenClaim := { program := "ytdjbpmgbaggfbaadoor", sum := "550926b0ca3ba26c004ddc249e31878ff5ebce88112264e4ac7999637a3e481b", func := "bibelot/bibelotlaw06.KnightMoves", spec := "knightMoves", unfollowed := true, recurses := true, named := ["math/bits.deBruijn64tab"], plainKeys := false, apart := false, laid := [("math/bits.deBruijn64tab", laid_math_bits_deBruijn64tab)], narrowed := true }
def KnightMovesUptoSaid : Prop := knightMovesUptoRow.holds Tryd.pinned (OpenSpec.upto knightMovesSpec)

/-- 'bibelotlaw06.KnightTight', WHERE WHAT IT READS IS OF BULK AT MOST 1048576: true; the input reads as it did. -/
def knightTightUptoRow : OpenClaim := { program := "ytdjbpmgbaggfbaadoor", sum := "550926b0ca3ba26c004ddc249e31878ff5ebce88112264e4ac7999637a3e481b", func := "bibelot/bibelotlaw06.KnightTight", spec := "knightTight", unfollowed := true, recurses := true, named := ["math/bits.deBruijn64tab"], plainKeys := false, apart := false, laid := [("math/bits.deBruijn64tab", laid_math_bits_deBruijn64tab)], narrowed := true }
def KnightTightUptoSaid : Prop := knightTightUptoRow.holds Tryd.pinned (OpenSpec.upto knightTightSpec)

/-- 'bibelotlaw06.KnightRides', WHERE WHAT IT READS IS OF BULK AT MOST 1048576: true; the input reads as it did. -/
def knightRidesUptoRow : OpenClaim := { program := "ytdjbpmgbaggfbaadoor", sum := "550926b0ca3ba26c004ddc249e31878ff5ebce88112264e4ac7999637a3e481b", func := "bibelot/bibelotlaw06.KnightRides", spec := "knightRides", unfollowed := true, recurses := true, named := ["math/bits.deBruijn64tab"], plainKeys := false, apart := false, laid := [("math/bits.deBruijn64tab", laid_math_bits_deBruijn64tab)], narrowed := true }
def KnightRidesUptoSaid : Prop := knightRidesUptoRow.holds Tryd.pinned (OpenSpec.upto knightRidesSpec)

/-- 'bibelotlaw06.KnightMetric', WHERE WHAT IT READS IS OF BULK AT MOST 1048576: true; the input reads as it did. -/
def knightMetricUptoRow : OpenClaim := { program := "ytdjbpmgbaggfbaadoor", sum := "550926b0ca3ba26c004ddc249e31878ff5ebce88112264e4ac7999637a3e481b", func := "bibelot/bibelotlaw06.KnightMetric", spec := "knightMetric", unfollowed := true, recurses := true, named := ["math/bits.deBruijn64tab"], plainKeys := false, apart := false, laid := [("math/bits.deBruijn64tab", laid_math_bits_deBruijn64tab)], narrowed := true }
def KnightMetricUptoSaid : Prop := knightMetricUptoRow.holds Tryd.pinned (OpenSpec.upto knightMetricSpec)

/-- 'bibelotlaw06.KnightQuiet', WHERE WHAT IT READS IS OF BULK AT MOST 1048576: true; the input reads as it did. -/
def knightQuietUptoRow : OpenClaim := { program := "ytdjbpmgbaggfbaadoor", sum := "550926b0ca3ba26c004ddc249e31878ff5ebce88112264e4ac7999637a3e481b", func := "bibelot/bibelotlaw06.KnightQuiet", spec := "knightQuiet", unfollowed := true, recurses := true, named := ["math/bits.deBruijn64tab"], plainKeys := false, apart := false, laid := [("math/bits.deBruijn64tab", laid_math_bits_deBruijn64tab)], narrowed := true }
def KnightQuietUptoSaid : Prop := knightQuietUptoRow.holds Tryd.pinned (OpenSpec.upto knightQuietSpec)

/-- 'bibelotlaw06.KnightTours', WHERE WHAT IT READS IS OF BULK AT MOST 1048576: true; the input reads as it did. -/
def knightToursUptoRow : OpenClaim := { program := "ytdjbpmgbaggfbaadoor", sum := "550926b0ca3ba26c004ddc249e31878ff5ebce88112264e4ac7999637a3e481b", func := "bibelot/bibelotlaw06.KnightTours", spec := "knightTours", unfollowed := true, recurses := true, named := ["math/bits.deBruijn64tab"], plainKeys := false, apart := false, laid := [("math/bits.deBruijn64tab", laid_math_bits_deBruijn64tab)], narrowed := true }
def KnightToursUptoSaid : Prop := knightToursUptoRow.holds Tryd.pinned (OpenSpec.upto knightToursSpec)

/-- 'bibelotlaw06.KnightKonig', WHERE WHAT IT READS IS OF BULK AT MOST 1048576: true; the input reads as it did. -/
def knightKonigUptoRow : OpenClaim := { program := "ytdjbpmgbaggfbaadoor", sum := "550926b0ca3ba26c004ddc249e31878ff5ebce88112264e4ac7999637a3e481b", func := "bibelot/bibelotlaw06.KnightKonig", spec := "knightKonig", unfollowed := true, recurses := true, named := ["math/bits.deBruijn64tab"], plainKeys := false, apart := false, laid := [("math/bits.deBruijn64tab", laid_math_bits_deBruijn64tab)], narrowed := true }
def KnightKonigUptoSaid : Prop := knightKonigUptoRow.holds Tryd.pinned (OpenSpec.upto knightKonigSpec)

/-- 'bibelotlaw06.KnightSchwenk', WHERE WHAT IT READS IS OF BULK AT MOST 1048576: true; the input reads as it did. -/
def knightSchwenkUptoRow : OpenClaim := { program := "ytdjbpmgbaggfbaadoor", sum := "550926b0ca3ba26c004ddc249e31878ff5ebce88112264e4ac7999637a3e481b", func := "bibelot/bibelotlaw06.KnightSchwenk", spec := "knightSchwenk", unfollowed := true, recurses := true, named := ["math/bits.deBruijn64tab"], plainKeys := false, apart := false, laid := [("math/bits.deBruijn64tab", laid_math_bits_deBruijn64tab)], narrowed := true }
def KnightSchwenkUptoSaid : Prop := knightSchwenkUptoRow.holds Tryd.pinned (OpenSpec.upto knightSchwenkSpec)

/-- 'bibelotlaw06.KnightTurns', WHERE WHAT IT READS IS OF BULK AT MOST 1048576: true; the input reads as it did. -/
def knightTurnsUptoRow : OpenClaim := { program := "ytdjbpmgbaggfbaadoor", sum := "550926b0ca3ba26c004ddc249e31878ff5ebce88112264e4ac7999637a3e481b", func := "bibelot/bibelotlaw06.KnightTurns", spec := "knightTurns", unfollowed := true, recurses := true, named := ["math/bits.deBruijn64tab"], plainKeys := false, apart := false, laid := [("math/bits.deBruijn64tab", laid_math_bits_deBruijn64tab)], narrowed := true }
def KnightTurnsUptoSaid : Prop := knightTurnsUptoRow.holds Tryd.pinned (OpenSpec.upto knightTurnsSpec)

/-- 'bibelotlaw06.KnightGuards', WHERE WHAT IT READS IS OF BULK AT MOST 1048576: true; the input reads as it did. -/
def knightGuardsUptoRow : OpenClaim := { program := "ytdjbpmgbaggfbaadoor", sum := "550926b0ca3ba26c004ddc249e31878ff5ebce88112264e4ac7999637a3e481b", func := "bibelot/bibelotlaw06.KnightGuards", spec := "knightGuards", unfollowed := true, recurses := true, named := ["math/bits.deBruijn64tab"], plainKeys := false, apart := false, laid := [("math/bits.deBruijn64tab", laid_math_bits_deBruijn64tab)], narrowed := true }
def KnightGuardsUptoSaid : Prop := knightGuardsUptoRow.holds Tryd.pinned (OpenSpec.upto knightGuardsSpec)

/-- 'bibelotlaw06.KnightOwn', WHERE WHAT IT READS IS OF BULK AT MOST 1048576: true; the input reads as it did. -/
def knightOwnUptoRow : OpenClaim := { program := "ytdjbpmgbaggfbaadoor", sum := "550926b0ca3ba26c004ddc249e31878ff5ebce88112264e4ac7999637a3e481b", func := "bibelot/bibelotlaw06.KnightOwn", spec := "knightOwn", unfollowed := true, recurses := true, named := ["math/bits.deBruijn64tab"], plainKeys := false, apart := false, laid := [("math/bits.deBruijn64tab", laid_math_bits_deBruijn64tab)], narrowed := true }
def KnightOwnUptoSaid : Prop := knightOwnUptoRow.holds Tryd.pinned (OpenSpec.upto knightOwnSpec)

/-- 'bibelotlaw06.KnightChecks', WHERE WHAT IT READS IS OF BULK AT MOST 1048576: true; the input reads as it did. -/
def knightChecksUptoRow : OpenClaim := { program := "ytdjbpmgbaggfbaadoor", sum := "550926b0ca3ba26c004ddc249e31878ff5ebce88112264e4ac7999637a3e481b", func := "bibelot/bibelotlaw06.KnightChecks", spec := "knightChecks", unfollowed := true, recurses := true, named := ["math/bits.deBruijn64tab"], plainKeys := false, apart := false, laid := [("math/bits.deBruijn64tab", laid_math_bits_deBruijn64tab)], narrowed := true }
def KnightChecksUptoSaid : Prop := knightChecksUptoRow.holds Tryd.pinned (OpenSpec.upto knightChecksSpec)

end Rows
end Go.Proofs.YtdjbpmgbaggfbaaDoor
