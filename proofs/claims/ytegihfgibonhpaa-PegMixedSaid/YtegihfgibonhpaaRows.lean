/-
  No cell of these rows narrows 'for every input' (looked for: loops, veiled, ifaces, maps, wideKeys, modest, calm, conditions, laid).
  DERIVED. THE GIVEN ROWS OF THIS SEAT. 15 by the template 'for every input the law returns true; each argument reads behind the call as it read before'; 0 by the template 'total and deterministic' (their statements: YtegihfgibonhpaaTotals.lean).
  GIVEN WITH THE SEED: the statements are not yours to turn. If you find one false, say at which input.
  Laid BY PROGRAM, IN A SANDBOX (cutbox-rows.mjs): the forced cells as the released guide's own fill.sh prints them over the translation 810820b450aaf941… (all of the seat's roots in one cut). By AI agents, Wed Nov 11 2026. No macro, syntax, notation, axiom, sorry.
-/
import Derived.Test.YtegihfgibonhpaaChecked
import GoSem.Claim
import GoSem.ClaimJoined
import GoSem.ClaimMapViews
import Derived.JoinedTies
import Derived.KernelRfl
namespace Go.Proofs.Ytegihfgibonhpaa
/- THE CELL 'sum', in the pinned program and in every row, IS THE sha256 OF THE DUMP (.gsa) THAT YtegihfgibonhpaaProg.lean LOADS. Nothing in Lean hashes anything: it is a label: what it is worth is what the hold of that sum in a sandbox is worth. -/
noncomputable def Try.pinned : Pinned := { name := "ytegihfgibonhpaa", sum := "810820b450aaf9417b5254abd5af7e77af1dac27ea8152e8435a3da599627ca5", checked := Try.checked }
namespace Rows
def none {H : Type} : Left H := { results := [], args := [] }

/-- 'bibelotlaw02.PegSolves': WHATEVER THE INPUT: true; the input reads as it did. -/
def pegSolvesSpec : ChangeSpec := { name := "pegSolves", fn := fun _ => fun
  | [d1, d2, d3] => { results := [.lit (.bool true)], args := [d1, d2, d3] }
  | _ => none }
def pegSolvesRow : OpenClaim := { program := "ytegihfgibonhpaa", sum := "810820b450aaf9417b5254abd5af7e77af1dac27ea8152e8435a3da599627ca5", func := "bibelot/bibelotlaw02.PegSolves", spec := "pegSolves", unfollowed := true, recurses := true, apart := false }
def PegSolvesSaid : Prop := pegSolvesRow.holds Try.pinned (OpenSpec.ofChange pegSolvesSpec)

/-- ITS FALSE NEIGHBOUR: 'it returns false'. Refute it at one input. -/
def pegSolvesWrong : ChangeSpec := { name := "pegSolves", fn := fun _ => fun
  | [d1, d2, d3] => { results := [.lit (.bool false)], args := [d1, d2, d3] }
  | _ => none }
def PegSolvesWrongFalsely : Prop := pegSolvesRow.holds Try.pinned (OpenSpec.ofChange pegSolvesWrong)

/-- 'bibelotlaw02.PegReached': WHATEVER THE INPUT: true; the input reads as it did. -/
def pegReachedSpec : ChangeSpec := { name := "pegReached", fn := fun _ => fun
  | [d1, d2, d3] => { results := [.lit (.bool true)], args := [d1, d2, d3] }
  | _ => none }
def pegReachedRow : OpenClaim := { program := "ytegihfgibonhpaa", sum := "810820b450aaf9417b5254abd5af7e77af1dac27ea8152e8435a3da599627ca5", func := "bibelot/bibelotlaw02.PegReached", spec := "pegReached", unfollowed := true, recurses := true, apart := false }
def PegReachedSaid : Prop := pegReachedRow.holds Try.pinned (OpenSpec.ofChange pegReachedSpec)

/-- ITS FALSE NEIGHBOUR: 'it returns false'. Refute it at one input. -/
def pegReachedWrong : ChangeSpec := { name := "pegReached", fn := fun _ => fun
  | [d1, d2, d3] => { results := [.lit (.bool false)], args := [d1, d2, d3] }
  | _ => none }
def PegReachedWrongFalsely : Prop := pegReachedRow.holds Try.pinned (OpenSpec.ofChange pegReachedWrong)

/-- 'bibelotlaw02.PegRules': WHATEVER THE INPUT: true; the input reads as it did. -/
def pegRulesSpec : ChangeSpec := { name := "pegRules", fn := fun _ => fun
  | [d1, d2, d3] => { results := [.lit (.bool true)], args := [d1, d2, d3] }
  | _ => none }
def pegRulesRow : OpenClaim := { program := "ytegihfgibonhpaa", sum := "810820b450aaf9417b5254abd5af7e77af1dac27ea8152e8435a3da599627ca5", func := "bibelot/bibelotlaw02.PegRules", spec := "pegRules", unfollowed := true, recurses := true, apart := false }
def PegRulesSaid : Prop := pegRulesRow.holds Try.pinned (OpenSpec.ofChange pegRulesSpec)

/-- ITS FALSE NEIGHBOUR: 'it returns false'. Refute it at one input. -/
def pegRulesWrong : ChangeSpec := { name := "pegRules", fn := fun _ => fun
  | [d1, d2, d3] => { results := [.lit (.bool false)], args := [d1, d2, d3] }
  | _ => none }
def PegRulesWrongFalsely : Prop := pegRulesRow.holds Try.pinned (OpenSpec.ofChange pegRulesWrong)

/-- 'bibelotlaw02.PegBack': WHATEVER THE INPUT: true; the input reads as it did. -/
def pegBackSpec : ChangeSpec := { name := "pegBack", fn := fun _ => fun
  | [d1, d2, d3] => { results := [.lit (.bool true)], args := [d1, d2, d3] }
  | _ => none }
def pegBackRow : OpenClaim := { program := "ytegihfgibonhpaa", sum := "810820b450aaf9417b5254abd5af7e77af1dac27ea8152e8435a3da599627ca5", func := "bibelot/bibelotlaw02.PegBack", spec := "pegBack", unfollowed := true, recurses := true, apart := false }
def PegBackSaid : Prop := pegBackRow.holds Try.pinned (OpenSpec.ofChange pegBackSpec)

/-- ITS FALSE NEIGHBOUR: 'it returns false'. Refute it at one input. -/
def pegBackWrong : ChangeSpec := { name := "pegBack", fn := fun _ => fun
  | [d1, d2, d3] => { results := [.lit (.bool false)], args := [d1, d2, d3] }
  | _ => none }
def PegBackWrongFalsely : Prop := pegBackRow.holds Try.pinned (OpenSpec.ofChange pegBackWrong)

/-- 'bibelotlaw02.PegReiss': WHATEVER THE INPUT: true; the input reads as it did. -/
def pegReissSpec : ChangeSpec := { name := "pegReiss", fn := fun _ => fun
  | [d] => { results := [.lit (.bool true)], args := [d] }
  | _ => none }
def pegReissRow : OpenClaim := { program := "ytegihfgibonhpaa", sum := "810820b450aaf9417b5254abd5af7e77af1dac27ea8152e8435a3da599627ca5", func := "bibelot/bibelotlaw02.PegReiss", spec := "pegReiss", unfollowed := true, recurses := true, apart := false }
def PegReissSaid : Prop := pegReissRow.holds Try.pinned (OpenSpec.ofChange pegReissSpec)

/-- ITS FALSE NEIGHBOUR: 'it returns false'. Refute it at one input. -/
def pegReissWrong : ChangeSpec := { name := "pegReiss", fn := fun _ => fun
  | [d] => { results := [.lit (.bool false)], args := [d] }
  | _ => none }
def PegReissWrongFalsely : Prop := pegReissRow.holds Try.pinned (OpenSpec.ofChange pegReissWrong)

/-- 'bibelotlaw02.PegWeights': WHATEVER THE INPUT: true; the input reads as it did. -/
def pegWeightsSpec : ChangeSpec := { name := "pegWeights", fn := fun _ => fun
  | [d1, d2, d3] => { results := [.lit (.bool true)], args := [d1, d2, d3] }
  | _ => none }
def pegWeightsRow : OpenClaim := { program := "ytegihfgibonhpaa", sum := "810820b450aaf9417b5254abd5af7e77af1dac27ea8152e8435a3da599627ca5", func := "bibelot/bibelotlaw02.PegWeights", spec := "pegWeights", unfollowed := true, recurses := true, apart := false }
def PegWeightsSaid : Prop := pegWeightsRow.holds Try.pinned (OpenSpec.ofChange pegWeightsSpec)

/-- ITS FALSE NEIGHBOUR: 'it returns false'. Refute it at one input. -/
def pegWeightsWrong : ChangeSpec := { name := "pegWeights", fn := fun _ => fun
  | [d1, d2, d3] => { results := [.lit (.bool false)], args := [d1, d2, d3] }
  | _ => none }
def PegWeightsWrongFalsely : Prop := pegWeightsRow.holds Try.pinned (OpenSpec.ofChange pegWeightsWrong)

/-- 'bibelotlaw02.PegDrafts': WHATEVER THE INPUT: true; the input reads as it did. -/
def pegDraftsSpec : ChangeSpec := { name := "pegDrafts", fn := fun _ => fun
  | [d1, d2, d3] => { results := [.lit (.bool true)], args := [d1, d2, d3] }
  | _ => none }
def pegDraftsRow : OpenClaim := { program := "ytegihfgibonhpaa", sum := "810820b450aaf9417b5254abd5af7e77af1dac27ea8152e8435a3da599627ca5", func := "bibelot/bibelotlaw02.PegDrafts", spec := "pegDrafts", unfollowed := true, recurses := true, apart := false }
def PegDraftsSaid : Prop := pegDraftsRow.holds Try.pinned (OpenSpec.ofChange pegDraftsSpec)

/-- ITS FALSE NEIGHBOUR: 'it returns false'. Refute it at one input. -/
def pegDraftsWrong : ChangeSpec := { name := "pegDrafts", fn := fun _ => fun
  | [d1, d2, d3] => { results := [.lit (.bool false)], args := [d1, d2, d3] }
  | _ => none }
def PegDraftsWrongFalsely : Prop := pegDraftsRow.holds Try.pinned (OpenSpec.ofChange pegDraftsWrong)

/-- 'bibelotlaw02.PegPlays': WHATEVER THE INPUT: true; the input reads as it did. -/
def pegPlaysSpec : ChangeSpec := { name := "pegPlays", fn := fun _ => fun
  | [d1, d2, d3] => { results := [.lit (.bool true)], args := [d1, d2, d3] }
  | _ => none }
def pegPlaysRow : OpenClaim := { program := "ytegihfgibonhpaa", sum := "810820b450aaf9417b5254abd5af7e77af1dac27ea8152e8435a3da599627ca5", func := "bibelot/bibelotlaw02.PegPlays", spec := "pegPlays", unfollowed := true, recurses := true, apart := false }
def PegPlaysSaid : Prop := pegPlaysRow.holds Try.pinned (OpenSpec.ofChange pegPlaysSpec)

/-- ITS FALSE NEIGHBOUR: 'it returns false'. Refute it at one input. -/
def pegPlaysWrong : ChangeSpec := { name := "pegPlays", fn := fun _ => fun
  | [d1, d2, d3] => { results := [.lit (.bool false)], args := [d1, d2, d3] }
  | _ => none }
def PegPlaysWrongFalsely : Prop := pegPlaysRow.holds Try.pinned (OpenSpec.ofChange pegPlaysWrong)

/-- 'bibelotlaw02.PegPagodas': WHATEVER THE INPUT: true; the input reads as it did. -/
def pegPagodasSpec : ChangeSpec := { name := "pegPagodas", fn := fun _ => fun
  | [d1, d2, d3] => { results := [.lit (.bool true)], args := [d1, d2, d3] }
  | _ => none }
def pegPagodasRow : OpenClaim := { program := "ytegihfgibonhpaa", sum := "810820b450aaf9417b5254abd5af7e77af1dac27ea8152e8435a3da599627ca5", func := "bibelot/bibelotlaw02.PegPagodas", spec := "pegPagodas", unfollowed := true, recurses := true, apart := false }
def PegPagodasSaid : Prop := pegPagodasRow.holds Try.pinned (OpenSpec.ofChange pegPagodasSpec)

/-- ITS FALSE NEIGHBOUR: 'it returns false'. Refute it at one input. -/
def pegPagodasWrong : ChangeSpec := { name := "pegPagodas", fn := fun _ => fun
  | [d1, d2, d3] => { results := [.lit (.bool false)], args := [d1, d2, d3] }
  | _ => none }
def PegPagodasWrongFalsely : Prop := pegPagodasRow.holds Try.pinned (OpenSpec.ofChange pegPagodasWrong)

/-- 'bibelotlaw02.PegCounts': WHATEVER THE INPUT: true; the input reads as it did. -/
def pegCountsSpec : ChangeSpec := { name := "pegCounts", fn := fun _ => fun
  | [d1, d2, d3] => { results := [.lit (.bool true)], args := [d1, d2, d3] }
  | _ => none }
def pegCountsRow : OpenClaim := { program := "ytegihfgibonhpaa", sum := "810820b450aaf9417b5254abd5af7e77af1dac27ea8152e8435a3da599627ca5", func := "bibelot/bibelotlaw02.PegCounts", spec := "pegCounts", unfollowed := true, recurses := true, apart := false }
def PegCountsSaid : Prop := pegCountsRow.holds Try.pinned (OpenSpec.ofChange pegCountsSpec)

/-- ITS FALSE NEIGHBOUR: 'it returns false'. Refute it at one input. -/
def pegCountsWrong : ChangeSpec := { name := "pegCounts", fn := fun _ => fun
  | [d1, d2, d3] => { results := [.lit (.bool false)], args := [d1, d2, d3] }
  | _ => none }
def PegCountsWrongFalsely : Prop := pegCountsRow.holds Try.pinned (OpenSpec.ofChange pegCountsWrong)

/-- 'bibelotlaw02.PegJumps': WHATEVER THE INPUT: true; the input reads as it did. -/
def pegJumpsSpec : ChangeSpec := { name := "pegJumps", fn := fun _ => fun
  | [d1, d2, d3] => { results := [.lit (.bool true)], args := [d1, d2, d3] }
  | _ => none }
def pegJumpsRow : OpenClaim := { program := "ytegihfgibonhpaa", sum := "810820b450aaf9417b5254abd5af7e77af1dac27ea8152e8435a3da599627ca5", func := "bibelot/bibelotlaw02.PegJumps", spec := "pegJumps", unfollowed := true, recurses := true, apart := false }
def PegJumpsSaid : Prop := pegJumpsRow.holds Try.pinned (OpenSpec.ofChange pegJumpsSpec)

/-- ITS FALSE NEIGHBOUR: 'it returns false'. Refute it at one input. -/
def pegJumpsWrong : ChangeSpec := { name := "pegJumps", fn := fun _ => fun
  | [d1, d2, d3] => { results := [.lit (.bool false)], args := [d1, d2, d3] }
  | _ => none }
def PegJumpsWrongFalsely : Prop := pegJumpsRow.holds Try.pinned (OpenSpec.ofChange pegJumpsWrong)

/-- 'bibelotlaw02.PegOwn': WHATEVER THE INPUT: true; the input reads as it did. -/
def pegOwnSpec : ChangeSpec := { name := "pegOwn", fn := fun _ => fun
  | [d1, d2, d3] => { results := [.lit (.bool true)], args := [d1, d2, d3] }
  | _ => none }
def pegOwnRow : OpenClaim := { program := "ytegihfgibonhpaa", sum := "810820b450aaf9417b5254abd5af7e77af1dac27ea8152e8435a3da599627ca5", func := "bibelot/bibelotlaw02.PegOwn", spec := "pegOwn", unfollowed := true, recurses := true, apart := false }
def PegOwnSaid : Prop := pegOwnRow.holds Try.pinned (OpenSpec.ofChange pegOwnSpec)

/-- ITS FALSE NEIGHBOUR: 'it returns false'. Refute it at one input. -/
def pegOwnWrong : ChangeSpec := { name := "pegOwn", fn := fun _ => fun
  | [d1, d2, d3] => { results := [.lit (.bool false)], args := [d1, d2, d3] }
  | _ => none }
def PegOwnWrongFalsely : Prop := pegOwnRow.holds Try.pinned (OpenSpec.ofChange pegOwnWrong)

/-- 'bibelotlaw02.PegMixed': WHATEVER THE INPUT: true; the input reads as it did. -/
def pegMixedSpec : ChangeSpec := { name := "pegMixed", fn := fun _ => fun
  | [d1, d2, d3] => { results := [.lit (.bool true)], args := [d1, d2, d3] }
  | _ => none }
def pegMixedRow : OpenClaim := { program := "ytegihfgibonhpaa", sum := "810820b450aaf9417b5254abd5af7e77af1dac27ea8152e8435a3da599627ca5", func := "bibelot/bibelotlaw02.PegMixed", spec := "pegMixed", unfollowed := true, recurses := true, apart := false }
def PegMixedSaid : Prop := pegMixedRow.holds Try.pinned (OpenSpec.ofChange pegMixedSpec)

/-- ITS FALSE NEIGHBOUR: 'it returns false'. Refute it at one input. -/
def pegMixedWrong : ChangeSpec := { name := "pegMixed", fn := fun _ => fun
  | [d1, d2, d3] => { results := [.lit (.bool false)], args := [d1, d2, d3] }
  | _ => none }
def PegMixedWrongFalsely : Prop := pegMixedRow.holds Try.pinned (OpenSpec.ofChange pegMixedWrong)

/-- 'bibelotlaw02.PegChecks': WHATEVER THE INPUT: true; the input reads as it did. -/
def pegChecksSpec : ChangeSpec := { name := "pegChecks", fn := fun _ => fun
  | [d1, d2, d3] => { results := [.lit (.bool true)], args := [d1, d2, d3] }
  | _ => none }
def pegChecksRow : OpenClaim := { program := "ytegihfgibonhpaa", sum := "810820b450aaf9417b5254abd5af7e77af1dac27ea8152e8435a3da599627ca5", func := "bibelot/bibelotlaw02.PegChecks", spec := "pegChecks", unfollowed := true, recurses := true, apart := false }
def PegChecksSaid : Prop := pegChecksRow.holds Try.pinned (OpenSpec.ofChange pegChecksSpec)

/-- ITS FALSE NEIGHBOUR: 'it returns false'. Refute it at one input. -/
def pegChecksWrong : ChangeSpec := { name := "pegChecks", fn := fun _ => fun
  | [d1, d2, d3] => { results := [.lit (.bool false)], args := [d1, d2, d3] }
  | _ => none }
def PegChecksWrongFalsely : Prop := pegChecksRow.holds Try.pinned (OpenSpec.ofChange pegChecksWrong)

/-- 'bibelotlaw02.PegPlaces': WHATEVER THE INPUT: true; the input reads as it did. -/
def pegPlacesSpec : ChangeSpec := { name := "pegPlaces", fn := fun _ => fun
  | [d1, d2, d3] => { results := [.lit (.bool true)], args := [d1, d2, d3] }
  | _ => none }
def pegPlacesRow : OpenClaim := { program := "ytegihfgibonhpaa", sum := "810820b450aaf9417b5254abd5af7e77af1dac27ea8152e8435a3da599627ca5", func := "bibelot/bibelotlaw02.PegPlaces", spec := "pegPlaces", unfollowed := true, recurses := true, apart := false }
def PegPlacesSaid : Prop := pegPlacesRow.holds Try.pinned (OpenSpec.ofChange pegPlacesSpec)

/-- ITS FALSE NEIGHBOUR: 'it returns false'. Refute it at one input. -/
def pegPlacesWrong : ChangeSpec := { name := "pegPlaces", fn := fun _ => fun
  | [d1, d2, d3] => { results := [.lit (.bool false)], args := [d1, d2, d3] }
  | _ => none }
def PegPlacesWrongFalsely : Prop := pegPlacesRow.holds Try.pinned (OpenSpec.ofChange pegPlacesWrong)

/- THE SECOND FORM. 'bulk': how many values and letters a reading holds, each counted each time it is reached (what is shared counts as often as it is met; a slice's spare places count too). A statement '..UptoSaid' is the law's where the arguments, and the package variables that the reading takes, are together of bulk at most 1048576: NARROWER than '..Said'. Prove '..Said' where nothing that the law and all that it calls make is longer than what came in: it says more and counts as full. Else prove '..UptoSaid'. A law counts once. -/
mutual
def uptoBulk {H : Type} : DataW H → Nat
  | .lit (.string bytes) => bytes.length + 1
  | .lit _ => 1
  | .nil => 1
  | .ptr d => uptoBulk d + 1
  | .slice elems spare => uptoBulkAll elems + uptoBulkAll spare + 1
  | .agg parts => uptoBulkAll parts + 1
  | .iface _ d => uptoBulk d + 1
  | .map entries => uptoBulkEntries entries + 1
  | .held _ => 1
def uptoBulkAll {H : Type} : List (DataW H) → Nat
  | [] => 0
  | d :: r => uptoBulk d + uptoBulkAll r
def uptoBulkEntries {H : Type} : List (Lit × DataW H) → Nat
  | [] => 0
  | x :: r => uptoBulkEntry x + uptoBulkEntries r
def uptoBulkEntry {H : Type} : Lit × DataW H → Nat
  | (.string bytes, d) => bytes.length + uptoBulk d + 1
  | (_, d) => uptoBulk d + 1
 end
def uptoSmall : (H : Type) → List (DataW H) → Bool := fun _ ds => decide (uptoBulkAll ds ≤ 1048576)
def OpenSpec.upto (s : _root_.Go.ChangeSpec) : _root_.Go.OpenSpec := { _root_.Go.OpenSpec.ofChange s with cond := some uptoSmall }

/-- 'bibelotlaw02.PegSolves', WHERE WHAT IT READS IS OF BULK AT MOST 1048576: true; the input reads as it did. -/
def pegSolvesUptoRow : OpenClaim := { program := "ytegihfgibonhpaa", sum := "810820b450aaf9417b5254abd5af7e77af1dac27ea8152e8435a3da599627ca5", func := "bibelot/bibelotlaw02.PegSolves", spec := "pegSolves", unfollowed := true, recurses := true, apart := false, narrowed := true }
def PegSolvesUptoSaid : Prop := pegSolvesUptoRow.holds Try.pinned (OpenSpec.upto pegSolvesSpec)

/-- 'bibelotlaw02.PegReached', WHERE WHAT IT READS IS OF BULK AT MOST 1048576: true; the input reads as it did. -/
def pegReachedUptoRow : OpenClaim := { program := "ytegihfgibonhpaa", sum := "810820b450aaf9417b5254abd5af7e77af1dac27ea8152e8435a3da599627ca5", func := "bibelot/bibelotlaw02.PegReached", spec := "pegReached", unfollowed := true, recurses := true, apart := false, narrowed := true }
def PegReachedUptoSaid : Prop := pegReachedUptoRow.holds Try.pinned (OpenSpec.upto pegReachedSpec)

/-- 'bibelotlaw02.PegRules', WHERE WHAT IT READS IS OF BULK AT MOST 1048576: true; the input reads as it did. -/
def pegRulesUptoRow : OpenClaim := { program := "ytegihfgibonhpaa", sum := "810820b450aaf9417b5254abd5af7e77af1dac27ea8152e8435a3da599627ca5", func := "bibelot/bibelotlaw02.PegRules", spec := "pegRules", unfollowed := true, recurses := true, apart := false, narrowed := true }
def PegRulesUptoSaid : Prop := pegRulesUptoRow.holds Try.pinned (OpenSpec.upto pegRulesSpec)

/-- 'bibelotlaw02.PegBack', WHERE WHAT IT READS IS OF BULK AT MOST 1048576: true; the input reads as it did. -/
def pegBackUptoRow : OpenClaim := { program := "ytegihfgibonhpaa", sum := "810820b450aaf9417b5254abd5af7e77af1dac27ea8152e8435a3da599627ca5", func := "bibelot/bibelotlaw02.PegBack", spec := "pegBack", unfollowed := true, recurses := true, apart := false, narrowed := true }
def PegBackUptoSaid : Prop := pegBackUptoRow.holds Try.pinned (OpenSpec.upto pegBackSpec)

/-- 'bibelotlaw02.PegReiss', WHERE WHAT IT READS IS OF BULK AT MOST 1048576: true; the input reads as it did. -/
def pegReissUptoRow : OpenClaim := { program := "ytegihfgibonhpaa", sum := "810820b450aaf9417b5254abd5af7e77af1dac27ea8152e8435a3da599627ca5", func := "bibelot/bibelotlaw02.PegReiss", spec := "pegReiss", unfollowed := true, recurses := true, apart := false, narrowed := true }
def PegReissUptoSaid : Prop := pegReissUptoRow.holds Try.pinned (OpenSpec.upto pegReissSpec)

/-- 'bibelotlaw02.PegWeights', WHERE WHAT IT READS IS OF BULK AT MOST 1048576: true; the input reads as it did. -/
def pegWeightsUptoRow : OpenClaim := { program := "ytegihfgibonhpaa", sum := "810820b450aaf9417b5254abd5af7e77af1dac27ea8152e8435a3da599627ca5", func := "bibelot/bibelotlaw02.PegWeights", spec := "pegWeights", unfollowed := true, recurses := true, apart := false, narrowed := true }
def PegWeightsUptoSaid : Prop := pegWeightsUptoRow.holds Try.pinned (OpenSpec.upto pegWeightsSpec)

/-- 'bibelotlaw02.PegDrafts', WHERE WHAT IT READS IS OF BULK AT MOST 1048576: true; the input reads as it did. -/
def pegDraftsUptoRow : OpenClaim := { program := "ytegihfgibonhpaa", sum := "810820b450aaf9417b5254abd5af7e77af1dac27ea8152e8435a3da599627ca5", func := "bibelot/bibelotlaw02.PegDrafts", spec := "pegDrafts", unfollowed := true, recurses := true, apart := false, narrowed := true }
def PegDraftsUptoSaid : Prop := pegDraftsUptoRow.holds Try.pinned (OpenSpec.upto pegDraftsSpec)

/-- 'bibelotlaw02.PegPlays', WHERE WHAT IT READS IS OF BULK AT MOST 1048576: true; the input reads as it did. -/
def pegPlaysUptoRow : OpenClaim := { program := "ytegihfgibonhpaa", sum := "810820b450aaf9417b5254abd5af7e77af1dac27ea8152e8435a3da599627ca5", func := "bibelot/bibelotlaw02.PegPlays", spec := "pegPlays", unfollowed := true, recurses := true, apart := false, narrowed := true }
def PegPlaysUptoSaid : Prop := pegPlaysUptoRow.holds Try.pinned (OpenSpec.upto pegPlaysSpec)

/-- 'bibelotlaw02.PegPagodas', WHERE WHAT IT READS IS OF BULK AT MOST 1048576: true; the input reads as it did. -/
def pegPagodasUptoRow : OpenClaim := { program := "ytegihfgibonhpaa", sum := "810820b450aaf9417b5254abd5af7e77af1dac27ea8152e8435a3da599627ca5", func := "bibelot/bibelotlaw02.PegPagodas", spec := "pegPagodas", unfollowed := true, recurses := true, apart := false, narrowed := true }
def PegPagodasUptoSaid : Prop := pegPagodasUptoRow.holds Try.pinned (OpenSpec.upto pegPagodasSpec)

/-- 'bibelotlaw02.PegCounts', WHERE WHAT IT READS IS OF BULK AT MOST 1048576: true; the input reads as it did. -/
def pegCountsUptoRow : OpenClaim := { program := "ytegihfgibonhpaa", sum := "810820b450aaf9417b5254abd5af7e77af1dac27ea8152e8435a3da599627ca5", func := "bibelot/bibelotlaw02.PegCounts", spec := "pegCounts", unfollowed := true, recurses := true, apart := false, narrowed := true }
def PegCountsUptoSaid : Prop := pegCountsUptoRow.holds Try.pinned (OpenSpec.upto pegCountsSpec)

/-- 'bibelotlaw02.PegJumps', WHERE WHAT IT READS IS OF BULK AT MOST 1048576: true; the input reads as it did. -/
def pegJumpsUptoRow : OpenClaim := { program := "ytegihfgibonhpaa", sum := "810820b450aaf9417b5254abd5af7e77af1dac27ea8152e8435a3da599627ca5", func := "bibelot/bibelotlaw02.PegJumps", spec := "pegJumps", unfollowed := true, recurses := true, apart := false, narrowed := true }
def PegJumpsUptoSaid : Prop := pegJumpsUptoRow.holds Try.pinned (OpenSpec.upto pegJumpsSpec)

/-- 'bibelotlaw02.PegOwn', WHERE WHAT IT READS IS OF BULK AT MOST 1048576: true; the input reads as it did. -/
def pegOwnUptoRow : OpenClaim := { program := "ytegihfgibonhpaa", sum := "810820b450aaf9417b5254abd5af7e77af1dac27ea8152e8435a3da599627ca5", func := "bibelot/bibelotlaw02.PegOwn", spec := "pegOwn", unfollowed := true, recurses := true, apart := false, narrowed := true }
def PegOwnUptoSaid : Prop := pegOwnUptoRow.holds Try.pinned (OpenSpec.upto pegOwnSpec)

/-- 'bibelotlaw02.PegMixed', WHERE WHAT IT READS IS OF BULK AT MOST 1048576: true; the input reads as it did. -/
def pegMixedUptoRow : OpenClaim := { program := "ytegihfgibonhpaa", sum := "810820b450aaf9417b5254abd5af7e77af1dac27ea8152e8435a3da599627ca5", func := "bibelot/bibelotlaw02.PegMixed", spec := "pegMixed", unfollowed := true, recurses := true, apart := false, narrowed := true }
def PegMixedUptoSaid : Prop := pegMixedUptoRow.holds Try.pinned (OpenSpec.upto pegMixedSpec)

/-- 'bibelotlaw02.PegChecks', WHERE WHAT IT READS IS OF BULK AT MOST 1048576: true; the input reads as it did. -/
def pegChecksUptoRow : OpenClaim := { program := "ytegihfgibonhpaa", sum := "810820b450aaf9417b5254abd5af7e77af1dac27ea8152e8435a3da599627ca5", func := "bibelot/bibelotlaw02.PegChecks", spec := "pegChecks", unfollowed := true, recurses := true, apart := false, narrowed := true }
def PegChecksUptoSaid : Prop := pegChecksUptoRow.holds Try.pinned (OpenSpec.upto pegChecksSpec)

/-- 'bibelotlaw02.PegPlaces', WHERE WHAT IT READS IS OF BULK AT MOST 1048576: true; the input reads as it did. -/
def pegPlacesUptoRow : OpenClaim := { program := "ytegihfgibonhpaa", sum := "810820b450aaf9417b5254abd5af7e77af1dac27ea8152e8435a3da599627ca5", func := "bibelot/bibelotlaw02.PegPlaces", spec := "pegPlaces", unfollowed := true, recurses := true, apart := false, narrowed := true }
def PegPlacesUptoSaid : Prop := pegPlacesUptoRow.holds Try.pinned (OpenSpec.upto pegPlacesSpec)

end Rows
end Go.Proofs.Ytegihfgibonhpaa
