/-
  NARROWER THAN 'FOR EVERY INPUT', by the rows' own cells (each row's printed sentence says how): PriceShares: laid · PriceRings: laid · PriceWeak: laid · PriceNearly: laid · PriceOwn: laid · PriceTurned: laid · PriceIndices: laid · PriceCosts: laid · PriceKonues: laid · PriceNumbers: laid · PriceBetter: laid · PriceAfriat: laid · PriceValues: laid · PriceChecks: laid.
  DERIVED. THE GIVEN ROWS OF THIS SEAT. 14 by the template 'for every input the law returns true; each argument reads behind the call as it read before'; 0 by the template 'total and deterministic' (their statements: YtgmlmmgpcbollaaDoorTotals.lean).
  GIVEN WITH THE SEED: the statements are not yours to turn. If you find one false, say at which input.
  Laid BY PROGRAM, IN A SANDBOX (cutbox-rows.mjs): the forced cells as the released guide's own fill.sh prints them over the translation 5b1327f7155fc6e3… (all of the seat's roots in one cut). By AI agents, Wed Nov 11 2026. No macro, syntax, notation, axiom, sorry.
-/
import Derived.Test.YtgmlmmgpcbollaaDoorChecked
import GoSem.Claim
import GoSem.ClaimJoined
import GoSem.ClaimMapViews
import Derived.JoinedTies
import Derived.KernelRfl
namespace Go.Proofs.YtgmlmmgpcbollaaDoor
/- THE CELL 'sum', in the pinned program and in every row, IS THE sha256 OF THE DUMP (.gsa) THAT YtgmlmmgpcbollaaDoorProg.lean LOADS. Nothing in Lean hashes anything: it is a label: what it is worth is what the hold of that sum in a sandbox is worth. -/
noncomputable def Tryd.pinned : Pinned := { name := "ytgmlmmgpcbollaadoor", sum := "5b1327f7155fc6e3527cfc541aa90e45293184a91d0c79c3bc5a25fe1005f9b5", checked := Tryd.checked }
namespace Rows
def none {H : Type} : Left H := { results := [], args := [] }

/- WHAT THE LISTED PACKAGE-LEVEL VARIABLES READ AS WHEN THE CALL BEGINS. Each datum BY PROGRAM (the guide's laid-datum.mjs) off the statement by which the dump's own 'gosem.cut.vars' lays the variable. In a bare row this is a premise. The card (YtgmlmmgpcbollaaDoorCards.lean) ties it to the program's text. -/
def laid_bibelot_price_whole {H : Type} : DataW H := .agg [.lit (.int .i64 1), .lit (.int .i64 1)]

/-- 'bibelotlaw09.PriceShares': WHATEVER THE INPUT: true; the input reads as it did. -/
def priceSharesSpec : ChangeSpec := { name := "priceShares", fn := fun _ => fun
  | [d1, d2] => { results := [.lit (.bool true)], args := [d1, d2] }
  | _ => none }
def priceSharesRow : OpenClaim := { program := "ytgmlmmgpcbollaadoor", sum := "5b1327f7155fc6e3527cfc541aa90e45293184a91d0c79c3bc5a25fe1005f9b5", func := "bibelot/bibelotlaw09.PriceShares", spec := "priceShares", unfollowed := true, recurses := true, named := ["bibelot/price.whole"], apart := false, laid := [("bibelot/price.whole", laid_bibelot_price_whole)] }
def PriceSharesSaid : Prop := priceSharesRow.holds Tryd.pinned (OpenSpec.ofChange priceSharesSpec)

/-- ITS FALSE NEIGHBOUR: 'it returns false'. Refute it at one input. -/
def priceSharesWrong : ChangeSpec := { name := "priceShares", fn := fun _ => fun
  | [d1, d2] => { results := [.lit (.bool false)], args := [d1, d2] }
  | _ => none }
def PriceSharesWrongFalsely : Prop := priceSharesRow.holds Tryd.pinned (OpenSpec.ofChange priceSharesWrong)

/-- 'bibelotlaw09.PriceRings': WHATEVER THE INPUT: true; the input reads as it did. -/
def priceRingsSpec : ChangeSpec := { name := "priceRings", fn := fun _ => fun
  | [d1, d2, d3] => { results := [.lit (.bool true)], args := [d1, d2, d3] }
  | _ => none }
def priceRingsRow : OpenClaim := { program := "ytgmlmmgpcbollaadoor", sum := "5b1327f7155fc6e3527cfc541aa90e45293184a91d0c79c3bc5a25fe1005f9b5", func := "bibelot/bibelotlaw09.PriceRings", spec := "priceRings", unfollowed := true, recurses := true, named := ["bibelot/price.whole"], apart := false, laid := [("bibelot/price.whole", laid_bibelot_price_whole)] }
def PriceRingsSaid : Prop := priceRingsRow.holds Tryd.pinned (OpenSpec.ofChange priceRingsSpec)

/-- ITS FALSE NEIGHBOUR: 'it returns false'. Refute it at one input. -/
def priceRingsWrong : ChangeSpec := { name := "priceRings", fn := fun _ => fun
  | [d1, d2, d3] => { results := [.lit (.bool false)], args := [d1, d2, d3] }
  | _ => none }
def PriceRingsWrongFalsely : Prop := priceRingsRow.holds Tryd.pinned (OpenSpec.ofChange priceRingsWrong)

/-- 'bibelotlaw09.PriceWeak': WHATEVER THE INPUT: true; the input reads as it did. -/
def priceWeakSpec : ChangeSpec := { name := "priceWeak", fn := fun _ => fun
  | [d1, d2, d3] => { results := [.lit (.bool true)], args := [d1, d2, d3] }
  | _ => none }
def priceWeakRow : OpenClaim := { program := "ytgmlmmgpcbollaadoor", sum := "5b1327f7155fc6e3527cfc541aa90e45293184a91d0c79c3bc5a25fe1005f9b5", func := "bibelot/bibelotlaw09.PriceWeak", spec := "priceWeak", unfollowed := true, recurses := true, named := ["bibelot/price.whole"], apart := false, laid := [("bibelot/price.whole", laid_bibelot_price_whole)] }
def PriceWeakSaid : Prop := priceWeakRow.holds Tryd.pinned (OpenSpec.ofChange priceWeakSpec)

/-- ITS FALSE NEIGHBOUR: 'it returns false'. Refute it at one input. -/
def priceWeakWrong : ChangeSpec := { name := "priceWeak", fn := fun _ => fun
  | [d1, d2, d3] => { results := [.lit (.bool false)], args := [d1, d2, d3] }
  | _ => none }
def PriceWeakWrongFalsely : Prop := priceWeakRow.holds Tryd.pinned (OpenSpec.ofChange priceWeakWrong)

/-- 'bibelotlaw09.PriceNearly': WHATEVER THE INPUT: true; the input reads as it did. -/
def priceNearlySpec : ChangeSpec := { name := "priceNearly", fn := fun _ => fun
  | [d1, d2] => { results := [.lit (.bool true)], args := [d1, d2] }
  | _ => none }
def priceNearlyRow : OpenClaim := { program := "ytgmlmmgpcbollaadoor", sum := "5b1327f7155fc6e3527cfc541aa90e45293184a91d0c79c3bc5a25fe1005f9b5", func := "bibelot/bibelotlaw09.PriceNearly", spec := "priceNearly", unfollowed := true, recurses := true, named := ["bibelot/price.whole"], apart := false, laid := [("bibelot/price.whole", laid_bibelot_price_whole)] }
def PriceNearlySaid : Prop := priceNearlyRow.holds Tryd.pinned (OpenSpec.ofChange priceNearlySpec)

/-- ITS FALSE NEIGHBOUR: 'it returns false'. Refute it at one input. -/
def priceNearlyWrong : ChangeSpec := { name := "priceNearly", fn := fun _ => fun
  | [d1, d2] => { results := [.lit (.bool false)], args := [d1, d2] }
  | _ => none }
def PriceNearlyWrongFalsely : Prop := priceNearlyRow.holds Tryd.pinned (OpenSpec.ofChange priceNearlyWrong)

/-- 'bibelotlaw09.PriceOwn': WHATEVER THE INPUT: true; the input reads as it did. -/
def priceOwnSpec : ChangeSpec := { name := "priceOwn", fn := fun _ => fun
  | [d1, d2] => { results := [.lit (.bool true)], args := [d1, d2] }
  | _ => none }
def priceOwnRow : OpenClaim := { program := "ytgmlmmgpcbollaadoor", sum := "5b1327f7155fc6e3527cfc541aa90e45293184a91d0c79c3bc5a25fe1005f9b5", func := "bibelot/bibelotlaw09.PriceOwn", spec := "priceOwn", unfollowed := true, recurses := true, named := ["bibelot/price.whole"], apart := false, laid := [("bibelot/price.whole", laid_bibelot_price_whole)] }
def PriceOwnSaid : Prop := priceOwnRow.holds Tryd.pinned (OpenSpec.ofChange priceOwnSpec)

/-- ITS FALSE NEIGHBOUR: 'it returns false'. Refute it at one input. -/
def priceOwnWrong : ChangeSpec := { name := "priceOwn", fn := fun _ => fun
  | [d1, d2] => { results := [.lit (.bool false)], args := [d1, d2] }
  | _ => none }
def PriceOwnWrongFalsely : Prop := priceOwnRow.holds Tryd.pinned (OpenSpec.ofChange priceOwnWrong)

/-- 'bibelotlaw09.PriceTurned': WHATEVER THE INPUT: true; the input reads as it did. -/
def priceTurnedSpec : ChangeSpec := { name := "priceTurned", fn := fun _ => fun
  | [d1, d2, d3] => { results := [.lit (.bool true)], args := [d1, d2, d3] }
  | _ => none }
def priceTurnedRow : OpenClaim := { program := "ytgmlmmgpcbollaadoor", sum := "5b1327f7155fc6e3527cfc541aa90e45293184a91d0c79c3bc5a25fe1005f9b5", func := "bibelot/bibelotlaw09.PriceTurned", spec := "priceTurned", unfollowed := true, recurses := true, named := ["bibelot/price.whole"], apart := false, laid := [("bibelot/price.whole", laid_bibelot_price_whole)] }
def PriceTurnedSaid : Prop := priceTurnedRow.holds Tryd.pinned (OpenSpec.ofChange priceTurnedSpec)

/-- ITS FALSE NEIGHBOUR: 'it returns false'. Refute it at one input. -/
def priceTurnedWrong : ChangeSpec := { name := "priceTurned", fn := fun _ => fun
  | [d1, d2, d3] => { results := [.lit (.bool false)], args := [d1, d2, d3] }
  | _ => none }
def PriceTurnedWrongFalsely : Prop := priceTurnedRow.holds Tryd.pinned (OpenSpec.ofChange priceTurnedWrong)

/-- 'bibelotlaw09.PriceIndices': WHATEVER THE INPUT: true; the input reads as it did. -/
def priceIndicesSpec : ChangeSpec := { name := "priceIndices", fn := fun _ => fun
  | [d1, d2, d3] => { results := [.lit (.bool true)], args := [d1, d2, d3] }
  | _ => none }
def priceIndicesRow : OpenClaim := { program := "ytgmlmmgpcbollaadoor", sum := "5b1327f7155fc6e3527cfc541aa90e45293184a91d0c79c3bc5a25fe1005f9b5", func := "bibelot/bibelotlaw09.PriceIndices", spec := "priceIndices", unfollowed := true, recurses := true, named := ["bibelot/price.whole"], apart := false, laid := [("bibelot/price.whole", laid_bibelot_price_whole)] }
def PriceIndicesSaid : Prop := priceIndicesRow.holds Tryd.pinned (OpenSpec.ofChange priceIndicesSpec)

/-- ITS FALSE NEIGHBOUR: 'it returns false'. Refute it at one input. -/
def priceIndicesWrong : ChangeSpec := { name := "priceIndices", fn := fun _ => fun
  | [d1, d2, d3] => { results := [.lit (.bool false)], args := [d1, d2, d3] }
  | _ => none }
def PriceIndicesWrongFalsely : Prop := priceIndicesRow.holds Tryd.pinned (OpenSpec.ofChange priceIndicesWrong)

/-- 'bibelotlaw09.PriceCosts': WHATEVER THE INPUT: true; the input reads as it did. -/
def priceCostsSpec : ChangeSpec := { name := "priceCosts", fn := fun _ => fun
  | [d1, d2] => { results := [.lit (.bool true)], args := [d1, d2] }
  | _ => none }
def priceCostsRow : OpenClaim := { program := "ytgmlmmgpcbollaadoor", sum := "5b1327f7155fc6e3527cfc541aa90e45293184a91d0c79c3bc5a25fe1005f9b5", func := "bibelot/bibelotlaw09.PriceCosts", spec := "priceCosts", unfollowed := true, recurses := true, named := ["bibelot/price.whole"], apart := false, laid := [("bibelot/price.whole", laid_bibelot_price_whole)] }
def PriceCostsSaid : Prop := priceCostsRow.holds Tryd.pinned (OpenSpec.ofChange priceCostsSpec)

/-- ITS FALSE NEIGHBOUR: 'it returns false'. Refute it at one input. -/
def priceCostsWrong : ChangeSpec := { name := "priceCosts", fn := fun _ => fun
  | [d1, d2] => { results := [.lit (.bool false)], args := [d1, d2] }
  | _ => none }
def PriceCostsWrongFalsely : Prop := priceCostsRow.holds Tryd.pinned (OpenSpec.ofChange priceCostsWrong)

/-- 'bibelotlaw09.PriceKonues': WHATEVER THE INPUT: true; the input reads as it did. -/
def priceKonuesSpec : ChangeSpec := { name := "priceKonues", fn := fun _ => fun
  | [d1, d2] => { results := [.lit (.bool true)], args := [d1, d2] }
  | _ => none }
def priceKonuesRow : OpenClaim := { program := "ytgmlmmgpcbollaadoor", sum := "5b1327f7155fc6e3527cfc541aa90e45293184a91d0c79c3bc5a25fe1005f9b5", func := "bibelot/bibelotlaw09.PriceKonues", spec := "priceKonues", unfollowed := true, recurses := true, named := ["bibelot/price.whole"], apart := false, laid := [("bibelot/price.whole", laid_bibelot_price_whole)] }
def PriceKonuesSaid : Prop := priceKonuesRow.holds Tryd.pinned (OpenSpec.ofChange priceKonuesSpec)

/-- ITS FALSE NEIGHBOUR: 'it returns false'. Refute it at one input. -/
def priceKonuesWrong : ChangeSpec := { name := "priceKonues", fn := fun _ => fun
  | [d1, d2] => { results := [.lit (.bool false)], args := [d1, d2] }
  | _ => none }
def PriceKonuesWrongFalsely : Prop := priceKonuesRow.holds Tryd.pinned (OpenSpec.ofChange priceKonuesWrong)

/-- 'bibelotlaw09.PriceNumbers': WHATEVER THE INPUT: true; the input reads as it did. -/
def priceNumbersSpec : ChangeSpec := { name := "priceNumbers", fn := fun _ => fun
  | [d1, d2] => { results := [.lit (.bool true)], args := [d1, d2] }
  | _ => none }
def priceNumbersRow : OpenClaim := { program := "ytgmlmmgpcbollaadoor", sum := "5b1327f7155fc6e3527cfc541aa90e45293184a91d0c79c3bc5a25fe1005f9b5", func := "bibelot/bibelotlaw09.PriceNumbers", spec := "priceNumbers", unfollowed := true, recurses := true, named := ["bibelot/price.whole"], apart := false, laid := [("bibelot/price.whole", laid_bibelot_price_whole)] }
def PriceNumbersSaid : Prop := priceNumbersRow.holds Tryd.pinned (OpenSpec.ofChange priceNumbersSpec)

/-- ITS FALSE NEIGHBOUR: 'it returns false'. Refute it at one input. -/
def priceNumbersWrong : ChangeSpec := { name := "priceNumbers", fn := fun _ => fun
  | [d1, d2] => { results := [.lit (.bool false)], args := [d1, d2] }
  | _ => none }
def PriceNumbersWrongFalsely : Prop := priceNumbersRow.holds Tryd.pinned (OpenSpec.ofChange priceNumbersWrong)

/-- 'bibelotlaw09.PriceBetter': WHATEVER THE INPUT: true; the input reads as it did. -/
def priceBetterSpec : ChangeSpec := { name := "priceBetter", fn := fun _ => fun
  | [d1, d2] => { results := [.lit (.bool true)], args := [d1, d2] }
  | _ => none }
def priceBetterRow : OpenClaim := { program := "ytgmlmmgpcbollaadoor", sum := "5b1327f7155fc6e3527cfc541aa90e45293184a91d0c79c3bc5a25fe1005f9b5", func := "bibelot/bibelotlaw09.PriceBetter", spec := "priceBetter", unfollowed := true, recurses := true, named := ["bibelot/price.whole"], apart := false, laid := [("bibelot/price.whole", laid_bibelot_price_whole)] }
def PriceBetterSaid : Prop := priceBetterRow.holds Tryd.pinned (OpenSpec.ofChange priceBetterSpec)

/-- ITS FALSE NEIGHBOUR: 'it returns false'. Refute it at one input. -/
def priceBetterWrong : ChangeSpec := { name := "priceBetter", fn := fun _ => fun
  | [d1, d2] => { results := [.lit (.bool false)], args := [d1, d2] }
  | _ => none }
def PriceBetterWrongFalsely : Prop := priceBetterRow.holds Tryd.pinned (OpenSpec.ofChange priceBetterWrong)

/-- 'bibelotlaw09.PriceAfriat': WHATEVER THE INPUT: true; the input reads as it did. -/
def priceAfriatSpec : ChangeSpec := { name := "priceAfriat", fn := fun _ => fun
  | [d1, d2, d3] => { results := [.lit (.bool true)], args := [d1, d2, d3] }
  | _ => none }
def priceAfriatRow : OpenClaim := { program := "ytgmlmmgpcbollaadoor", sum := "5b1327f7155fc6e3527cfc541aa90e45293184a91d0c79c3bc5a25fe1005f9b5", func := "bibelot/bibelotlaw09.PriceAfriat", spec := "priceAfriat", unfollowed := true, recurses := true, named := ["bibelot/price.whole"], apart := false, laid := [("bibelot/price.whole", laid_bibelot_price_whole)] }
def PriceAfriatSaid : Prop := priceAfriatRow.holds Tryd.pinned (OpenSpec.ofChange priceAfriatSpec)

/-- ITS FALSE NEIGHBOUR: 'it returns false'. Refute it at one input. -/
def priceAfriatWrong : ChangeSpec := { name := "priceAfriat", fn := fun _ => fun
  | [d1, d2, d3] => { results := [.lit (.bool false)], args := [d1, d2, d3] }
  | _ => none }
def PriceAfriatWrongFalsely : Prop := priceAfriatRow.holds Tryd.pinned (OpenSpec.ofChange priceAfriatWrong)

/-- 'bibelotlaw09.PriceValues': WHATEVER THE INPUT: true; the input reads as it did. -/
def priceValuesSpec : ChangeSpec := { name := "priceValues", fn := fun _ => fun
  | [d1, d2, d3] => { results := [.lit (.bool true)], args := [d1, d2, d3] }
  | _ => none }
def priceValuesRow : OpenClaim := { program := "ytgmlmmgpcbollaadoor", sum := "5b1327f7155fc6e3527cfc541aa90e45293184a91d0c79c3bc5a25fe1005f9b5", func := "bibelot/bibelotlaw09.PriceValues", spec := "priceValues", unfollowed := true, recurses := true, named := ["bibelot/price.whole"], apart := false, laid := [("bibelot/price.whole", laid_bibelot_price_whole)] }
def PriceValuesSaid : Prop := priceValuesRow.holds Tryd.pinned (OpenSpec.ofChange priceValuesSpec)

/-- ITS FALSE NEIGHBOUR: 'it returns false'. Refute it at one input. -/
def priceValuesWrong : ChangeSpec := { name := "priceValues", fn := fun _ => fun
  | [d1, d2, d3] => { results := [.lit (.bool false)], args := [d1, d2, d3] }
  | _ => none }
def PriceValuesWrongFalsely : Prop := priceValuesRow.holds Tryd.pinned (OpenSpec.ofChange priceValuesWrong)

/-- 'bibelotlaw09.PriceChecks': WHATEVER THE INPUT: true; the input reads as it did. -/
def priceChecksSpec : ChangeSpec := { name := "priceChecks", fn := fun _ => fun
  | [d] => { results := [.lit (.bool true)], args := [d] }
  | _ => none }
def priceChecksRow : OpenClaim := { program := "ytgmlmmgpcbollaadoor", sum := "5b1327f7155fc6e3527cfc541aa90e45293184a91d0c79c3bc5a25fe1005f9b5", func := "bibelot/bibelotlaw09.PriceChecks", spec := "priceChecks", unfollowed := true, recurses := true, named := ["bibelot/price.whole"], apart := false, laid := [("bibelot/price.whole", laid_bibelot_price_whole)] }
def PriceChecksSaid : Prop := priceChecksRow.holds Tryd.pinned (OpenSpec.ofChange priceChecksSpec)

/-- ITS FALSE NEIGHBOUR: 'it returns false'. Refute it at one input. -/
def priceChecksWrong : ChangeSpec := { name := "priceChecks", fn := fun _ => fun
  | [d] => { results := [.lit (.bool false)], args := [d] }
  | _ => none }
def PriceChecksWrongFalsely : Prop := priceChecksRow.holds Tryd.pinned (OpenSpec.ofChange priceChecksWrong)

/- THE SECOND FORM. 'bulk': how many values and letters a reading holds, each counted each time it is reached (what is shared counts as often as it is met; a slice's spare places count too). A statement '..UptoSaid' is the law's where the arguments, and the package variables that the reading takes, are together of bulk at most 1048576: NARROWER than '..Said'. Prove '..Said' where nothing that the law and all that it calls make is longer than what came in: it says more and counts as full. Else prove '..UptoSaid'. A law counts once. -/
mutual
def uptoBulk {H : Type} : DataW H → Nat
  | .lit (.string bytes) => bytes.length + 1
  | .lit _ => 1
  | .nil => 1
  | .ptr d => uptoBulk d + 1
  | .slice elems spare => uptoBulkAll elems + uptoBulkAll spare + 1
  | .agg parts => uptoBulkAll parts + 1
  | .iface _ d => uptoBulk d + 1
  | .map entries => uptoBulkEntries entries + 1
  | .held _ => 1
def uptoBulkAll {H : Type} : List (DataW H) → Nat
  | [] => 0
  | d :: r => uptoBulk d + uptoBulkAll r
def uptoBulkEntries {H : Type} : List (Lit × DataW H) → Nat
  | [] => 0
  | x :: r => uptoBulkEntry x + uptoBulkEntries r
def uptoBulkEntry {H : Type} : Lit × DataW H → Nat
  | (.string bytes, d) => bytes.length + uptoBulk d + 1
  | (_, d) => uptoBulk d + 1
 end
def uptoSmall : (H : Type) → List (DataW H) → Bool := fun _ ds => decide (uptoBulkAll ds ≤ 1048576)
def OpenSpec.upto (s : _root_.Go.ChangeSpec) : _root_.Go.OpenSpec := { _root_.Go.OpenSpec.ofChange s with cond := some uptoSmall }

/-- 'bibelotlaw09.PriceShares', WHERE WHAT IT READS IS OF BULK AT MOST 1048576: true; the input reads as it did. -/
def priceSharesUptoRow : OpenClaim := { program := "ytgmlmmgpcbollaadoor", sum := "5b1327f7155fc6e3527cfc541aa90e45293184a91d0c79c3bc5a25fe1005f9b5", func := "bibelot/bibelotlaw09.PriceShares", spec := "priceShares", unfollowed := true, recurses := true, named := ["bibelot/price.whole"], apart := false, laid := [("bibelot/price.whole", laid_bibelot_price_whole)], narrowed := true }
def PriceSharesUptoSaid : Prop := priceSharesUptoRow.holds Tryd.pinned (OpenSpec.upto priceSharesSpec)

/-- 'bibelotlaw09.PriceRings', WHERE WHAT IT READS IS OF BULK AT MOST 1048576: true; the input reads as it did. -/
def priceRingsUptoRow : OpenClaim := { program := "ytgmlmmgpcbollaadoor", sum := "5b1327f7155fc6e3527cfc541aa90e45293184a91d0c79c3bc5a25fe1005f9b5", func := "bibelot/bibelotlaw09.PriceRings", spec := "priceRings", unfollowed := true, recurses := true, named := ["bibelot/price.whole"], apart := false, laid := [("bibelot/price.whole", laid_bibelot_price_whole)], narrowed := true }
def PriceRingsUptoSaid : Prop := priceRingsUptoRow.holds Tryd.pinned (OpenSpec.upto priceRingsSpec)

/-- 'bibelotlaw09.PriceWeak', WHERE WHAT IT READS IS OF BULK AT MOST 1048576: true; the input reads as it did. -/
def priceWeakUptoRow : OpenClaim := { program := "ytgmlmmgpcbollaadoor", sum := "5b1327f7155fc6e3527cfc541aa90e45293184a91d0c79c3bc5a25fe1005f9b5", func := "bibelot/bibelotlaw09.PriceWeak", spec := "priceWeak", unfollowed := true, recurses := true, named := ["bibelot/price.whole"], apart := false, laid := [("bibelot/price.whole", laid_bibelot_price_whole)], narrowed := true }
def PriceWeakUptoSaid : Prop := priceWeakUptoRow.holds Tryd.pinned (OpenSpec.upto priceWeakSpec)

/-- 'bibelotlaw09.PriceNearly', WHERE WHAT IT READS IS OF BULK AT MOST 1048576: true; the input reads as it did. -/
def priceNearlyUptoRow : OpenClaim := { program := "ytgmlmmgpcbollaadoor", sum := "5b1327f7155fc6e3527cfc541aa90e45293184a91d0c79c3bc5a25fe1005f9b5", func := "bibelot/bibelotlaw09.PriceNearly", spec := "priceNearly", unfollowed := true, recurses := true, named := ["bibelot/price.whole"], apart := false, laid := [("bibelot/price.whole", laid_bibelot_price_whole)], narrowed := true }
def PriceNearlyUptoSaid : Prop := priceNearlyUptoRow.holds Tryd.pinned (OpenSpec.upto priceNearlySpec)

/-- 'bibelotlaw09.PriceOwn', WHERE WHAT IT READS IS OF BULK AT MOST 1048576: true; the input reads as it did. -/
def priceOwnUptoRow : OpenClaim := { program := "ytgmlmmgpcbollaadoor", sum := "5b1327f7155fc6e3527cfc541aa90e45293184a91d0c79c3bc5a25fe1005f9b5", func := "bibelot/bibelotlaw09.PriceOwn", spec := "priceOwn", unfollowed := true, recurses := true, named := ["bibelot/price.whole"], apart := false, laid := [("bibelot/price.whole", laid_bibelot_price_whole)], narrowed := true }
def PriceOwnUptoSaid : Prop := priceOwnUptoRow.holds Tryd.pinned (OpenSpec.upto priceOwnSpec)

/-- 'bibelotlaw09.PriceTurned', WHERE WHAT IT READS IS OF BULK AT MOST 1048576: true; the input reads as it did. -/
def priceTurnedUptoRow : OpenClaim := { program := "ytgmlmmgpcbollaadoor", sum := "5b1327f7155fc6e3527cfc541aa90e45293184a91d0c79c3bc5a25fe1005f9b5", func := "bibelot/bibelotlaw09.PriceTurned", spec := "priceTurned", unfollowed := true, recurses := true, named := ["bibelot/price.whole"], apart := false, laid := [("bibelot/price.whole", laid_bibelot_price_whole)], narrowed := true }
def PriceTurnedUptoSaid : Prop := priceTurnedUptoRow.holds Tryd.pinned (OpenSpec.upto priceTurnedSpec)

/-- 'bibelotlaw09.PriceIndices', WHERE WHAT IT READS IS OF BULK AT MOST 1048576: true; the input reads as it did. -/
def priceIndicesUptoRow : OpenClaim := { program := "ytgmlmmgpcbollaadoor", sum := "5b1327f7155fc6e3527cfc541aa90e45293184a91d0c79c3bc5a25fe1005f9b5", func := "bibelot/bibelotlaw09.PriceIndices", spec := "priceIndices", unfollowed := true, recurses := true, named := ["bibelot/price.whole"], apart := false, laid := [("bibelot/price.whole", laid_bibelot_price_whole)], narrowed := true }
def PriceIndicesUptoSaid : Prop := priceIndicesUptoRow.holds Tryd.pinned (OpenSpec.upto priceIndicesSpec)

/-- 'bibelotlaw09.PriceCosts', WHERE WHAT IT READS IS OF BULK AT MOST 1048576: true; the input reads as it did. -/
def priceCostsUptoRow : OpenClaim := { program := "ytgmlmmgpcbollaadoor", sum := "5b1327f7155fc6e3527cfc541aa90e45293184a91d0c79c3bc5a25fe1005f9b5", func := "bibelot/bibelotlaw09.PriceCosts", spec := "priceCosts", unfollowed := true, recurses := true, named := ["bibelot/price.whole"], apart := false, laid := [("bibelot/price.whole", laid_bibelot_price_whole)], narrowed := true }
def PriceCostsUptoSaid : Prop := priceCostsUptoRow.holds Tryd.pinned (OpenSpec.upto priceCostsSpec)

/-- 'bibelotlaw09.PriceKonues', WHERE WHAT IT READS IS OF BULK AT MOST 1048576: true; the input reads as it did. -/
def priceKonuesUptoRow : OpenClaim := { program := "ytgmlmmgpcbollaadoor", sum := "5b1327f7155fc6e3527cfc541aa90e45293184a91d0c79c3bc5a25fe1005f9b5", func := "bibelot/bibelotlaw09.PriceKonues", spec := "priceKonues", unfollowed := true, recurses := true, named := ["bibelot/price.whole"], apart := false, laid := [("bibelot/price.whole", laid_bibelot_price_whole)], narrowed := true }
def PriceKonuesUptoSaid : Prop := priceKonuesUptoRow.holds Tryd.pinned (OpenSpec.upto priceKonuesSpec)

/-- 'bibelotlaw09.PriceNumbers', WHERE WHAT IT READS IS OF BULK AT MOST 1048576: true; the input reads as it did. -/
def priceNumbersUptoRow : OpenClaim := { program := "ytgmlmmgpcbollaadoor", sum := "5b1327f7155fc6e3527cfc541aa90e45293184a91d0c79c3bc5a25fe1005f9b5", func := "bibelot/bibelotlaw09.PriceNumbers", spec := "priceNumbers", unfollowed := true, recurses := true, named := ["bibelot/price.whole"], apart := false, laid := [("bibelot/price.whole", laid_bibelot_price_whole)], narrowed := true }
def PriceNumbersUptoSaid : Prop := priceNumbersUptoRow.holds Tryd.pinned (OpenSpec.upto priceNumbersSpec)

/-- 'bibelotlaw09.PriceBetter', WHERE WHAT IT READS IS OF BULK AT MOST 1048576: true; the input reads as it did. -/
def priceBetterUptoRow : OpenClaim := { program := "ytgmlmmgpcbollaadoor", sum := "5b1327f7155fc6e3527cfc541aa90e45293184a91d0c79c3bc5a25fe1005f9b5", func := "bibelot/bibelotlaw09.PriceBetter", spec := "priceBetter", unfollowed := true, recurses := true, named := ["bibelot/price.whole"], apart := false, laid := [("bibelot/price.whole", laid_bibelot_price_whole)], narrowed := true }
def PriceBetterUptoSaid : Prop := priceBetterUptoRow.holds Tryd.pinned (OpenSpec.upto priceBetterSpec)

/-- 'bibelotlaw09.PriceAfriat', WHERE WHAT IT READS IS OF BULK AT MOST 1048576: true; the input reads as it did. -/
def priceAfriatUptoRow : OpenClaim := { program := "ytgmlmmgpcbollaadoor", sum := "5b1327f7155fc6e3527cfc541aa90e45293184a91d0c79c3bc5a25fe1005f9b5", func := "bibelot/bibelotlaw09.PriceAfriat", spec := "priceAfriat", unfollowed := true, recurses := true, named := ["bibelot/price.whole"], apart := false, laid := [("bibelot/price.whole", laid_bibelot_price_whole)], narrowed := true }
def PriceAfriatUptoSaid : Prop := priceAfriatUptoRow.holds Tryd.pinned (OpenSpec.upto priceAfriatSpec)

/-- 'bibelotlaw09.PriceValues', WHERE WHAT IT READS IS OF BULK AT MOST 1048576: true; the input reads as it did. -/
def priceValuesUptoRow : OpenClaim := { program := "ytgmlmmgpcbollaadoor", sum := "5b1327f7155fc6e3527cfc541aa90e45293184a91d0c79c3bc5a25fe1005f9b5", func := "bibelot/bibelotlaw09.PriceValues", spec := "priceValues", unfollowed := true, recurses := true, named := ["bibelot/price.whole"], apart := false, laid := [("bibelot/price.whole", laid_bibelot_price_whole)], narrowed := true }
def PriceValuesUptoSaid : Prop := priceValuesUptoRow.holds Tryd.pinned (OpenSpec.upto priceValuesSpec)

/-- 'bibelotlaw09.PriceChecks', WHERE WHAT IT READS IS OF BULK AT MOST 1048576: true; the input reads as it did. -/
def priceChecksUptoRow : OpenClaim := { program := "ytgmlmmgpcbollaadoor", sum := "5b1327f7155fc6e3527cfc541aa90e45293184a91d0c79c3bc5a25fe1005f9b5", func := "bibelot/bibelotlaw09.PriceChecks", spec := "priceChecks", unfollowed := true, recurses := true, named := ["bibelot/price.whole"], apart := false, laid := [("bibelot/price.whole", laid_bibelot_price_whole)], narrowed := true }
def PriceChecksUptoSaid : Prop := priceChecksUptoRow.holds Tryd.pinned (OpenSpec.upto priceChecksSpec)

end Rows
end Go.Proofs.YtgmlmmgpcbollaaDoor
