/-
  DERIVED. GIVEN WITH THE SEED: THE CARDS: each row of YtgmlmmgpcbollaaDoorRows.lean that lists a variable, with what it lists TIED to the program's text (the seventh form; the later family's looks); each row that meets fmt, with fmt's text TOLD by the authors' own Lean function (tested against real Go, not proved from fmt's source: count such statements apart). THE CARD IS WHAT COUNTS. Prove the row's statement (the work); the ties are given (YtgmlmmgpcbollaaDoorTie.lean); close each card by the builder's one call (the guide's Derived/Test/ToyasCard.lean, 'card_holds'). Laid BY PROGRAM, IN A SANDBOX (cutbox-door.mjs). By AI agents, Wed Nov 11 2026. No macro, syntax, notation, axiom, sorry.
-/
import Derived.Test.YtgmlmmgpcbollaaDoorRows
import GoSem.ClaimSeven
namespace Go.Proofs.YtgmlmmgpcbollaaDoor
namespace Rows

/-- THE TIED CARD OF 'bibelotlaw09.PriceShares'. -/
def priceSharesCard : Claim7 := { stood := { row := priceSharesRow, standIns := [], harness := (true, "5eef6373d1780e258f1a5ce1488ab08550f8847e6d58196731071cd6f4905cea"), looks := false }, kinds := [], alts := [], laidByText := true, laidKinds := [.data], laidTests := true, laidLooks := .later }
def PriceSharesCardSaid : Prop := Claim7.holds Tryd.pinned (.plain (OpenSpec.ofChange priceSharesSpec)) priceSharesCard

/-- THE TIED CARD OF 'bibelotlaw09.PriceRings'. -/
def priceRingsCard : Claim7 := { stood := { row := priceRingsRow, standIns := [], harness := (true, "5eef6373d1780e258f1a5ce1488ab08550f8847e6d58196731071cd6f4905cea"), looks := false }, kinds := [], alts := [], laidByText := true, laidKinds := [.data], laidTests := true, laidLooks := .later }
def PriceRingsCardSaid : Prop := Claim7.holds Tryd.pinned (.plain (OpenSpec.ofChange priceRingsSpec)) priceRingsCard

/-- THE TIED CARD OF 'bibelotlaw09.PriceWeak'. -/
def priceWeakCard : Claim7 := { stood := { row := priceWeakRow, standIns := [], harness := (true, "5eef6373d1780e258f1a5ce1488ab08550f8847e6d58196731071cd6f4905cea"), looks := false }, kinds := [], alts := [], laidByText := true, laidKinds := [.data], laidTests := true, laidLooks := .later }
def PriceWeakCardSaid : Prop := Claim7.holds Tryd.pinned (.plain (OpenSpec.ofChange priceWeakSpec)) priceWeakCard

/-- THE TIED CARD OF 'bibelotlaw09.PriceNearly'. -/
def priceNearlyCard : Claim7 := { stood := { row := priceNearlyRow, standIns := [], harness := (true, "5eef6373d1780e258f1a5ce1488ab08550f8847e6d58196731071cd6f4905cea"), looks := false }, kinds := [], alts := [], laidByText := true, laidKinds := [.data], laidTests := true, laidLooks := .later }
def PriceNearlyCardSaid : Prop := Claim7.holds Tryd.pinned (.plain (OpenSpec.ofChange priceNearlySpec)) priceNearlyCard

/-- THE TIED CARD OF 'bibelotlaw09.PriceOwn'. -/
def priceOwnCard : Claim7 := { stood := { row := priceOwnRow, standIns := [], harness := (true, "5eef6373d1780e258f1a5ce1488ab08550f8847e6d58196731071cd6f4905cea"), looks := false }, kinds := [], alts := [], laidByText := true, laidKinds := [.data], laidTests := true, laidLooks := .later }
def PriceOwnCardSaid : Prop := Claim7.holds Tryd.pinned (.plain (OpenSpec.ofChange priceOwnSpec)) priceOwnCard

/-- THE TIED CARD OF 'bibelotlaw09.PriceTurned'. -/
def priceTurnedCard : Claim7 := { stood := { row := priceTurnedRow, standIns := [], harness := (true, "5eef6373d1780e258f1a5ce1488ab08550f8847e6d58196731071cd6f4905cea"), looks := false }, kinds := [], alts := [], laidByText := true, laidKinds := [.data], laidTests := true, laidLooks := .later }
def PriceTurnedCardSaid : Prop := Claim7.holds Tryd.pinned (.plain (OpenSpec.ofChange priceTurnedSpec)) priceTurnedCard

/-- THE TIED CARD OF 'bibelotlaw09.PriceIndices'. -/
def priceIndicesCard : Claim7 := { stood := { row := priceIndicesRow, standIns := [], harness := (true, "5eef6373d1780e258f1a5ce1488ab08550f8847e6d58196731071cd6f4905cea"), looks := false }, kinds := [], alts := [], laidByText := true, laidKinds := [.data], laidTests := true, laidLooks := .later }
def PriceIndicesCardSaid : Prop := Claim7.holds Tryd.pinned (.plain (OpenSpec.ofChange priceIndicesSpec)) priceIndicesCard

/-- THE TIED CARD OF 'bibelotlaw09.PriceCosts'. -/
def priceCostsCard : Claim7 := { stood := { row := priceCostsRow, standIns := [], harness := (true, "5eef6373d1780e258f1a5ce1488ab08550f8847e6d58196731071cd6f4905cea"), looks := false }, kinds := [], alts := [], laidByText := true, laidKinds := [.data], laidTests := true, laidLooks := .later }
def PriceCostsCardSaid : Prop := Claim7.holds Tryd.pinned (.plain (OpenSpec.ofChange priceCostsSpec)) priceCostsCard

/-- THE TIED CARD OF 'bibelotlaw09.PriceKonues'. -/
def priceKonuesCard : Claim7 := { stood := { row := priceKonuesRow, standIns := [], harness := (true, "5eef6373d1780e258f1a5ce1488ab08550f8847e6d58196731071cd6f4905cea"), looks := false }, kinds := [], alts := [], laidByText := true, laidKinds := [.data], laidTests := true, laidLooks := .later }
def PriceKonuesCardSaid : Prop := Claim7.holds Tryd.pinned (.plain (OpenSpec.ofChange priceKonuesSpec)) priceKonuesCard

/-- THE TIED CARD OF 'bibelotlaw09.PriceNumbers'. -/
def priceNumbersCard : Claim7 := { stood := { row := priceNumbersRow, standIns := [], harness := (true, "5eef6373d1780e258f1a5ce1488ab08550f8847e6d58196731071cd6f4905cea"), looks := false }, kinds := [], alts := [], laidByText := true, laidKinds := [.data], laidTests := true, laidLooks := .later }
def PriceNumbersCardSaid : Prop := Claim7.holds Tryd.pinned (.plain (OpenSpec.ofChange priceNumbersSpec)) priceNumbersCard

/-- THE TIED CARD OF 'bibelotlaw09.PriceBetter'. -/
def priceBetterCard : Claim7 := { stood := { row := priceBetterRow, standIns := [], harness := (true, "5eef6373d1780e258f1a5ce1488ab08550f8847e6d58196731071cd6f4905cea"), looks := false }, kinds := [], alts := [], laidByText := true, laidKinds := [.data], laidTests := true, laidLooks := .later }
def PriceBetterCardSaid : Prop := Claim7.holds Tryd.pinned (.plain (OpenSpec.ofChange priceBetterSpec)) priceBetterCard

/-- THE TIED CARD OF 'bibelotlaw09.PriceAfriat'. -/
def priceAfriatCard : Claim7 := { stood := { row := priceAfriatRow, standIns := [], harness := (true, "5eef6373d1780e258f1a5ce1488ab08550f8847e6d58196731071cd6f4905cea"), looks := false }, kinds := [], alts := [], laidByText := true, laidKinds := [.data], laidTests := true, laidLooks := .later }
def PriceAfriatCardSaid : Prop := Claim7.holds Tryd.pinned (.plain (OpenSpec.ofChange priceAfriatSpec)) priceAfriatCard

/-- THE TIED CARD OF 'bibelotlaw09.PriceValues'. -/
def priceValuesCard : Claim7 := { stood := { row := priceValuesRow, standIns := [], harness := (true, "5eef6373d1780e258f1a5ce1488ab08550f8847e6d58196731071cd6f4905cea"), looks := false }, kinds := [], alts := [], laidByText := true, laidKinds := [.data], laidTests := true, laidLooks := .later }
def PriceValuesCardSaid : Prop := Claim7.holds Tryd.pinned (.plain (OpenSpec.ofChange priceValuesSpec)) priceValuesCard

/-- THE TIED CARD OF 'bibelotlaw09.PriceChecks'. -/
def priceChecksCard : Claim7 := { stood := { row := priceChecksRow, standIns := [], harness := (true, "5eef6373d1780e258f1a5ce1488ab08550f8847e6d58196731071cd6f4905cea"), looks := false }, kinds := [], alts := [], laidByText := true, laidKinds := [.data], laidTests := true, laidLooks := .later }
def PriceChecksCardSaid : Prop := Claim7.holds Tryd.pinned (.plain (OpenSpec.ofChange priceChecksSpec)) priceChecksCard

/-- THE SECOND FORM's CARD OF 'bibelotlaw09.PriceShares'. -/
def priceSharesUptoCard : Claim7 := { stood := { row := priceSharesUptoRow, standIns := [], harness := (true, "5eef6373d1780e258f1a5ce1488ab08550f8847e6d58196731071cd6f4905cea"), looks := false }, kinds := [], alts := [], laidByText := true, laidKinds := [.data], laidTests := true, laidLooks := .later }
def PriceSharesUptoCardSaid : Prop := Claim7.holds Tryd.pinned (.plain (OpenSpec.upto priceSharesSpec)) priceSharesUptoCard

/-- THE SECOND FORM's CARD OF 'bibelotlaw09.PriceRings'. -/
def priceRingsUptoCard : Claim7 := { stood := { row := priceRingsUptoRow, standIns := [], harness := (true, "5eef6373d1780e258f1a5ce1488ab08550f8847e6d58196731071cd6f4905cea"), looks := false }, kinds := [], alts := [], laidByText := true, laidKinds := [.data], laidTests := true, laidLooks := .later }
def PriceRingsUptoCardSaid : Prop := Claim7.holds Tryd.pinned (.plain (OpenSpec.upto priceRingsSpec)) priceRingsUptoCard

/-- THE SECOND FORM's CARD OF 'bibelotlaw09.PriceWeak'. -/
def priceWeakUptoCard : Claim7 := { stood := { row := priceWeakUptoRow, standIns := [], harness := (true, "5eef6373d1780e258f1a5ce1488ab08550f8847e6d58196731071cd6f4905cea"), looks := false }, kinds := [], alts := [], laidByText := true, laidKinds := [.data], laidTests := true, laidLooks := .later }
def PriceWeakUptoCardSaid : Prop := Claim7.holds Tryd.pinned (.plain (OpenSpec.upto priceWeakSpec)) priceWeakUptoCard

/-- THE SECOND FORM's CARD OF 'bibelotlaw09.PriceNearly'. -/
def priceNearlyUptoCard : Claim7 := { stood := { row := priceNearlyUptoRow, standIns := [], harness := (true, "5eef6373d1780e258f1a5ce1488ab08550f8847e6d58196731071cd6f4905cea"), looks := false }, kinds := [], alts := [], laidByText := true, laidKinds := [.data], laidTests := true, laidLooks := .later }
def PriceNearlyUptoCardSaid : Prop := Claim7.holds Tryd.pinned (.plain (OpenSpec.upto priceNearlySpec)) priceNearlyUptoCard

/-- THE SECOND FORM's CARD OF 'bibelotlaw09.PriceOwn'. -/
def priceOwnUptoCard : Claim7 := { stood := { row := priceOwnUptoRow, standIns := [], harness := (true, "5eef6373d1780e258f1a5ce1488ab08550f8847e6d58196731071cd6f4905cea"), looks := false }, kinds := [], alts := [], laidByText := true, laidKinds := [.data], laidTests := true, laidLooks := .later }
def PriceOwnUptoCardSaid : Prop := Claim7.holds Tryd.pinned (.plain (OpenSpec.upto priceOwnSpec)) priceOwnUptoCard

/-- THE SECOND FORM's CARD OF 'bibelotlaw09.PriceTurned'. -/
def priceTurnedUptoCard : Claim7 := { stood := { row := priceTurnedUptoRow, standIns := [], harness := (true, "5eef6373d1780e258f1a5ce1488ab08550f8847e6d58196731071cd6f4905cea"), looks := false }, kinds := [], alts := [], laidByText := true, laidKinds := [.data], laidTests := true, laidLooks := .later }
def PriceTurnedUptoCardSaid : Prop := Claim7.holds Tryd.pinned (.plain (OpenSpec.upto priceTurnedSpec)) priceTurnedUptoCard

/-- THE SECOND FORM's CARD OF 'bibelotlaw09.PriceIndices'. -/
def priceIndicesUptoCard : Claim7 := { stood := { row := priceIndicesUptoRow, standIns := [], harness := (true, "5eef6373d1780e258f1a5ce1488ab08550f8847e6d58196731071cd6f4905cea"), looks := false }, kinds := [], alts := [], laidByText := true, laidKinds := [.data], laidTests := true, laidLooks := .later }
def PriceIndicesUptoCardSaid : Prop := Claim7.holds Tryd.pinned (.plain (OpenSpec.upto priceIndicesSpec)) priceIndicesUptoCard

/-- THE SECOND FORM's CARD OF 'bibelotlaw09.PriceCosts'. -/
def priceCostsUptoCard : Claim7 := { stood := { row := priceCostsUptoRow, standIns := [], harness := (true, "5eef6373d1780e258f1a5ce1488ab08550f8847e6d58196731071cd6f4905cea"), looks := false }, kinds := [], alts := [], laidByText := true, laidKinds := [.data], laidTests := true, laidLooks := .later }
def PriceCostsUptoCardSaid : Prop := Claim7.holds Tryd.pinned (.plain (OpenSpec.upto priceCostsSpec)) priceCostsUptoCard

/-- THE SECOND FORM's CARD OF 'bibelotlaw09.PriceKonues'. -/
def priceKonuesUptoCard : Claim7 := { stood := { row := priceKonuesUptoRow, standIns := [], harness := (true, "5eef6373d1780e258f1a5ce1488ab08550f8847e6d58196731071cd6f4905cea"), looks := false }, kinds := [], alts := [], laidByText := true, laidKinds := [.data], laidTests := true, laidLooks := .later }
def PriceKonuesUptoCardSaid : Prop := Claim7.holds Tryd.pinned (.plain (OpenSpec.upto priceKonuesSpec)) priceKonuesUptoCard

/-- THE SECOND FORM's CARD OF 'bibelotlaw09.PriceNumbers'. -/
def priceNumbersUptoCard : Claim7 := { stood := { row := priceNumbersUptoRow, standIns := [], harness := (true, "5eef6373d1780e258f1a5ce1488ab08550f8847e6d58196731071cd6f4905cea"), looks := false }, kinds := [], alts := [], laidByText := true, laidKinds := [.data], laidTests := true, laidLooks := .later }
def PriceNumbersUptoCardSaid : Prop := Claim7.holds Tryd.pinned (.plain (OpenSpec.upto priceNumbersSpec)) priceNumbersUptoCard

/-- THE SECOND FORM's CARD OF 'bibelotlaw09.PriceBetter'. -/
def priceBetterUptoCard : Claim7 := { stood := { row := priceBetterUptoRow, standIns := [], harness := (true, "5eef6373d1780e258f1a5ce1488ab08550f8847e6d58196731071cd6f4905cea"), looks := false }, kinds := [], alts := [], laidByText := true, laidKinds := [.data], laidTests := true, laidLooks := .later }
def PriceBetterUptoCardSaid : Prop := Claim7.holds Tryd.pinned (.plain (OpenSpec.upto priceBetterSpec)) priceBetterUptoCard

/-- THE SECOND FORM's CARD OF 'bibelotlaw09.PriceAfriat'. -/
def priceAfriatUptoCard : Claim7 := { stood := { row := priceAfriatUptoRow, standIns := [], harness := (true, "5eef6373d1780e258f1a5ce1488ab08550f8847e6d58196731071cd6f4905cea"), looks := false }, kinds := [], alts := [], laidByText := true, laidKinds := [.data], laidTests := true, laidLooks := .later }
def PriceAfriatUptoCardSaid : Prop := Claim7.holds Tryd.pinned (.plain (OpenSpec.upto priceAfriatSpec)) priceAfriatUptoCard

/-- THE SECOND FORM's CARD OF 'bibelotlaw09.PriceValues'. -/
def priceValuesUptoCard : Claim7 := { stood := { row := priceValuesUptoRow, standIns := [], harness := (true, "5eef6373d1780e258f1a5ce1488ab08550f8847e6d58196731071cd6f4905cea"), looks := false }, kinds := [], alts := [], laidByText := true, laidKinds := [.data], laidTests := true, laidLooks := .later }
def PriceValuesUptoCardSaid : Prop := Claim7.holds Tryd.pinned (.plain (OpenSpec.upto priceValuesSpec)) priceValuesUptoCard

/-- THE SECOND FORM's CARD OF 'bibelotlaw09.PriceChecks'. -/
def priceChecksUptoCard : Claim7 := { stood := { row := priceChecksUptoRow, standIns := [], harness := (true, "5eef6373d1780e258f1a5ce1488ab08550f8847e6d58196731071cd6f4905cea"), looks := false }, kinds := [], alts := [], laidByText := true, laidKinds := [.data], laidTests := true, laidLooks := .later }
def PriceChecksUptoCardSaid : Prop := Claim7.holds Tryd.pinned (.plain (OpenSpec.upto priceChecksSpec)) priceChecksUptoCard
end Rows
end Go.Proofs.YtgmlmmgpcbollaaDoor
