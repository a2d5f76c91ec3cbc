/-
  No cell of these rows narrows 'for every input' (looked for: loops, veiled, ifaces, maps, wideKeys, modest, calm, conditions, laid).
  DERIVED. THE GIVEN ROWS OF THIS SEAT. 16 by the template 'for every input the law returns true; each argument reads behind the call as it read before'; 0 by the template 'total and deterministic' (their statements: YtijeefncmgjlpaaTotals.lean).
  GIVEN WITH THE SEED: the statements are not yours to turn. If you find one false, say at which input.
  Laid BY PROGRAM, IN A SANDBOX (cutbox-rows.mjs): the forced cells as the released guide's own fill.sh prints them over the translation 199113384983a08a… (all of the seat's roots in one cut). By AI agents, Wed Nov 11 2026. No macro, syntax, notation, axiom, sorry.
-/
import Derived.Test.YtijeefncmgjlpaaChecked
import GoSem.Claim
import GoSem.ClaimJoined
import GoSem.ClaimMapViews
import Derived.JoinedTies
import Derived.KernelRfl
namespace Go.Proofs.Ytijeefncmgjlpaa
/- THE CELL 'sum', in the pinned program and in every row, IS THE sha256 OF THE DUMP (.gsa) THAT YtijeefncmgjlpaaProg.lean LOADS. Nothing in Lean hashes anything: it is a label: what it is worth is what the hold of that sum in a sandbox is worth. -/
noncomputable def Try.pinned : Pinned := { name := "ytijeefncmgjlpaa", sum := "199113384983a08afbc33a76642bec73dbf3bbff3ad8bc03c0084dbd14909498", checked := Try.checked }
namespace Rows
def none {H : Type} : Left H := { results := [], args := [] }

/-- 'bibelotlaw01.DiceTwins': WHATEVER THE INPUT: true; the input reads as it did. -/
def diceTwinsSpec : ChangeSpec := { name := "diceTwins", fn := fun _ => fun
  | [d1, d2] => { results := [.lit (.bool true)], args := [d1, d2] }
  | _ => none }
def diceTwinsRow : OpenClaim := { program := "ytijeefncmgjlpaa", sum := "199113384983a08afbc33a76642bec73dbf3bbff3ad8bc03c0084dbd14909498", func := "bibelot/bibelotlaw01.DiceTwins", spec := "diceTwins", unfollowed := true, recurses := true, apart := false }
def DiceTwinsSaid : Prop := diceTwinsRow.holds Try.pinned (OpenSpec.ofChange diceTwinsSpec)

/-- ITS FALSE NEIGHBOUR: 'it returns false'. Refute it at one input. -/
def diceTwinsWrong : ChangeSpec := { name := "diceTwins", fn := fun _ => fun
  | [d1, d2] => { results := [.lit (.bool false)], args := [d1, d2] }
  | _ => none }
def DiceTwinsWrongFalsely : Prop := diceTwinsRow.holds Try.pinned (OpenSpec.ofChange diceTwinsWrong)

/-- 'bibelotlaw01.DiceFar': WHATEVER THE INPUT: true; the input reads as it did. -/
def diceFarSpec : ChangeSpec := { name := "diceFar", fn := fun _ => fun
  | [d1, d2] => { results := [.lit (.bool true)], args := [d1, d2] }
  | _ => none }
def diceFarRow : OpenClaim := { program := "ytijeefncmgjlpaa", sum := "199113384983a08afbc33a76642bec73dbf3bbff3ad8bc03c0084dbd14909498", func := "bibelot/bibelotlaw01.DiceFar", spec := "diceFar", unfollowed := true, recurses := true, apart := false }
def DiceFarSaid : Prop := diceFarRow.holds Try.pinned (OpenSpec.ofChange diceFarSpec)

/-- ITS FALSE NEIGHBOUR: 'it returns false'. Refute it at one input. -/
def diceFarWrong : ChangeSpec := { name := "diceFar", fn := fun _ => fun
  | [d1, d2] => { results := [.lit (.bool false)], args := [d1, d2] }
  | _ => none }
def DiceFarWrongFalsely : Prop := diceFarRow.holds Try.pinned (OpenSpec.ofChange diceFarWrong)

/-- 'bibelotlaw01.DiceEven': WHATEVER THE INPUT: true; the input reads as it did. -/
def diceEvenSpec : ChangeSpec := { name := "diceEven", fn := fun _ => fun
  | [d1, d2] => { results := [.lit (.bool true)], args := [d1, d2] }
  | _ => none }
def diceEvenRow : OpenClaim := { program := "ytijeefncmgjlpaa", sum := "199113384983a08afbc33a76642bec73dbf3bbff3ad8bc03c0084dbd14909498", func := "bibelot/bibelotlaw01.DiceEven", spec := "diceEven", unfollowed := true, recurses := true, apart := false }
def DiceEvenSaid : Prop := diceEvenRow.holds Try.pinned (OpenSpec.ofChange diceEvenSpec)

/-- ITS FALSE NEIGHBOUR: 'it returns false'. Refute it at one input. -/
def diceEvenWrong : ChangeSpec := { name := "diceEven", fn := fun _ => fun
  | [d1, d2] => { results := [.lit (.bool false)], args := [d1, d2] }
  | _ => none }
def DiceEvenWrongFalsely : Prop := diceEvenRow.holds Try.pinned (OpenSpec.ofChange diceEvenWrong)

/-- 'bibelotlaw01.DiceBeats': WHATEVER THE INPUT: true; the input reads as it did. -/
def diceBeatsSpec : ChangeSpec := { name := "diceBeats", fn := fun _ => fun
  | [d] => { results := [.lit (.bool true)], args := [d] }
  | _ => none }
def diceBeatsRow : OpenClaim := { program := "ytijeefncmgjlpaa", sum := "199113384983a08afbc33a76642bec73dbf3bbff3ad8bc03c0084dbd14909498", func := "bibelot/bibelotlaw01.DiceBeats", spec := "diceBeats", unfollowed := true, recurses := true, apart := false }
def DiceBeatsSaid : Prop := diceBeatsRow.holds Try.pinned (OpenSpec.ofChange diceBeatsSpec)

/-- ITS FALSE NEIGHBOUR: 'it returns false'. Refute it at one input. -/
def diceBeatsWrong : ChangeSpec := { name := "diceBeats", fn := fun _ => fun
  | [d] => { results := [.lit (.bool false)], args := [d] }
  | _ => none }
def DiceBeatsWrongFalsely : Prop := diceBeatsRow.holds Try.pinned (OpenSpec.ofChange diceBeatsWrong)

/-- 'bibelotlaw01.DicePairs': WHATEVER THE INPUT: true; the input reads as it did. -/
def dicePairsSpec : ChangeSpec := { name := "dicePairs", fn := fun _ => fun
  | [d1, d2] => { results := [.lit (.bool true)], args := [d1, d2] }
  | _ => none }
def dicePairsRow : OpenClaim := { program := "ytijeefncmgjlpaa", sum := "199113384983a08afbc33a76642bec73dbf3bbff3ad8bc03c0084dbd14909498", func := "bibelot/bibelotlaw01.DicePairs", spec := "dicePairs", unfollowed := true, recurses := true, apart := false }
def DicePairsSaid : Prop := dicePairsRow.holds Try.pinned (OpenSpec.ofChange dicePairsSpec)

/-- ITS FALSE NEIGHBOUR: 'it returns false'. Refute it at one input. -/
def dicePairsWrong : ChangeSpec := { name := "dicePairs", fn := fun _ => fun
  | [d1, d2] => { results := [.lit (.bool false)], args := [d1, d2] }
  | _ => none }
def DicePairsWrongFalsely : Prop := dicePairsRow.holds Try.pinned (OpenSpec.ofChange dicePairsWrong)

/-- 'bibelotlaw01.DiceRings': WHATEVER THE INPUT: true; the input reads as it did. -/
def diceRingsSpec : ChangeSpec := { name := "diceRings", fn := fun _ => fun
  | [d] => { results := [.lit (.bool true)], args := [d] }
  | _ => none }
def diceRingsRow : OpenClaim := { program := "ytijeefncmgjlpaa", sum := "199113384983a08afbc33a76642bec73dbf3bbff3ad8bc03c0084dbd14909498", func := "bibelot/bibelotlaw01.DiceRings", spec := "diceRings", unfollowed := true, recurses := true, apart := false }
def DiceRingsSaid : Prop := diceRingsRow.holds Try.pinned (OpenSpec.ofChange diceRingsSpec)

/-- ITS FALSE NEIGHBOUR: 'it returns false'. Refute it at one input. -/
def diceRingsWrong : ChangeSpec := { name := "diceRings", fn := fun _ => fun
  | [d] => { results := [.lit (.bool false)], args := [d] }
  | _ => none }
def DiceRingsWrongFalsely : Prop := diceRingsRow.holds Try.pinned (OpenSpec.ofChange diceRingsWrong)

/-- 'bibelotlaw01.DiceRises': WHATEVER THE INPUT: true; the input reads as it did. -/
def diceRisesSpec : ChangeSpec := { name := "diceRises", fn := fun _ => fun
  | [d] => { results := [.lit (.bool true)], args := [d] }
  | _ => none }
def diceRisesRow : OpenClaim := { program := "ytijeefncmgjlpaa", sum := "199113384983a08afbc33a76642bec73dbf3bbff3ad8bc03c0084dbd14909498", func := "bibelot/bibelotlaw01.DiceRises", spec := "diceRises", unfollowed := true, recurses := true, apart := false }
def DiceRisesSaid : Prop := diceRisesRow.holds Try.pinned (OpenSpec.ofChange diceRisesSpec)

/-- ITS FALSE NEIGHBOUR: 'it returns false'. Refute it at one input. -/
def diceRisesWrong : ChangeSpec := { name := "diceRises", fn := fun _ => fun
  | [d] => { results := [.lit (.bool false)], args := [d] }
  | _ => none }
def DiceRisesWrongFalsely : Prop := diceRisesRow.holds Try.pinned (OpenSpec.ofChange diceRisesWrong)

/-- 'bibelotlaw01.DiceSums': WHATEVER THE INPUT: true; the input reads as it did. -/
def diceSumsSpec : ChangeSpec := { name := "diceSums", fn := fun _ => fun
  | [d1, d2] => { results := [.lit (.bool true)], args := [d1, d2] }
  | _ => none }
def diceSumsRow : OpenClaim := { program := "ytijeefncmgjlpaa", sum := "199113384983a08afbc33a76642bec73dbf3bbff3ad8bc03c0084dbd14909498", func := "bibelot/bibelotlaw01.DiceSums", spec := "diceSums", unfollowed := true, recurses := true, apart := false }
def DiceSumsSaid : Prop := diceSumsRow.holds Try.pinned (OpenSpec.ofChange diceSumsSpec)

/-- ITS FALSE NEIGHBOUR: 'it returns false'. Refute it at one input. -/
def diceSumsWrong : ChangeSpec := { name := "diceSums", fn := fun _ => fun
  | [d1, d2] => { results := [.lit (.bool false)], args := [d1, d2] }
  | _ => none }
def DiceSumsWrongFalsely : Prop := diceSumsRow.holds Try.pinned (OpenSpec.ofChange diceSumsWrong)

/-- 'bibelotlaw01.DiceAdds': WHATEVER THE INPUT: true; the input reads as it did. -/
def diceAddsSpec : ChangeSpec := { name := "diceAdds", fn := fun _ => fun
  | [d1, d2] => { results := [.lit (.bool true)], args := [d1, d2] }
  | _ => none }
def diceAddsRow : OpenClaim := { program := "ytijeefncmgjlpaa", sum := "199113384983a08afbc33a76642bec73dbf3bbff3ad8bc03c0084dbd14909498", func := "bibelot/bibelotlaw01.DiceAdds", spec := "diceAdds", unfollowed := true, recurses := true, apart := false }
def DiceAddsSaid : Prop := diceAddsRow.holds Try.pinned (OpenSpec.ofChange diceAddsSpec)

/-- ITS FALSE NEIGHBOUR: 'it returns false'. Refute it at one input. -/
def diceAddsWrong : ChangeSpec := { name := "diceAdds", fn := fun _ => fun
  | [d1, d2] => { results := [.lit (.bool false)], args := [d1, d2] }
  | _ => none }
def DiceAddsWrongFalsely : Prop := diceAddsRow.holds Try.pinned (OpenSpec.ofChange diceAddsWrong)

/-- 'bibelotlaw01.DiceBruijn': WHATEVER THE INPUT: true; the input reads as it did. -/
def diceBruijnSpec : ChangeSpec := { name := "diceBruijn", fn := fun _ => fun
  | [d1, d2] => { results := [.lit (.bool true)], args := [d1, d2] }
  | _ => none }
def diceBruijnRow : OpenClaim := { program := "ytijeefncmgjlpaa", sum := "199113384983a08afbc33a76642bec73dbf3bbff3ad8bc03c0084dbd14909498", func := "bibelot/bibelotlaw01.DiceBruijn", spec := "diceBruijn", unfollowed := true, recurses := true, apart := false }
def DiceBruijnSaid : Prop := diceBruijnRow.holds Try.pinned (OpenSpec.ofChange diceBruijnSpec)

/-- ITS FALSE NEIGHBOUR: 'it returns false'. Refute it at one input. -/
def diceBruijnWrong : ChangeSpec := { name := "diceBruijn", fn := fun _ => fun
  | [d1, d2] => { results := [.lit (.bool false)], args := [d1, d2] }
  | _ => none }
def DiceBruijnWrongFalsely : Prop := diceBruijnRow.holds Try.pinned (OpenSpec.ofChange diceBruijnWrong)

/-- 'bibelotlaw01.DiceOnce': WHATEVER THE INPUT: true; the input reads as it did. -/
def diceOnceSpec : ChangeSpec := { name := "diceOnce", fn := fun _ => fun
  | [d] => { results := [.lit (.bool true)], args := [d] }
  | _ => none }
def diceOnceRow : OpenClaim := { program := "ytijeefncmgjlpaa", sum := "199113384983a08afbc33a76642bec73dbf3bbff3ad8bc03c0084dbd14909498", func := "bibelot/bibelotlaw01.DiceOnce", spec := "diceOnce", unfollowed := true, recurses := true, apart := false }
def DiceOnceSaid : Prop := diceOnceRow.holds Try.pinned (OpenSpec.ofChange diceOnceSpec)

/-- ITS FALSE NEIGHBOUR: 'it returns false'. Refute it at one input. -/
def diceOnceWrong : ChangeSpec := { name := "diceOnce", fn := fun _ => fun
  | [d] => { results := [.lit (.bool false)], args := [d] }
  | _ => none }
def DiceOnceWrongFalsely : Prop := diceOnceRow.holds Try.pinned (OpenSpec.ofChange diceOnceWrong)

/-- 'bibelotlaw01.DiceSame': WHATEVER THE INPUT: true; the input reads as it did. -/
def diceSameSpec : ChangeSpec := { name := "diceSame", fn := fun _ => fun
  | [d1, d2] => { results := [.lit (.bool true)], args := [d1, d2] }
  | _ => none }
def diceSameRow : OpenClaim := { program := "ytijeefncmgjlpaa", sum := "199113384983a08afbc33a76642bec73dbf3bbff3ad8bc03c0084dbd14909498", func := "bibelot/bibelotlaw01.DiceSame", spec := "diceSame", unfollowed := true, recurses := true, apart := false }
def DiceSameSaid : Prop := diceSameRow.holds Try.pinned (OpenSpec.ofChange diceSameSpec)

/-- ITS FALSE NEIGHBOUR: 'it returns false'. Refute it at one input. -/
def diceSameWrong : ChangeSpec := { name := "diceSame", fn := fun _ => fun
  | [d1, d2] => { results := [.lit (.bool false)], args := [d1, d2] }
  | _ => none }
def DiceSameWrongFalsely : Prop := diceSameRow.holds Try.pinned (OpenSpec.ofChange diceSameWrong)

/-- 'bibelotlaw01.DiceOrders': WHATEVER THE INPUT: true; the input reads as it did. -/
def diceOrdersSpec : ChangeSpec := { name := "diceOrders", fn := fun _ => fun
  | [d1, d2] => { results := [.lit (.bool true)], args := [d1, d2] }
  | _ => none }
def diceOrdersRow : OpenClaim := { program := "ytijeefncmgjlpaa", sum := "199113384983a08afbc33a76642bec73dbf3bbff3ad8bc03c0084dbd14909498", func := "bibelot/bibelotlaw01.DiceOrders", spec := "diceOrders", unfollowed := true, recurses := true, apart := false }
def DiceOrdersSaid : Prop := diceOrdersRow.holds Try.pinned (OpenSpec.ofChange diceOrdersSpec)

/-- ITS FALSE NEIGHBOUR: 'it returns false'. Refute it at one input. -/
def diceOrdersWrong : ChangeSpec := { name := "diceOrders", fn := fun _ => fun
  | [d1, d2] => { results := [.lit (.bool false)], args := [d1, d2] }
  | _ => none }
def DiceOrdersWrongFalsely : Prop := diceOrdersRow.holds Try.pinned (OpenSpec.ofChange diceOrdersWrong)

/-- 'bibelotlaw01.DiceSicherman': WHATEVER THE INPUT: true; the input reads as it did. -/
def diceSichermanSpec : ChangeSpec := { name := "diceSicherman", fn := fun _ => fun
  | [d1, d2] => { results := [.lit (.bool true)], args := [d1, d2] }
  | _ => none }
def diceSichermanRow : OpenClaim := { program := "ytijeefncmgjlpaa", sum := "199113384983a08afbc33a76642bec73dbf3bbff3ad8bc03c0084dbd14909498", func := "bibelot/bibelotlaw01.DiceSicherman", spec := "diceSicherman", unfollowed := true, recurses := true, apart := false }
def DiceSichermanSaid : Prop := diceSichermanRow.holds Try.pinned (OpenSpec.ofChange diceSichermanSpec)

/-- ITS FALSE NEIGHBOUR: 'it returns false'. Refute it at one input. -/
def diceSichermanWrong : ChangeSpec := { name := "diceSicherman", fn := fun _ => fun
  | [d1, d2] => { results := [.lit (.bool false)], args := [d1, d2] }
  | _ => none }
def DiceSichermanWrongFalsely : Prop := diceSichermanRow.holds Try.pinned (OpenSpec.ofChange diceSichermanWrong)

/-- 'bibelotlaw01.DiceOwn': WHATEVER THE INPUT: true; the input reads as it did. -/
def diceOwnSpec : ChangeSpec := { name := "diceOwn", fn := fun _ => fun
  | [d] => { results := [.lit (.bool true)], args := [d] }
  | _ => none }
def diceOwnRow : OpenClaim := { program := "ytijeefncmgjlpaa", sum := "199113384983a08afbc33a76642bec73dbf3bbff3ad8bc03c0084dbd14909498", func := "bibelot/bibelotlaw01.DiceOwn", spec := "diceOwn", unfollowed := true, recurses := true, apart := false }
def DiceOwnSaid : Prop := diceOwnRow.holds Try.pinned (OpenSpec.ofChange diceOwnSpec)

/-- ITS FALSE NEIGHBOUR: 'it returns false'. Refute it at one input. -/
def diceOwnWrong : ChangeSpec := { name := "diceOwn", fn := fun _ => fun
  | [d] => { results := [.lit (.bool false)], args := [d] }
  | _ => none }
def DiceOwnWrongFalsely : Prop := diceOwnRow.holds Try.pinned (OpenSpec.ofChange diceOwnWrong)

/-- 'bibelotlaw01.DiceChecks': WHATEVER THE INPUT: true; the input reads as it did. -/
def diceChecksSpec : ChangeSpec := { name := "diceChecks", fn := fun _ => fun
  | [d] => { results := [.lit (.bool true)], args := [d] }
  | _ => none }
def diceChecksRow : OpenClaim := { program := "ytijeefncmgjlpaa", sum := "199113384983a08afbc33a76642bec73dbf3bbff3ad8bc03c0084dbd14909498", func := "bibelot/bibelotlaw01.DiceChecks", spec := "diceChecks", unfollowed := true, recurses := true, apart := false }
def DiceChecksSaid : Prop := diceChecksRow.holds Try.pinned (OpenSpec.ofChange diceChecksSpec)

/-- ITS FALSE NEIGHBOUR: 'it returns false'. Refute it at one input. -/
def diceChecksWrong : ChangeSpec := { name := "diceChecks", fn := fun _ => fun
  | [d] => { results := [.lit (.bool false)], args := [d] }
  | _ => none }
def DiceChecksWrongFalsely : Prop := diceChecksRow.holds Try.pinned (OpenSpec.ofChange diceChecksWrong)

/- THE SECOND FORM. 'bulk': how many values and letters a reading holds, each counted each time it is reached (what is shared counts as often as it is met; a slice's spare places count too). A statement '..UptoSaid' is the law's where the arguments, and the package variables that the reading takes, are together of bulk at most 1048576: NARROWER than '..Said'. Prove '..Said' where nothing that the law and all that it calls make is longer than what came in: it says more and counts as full. Else prove '..UptoSaid'. A law counts once. -/
mutual
def uptoBulk {H : Type} : DataW H → Nat
  | .lit (.string bytes) => bytes.length + 1
  | .lit _ => 1
  | .nil => 1
  | .ptr d => uptoBulk d + 1
  | .slice elems spare => uptoBulkAll elems + uptoBulkAll spare + 1
  | .agg parts => uptoBulkAll parts + 1
  | .iface _ d => uptoBulk d + 1
  | .map entries => uptoBulkEntries entries + 1
  | .held _ => 1
def uptoBulkAll {H : Type} : List (DataW H) → Nat
  | [] => 0
  | d :: r => uptoBulk d + uptoBulkAll r
def uptoBulkEntries {H : Type} : List (Lit × DataW H) → Nat
  | [] => 0
  | x :: r => uptoBulkEntry x + uptoBulkEntries r
def uptoBulkEntry {H : Type} : Lit × DataW H → Nat
  | (.string bytes, d) => bytes.length + uptoBulk d + 1
  | (_, d) => uptoBulk d + 1
 end
def uptoSmall : (H : Type) → List (DataW H) → Bool := fun _ ds => decide (uptoBulkAll ds ≤ 1048576)
def OpenSpec.upto (s : _root_.Go.ChangeSpec) : _root_.Go.OpenSpec := { _root_.Go.OpenSpec.ofChange s with cond := some uptoSmall }

/-- 'bibelotlaw01.DiceTwins', WHERE WHAT IT READS IS OF BULK AT MOST 1048576: true; the input reads as it did. -/
def diceTwinsUptoRow : OpenClaim := { program := "ytijeefncmgjlpaa", sum := "199113384983a08afbc33a76642bec73dbf3bbff3ad8bc03c0084dbd14909498", func := "bibelot/bibelotlaw01.DiceTwins", spec := "diceTwins", unfollowed := true, recurses := true, apart := false, narrowed := true }
def DiceTwinsUptoSaid : Prop := diceTwinsUptoRow.holds Try.pinned (OpenSpec.upto diceTwinsSpec)

/-- 'bibelotlaw01.DiceFar', WHERE WHAT IT READS IS OF BULK AT MOST 1048576: true; the input reads as it did. -/
def diceFarUptoRow : OpenClaim := { program := "ytijeefncmgjlpaa", sum := "199113384983a08afbc33a76642bec73dbf3bbff3ad8bc03c0084dbd14909498", func := "bibelot/bibelotlaw01.DiceFar", spec := "diceFar", unfollowed := true, recurses := true, apart := false, narrowed := true }
def DiceFarUptoSaid : Prop := diceFarUptoRow.holds Try.pinned (OpenSpec.upto diceFarSpec)

/-- 'bibelotlaw01.DiceEven', WHERE WHAT IT READS IS OF BULK AT MOST 1048576: true; the input reads as it did. -/
def diceEvenUptoRow : OpenClaim := { program := "ytijeefncmgjlpaa", sum := "199113384983a08afbc33a76642bec73dbf3bbff3ad8bc03c0084dbd14909498", func := "bibelot/bibelotlaw01.DiceEven", spec := "diceEven", unfollowed := true, recurses := true, apart := false, narrowed := true }
def DiceEvenUptoSaid : Prop := diceEvenUptoRow.holds Try.pinned (OpenSpec.upto diceEvenSpec)

/-- 'bibelotlaw01.DiceBeats', WHERE WHAT IT READS IS OF BULK AT MOST 1048576: true; the input reads as it did. -/
def diceBeatsUptoRow : OpenClaim := { program := "ytijeefncmgjlpaa", sum := "199113384983a08afbc33a76642bec73dbf3bbff3ad8bc03c0084dbd14909498", func := "bibelot/bibelotlaw01.DiceBeats", spec := "diceBeats", unfollowed := true, recurses := true, apart := false, narrowed := true }
def DiceBeatsUptoSaid : Prop := diceBeatsUptoRow.holds Try.pinned (OpenSpec.upto diceBeatsSpec)

/-- 'bibelotlaw01.DicePairs', WHERE WHAT IT READS IS OF BULK AT MOST 1048576: true; the input reads as it did. -/
def dicePairsUptoRow : OpenClaim := { program := "ytijeefncmgjlpaa", sum := "199113384983a08afbc33a76642bec73dbf3bbff3ad8bc03c0084dbd14909498", func := "bibelot/bibelotlaw01.DicePairs", spec := "dicePairs", unfollowed := true, recurses := true, apart := false, narrowed := true }
def DicePairsUptoSaid : Prop := dicePairsUptoRow.holds Try.pinned (OpenSpec.upto dicePairsSpec)

/-- 'bibelotlaw01.DiceRings', WHERE WHAT IT READS IS OF BULK AT MOST 1048576: true; the input reads as it did. -/
def diceRingsUptoRow : OpenClaim := { program := "ytijeefncmgjlpaa", sum := "199113384983a08afbc33a76642bec73dbf3bbff3ad8bc03c0084dbd14909498", func := "bibelot/bibelotlaw01.DiceRings", spec := "diceRings", unfollowed := true, recurses := true, apart := false, narrowed := true }
def DiceRingsUptoSaid : Prop := diceRingsUptoRow.holds Try.pinned (OpenSpec.upto diceRingsSpec)

/-- 'bibelotlaw01.DiceRises', WHERE WHAT IT READS IS OF BULK AT MOST 1048576: true; the input reads as it did. -/
def diceRisesUptoRow : OpenClaim := { program := "ytijeefncmgjlpaa", sum := "199113384983a08afbc33a76642bec73dbf3bbff3ad8bc03c0084dbd14909498", func := "bibelot/bibelotlaw01.DiceRises", spec := "diceRises", unfollowed := true, recurses := true, apart := false, narrowed := true }
def DiceRisesUptoSaid : Prop := diceRisesUptoRow.holds Try.pinned (OpenSpec.upto diceRisesSpec)

/-- 'bibelotlaw01.DiceSums', WHERE WHAT IT READS IS OF BULK AT MOST 1048576: true; the input reads as it did. -/
def diceSumsUptoRow : OpenClaim := { program := "ytijeefncmgjlpaa", sum := "199113384983a08afbc33a76642bec73dbf3bbff3ad8bc03c0084dbd14909498", func := "bibelot/bibelotlaw01.DiceSums", spec := "diceSums", unfollowed := true, recurses := true, apart := false, narrowed := true }
def DiceSumsUptoSaid : Prop := diceSumsUptoRow.holds Try.pinned (OpenSpec.upto diceSumsSpec)

/-- 'bibelotlaw01.DiceAdds', WHERE WHAT IT READS IS OF BULK AT MOST 1048576: true; the input reads as it did. -/
def diceAddsUptoRow : OpenClaim := { program := "ytijeefncmgjlpaa", sum := "199113384983a08afbc33a76642bec73dbf3bbff3ad8bc03c0084dbd14909498", func := "bibelot/bibelotlaw01.DiceAdds", spec := "diceAdds", unfollowed := true, recurses := true, apart := false, narrowed := true }
def DiceAddsUptoSaid : Prop := diceAddsUptoRow.holds Try.pinned (OpenSpec.upto diceAddsSpec)

/-- 'bibelotlaw01.DiceBruijn', WHERE WHAT IT READS IS OF BULK AT MOST 1048576: true; the input reads as it did. -/
def diceBruijnUptoRow : OpenClaim := { program := "ytijeefncmgjlpaa", sum := "199113384983a08afbc33a76642bec73dbf3bbff3ad8bc03c0084dbd14909498", func := "bibelot/bibelotlaw01.DiceBruijn", spec := "diceBruijn", unfollowed := true, recurses := true, apart := false, narrowed := true }
def DiceBruijnUptoSaid : Prop := diceBruijnUptoRow.holds Try.pinned (OpenSpec.upto diceBruijnSpec)

/-- 'bibelotlaw01.DiceOnce', WHERE WHAT IT READS IS OF BULK AT MOST 1048576: true; the input reads as it did. -/
def diceOnceUptoRow : OpenClaim := { program := "ytijeefncmgjlpaa", sum := "199113384983a08afbc33a76642bec73dbf3bbff3ad8bc03c0084dbd14909498", func := "bibelot/bibelotlaw01.DiceOnce", spec := "diceOnce", unfollowed := true, recurses := true, apart := false, narrowed := true }
def DiceOnceUptoSaid : Prop := diceOnceUptoRow.holds Try.pinned (OpenSpec.upto diceOnceSpec)

/-- 'bibelotlaw01.DiceSame', WHERE WHAT IT READS IS OF BULK AT MOST 1048576: true; the input reads as it did. -/
def diceSameUptoRow : OpenClaim := { program := "ytijeefncmgjlpaa", sum := "199113384983a08afbc33a76642bec73dbf3bbff3ad8bc03c0084dbd14909498", func := "bibelot/bibelotlaw01.DiceSame", spec := "diceSame", unfollowed := true, recurses := true, apart := false, narrowed := true }
def DiceSameUptoSaid : Prop := diceSameUptoRow.holds Try.pinned (OpenSpec.upto diceSameSpec)

/-- 'bibelotlaw01.DiceOrders', WHERE WHAT IT READS IS OF BULK AT MOST 1048576: true; the input reads as it did. -/
def diceOrdersUptoRow : OpenClaim := { program := "ytijeefncmgjlpaa", sum := "199113384983a08afbc33a76642bec73dbf3bbff3ad8bc03c0084dbd14909498", func := "bibelot/bibelotlaw01.DiceOrders", spec := "diceOrders", unfollowed := true, recurses := true, apart := false, narrowed := true }
def DiceOrdersUptoSaid : Prop := diceOrdersUptoRow.holds Try.pinned (OpenSpec.upto diceOrdersSpec)

/-- 'bibelotlaw01.DiceSicherman', WHERE WHAT IT READS IS OF BULK AT MOST 1048576: true; the input reads as it did. -/
def diceSichermanUptoRow : OpenClaim := { program := "ytijeefncmgjlpaa", sum := "199113384983a08afbc33a76642bec73dbf3bbff3ad8bc03c0084dbd14909498", func := "bibelot/bibelotlaw01.DiceSicherman", spec := "diceSicherman", unfollowed := true, recurses := true, apart := false, narrowed := true }
def DiceSichermanUptoSaid : Prop := diceSichermanUptoRow.holds Try.pinned (OpenSpec.upto diceSichermanSpec)

/-- 'bibelotlaw01.DiceOwn', WHERE WHAT IT READS IS OF BULK AT MOST 1048576: true; the input reads as it did. -/
def diceOwnUptoRow : OpenClaim := { program := "ytijeefncmgjlpaa", sum := "199113384983a08afbc33a76642bec73dbf3bbff3ad8bc03c0084dbd14909498", func := "bibelot/bibelotlaw01.DiceOwn", spec := "diceOwn", unfollowed := true, recurses := true, apart := false, narrowed := true }
def DiceOwnUptoSaid : Prop := diceOwnUptoRow.holds Try.pinned (OpenSpec.upto diceOwnSpec)

/-- 'bibelotlaw01.DiceChecks', WHERE WHAT IT READS IS OF BULK AT MOST 1048576: true; the input reads as it did. -/
def diceChecksUptoRow : OpenClaim := { program := "ytijeefncmgjlpaa", sum := "199113384983a08afbc33a76642bec73dbf3bbff3ad8bc03c0084dbd14909498", func := "bibelot/bibelotlaw01.DiceChecks", spec := "diceChecks", unfollowed := true, recurses := true, apart := false, narrowed := true }
def DiceChecksUptoSaid : Prop := diceChecksUptoRow.holds Try.pinned (OpenSpec.upto diceChecksSpec)

end Rows
end Go.Proofs.Ytijeefncmgjlpaa
