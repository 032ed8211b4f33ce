/-
  No cell of these rows narrows 'for every input' (looked for: loops, veiled, ifaces, maps, wideKeys, modest, calm, conditions, laid).
  DERIVED. THE GIVEN ROWS OF THIS SEAT. 21 by the template 'for every input the law returns true; each argument reads behind the call as it read before'; 0 by the template 'total and deterministic' (their statements: YtlhappecjjbopaaTotals.lean).
  GIVEN WITH THE SEED: the statements are not yours to turn. If you find one false, say at which input.
  Laid BY PROGRAM, IN A SANDBOX (cutbox-rows.mjs): the forced cells as the released guide's own fill.sh prints them over the translation 752d04746150dcfc… (all of the seat's roots in one cut). By AI agents, Wed Nov 11 2026. No macro, syntax, notation, axiom, sorry.
-/
import Derived.Test.YtlhappecjjbopaaChecked
import GoSem.Claim
import GoSem.ClaimJoined
import GoSem.ClaimMapViews
import Derived.JoinedTies
import Derived.KernelRfl
namespace Go.Proofs.Ytlhappecjjbopaa
/- THE CELL 'sum', in the pinned program and in every row, IS THE sha256 OF THE DUMP (.gsa) THAT YtlhappecjjbopaaProg.lean LOADS. Nothing in Lean hashes anything: it is a label: what it is worth is what the hold of that sum in a sandbox is worth. -/
noncomputable def Try.pinned : Pinned := { name := "ytlhappecjjbopaa", sum := "752d04746150dcfca6d01d9d227eb091a89654352d11900295cf2f17b1522561", checked := Try.checked }
namespace Rows
def none {H : Type} : Left H := { results := [], args := [] }

/-- 'burnishlaw21.ScanCounts': WHATEVER THE INPUT: true; the input reads as it did. -/
def scanCountsSpec : ChangeSpec := { name := "scanCounts", fn := fun _ => fun
  | [d] => { results := [.lit (.bool true)], args := [d] }
  | _ => none }
def scanCountsRow : OpenClaim := { program := "ytlhappecjjbopaa", sum := "752d04746150dcfca6d01d9d227eb091a89654352d11900295cf2f17b1522561", func := "burnish/burnishlaw21.ScanCounts", spec := "scanCounts", apart := false }
def ScanCountsSaid : Prop := scanCountsRow.holds Try.pinned (OpenSpec.ofChange scanCountsSpec)

/-- ITS FALSE NEIGHBOUR: 'it returns false'. Refute it at one input. -/
def scanCountsWrong : ChangeSpec := { name := "scanCounts", fn := fun _ => fun
  | [d] => { results := [.lit (.bool false)], args := [d] }
  | _ => none }
def ScanCountsWrongFalsely : Prop := scanCountsRow.holds Try.pinned (OpenSpec.ofChange scanCountsWrong)

/-- 'burnishlaw22.ProgBits': WHATEVER THE INPUT: true; the input reads as it did. -/
def progBitsSpec : ChangeSpec := { name := "progBits", fn := fun _ => fun
  | [d] => { results := [.lit (.bool true)], args := [d] }
  | _ => none }
def progBitsRow : OpenClaim := { program := "ytlhappecjjbopaa", sum := "752d04746150dcfca6d01d9d227eb091a89654352d11900295cf2f17b1522561", func := "burnish/burnishlaw22.ProgBits", spec := "progBits", apart := false }
def ProgBitsSaid : Prop := progBitsRow.holds Try.pinned (OpenSpec.ofChange progBitsSpec)

/-- ITS FALSE NEIGHBOUR: 'it returns false'. Refute it at one input. -/
def progBitsWrong : ChangeSpec := { name := "progBits", fn := fun _ => fun
  | [d] => { results := [.lit (.bool false)], args := [d] }
  | _ => none }
def ProgBitsWrongFalsely : Prop := progBitsRow.holds Try.pinned (OpenSpec.ofChange progBitsWrong)

/-- 'burnishlaw21.ScanOrder': WHATEVER THE INPUT: true; the input reads as it did. -/
def scanOrderSpec : ChangeSpec := { name := "scanOrder", fn := fun _ => fun
  | [d] => { results := [.lit (.bool true)], args := [d] }
  | _ => none }
def scanOrderRow : OpenClaim := { program := "ytlhappecjjbopaa", sum := "752d04746150dcfca6d01d9d227eb091a89654352d11900295cf2f17b1522561", func := "burnish/burnishlaw21.ScanOrder", spec := "scanOrder", apart := false }
def ScanOrderSaid : Prop := scanOrderRow.holds Try.pinned (OpenSpec.ofChange scanOrderSpec)

/-- ITS FALSE NEIGHBOUR: 'it returns false'. Refute it at one input. -/
def scanOrderWrong : ChangeSpec := { name := "scanOrder", fn := fun _ => fun
  | [d] => { results := [.lit (.bool false)], args := [d] }
  | _ => none }
def ScanOrderWrongFalsely : Prop := scanOrderRow.holds Try.pinned (OpenSpec.ofChange scanOrderWrong)

/-- 'burnishlaw04.CanonCodes': WHATEVER THE INPUT: true; the input reads as it did. -/
def canonCodesSpec : ChangeSpec := { name := "canonCodes", fn := fun _ => fun
  | [d] => { results := [.lit (.bool true)], args := [d] }
  | _ => none }
def canonCodesRow : OpenClaim := { program := "ytlhappecjjbopaa", sum := "752d04746150dcfca6d01d9d227eb091a89654352d11900295cf2f17b1522561", func := "burnish/burnishlaw04.CanonCodes", spec := "canonCodes", apart := false }
def CanonCodesSaid : Prop := canonCodesRow.holds Try.pinned (OpenSpec.ofChange canonCodesSpec)

/-- ITS FALSE NEIGHBOUR: 'it returns false'. Refute it at one input. -/
def canonCodesWrong : ChangeSpec := { name := "canonCodes", fn := fun _ => fun
  | [d] => { results := [.lit (.bool false)], args := [d] }
  | _ => none }
def CanonCodesWrongFalsely : Prop := canonCodesRow.holds Try.pinned (OpenSpec.ofChange canonCodesWrong)

/-- 'burnishlaw04.CanonPrefix': WHATEVER THE INPUT: true; the input reads as it did. -/
def canonPrefixSpec : ChangeSpec := { name := "canonPrefix", fn := fun _ => fun
  | [d] => { results := [.lit (.bool true)], args := [d] }
  | _ => none }
def canonPrefixRow : OpenClaim := { program := "ytlhappecjjbopaa", sum := "752d04746150dcfca6d01d9d227eb091a89654352d11900295cf2f17b1522561", func := "burnish/burnishlaw04.CanonPrefix", spec := "canonPrefix", apart := false }
def CanonPrefixSaid : Prop := canonPrefixRow.holds Try.pinned (OpenSpec.ofChange canonPrefixSpec)

/-- ITS FALSE NEIGHBOUR: 'it returns false'. Refute it at one input. -/
def canonPrefixWrong : ChangeSpec := { name := "canonPrefix", fn := fun _ => fun
  | [d] => { results := [.lit (.bool false)], args := [d] }
  | _ => none }
def CanonPrefixWrongFalsely : Prop := canonPrefixRow.holds Try.pinned (OpenSpec.ofChange canonPrefixWrong)

/-- 'burnishlaw21.ScanNumbers': WHATEVER THE INPUT: true; the input reads as it did. -/
def scanNumbersSpec : ChangeSpec := { name := "scanNumbers", fn := fun _ => fun
  | [d1, d2, d3] => { results := [.lit (.bool true)], args := [d1, d2, d3] }
  | _ => none }
def scanNumbersRow : OpenClaim := { program := "ytlhappecjjbopaa", sum := "752d04746150dcfca6d01d9d227eb091a89654352d11900295cf2f17b1522561", func := "burnish/burnishlaw21.ScanNumbers", spec := "scanNumbers", apart := false }
def ScanNumbersSaid : Prop := scanNumbersRow.holds Try.pinned (OpenSpec.ofChange scanNumbersSpec)

/-- ITS FALSE NEIGHBOUR: 'it returns false'. Refute it at one input. -/
def scanNumbersWrong : ChangeSpec := { name := "scanNumbers", fn := fun _ => fun
  | [d1, d2, d3] => { results := [.lit (.bool false)], args := [d1, d2, d3] }
  | _ => none }
def ScanNumbersWrongFalsely : Prop := scanNumbersRow.holds Try.pinned (OpenSpec.ofChange scanNumbersWrong)

/-- 'burnishlaw04.CanonAll': WHATEVER THE INPUT: true; the input reads as it did. -/
def canonAllSpec : ChangeSpec := { name := "canonAll", fn := fun _ => fun
  | [d1, d2] => { results := [.lit (.bool true)], args := [d1, d2] }
  | _ => none }
def canonAllRow : OpenClaim := { program := "ytlhappecjjbopaa", sum := "752d04746150dcfca6d01d9d227eb091a89654352d11900295cf2f17b1522561", func := "burnish/burnishlaw04.CanonAll", spec := "canonAll", unfollowed := true, recurses := true, apart := false }
def CanonAllSaid : Prop := canonAllRow.holds Try.pinned (OpenSpec.ofChange canonAllSpec)

/-- ITS FALSE NEIGHBOUR: 'it returns false'. Refute it at one input. -/
def canonAllWrong : ChangeSpec := { name := "canonAll", fn := fun _ => fun
  | [d1, d2] => { results := [.lit (.bool false)], args := [d1, d2] }
  | _ => none }
def CanonAllWrongFalsely : Prop := canonAllRow.holds Try.pinned (OpenSpec.ofChange canonAllWrong)

/-- 'burnishlaw21.ScanPieces': WHATEVER THE INPUT: true; the input reads as it did. -/
def scanPiecesSpec : ChangeSpec := { name := "scanPieces", fn := fun _ => fun
  | [d1, d2] => { results := [.lit (.bool true)], args := [d1, d2] }
  | _ => none }
def scanPiecesRow : OpenClaim := { program := "ytlhappecjjbopaa", sum := "752d04746150dcfca6d01d9d227eb091a89654352d11900295cf2f17b1522561", func := "burnish/burnishlaw21.ScanPieces", spec := "scanPieces", apart := false }
def ScanPiecesSaid : Prop := scanPiecesRow.holds Try.pinned (OpenSpec.ofChange scanPiecesSpec)

/-- ITS FALSE NEIGHBOUR: 'it returns false'. Refute it at one input. -/
def scanPiecesWrong : ChangeSpec := { name := "scanPieces", fn := fun _ => fun
  | [d1, d2] => { results := [.lit (.bool false)], args := [d1, d2] }
  | _ => none }
def ScanPiecesWrongFalsely : Prop := scanPiecesRow.holds Try.pinned (OpenSpec.ofChange scanPiecesWrong)

/-- 'burnishlaw04.CanonBits': WHATEVER THE INPUT: true; the input reads as it did. -/
def canonBitsSpec : ChangeSpec := { name := "canonBits", fn := fun _ => fun
  | [d] => { results := [.lit (.bool true)], args := [d] }
  | _ => none }
def canonBitsRow : OpenClaim := { program := "ytlhappecjjbopaa", sum := "752d04746150dcfca6d01d9d227eb091a89654352d11900295cf2f17b1522561", func := "burnish/burnishlaw04.CanonBits", spec := "canonBits", apart := false }
def CanonBitsSaid : Prop := canonBitsRow.holds Try.pinned (OpenSpec.ofChange canonBitsSpec)

/-- ITS FALSE NEIGHBOUR: 'it returns false'. Refute it at one input. -/
def canonBitsWrong : ChangeSpec := { name := "canonBits", fn := fun _ => fun
  | [d] => { results := [.lit (.bool false)], args := [d] }
  | _ => none }
def CanonBitsWrongFalsely : Prop := canonBitsRow.holds Try.pinned (OpenSpec.ofChange canonBitsWrong)

/-- 'burnishlaw04.CanonTables': WHATEVER THE INPUT: true; the input reads as it did. -/
def canonTablesSpec : ChangeSpec := { name := "canonTables", fn := fun _ => fun
  | [d1, d2, d3] => { results := [.lit (.bool true)], args := [d1, d2, d3] }
  | _ => none }
def canonTablesRow : OpenClaim := { program := "ytlhappecjjbopaa", sum := "752d04746150dcfca6d01d9d227eb091a89654352d11900295cf2f17b1522561", func := "burnish/burnishlaw04.CanonTables", spec := "canonTables", apart := false }
def CanonTablesSaid : Prop := canonTablesRow.holds Try.pinned (OpenSpec.ofChange canonTablesSpec)

/-- ITS FALSE NEIGHBOUR: 'it returns false'. Refute it at one input. -/
def canonTablesWrong : ChangeSpec := { name := "canonTables", fn := fun _ => fun
  | [d1, d2, d3] => { results := [.lit (.bool false)], args := [d1, d2, d3] }
  | _ => none }
def CanonTablesWrongFalsely : Prop := canonTablesRow.holds Try.pinned (OpenSpec.ofChange canonTablesWrong)

/-- 'burnishlaw04.CanonNone': WHATEVER THE INPUT: true; the input reads as it did. -/
def canonNoneSpec : ChangeSpec := { name := "canonNone", fn := fun _ => fun
  | [d1, d2] => { results := [.lit (.bool true)], args := [d1, d2] }
  | _ => none }
def canonNoneRow : OpenClaim := { program := "ytlhappecjjbopaa", sum := "752d04746150dcfca6d01d9d227eb091a89654352d11900295cf2f17b1522561", func := "burnish/burnishlaw04.CanonNone", spec := "canonNone", unfollowed := true, recurses := true, apart := false }
def CanonNoneSaid : Prop := canonNoneRow.holds Try.pinned (OpenSpec.ofChange canonNoneSpec)

/-- ITS FALSE NEIGHBOUR: 'it returns false'. Refute it at one input. -/
def canonNoneWrong : ChangeSpec := { name := "canonNone", fn := fun _ => fun
  | [d1, d2] => { results := [.lit (.bool false)], args := [d1, d2] }
  | _ => none }
def CanonNoneWrongFalsely : Prop := canonNoneRow.holds Try.pinned (OpenSpec.ofChange canonNoneWrong)

/-- 'burnishlaw04.CanonBack': WHATEVER THE INPUT: true; the input reads as it did. -/
def canonBackSpec : ChangeSpec := { name := "canonBack", fn := fun _ => fun
  | [d1, d2, d3] => { results := [.lit (.bool true)], args := [d1, d2, d3] }
  | _ => none }
def canonBackRow : OpenClaim := { program := "ytlhappecjjbopaa", sum := "752d04746150dcfca6d01d9d227eb091a89654352d11900295cf2f17b1522561", func := "burnish/burnishlaw04.CanonBack", spec := "canonBack", apart := false }
def CanonBackSaid : Prop := canonBackRow.holds Try.pinned (OpenSpec.ofChange canonBackSpec)

/-- ITS FALSE NEIGHBOUR: 'it returns false'. Refute it at one input. -/
def canonBackWrong : ChangeSpec := { name := "canonBack", fn := fun _ => fun
  | [d1, d2, d3] => { results := [.lit (.bool false)], args := [d1, d2, d3] }
  | _ => none }
def CanonBackWrongFalsely : Prop := canonBackRow.holds Try.pinned (OpenSpec.ofChange canonBackWrong)

/-- 'burnishlaw22.ProgWrites': WHATEVER THE INPUT: true; the input reads as it did. -/
def progWritesSpec : ChangeSpec := { name := "progWrites", fn := fun _ => fun
  | [d1, d2] => { results := [.lit (.bool true)], args := [d1, d2] }
  | _ => none }
def progWritesRow : OpenClaim := { program := "ytlhappecjjbopaa", sum := "752d04746150dcfca6d01d9d227eb091a89654352d11900295cf2f17b1522561", func := "burnish/burnishlaw22.ProgWrites", spec := "progWrites", unfollowed := true, recurses := true, apart := false }
def ProgWritesSaid : Prop := progWritesRow.holds Try.pinned (OpenSpec.ofChange progWritesSpec)

/-- ITS FALSE NEIGHBOUR: 'it returns false'. Refute it at one input. -/
def progWritesWrong : ChangeSpec := { name := "progWrites", fn := fun _ => fun
  | [d1, d2] => { results := [.lit (.bool false)], args := [d1, d2] }
  | _ => none }
def ProgWritesWrongFalsely : Prop := progWritesRow.holds Try.pinned (OpenSpec.ofChange progWritesWrong)

/-- 'burnishlaw22.ProgKnown': WHATEVER THE INPUT: true; the input reads as it did. -/
def progKnownSpec : ChangeSpec := { name := "progKnown", fn := fun _ => fun
  | [d1, d2] => { results := [.lit (.bool true)], args := [d1, d2] }
  | _ => none }
def progKnownRow : OpenClaim := { program := "ytlhappecjjbopaa", sum := "752d04746150dcfca6d01d9d227eb091a89654352d11900295cf2f17b1522561", func := "burnish/burnishlaw22.ProgKnown", spec := "progKnown", unfollowed := true, recurses := true, apart := false }
def ProgKnownSaid : Prop := progKnownRow.holds Try.pinned (OpenSpec.ofChange progKnownSpec)

/-- ITS FALSE NEIGHBOUR: 'it returns false'. Refute it at one input. -/
def progKnownWrong : ChangeSpec := { name := "progKnown", fn := fun _ => fun
  | [d1, d2] => { results := [.lit (.bool false)], args := [d1, d2] }
  | _ => none }
def ProgKnownWrongFalsely : Prop := progKnownRow.holds Try.pinned (OpenSpec.ofChange progKnownWrong)

/-- 'burnishlaw21.ScanWrites': WHATEVER THE INPUT: true; the input reads as it did. -/
def scanWritesSpec : ChangeSpec := { name := "scanWrites", fn := fun _ => fun
  | [d1, d2, d3] => { results := [.lit (.bool true)], args := [d1, d2, d3] }
  | _ => none }
def scanWritesRow : OpenClaim := { program := "ytlhappecjjbopaa", sum := "752d04746150dcfca6d01d9d227eb091a89654352d11900295cf2f17b1522561", func := "burnish/burnishlaw21.ScanWrites", spec := "scanWrites", apart := false }
def ScanWritesSaid : Prop := scanWritesRow.holds Try.pinned (OpenSpec.ofChange scanWritesSpec)

/-- ITS FALSE NEIGHBOUR: 'it returns false'. Refute it at one input. -/
def scanWritesWrong : ChangeSpec := { name := "scanWrites", fn := fun _ => fun
  | [d1, d2, d3] => { results := [.lit (.bool false)], args := [d1, d2, d3] }
  | _ => none }
def ScanWritesWrongFalsely : Prop := scanWritesRow.holds Try.pinned (OpenSpec.ofChange scanWritesWrong)

/-- 'burnishlaw21.ScanReads': WHATEVER THE INPUT: true; the input reads as it did. -/
def scanReadsSpec : ChangeSpec := { name := "scanReads", fn := fun _ => fun
  | [d] => { results := [.lit (.bool true)], args := [d] }
  | _ => none }
def scanReadsRow : OpenClaim := { program := "ytlhappecjjbopaa", sum := "752d04746150dcfca6d01d9d227eb091a89654352d11900295cf2f17b1522561", func := "burnish/burnishlaw21.ScanReads", spec := "scanReads", apart := false }
def ScanReadsSaid : Prop := scanReadsRow.holds Try.pinned (OpenSpec.ofChange scanReadsSpec)

/-- ITS FALSE NEIGHBOUR: 'it returns false'. Refute it at one input. -/
def scanReadsWrong : ChangeSpec := { name := "scanReads", fn := fun _ => fun
  | [d] => { results := [.lit (.bool false)], args := [d] }
  | _ => none }
def ScanReadsWrongFalsely : Prop := scanReadsRow.holds Try.pinned (OpenSpec.ofChange scanReadsWrong)

/-- 'burnishlaw21.ScanBack': WHATEVER THE INPUT: true; the input reads as it did. -/
def scanBackSpec : ChangeSpec := { name := "scanBack", fn := fun _ => fun
  | [d1, d2, d3] => { results := [.lit (.bool true)], args := [d1, d2, d3] }
  | _ => none }
def scanBackRow : OpenClaim := { program := "ytlhappecjjbopaa", sum := "752d04746150dcfca6d01d9d227eb091a89654352d11900295cf2f17b1522561", func := "burnish/burnishlaw21.ScanBack", spec := "scanBack", apart := false }
def ScanBackSaid : Prop := scanBackRow.holds Try.pinned (OpenSpec.ofChange scanBackSpec)

/-- ITS FALSE NEIGHBOUR: 'it returns false'. Refute it at one input. -/
def scanBackWrong : ChangeSpec := { name := "scanBack", fn := fun _ => fun
  | [d1, d2, d3] => { results := [.lit (.bool false)], args := [d1, d2, d3] }
  | _ => none }
def ScanBackWrongFalsely : Prop := scanBackRow.holds Try.pinned (OpenSpec.ofChange scanBackWrong)

/-- 'burnishlaw22.ProgDC': WHATEVER THE INPUT: true; the input reads as it did. -/
def progDCSpec : ChangeSpec := { name := "progDC", fn := fun _ => fun
  | [d1, d2, d3] => { results := [.lit (.bool true)], args := [d1, d2, d3] }
  | _ => none }
def progDCRow : OpenClaim := { program := "ytlhappecjjbopaa", sum := "752d04746150dcfca6d01d9d227eb091a89654352d11900295cf2f17b1522561", func := "burnish/burnishlaw22.ProgDC", spec := "progDC", unfollowed := true, recurses := true, apart := false }
def ProgDCSaid : Prop := progDCRow.holds Try.pinned (OpenSpec.ofChange progDCSpec)

/-- ITS FALSE NEIGHBOUR: 'it returns false'. Refute it at one input. -/
def progDCWrong : ChangeSpec := { name := "progDC", fn := fun _ => fun
  | [d1, d2, d3] => { results := [.lit (.bool false)], args := [d1, d2, d3] }
  | _ => none }
def ProgDCWrongFalsely : Prop := progDCRow.holds Try.pinned (OpenSpec.ofChange progDCWrong)

/-- 'burnishlaw22.ProgDown': WHATEVER THE INPUT: true; the input reads as it did. -/
def progDownSpec : ChangeSpec := { name := "progDown", fn := fun _ => fun
  | [d1, d2, d3] => { results := [.lit (.bool true)], args := [d1, d2, d3] }
  | _ => none }
def progDownRow : OpenClaim := { program := "ytlhappecjjbopaa", sum := "752d04746150dcfca6d01d9d227eb091a89654352d11900295cf2f17b1522561", func := "burnish/burnishlaw22.ProgDown", spec := "progDown", unfollowed := true, recurses := true, apart := false }
def ProgDownSaid : Prop := progDownRow.holds Try.pinned (OpenSpec.ofChange progDownSpec)

/-- ITS FALSE NEIGHBOUR: 'it returns false'. Refute it at one input. -/
def progDownWrong : ChangeSpec := { name := "progDown", fn := fun _ => fun
  | [d1, d2, d3] => { results := [.lit (.bool false)], args := [d1, d2, d3] }
  | _ => none }
def ProgDownWrongFalsely : Prop := progDownRow.holds Try.pinned (OpenSpec.ofChange progDownWrong)

/-- 'burnishlaw22.ProgReads': WHATEVER THE INPUT: true; the input reads as it did. -/
def progReadsSpec : ChangeSpec := { name := "progReads", fn := fun _ => fun
  | [d] => { results := [.lit (.bool true)], args := [d] }
  | _ => none }
def progReadsRow : OpenClaim := { program := "ytlhappecjjbopaa", sum := "752d04746150dcfca6d01d9d227eb091a89654352d11900295cf2f17b1522561", func := "burnish/burnishlaw22.ProgReads", spec := "progReads", unfollowed := true, recurses := true, apart := false }
def ProgReadsSaid : Prop := progReadsRow.holds Try.pinned (OpenSpec.ofChange progReadsSpec)

/-- ITS FALSE NEIGHBOUR: 'it returns false'. Refute it at one input. -/
def progReadsWrong : ChangeSpec := { name := "progReads", fn := fun _ => fun
  | [d] => { results := [.lit (.bool false)], args := [d] }
  | _ => none }
def ProgReadsWrongFalsely : Prop := progReadsRow.holds Try.pinned (OpenSpec.ofChange progReadsWrong)

/-- 'burnishlaw22.ProgAll': WHATEVER THE INPUT: true; the input reads as it did. -/
def progAllSpec : ChangeSpec := { name := "progAll", fn := fun _ => fun
  | [d] => { results := [.lit (.bool true)], args := [d] }
  | _ => none }
def progAllRow : OpenClaim := { program := "ytlhappecjjbopaa", sum := "752d04746150dcfca6d01d9d227eb091a89654352d11900295cf2f17b1522561", func := "burnish/burnishlaw22.ProgAll", spec := "progAll", unfollowed := true, recurses := true, apart := false }
def ProgAllSaid : Prop := progAllRow.holds Try.pinned (OpenSpec.ofChange progAllSpec)

/-- ITS FALSE NEIGHBOUR: 'it returns false'. Refute it at one input. -/
def progAllWrong : ChangeSpec := { name := "progAll", fn := fun _ => fun
  | [d] => { results := [.lit (.bool false)], args := [d] }
  | _ => none }
def ProgAllWrongFalsely : Prop := progAllRow.holds Try.pinned (OpenSpec.ofChange progAllWrong)

/- THE SECOND FORM. 'bulk': how many values and letters a reading holds, each counted each time it is reached (what is shared counts as often as it is met; a slice's spare places count too). A statement '..UptoSaid' is the law's where the arguments, and the package variables that the reading takes, are together of bulk at most 1048576: NARROWER than '..Said'. Prove '..Said' where nothing that the law and all that it calls make is longer than what came in: it says more and counts as full. Else prove '..UptoSaid'. A law counts once. -/
mutual
def uptoBulk {H : Type} : DataW H → Nat
  | .lit (.string bytes) => bytes.length + 1
  | .lit _ => 1
  | .nil => 1
  | .ptr d => uptoBulk d + 1
  | .slice elems spare => uptoBulkAll elems + uptoBulkAll spare + 1
  | .agg parts => uptoBulkAll parts + 1
  | .iface _ d => uptoBulk d + 1
  | .map entries => uptoBulkEntries entries + 1
  | .held _ => 1
def uptoBulkAll {H : Type} : List (DataW H) → Nat
  | [] => 0
  | d :: r => uptoBulk d + uptoBulkAll r
def uptoBulkEntries {H : Type} : List (Lit × DataW H) → Nat
  | [] => 0
  | x :: r => uptoBulkEntry x + uptoBulkEntries r
def uptoBulkEntry {H : Type} : Lit × DataW H → Nat
  | (.string bytes, d) => bytes.length + uptoBulk d + 1
  | (_, d) => uptoBulk d + 1
 end
def uptoSmall : (H : Type) → List (DataW H) → Bool := fun _ ds => decide (uptoBulkAll ds ≤ 1048576)
def OpenSpec.upto (s : _root_.Go.ChangeSpec) : _root_.Go.OpenSpec := { _root_.Go.OpenSpec.ofChange s with cond := some uptoSmall }

/-- 'burnishlaw21.ScanCounts', WHERE WHAT IT READS IS OF BULK AT MOST 1048576: true; the input reads as it did. -/
def scanCountsUptoRow : OpenClaim := { program := "ytlhappecjjbopaa", sum := "752d04746150dcfca6d01d9d227eb091a89654352d11900295cf2f17b1522561", func := "burnish/burnishlaw21.ScanCounts", spec := "scanCounts", apart := false, narrowed := true }
def ScanCountsUptoSaid : Prop := scanCountsUptoRow.holds Try.pinned (OpenSpec.upto scanCountsSpec)

/-- 'burnishlaw22.ProgBits', WHERE WHAT IT READS IS OF BULK AT MOST 1048576: true; the input reads as it did. -/
def progBitsUptoRow : OpenClaim := { program := "ytlhappecjjbopaa", sum := "752d04746150dcfca6d01d9d227eb091a89654352d11900295cf2f17b1522561", func := "burnish/burnishlaw22.ProgBits", spec := "progBits", apart := false, narrowed := true }
def ProgBitsUptoSaid : Prop := progBitsUptoRow.holds Try.pinned (OpenSpec.upto progBitsSpec)

/-- 'burnishlaw21.ScanOrder', WHERE WHAT IT READS IS OF BULK AT MOST 1048576: true; the input reads as it did. -/
def scanOrderUptoRow : OpenClaim := { program := "ytlhappecjjbopaa", sum := "752d04746150dcfca6d01d9d227eb091a89654352d11900295cf2f17b1522561", func := "burnish/burnishlaw21.ScanOrder", spec := "scanOrder", apart := false, narrowed := true }
def ScanOrderUptoSaid : Prop := scanOrderUptoRow.holds Try.pinned (OpenSpec.upto scanOrderSpec)

/-- 'burnishlaw04.CanonCodes', WHERE WHAT IT READS IS OF BULK AT MOST 1048576: true; the input reads as it did. -/
def canonCodesUptoRow : OpenClaim := { program := "ytlhappecjjbopaa", sum := "752d04746150dcfca6d01d9d227eb091a89654352d11900295cf2f17b1522561", func := "burnish/burnishlaw04.CanonCodes", spec := "canonCodes", apart := false, narrowed := true }
def CanonCodesUptoSaid : Prop := canonCodesUptoRow.holds Try.pinned (OpenSpec.upto canonCodesSpec)

/-- 'burnishlaw04.CanonPrefix', WHERE WHAT IT READS IS OF BULK AT MOST 1048576: true; the input reads as it did. -/
def canonPrefixUptoRow : OpenClaim := { program := "ytlhappecjjbopaa", sum := "752d04746150dcfca6d01d9d227eb091a89654352d11900295cf2f17b1522561", func := "burnish/burnishlaw04.CanonPrefix", spec := "canonPrefix", apart := false, narrowed := true }
def CanonPrefixUptoSaid : Prop := canonPrefixUptoRow.holds Try.pinned (OpenSpec.upto canonPrefixSpec)

/-- 'burnishlaw21.ScanNumbers', WHERE WHAT IT READS IS OF BULK AT MOST 1048576: true; the input reads as it did. -/
def scanNumbersUptoRow : OpenClaim := { program := "ytlhappecjjbopaa", sum := "752d04746150dcfca6d01d9d227eb091a89654352d11900295cf2f17b1522561", func := "burnish/burnishlaw21.ScanNumbers", spec := "scanNumbers", apart := false, narrowed := true }
def ScanNumbersUptoSaid : Prop := scanNumbersUptoRow.holds Try.pinned (OpenSpec.upto scanNumbersSpec)

/-- 'burnishlaw04.CanonAll', WHERE WHAT IT READS IS OF BULK AT MOST 1048576: true; the input reads as it did. -/
def canonAllUptoRow : OpenClaim := { program := "ytlhappecjjbopaa", sum := "752d04746150dcfca6d01d9d227eb091a89654352d11900295cf2f17b1522561", func := "burnish/burnishlaw04.CanonAll", spec := "canonAll", unfollowed := true, recurses := true, apart := false, narrowed := true }
def CanonAllUptoSaid : Prop := canonAllUptoRow.holds Try.pinned (OpenSpec.upto canonAllSpec)

/-- 'burnishlaw21.ScanPieces', WHERE WHAT IT READS IS OF BULK AT MOST 1048576: true; the input reads as it did. -/
def scanPiecesUptoRow : OpenClaim := { program := "ytlhappecjjbopaa", sum := "752d04746150dcfca6d01d9d227eb091a89654352d11900295cf2f17b1522561", func := "burnish/burnishlaw21.ScanPieces", spec := "scanPieces", apart := false, narrowed := true }
def ScanPiecesUptoSaid : Prop := scanPiecesUptoRow.holds Try.pinned (OpenSpec.upto scanPiecesSpec)

/-- 'burnishlaw04.CanonBits', WHERE WHAT IT READS IS OF BULK AT MOST 1048576: true; the input reads as it did. -/
def canonBitsUptoRow : OpenClaim := { program := "ytlhappecjjbopaa", sum := "752d04746150dcfca6d01d9d227eb091a89654352d11900295cf2f17b1522561", func := "burnish/burnishlaw04.CanonBits", spec := "canonBits", apart := false, narrowed := true }
def CanonBitsUptoSaid : Prop := canonBitsUptoRow.holds Try.pinned (OpenSpec.upto canonBitsSpec)

/-- 'burnishlaw04.CanonTables', WHERE WHAT IT READS IS OF BULK AT MOST 1048576: true; the input reads as it did. -/
def canonTablesUptoRow : OpenClaim := { program := "ytlhappecjjbopaa", sum := "752d04746150dcfca6d01d9d227eb091a89654352d11900295cf2f17b1522561", func := "burnish/burnishlaw04.CanonTables", spec := "canonTables", apart := false, narrowed := true }
def CanonTablesUptoSaid : Prop := canonTablesUptoRow.holds Try.pinned (OpenSpec.upto canonTablesSpec)

/-- 'burnishlaw04.CanonNone', WHERE WHAT IT READS IS OF BULK AT MOST 1048576: true; the input reads as it did. -/
def canonNoneUptoRow : OpenClaim := { program := "ytlhappecjjbopaa", sum := "752d04746150dcfca6d01d9d227eb091a89654352d11900295cf2f17b1522561", func := "burnish/burnishlaw04.CanonNone", spec := "canonNone", unfollowed := true, recurses := true, apart := false, narrowed := true }
def CanonNoneUptoSaid : Prop := canonNoneUptoRow.holds Try.pinned (OpenSpec.upto canonNoneSpec)

/-- 'burnishlaw04.CanonBack', WHERE WHAT IT READS IS OF BULK AT MOST 1048576: true; the input reads as it did. -/
def canonBackUptoRow : OpenClaim := { program := "ytlhappecjjbopaa", sum := "752d04746150dcfca6d01d9d227eb091a89654352d11900295cf2f17b1522561", func := "burnish/burnishlaw04.CanonBack", spec := "canonBack", apart := false, narrowed := true }
def CanonBackUptoSaid : Prop := canonBackUptoRow.holds Try.pinned (OpenSpec.upto canonBackSpec)

/-- 'burnishlaw22.ProgWrites', WHERE WHAT IT READS IS OF BULK AT MOST 1048576: true; the input reads as it did. -/
def progWritesUptoRow : OpenClaim := { program := "ytlhappecjjbopaa", sum := "752d04746150dcfca6d01d9d227eb091a89654352d11900295cf2f17b1522561", func := "burnish/burnishlaw22.ProgWrites", spec := "progWrites", unfollowed := true, recurses := true, apart := false, narrowed := true }
def ProgWritesUptoSaid : Prop := progWritesUptoRow.holds Try.pinned (OpenSpec.upto progWritesSpec)

/-- 'burnishlaw22.ProgKnown', WHERE WHAT IT READS IS OF BULK AT MOST 1048576: true; the input reads as it did. -/
def progKnownUptoRow : OpenClaim := { program := "ytlhappecjjbopaa", sum := "752d04746150dcfca6d01d9d227eb091a89654352d11900295cf2f17b1522561", func := "burnish/burnishlaw22.ProgKnown", spec := "progKnown", unfollowed := true, recurses := true, apart := false, narrowed := true }
def ProgKnownUptoSaid : Prop := progKnownUptoRow.holds Try.pinned (OpenSpec.upto progKnownSpec)

/-- 'burnishlaw21.ScanWrites', WHERE WHAT IT READS IS OF BULK AT MOST 1048576: true; the input reads as it did. -/
def scanWritesUptoRow : OpenClaim := { program := "ytlhappecjjbopaa", sum := "752d04746150dcfca6d01d9d227eb091a89654352d11900295cf2f17b1522561", func := "burnish/burnishlaw21.ScanWrites", spec := "scanWrites", apart := false, narrowed := true }
def ScanWritesUptoSaid : Prop := scanWritesUptoRow.holds Try.pinned (OpenSpec.upto scanWritesSpec)

/-- 'burnishlaw21.ScanReads', WHERE WHAT IT READS IS OF BULK AT MOST 1048576: true; the input reads as it did. -/
def scanReadsUptoRow : OpenClaim := { program := "ytlhappecjjbopaa", sum := "752d04746150dcfca6d01d9d227eb091a89654352d11900295cf2f17b1522561", func := "burnish/burnishlaw21.ScanReads", spec := "scanReads", apart := false, narrowed := true }
def ScanReadsUptoSaid : Prop := scanReadsUptoRow.holds Try.pinned (OpenSpec.upto scanReadsSpec)

/-- 'burnishlaw21.ScanBack', WHERE WHAT IT READS IS OF BULK AT MOST 1048576: true; the input reads as it did. -/
def scanBackUptoRow : OpenClaim := { program := "ytlhappecjjbopaa", sum := "752d04746150dcfca6d01d9d227eb091a89654352d11900295cf2f17b1522561", func := "burnish/burnishlaw21.ScanBack", spec := "scanBack", apart := false, narrowed := true }
def ScanBackUptoSaid : Prop := scanBackUptoRow.holds Try.pinned (OpenSpec.upto scanBackSpec)

/-- 'burnishlaw22.ProgDC', WHERE WHAT IT READS IS OF BULK AT MOST 1048576: true; the input reads as it did. -/
def progDCUptoRow : OpenClaim := { program := "ytlhappecjjbopaa", sum := "752d04746150dcfca6d01d9d227eb091a89654352d11900295cf2f17b1522561", func := "burnish/burnishlaw22.ProgDC", spec := "progDC", unfollowed := true, recurses := true, apart := false, narrowed := true }
def ProgDCUptoSaid : Prop := progDCUptoRow.holds Try.pinned (OpenSpec.upto progDCSpec)

/-- 'burnishlaw22.ProgDown', WHERE WHAT IT READS IS OF BULK AT MOST 1048576: true; the input reads as it did. -/
def progDownUptoRow : OpenClaim := { program := "ytlhappecjjbopaa", sum := "752d04746150dcfca6d01d9d227eb091a89654352d11900295cf2f17b1522561", func := "burnish/burnishlaw22.ProgDown", spec := "progDown", unfollowed := true, recurses := true, apart := false, narrowed := true }
def ProgDownUptoSaid : Prop := progDownUptoRow.holds Try.pinned (OpenSpec.upto progDownSpec)

/-- 'burnishlaw22.ProgReads', WHERE WHAT IT READS IS OF BULK AT MOST 1048576: true; the input reads as it did. -/
def progReadsUptoRow : OpenClaim := { program := "ytlhappecjjbopaa", sum := "752d04746150dcfca6d01d9d227eb091a89654352d11900295cf2f17b1522561", func := "burnish/burnishlaw22.ProgReads", spec := "progReads", unfollowed := true, recurses := true, apart := false, narrowed := true }
def ProgReadsUptoSaid : Prop := progReadsUptoRow.holds Try.pinned (OpenSpec.upto progReadsSpec)

/-- 'burnishlaw22.ProgAll', WHERE WHAT IT READS IS OF BULK AT MOST 1048576: true; the input reads as it did. -/
def progAllUptoRow : OpenClaim := { program := "ytlhappecjjbopaa", sum := "752d04746150dcfca6d01d9d227eb091a89654352d11900295cf2f17b1522561", func := "burnish/burnishlaw22.ProgAll", spec := "progAll", unfollowed := true, recurses := true, apart := false, narrowed := true }
def ProgAllUptoSaid : Prop := progAllUptoRow.holds Try.pinned (OpenSpec.upto progAllSpec)

end Rows
end Go.Proofs.Ytlhappecjjbopaa
