/-
  No cell of these rows narrows 'for every input' (looked for: loops, veiled, ifaces, maps, wideKeys, modest, calm, conditions, laid).
  DERIVED. THE GIVEN ROWS OF THIS SEAT. 11 by the template 'for every input the law returns true; each argument reads behind the call as it read before'; 0 by the template 'total and deterministic' (their statements: YtkmgojoojboidaaTotals.lean).
  GIVEN WITH THE SEED: the statements are not yours to turn. If you find one false, say at which input.
  Laid BY PROGRAM, IN A SANDBOX (cutbox-rows.mjs): the forced cells as the released guide's own fill.sh prints them over the translation deef50399acac07e… (all of the seat's roots in one cut). By AI agents, Wed Nov 11 2026. No macro, syntax, notation, axiom, sorry.
-/
import Derived.Test.YtkmgojoojboidaaChecked
import GoSem.Claim
import GoSem.ClaimJoined
import GoSem.ClaimMapViews
import Derived.JoinedTies
import Derived.KernelRfl
namespace Go.Proofs.Ytkmgojoojboidaa
/- THE CELL 'sum', in the pinned program and in every row, IS THE sha256 OF THE DUMP (.gsa) THAT YtkmgojoojboidaaProg.lean LOADS. Nothing in Lean hashes anything: it is a label: what it is worth is what the hold of that sum in a sandbox is worth. -/
noncomputable def Try.pinned : Pinned := { name := "ytkmgojoojboidaa", sum := "deef50399acac07ebd8604c23eabf190908d6b6094ae1fade7cc68f8222d1615", checked := Try.checked }
namespace Rows
def none {H : Type} : Left H := { results := [], args := [] }

/-- 'burnishlaw03.BitsStuffs': WHATEVER THE INPUT: true; the input reads as it did. -/
def bitsStuffsSpec : ChangeSpec := { name := "bitsStuffs", fn := fun _ => fun
  | [d] => { results := [.lit (.bool true)], args := [d] }
  | _ => none }
def bitsStuffsRow : OpenClaim := { program := "ytkmgojoojboidaa", sum := "deef50399acac07ebd8604c23eabf190908d6b6094ae1fade7cc68f8222d1615", func := "burnish/burnishlaw03.BitsStuffs", spec := "bitsStuffs", apart := false }
def BitsStuffsSaid : Prop := bitsStuffsRow.holds Try.pinned (OpenSpec.ofChange bitsStuffsSpec)

/-- ITS FALSE NEIGHBOUR: 'it returns false'. Refute it at one input. -/
def bitsStuffsWrong : ChangeSpec := { name := "bitsStuffs", fn := fun _ => fun
  | [d] => { results := [.lit (.bool false)], args := [d] }
  | _ => none }
def BitsStuffsWrongFalsely : Prop := bitsStuffsRow.holds Try.pinned (OpenSpec.ofChange bitsStuffsWrong)

/-- 'burnishlaw03.BitsUnstuffs': WHATEVER THE INPUT: true; the input reads as it did. -/
def bitsUnstuffsSpec : ChangeSpec := { name := "bitsUnstuffs", fn := fun _ => fun
  | [d1, d2] => { results := [.lit (.bool true)], args := [d1, d2] }
  | _ => none }
def bitsUnstuffsRow : OpenClaim := { program := "ytkmgojoojboidaa", sum := "deef50399acac07ebd8604c23eabf190908d6b6094ae1fade7cc68f8222d1615", func := "burnish/burnishlaw03.BitsUnstuffs", spec := "bitsUnstuffs", apart := false }
def BitsUnstuffsSaid : Prop := bitsUnstuffsRow.holds Try.pinned (OpenSpec.ofChange bitsUnstuffsSpec)

/-- ITS FALSE NEIGHBOUR: 'it returns false'. Refute it at one input. -/
def bitsUnstuffsWrong : ChangeSpec := { name := "bitsUnstuffs", fn := fun _ => fun
  | [d1, d2] => { results := [.lit (.bool false)], args := [d1, d2] }
  | _ => none }
def BitsUnstuffsWrongFalsely : Prop := bitsUnstuffsRow.holds Try.pinned (OpenSpec.ofChange bitsUnstuffsWrong)

/-- 'burnishlaw16.SampleWidens': WHATEVER THE INPUT: true; the input reads as it did. -/
def sampleWidensSpec : ChangeSpec := { name := "sampleWidens", fn := fun _ => fun
  | [d1, d2] => { results := [.lit (.bool true)], args := [d1, d2] }
  | _ => none }
def sampleWidensRow : OpenClaim := { program := "ytkmgojoojboidaa", sum := "deef50399acac07ebd8604c23eabf190908d6b6094ae1fade7cc68f8222d1615", func := "burnish/burnishlaw16.SampleWidens", spec := "sampleWidens", apart := false }
def SampleWidensSaid : Prop := sampleWidensRow.holds Try.pinned (OpenSpec.ofChange sampleWidensSpec)

/-- ITS FALSE NEIGHBOUR: 'it returns false'. Refute it at one input. -/
def sampleWidensWrong : ChangeSpec := { name := "sampleWidens", fn := fun _ => fun
  | [d1, d2] => { results := [.lit (.bool false)], args := [d1, d2] }
  | _ => none }
def SampleWidensWrongFalsely : Prop := sampleWidensRow.holds Try.pinned (OpenSpec.ofChange sampleWidensWrong)

/-- 'burnishlaw16.SampleDepths': WHATEVER THE INPUT: true; the input reads as it did. -/
def sampleDepthsSpec : ChangeSpec := { name := "sampleDepths", fn := fun _ => fun
  | [d] => { results := [.lit (.bool true)], args := [d] }
  | _ => none }
def sampleDepthsRow : OpenClaim := { program := "ytkmgojoojboidaa", sum := "deef50399acac07ebd8604c23eabf190908d6b6094ae1fade7cc68f8222d1615", func := "burnish/burnishlaw16.SampleDepths", spec := "sampleDepths", unfollowed := true, recurses := true, apart := false }
def SampleDepthsSaid : Prop := sampleDepthsRow.holds Try.pinned (OpenSpec.ofChange sampleDepthsSpec)

/-- ITS FALSE NEIGHBOUR: 'it returns false'. Refute it at one input. -/
def sampleDepthsWrong : ChangeSpec := { name := "sampleDepths", fn := fun _ => fun
  | [d] => { results := [.lit (.bool false)], args := [d] }
  | _ => none }
def SampleDepthsWrongFalsely : Prop := sampleDepthsRow.holds Try.pinned (OpenSpec.ofChange sampleDepthsWrong)

/-- 'burnishlaw03.BitsWrites': WHATEVER THE INPUT: true; the input reads as it did. -/
def bitsWritesSpec : ChangeSpec := { name := "bitsWrites", fn := fun _ => fun
  | [d1, d2] => { results := [.lit (.bool true)], args := [d1, d2] }
  | _ => none }
def bitsWritesRow : OpenClaim := { program := "ytkmgojoojboidaa", sum := "deef50399acac07ebd8604c23eabf190908d6b6094ae1fade7cc68f8222d1615", func := "burnish/burnishlaw03.BitsWrites", spec := "bitsWrites", apart := false }
def BitsWritesSaid : Prop := bitsWritesRow.holds Try.pinned (OpenSpec.ofChange bitsWritesSpec)

/-- ITS FALSE NEIGHBOUR: 'it returns false'. Refute it at one input. -/
def bitsWritesWrong : ChangeSpec := { name := "bitsWrites", fn := fun _ => fun
  | [d1, d2] => { results := [.lit (.bool false)], args := [d1, d2] }
  | _ => none }
def BitsWritesWrongFalsely : Prop := bitsWritesRow.holds Try.pinned (OpenSpec.ofChange bitsWritesWrong)

/-- 'burnishlaw16.SampleUnpacks': WHATEVER THE INPUT: true; the input reads as it did. -/
def sampleUnpacksSpec : ChangeSpec := { name := "sampleUnpacks", fn := fun _ => fun
  | [d1, d2, d3] => { results := [.lit (.bool true)], args := [d1, d2, d3] }
  | _ => none }
def sampleUnpacksRow : OpenClaim := { program := "ytkmgojoojboidaa", sum := "deef50399acac07ebd8604c23eabf190908d6b6094ae1fade7cc68f8222d1615", func := "burnish/burnishlaw16.SampleUnpacks", spec := "sampleUnpacks", apart := false }
def SampleUnpacksSaid : Prop := sampleUnpacksRow.holds Try.pinned (OpenSpec.ofChange sampleUnpacksSpec)

/-- ITS FALSE NEIGHBOUR: 'it returns false'. Refute it at one input. -/
def sampleUnpacksWrong : ChangeSpec := { name := "sampleUnpacks", fn := fun _ => fun
  | [d1, d2, d3] => { results := [.lit (.bool false)], args := [d1, d2, d3] }
  | _ => none }
def SampleUnpacksWrongFalsely : Prop := sampleUnpacksRow.holds Try.pinned (OpenSpec.ofChange sampleUnpacksWrong)

/-- 'burnishlaw03.BitsReads': WHATEVER THE INPUT: true; the input reads as it did. -/
def bitsReadsSpec : ChangeSpec := { name := "bitsReads", fn := fun _ => fun
  | [d1, d2, d3] => { results := [.lit (.bool true)], args := [d1, d2, d3] }
  | _ => none }
def bitsReadsRow : OpenClaim := { program := "ytkmgojoojboidaa", sum := "deef50399acac07ebd8604c23eabf190908d6b6094ae1fade7cc68f8222d1615", func := "burnish/burnishlaw03.BitsReads", spec := "bitsReads", apart := false }
def BitsReadsSaid : Prop := bitsReadsRow.holds Try.pinned (OpenSpec.ofChange bitsReadsSpec)

/-- ITS FALSE NEIGHBOUR: 'it returns false'. Refute it at one input. -/
def bitsReadsWrong : ChangeSpec := { name := "bitsReads", fn := fun _ => fun
  | [d1, d2, d3] => { results := [.lit (.bool false)], args := [d1, d2, d3] }
  | _ => none }
def BitsReadsWrongFalsely : Prop := bitsReadsRow.holds Try.pinned (OpenSpec.ofChange bitsReadsWrong)

/-- 'burnishlaw03.BitsNone': WHATEVER THE INPUT: true; the input reads as it did. -/
def bitsNoneSpec : ChangeSpec := { name := "bitsNone", fn := fun _ => fun
  | [d1, d2] => { results := [.lit (.bool true)], args := [d1, d2] }
  | _ => none }
def bitsNoneRow : OpenClaim := { program := "ytkmgojoojboidaa", sum := "deef50399acac07ebd8604c23eabf190908d6b6094ae1fade7cc68f8222d1615", func := "burnish/burnishlaw03.BitsNone", spec := "bitsNone", apart := false }
def BitsNoneSaid : Prop := bitsNoneRow.holds Try.pinned (OpenSpec.ofChange bitsNoneSpec)

/-- ITS FALSE NEIGHBOUR: 'it returns false'. Refute it at one input. -/
def bitsNoneWrong : ChangeSpec := { name := "bitsNone", fn := fun _ => fun
  | [d1, d2] => { results := [.lit (.bool false)], args := [d1, d2] }
  | _ => none }
def BitsNoneWrongFalsely : Prop := bitsNoneRow.holds Try.pinned (OpenSpec.ofChange bitsNoneWrong)

/-- 'burnishlaw16.SamplePacks': WHATEVER THE INPUT: true; the input reads as it did. -/
def samplePacksSpec : ChangeSpec := { name := "samplePacks", fn := fun _ => fun
  | [d1, d2] => { results := [.lit (.bool true)], args := [d1, d2] }
  | _ => none }
def samplePacksRow : OpenClaim := { program := "ytkmgojoojboidaa", sum := "deef50399acac07ebd8604c23eabf190908d6b6094ae1fade7cc68f8222d1615", func := "burnish/burnishlaw16.SamplePacks", spec := "samplePacks", apart := false }
def SamplePacksSaid : Prop := samplePacksRow.holds Try.pinned (OpenSpec.ofChange samplePacksSpec)

/-- ITS FALSE NEIGHBOUR: 'it returns false'. Refute it at one input. -/
def samplePacksWrong : ChangeSpec := { name := "samplePacks", fn := fun _ => fun
  | [d1, d2] => { results := [.lit (.bool false)], args := [d1, d2] }
  | _ => none }
def SamplePacksWrongFalsely : Prop := samplePacksRow.holds Try.pinned (OpenSpec.ofChange samplePacksWrong)

/-- 'burnishlaw03.BitsBack': WHATEVER THE INPUT: true; the input reads as it did. -/
def bitsBackSpec : ChangeSpec := { name := "bitsBack", fn := fun _ => fun
  | [d1, d2] => { results := [.lit (.bool true)], args := [d1, d2] }
  | _ => none }
def bitsBackRow : OpenClaim := { program := "ytkmgojoojboidaa", sum := "deef50399acac07ebd8604c23eabf190908d6b6094ae1fade7cc68f8222d1615", func := "burnish/burnishlaw03.BitsBack", spec := "bitsBack", apart := false }
def BitsBackSaid : Prop := bitsBackRow.holds Try.pinned (OpenSpec.ofChange bitsBackSpec)

/-- ITS FALSE NEIGHBOUR: 'it returns false'. Refute it at one input. -/
def bitsBackWrong : ChangeSpec := { name := "bitsBack", fn := fun _ => fun
  | [d1, d2] => { results := [.lit (.bool false)], args := [d1, d2] }
  | _ => none }
def BitsBackWrongFalsely : Prop := bitsBackRow.holds Try.pinned (OpenSpec.ofChange bitsBackWrong)

/-- 'burnishlaw16.SampleBack': WHATEVER THE INPUT: true; the input reads as it did. -/
def sampleBackSpec : ChangeSpec := { name := "sampleBack", fn := fun _ => fun
  | [d1, d2, d3] => { results := [.lit (.bool true)], args := [d1, d2, d3] }
  | _ => none }
def sampleBackRow : OpenClaim := { program := "ytkmgojoojboidaa", sum := "deef50399acac07ebd8604c23eabf190908d6b6094ae1fade7cc68f8222d1615", func := "burnish/burnishlaw16.SampleBack", spec := "sampleBack", apart := false }
def SampleBackSaid : Prop := sampleBackRow.holds Try.pinned (OpenSpec.ofChange sampleBackSpec)

/-- ITS FALSE NEIGHBOUR: 'it returns false'. Refute it at one input. -/
def sampleBackWrong : ChangeSpec := { name := "sampleBack", fn := fun _ => fun
  | [d1, d2, d3] => { results := [.lit (.bool false)], args := [d1, d2, d3] }
  | _ => none }
def SampleBackWrongFalsely : Prop := sampleBackRow.holds Try.pinned (OpenSpec.ofChange sampleBackWrong)

/- THE SECOND FORM. 'bulk': how many values and letters a reading holds, each counted each time it is reached (what is shared counts as often as it is met; a slice's spare places count too). A statement '..UptoSaid' is the law's where the arguments, and the package variables that the reading takes, are together of bulk at most 1048576: NARROWER than '..Said'. Prove '..Said' where nothing that the law and all that it calls make is longer than what came in: it says more and counts as full. Else prove '..UptoSaid'. A law counts once. -/
mutual
def uptoBulk {H : Type} : DataW H → Nat
  | .lit (.string bytes) => bytes.length + 1
  | .lit _ => 1
  | .nil => 1
  | .ptr d => uptoBulk d + 1
  | .slice elems spare => uptoBulkAll elems + uptoBulkAll spare + 1
  | .agg parts => uptoBulkAll parts + 1
  | .iface _ d => uptoBulk d + 1
  | .map entries => uptoBulkEntries entries + 1
  | .held _ => 1
def uptoBulkAll {H : Type} : List (DataW H) → Nat
  | [] => 0
  | d :: r => uptoBulk d + uptoBulkAll r
def uptoBulkEntries {H : Type} : List (Lit × DataW H) → Nat
  | [] => 0
  | x :: r => uptoBulkEntry x + uptoBulkEntries r
def uptoBulkEntry {H : Type} : Lit × DataW H → Nat
  | (.string bytes, d) => bytes.length + uptoBulk d + 1
  | (_, d) => uptoBulk d + 1
 end
def uptoSmall : (H : Type) → List (DataW H) → Bool := fun _ ds => decide (uptoBulkAll ds ≤ 1048576)
def OpenSpec.upto (s : _root_.Go.ChangeSpec) : _root_.Go.OpenSpec := { _root_.Go.OpenSpec.ofChange s with cond := some uptoSmall }

/-- 'burnishlaw03.BitsStuffs', WHERE WHAT IT READS IS OF BULK AT MOST 1048576: true; the input reads as it did. -/
def bitsStuffsUptoRow : OpenClaim := { program := "ytkmgojoojboidaa", sum := "deef50399acac07ebd8604c23eabf190908d6b6094ae1fade7cc68f8222d1615", func := "burnish/burnishlaw03.BitsStuffs", spec := "bitsStuffs", apart := false, narrowed := true }
def BitsStuffsUptoSaid : Prop := bitsStuffsUptoRow.holds Try.pinned (OpenSpec.upto bitsStuffsSpec)

/-- 'burnishlaw03.BitsUnstuffs', WHERE WHAT IT READS IS OF BULK AT MOST 1048576: true; the input reads as it did. -/
def bitsUnstuffsUptoRow : OpenClaim := { program := "ytkmgojoojboidaa", sum := "deef50399acac07ebd8604c23eabf190908d6b6094ae1fade7cc68f8222d1615", func := "burnish/burnishlaw03.BitsUnstuffs", spec := "bitsUnstuffs", apart := false, narrowed := true }
def BitsUnstuffsUptoSaid : Prop := bitsUnstuffsUptoRow.holds Try.pinned (OpenSpec.upto bitsUnstuffsSpec)

/-- 'burnishlaw16.SampleWidens', WHERE WHAT IT READS IS OF BULK AT MOST 1048576: true; the input reads as it did. -/
def sampleWidensUptoRow : OpenClaim := { program := "ytkmgojoojboidaa", sum := "deef50399acac07ebd8604c23eabf190908d6b6094ae1fade7cc68f8222d1615", func := "burnish/burnishlaw16.SampleWidens", spec := "sampleWidens", apart := false, narrowed := true }
def SampleWidensUptoSaid : Prop := sampleWidensUptoRow.holds Try.pinned (OpenSpec.upto sampleWidensSpec)

/-- 'burnishlaw16.SampleDepths', WHERE WHAT IT READS IS OF BULK AT MOST 1048576: true; the input reads as it did. -/
def sampleDepthsUptoRow : OpenClaim := { program := "ytkmgojoojboidaa", sum := "deef50399acac07ebd8604c23eabf190908d6b6094ae1fade7cc68f8222d1615", func := "burnish/burnishlaw16.SampleDepths", spec := "sampleDepths", unfollowed := true, recurses := true, apart := false, narrowed := true }
def SampleDepthsUptoSaid : Prop := sampleDepthsUptoRow.holds Try.pinned (OpenSpec.upto sampleDepthsSpec)

/-- 'burnishlaw03.BitsWrites', WHERE WHAT IT READS IS OF BULK AT MOST 1048576: true; the input reads as it did. -/
def bitsWritesUptoRow : OpenClaim := { program := "ytkmgojoojboidaa", sum := "deef50399acac07ebd8604c23eabf190908d6b6094ae1fade7cc68f8222d1615", func := "burnish/burnishlaw03.BitsWrites", spec := "bitsWrites", apart := false, narrowed := true }
def BitsWritesUptoSaid : Prop := bitsWritesUptoRow.holds Try.pinned (OpenSpec.upto bitsWritesSpec)

/-- 'burnishlaw16.SampleUnpacks', WHERE WHAT IT READS IS OF BULK AT MOST 1048576: true; the input reads as it did. -/
def sampleUnpacksUptoRow : OpenClaim := { program := "ytkmgojoojboidaa", sum := "deef50399acac07ebd8604c23eabf190908d6b6094ae1fade7cc68f8222d1615", func := "burnish/burnishlaw16.SampleUnpacks", spec := "sampleUnpacks", apart := false, narrowed := true }
def SampleUnpacksUptoSaid : Prop := sampleUnpacksUptoRow.holds Try.pinned (OpenSpec.upto sampleUnpacksSpec)

/-- 'burnishlaw03.BitsReads', WHERE WHAT IT READS IS OF BULK AT MOST 1048576: true; the input reads as it did. -/
def bitsReadsUptoRow : OpenClaim := { program := "ytkmgojoojboidaa", sum := "deef50399acac07ebd8604c23eabf190908d6b6094ae1fade7cc68f8222d1615", func := "burnish/burnishlaw03.BitsReads", spec := "bitsReads", apart := false, narrowed := true }
def BitsReadsUptoSaid : Prop := bitsReadsUptoRow.holds Try.pinned (OpenSpec.upto bitsReadsSpec)

/-- 'burnishlaw03.BitsNone', WHERE WHAT IT READS IS OF BULK AT MOST 1048576: true; the input reads as it did. -/
def bitsNoneUptoRow : OpenClaim := { program := "ytkmgojoojboidaa", sum := "deef50399acac07ebd8604c23eabf190908d6b6094ae1fade7cc68f8222d1615", func := "burnish/burnishlaw03.BitsNone", spec := "bitsNone", apart := false, narrowed := true }
def BitsNoneUptoSaid : Prop := bitsNoneUptoRow.holds Try.pinned (OpenSpec.upto bitsNoneSpec)

/-- 'burnishlaw16.SamplePacks', WHERE WHAT IT READS IS OF BULK AT MOST 1048576: true; the input reads as it did. -/
def samplePacksUptoRow : OpenClaim := { program := "ytkmgojoojboidaa", sum := "deef50399acac07ebd8604c23eabf190908d6b6094ae1fade7cc68f8222d1615", func := "burnish/burnishlaw16.SamplePacks", spec := "samplePacks", apart := false, narrowed := true }
def SamplePacksUptoSaid : Prop := samplePacksUptoRow.holds Try.pinned (OpenSpec.upto samplePacksSpec)

/-- 'burnishlaw03.BitsBack', WHERE WHAT IT READS IS OF BULK AT MOST 1048576: true; the input reads as it did. -/
def bitsBackUptoRow : OpenClaim := { program := "ytkmgojoojboidaa", sum := "deef50399acac07ebd8604c23eabf190908d6b6094ae1fade7cc68f8222d1615", func := "burnish/burnishlaw03.BitsBack", spec := "bitsBack", apart := false, narrowed := true }
def BitsBackUptoSaid : Prop := bitsBackUptoRow.holds Try.pinned (OpenSpec.upto bitsBackSpec)

/-- 'burnishlaw16.SampleBack', WHERE WHAT IT READS IS OF BULK AT MOST 1048576: true; the input reads as it did. -/
def sampleBackUptoRow : OpenClaim := { program := "ytkmgojoojboidaa", sum := "deef50399acac07ebd8604c23eabf190908d6b6094ae1fade7cc68f8222d1615", func := "burnish/burnishlaw16.SampleBack", spec := "sampleBack", apart := false, narrowed := true }
def SampleBackUptoSaid : Prop := sampleBackUptoRow.holds Try.pinned (OpenSpec.upto sampleBackSpec)

end Rows
end Go.Proofs.Ytkmgojoojboidaa
