/-
  No cell of these rows narrows 'for every input' (looked for: loops, veiled, ifaces, maps, wideKeys, modest, calm, conditions, laid).
  DERIVED. THE GIVEN ROWS OF THIS SEAT. 4 by the template 'for every input the law returns true; each argument reads behind the call as it read before'; 0 by the template 'total and deterministic' (their statements: YtpfjikkpfnmepaaTotals.lean).
  GIVEN WITH THE SEED: the statements are not yours to turn. If you find one false, say at which input.
  Laid BY PROGRAM, IN A SANDBOX (cutbox-rows.mjs): the forced cells as the released guide's own fill.sh prints them over the translation 6cd58b7741747e26… (all of the seat's roots in one cut). By AI agents, Wed Nov 11 2026. No macro, syntax, notation, axiom, sorry.
-/
import Derived.Test.YtpfjikkpfnmepaaChecked
import GoSem.Claim
import GoSem.ClaimJoined
import GoSem.ClaimMapViews
import Derived.JoinedTies
import Derived.KernelRfl
namespace Go.Proofs.Ytpfjikkpfnmepaa
/- THE CELL 'sum', in the pinned program and in every row, IS THE sha256 OF THE DUMP (.gsa) THAT YtpfjikkpfnmepaaProg.lean LOADS. Nothing in Lean hashes anything: it is a label: what it is worth is what the hold of that sum in a sandbox is worth. -/
noncomputable def Try.pinned : Pinned := { name := "ytpfjikkpfnmepaa", sum := "6cd58b7741747e26806072db8b598bef161b5958658985a0d8b9697cc1eacd8d", checked := Try.checked }
namespace Rows
def none {H : Type} : Left H := { results := [], args := [] }

/-- 'ambrylaw19.BlobCuts': WHATEVER THE INPUT: true; the input reads as it did. -/
def blobCutsSpec : ChangeSpec := { name := "blobCuts", fn := fun _ => fun
  | [d1, d2, d3, d4] => { results := [.lit (.bool true)], args := [d1, d2, d3, d4] }
  | _ => none }
def blobCutsRow : OpenClaim := { program := "ytpfjikkpfnmepaa", sum := "6cd58b7741747e26806072db8b598bef161b5958658985a0d8b9697cc1eacd8d", func := "ambry/ambrylaw19.BlobCuts", spec := "blobCuts", inPlace := ["internal/abi.NoEscape", "internal/bytealg.MakeNoZero", "math.Float64bits", "math.Float64frombits"], apart := false }
def BlobCutsSaid : Prop := blobCutsRow.holds Try.pinned (OpenSpec.ofChange blobCutsSpec)

/-- ITS FALSE NEIGHBOUR: 'it returns false'. Refute it at one input. -/
def blobCutsWrong : ChangeSpec := { name := "blobCuts", fn := fun _ => fun
  | [d1, d2, d3, d4] => { results := [.lit (.bool false)], args := [d1, d2, d3, d4] }
  | _ => none }
def BlobCutsWrongFalsely : Prop := blobCutsRow.holds Try.pinned (OpenSpec.ofChange blobCutsWrong)

/-- 'ambrylaw19.BlobNeeds': WHATEVER THE INPUT: true; the input reads as it did. -/
def blobNeedsSpec : ChangeSpec := { name := "blobNeeds", fn := fun _ => fun
  | [d1, d2, d3, d4, d5] => { results := [.lit (.bool true)], args := [d1, d2, d3, d4, d5] }
  | _ => none }
def blobNeedsRow : OpenClaim := { program := "ytpfjikkpfnmepaa", sum := "6cd58b7741747e26806072db8b598bef161b5958658985a0d8b9697cc1eacd8d", func := "ambry/ambrylaw19.BlobNeeds", spec := "blobNeeds", inPlace := ["internal/abi.NoEscape", "internal/bytealg.MakeNoZero"], apart := false }
def BlobNeedsSaid : Prop := blobNeedsRow.holds Try.pinned (OpenSpec.ofChange blobNeedsSpec)

/-- ITS FALSE NEIGHBOUR: 'it returns false'. Refute it at one input. -/
def blobNeedsWrong : ChangeSpec := { name := "blobNeeds", fn := fun _ => fun
  | [d1, d2, d3, d4, d5] => { results := [.lit (.bool false)], args := [d1, d2, d3, d4, d5] }
  | _ => none }
def BlobNeedsWrongFalsely : Prop := blobNeedsRow.holds Try.pinned (OpenSpec.ofChange blobNeedsWrong)

/-- 'ambrylaw19.BlobBack': WHATEVER THE INPUT: true; the input reads as it did. -/
def blobBackSpec : ChangeSpec := { name := "blobBack", fn := fun _ => fun
  | [d1, d2] => { results := [.lit (.bool true)], args := [d1, d2] }
  | _ => none }
def blobBackRow : OpenClaim := { program := "ytpfjikkpfnmepaa", sum := "6cd58b7741747e26806072db8b598bef161b5958658985a0d8b9697cc1eacd8d", func := "ambry/ambrylaw19.BlobBack", spec := "blobBack", inPlace := ["math.Float64bits", "math.Float64frombits", "internal/abi.NoEscape", "internal/bytealg.MakeNoZero"], apart := false }
def BlobBackSaid : Prop := blobBackRow.holds Try.pinned (OpenSpec.ofChange blobBackSpec)

/-- ITS FALSE NEIGHBOUR: 'it returns false'. Refute it at one input. -/
def blobBackWrong : ChangeSpec := { name := "blobBack", fn := fun _ => fun
  | [d1, d2] => { results := [.lit (.bool false)], args := [d1, d2] }
  | _ => none }
def BlobBackWrongFalsely : Prop := blobBackRow.holds Try.pinned (OpenSpec.ofChange blobBackWrong)

/-- 'ambrylaw19.BlobPieces': WHATEVER THE INPUT: true; the input reads as it did. -/
def blobPiecesSpec : ChangeSpec := { name := "blobPieces", fn := fun _ => fun
  | [d1, d2, d3] => { results := [.lit (.bool true)], args := [d1, d2, d3] }
  | _ => none }
def blobPiecesRow : OpenClaim := { program := "ytpfjikkpfnmepaa", sum := "6cd58b7741747e26806072db8b598bef161b5958658985a0d8b9697cc1eacd8d", func := "ambry/ambrylaw19.BlobPieces", spec := "blobPieces", inPlace := ["internal/abi.NoEscape", "internal/bytealg.MakeNoZero"], apart := false }
def BlobPiecesSaid : Prop := blobPiecesRow.holds Try.pinned (OpenSpec.ofChange blobPiecesSpec)

/-- ITS FALSE NEIGHBOUR: 'it returns false'. Refute it at one input. -/
def blobPiecesWrong : ChangeSpec := { name := "blobPieces", fn := fun _ => fun
  | [d1, d2, d3] => { results := [.lit (.bool false)], args := [d1, d2, d3] }
  | _ => none }
def BlobPiecesWrongFalsely : Prop := blobPiecesRow.holds Try.pinned (OpenSpec.ofChange blobPiecesWrong)

/- THE SECOND FORM. 'bulk': how many values and letters a reading holds, each counted each time it is reached (what is shared counts as often as it is met; a slice's spare places count too). A statement '..UptoSaid' is the law's where the arguments, and the package variables that the reading takes, are together of bulk at most 1048576: NARROWER than '..Said'. Prove '..Said' where nothing that the law and all that it calls make is longer than what came in: it says more and counts as full. Else prove '..UptoSaid'. A law counts once. -/
mutual
def uptoBulk {H : Type} : DataW H → Nat
  | .lit (.string bytes) => bytes.length + 1
  | .lit _ => 1
  | .nil => 1
  | .ptr d => uptoBulk d + 1
  | .slice elems spare => uptoBulkAll elems + uptoBulkAll spare + 1
  | .agg parts => uptoBulkAll parts + 1
  | .iface _ d => uptoBulk d + 1
  | .map entries => uptoBulkEntries entries + 1
  | .held _ => 1
def uptoBulkAll {H : Type} : List (DataW H) → Nat
  | [] => 0
  | d :: r => uptoBulk d + uptoBulkAll r
def uptoBulkEntries {H : Type} : List (Lit × DataW H) → Nat
  | [] => 0
  | x :: r => uptoBulkEntry x + uptoBulkEntries r
def uptoBulkEntry {H : Type} : Lit × DataW H → Nat
  | (.string bytes, d) => bytes.length + uptoBulk d + 1
  | (_, d) => uptoBulk d + 1
 end
def uptoSmall : (H : Type) → List (DataW H) → Bool := fun _ ds => decide (uptoBulkAll ds ≤ 1048576)
def OpenSpec.upto (s : _root_.Go.ChangeSpec) : _root_.Go.OpenSpec := { _root_.Go.OpenSpec.ofChange s with cond := some uptoSmall }

/-- 'ambrylaw19.BlobCuts', WHERE WHAT IT READS IS OF BULK AT MOST 1048576: true; the input reads as it did. -/
def blobCutsUptoRow : OpenClaim := { program := "ytpfjikkpfnmepaa", sum := "6cd58b7741747e26806072db8b598bef161b5958658985a0d8b9697cc1eacd8d", func := "ambry/ambrylaw19.BlobCuts", spec := "blobCuts", inPlace := ["internal/abi.NoEscape", "internal/bytealg.MakeNoZero", "math.Float64bits", "math.Float64frombits"], apart := false, narrowed := true }
def BlobCutsUptoSaid : Prop := blobCutsUptoRow.holds Try.pinned (OpenSpec.upto blobCutsSpec)

/-- 'ambrylaw19.BlobNeeds', WHERE WHAT IT READS IS OF BULK AT MOST 1048576: true; the input reads as it did. -/
def blobNeedsUptoRow : OpenClaim := { program := "ytpfjikkpfnmepaa", sum := "6cd58b7741747e26806072db8b598bef161b5958658985a0d8b9697cc1eacd8d", func := "ambry/ambrylaw19.BlobNeeds", spec := "blobNeeds", inPlace := ["internal/abi.NoEscape", "internal/bytealg.MakeNoZero"], apart := false, narrowed := true }
def BlobNeedsUptoSaid : Prop := blobNeedsUptoRow.holds Try.pinned (OpenSpec.upto blobNeedsSpec)

/-- 'ambrylaw19.BlobBack', WHERE WHAT IT READS IS OF BULK AT MOST 1048576: true; the input reads as it did. -/
def blobBackUptoRow : OpenClaim := { program := "ytpfjikkpfnmepaa", sum := "6cd58b7741747e26806072db8b598bef161b5958658985a0d8b9697cc1eacd8d", func := "ambry/ambrylaw19.BlobBack", spec := "blobBack", inPlace := ["math.Float64bits", "math.Float64frombits", "internal/abi.NoEscape", "internal/bytealg.MakeNoZero"], apart := false, narrowed := true }
def BlobBackUptoSaid : Prop := blobBackUptoRow.holds Try.pinned (OpenSpec.upto blobBackSpec)

/-- 'ambrylaw19.BlobPieces', WHERE WHAT IT READS IS OF BULK AT MOST 1048576: true; the input reads as it did. -/
def blobPiecesUptoRow : OpenClaim := { program := "ytpfjikkpfnmepaa", sum := "6cd58b7741747e26806072db8b598bef161b5958658985a0d8b9697cc1eacd8d", func := "ambry/ambrylaw19.BlobPieces", spec := "blobPieces", inPlace := ["internal/abi.NoEscape", "internal/bytealg.MakeNoZero"], apart := false, narrowed := true }
def BlobPiecesUptoSaid : Prop := blobPiecesUptoRow.holds Try.pinned (OpenSpec.upto blobPiecesSpec)

end Rows
end Go.Proofs.Ytpfjikkpfnmepaa
