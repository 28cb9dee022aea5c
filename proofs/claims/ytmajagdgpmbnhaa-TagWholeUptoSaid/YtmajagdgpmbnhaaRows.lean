/-
  No cell of these rows narrows 'for every input' (looked for: loops, veiled, ifaces, maps, wideKeys, modest, calm, conditions, laid).
  DERIVED. THE GIVEN ROWS OF THIS SEAT. 8 by the template 'for every input the law returns true; each argument reads behind the call as it read before'; 0 by the template 'total and deterministic' (their statements: YtmajagdgpmbnhaaTotals.lean).
  GIVEN WITH THE SEED: the statements are not yours to turn. If you find one false, say at which input.
  Laid BY PROGRAM, IN A SANDBOX (cutbox-rows.mjs): the forced cells as the released guide's own fill.sh prints them over the translation 33c10bd222d4c206… (all of the seat's roots in one cut). By AI agents, Wed Nov 11 2026. No macro, syntax, notation, axiom, sorry.
-/
import Derived.Test.YtmajagdgpmbnhaaChecked
import GoSem.Claim
import GoSem.ClaimJoined
import GoSem.ClaimMapViews
import Derived.JoinedTies
import Derived.KernelRfl
namespace Go.Proofs.Ytmajagdgpmbnhaa
/- THE CELL 'sum', in the pinned program and in every row, IS THE sha256 OF THE DUMP (.gsa) THAT YtmajagdgpmbnhaaProg.lean LOADS. Nothing in Lean hashes anything: it is a label: what it is worth is what the hold of that sum in a sandbox is worth. -/
noncomputable def Try.pinned : Pinned := { name := "ytmajagdgpmbnhaa", sum := "33c10bd222d4c206c1d0e13efdf7e3eadd536a6e6829d9eba435d88852a491d0", checked := Try.checked }
namespace Rows
def none {H : Type} : Left H := { results := [], args := [] }

/-- 'ambrylaw03.TagSums': WHATEVER THE INPUT: true; the input reads as it did. -/
def tagSumsSpec : ChangeSpec := { name := "tagSums", fn := fun _ => fun
  | [d] => { results := [.lit (.bool true)], args := [d] }
  | _ => none }
def tagSumsRow : OpenClaim := { program := "ytmajagdgpmbnhaa", sum := "33c10bd222d4c206c1d0e13efdf7e3eadd536a6e6829d9eba435d88852a491d0", func := "ambry/ambrylaw03.TagSums", spec := "tagSums", inPlace := ["math.Float64bits", "math.Float64frombits"], apart := false }
def TagSumsSaid : Prop := tagSumsRow.holds Try.pinned (OpenSpec.ofChange tagSumsSpec)

/-- ITS FALSE NEIGHBOUR: 'it returns false'. Refute it at one input. -/
def tagSumsWrong : ChangeSpec := { name := "tagSums", fn := fun _ => fun
  | [d] => { results := [.lit (.bool false)], args := [d] }
  | _ => none }
def TagSumsWrongFalsely : Prop := tagSumsRow.holds Try.pinned (OpenSpec.ofChange tagSumsWrong)

/-- 'ambrylaw03.TagBodies': WHATEVER THE INPUT: true; the input reads as it did. -/
def tagBodiesSpec : ChangeSpec := { name := "tagBodies", fn := fun _ => fun
  | [d] => { results := [.lit (.bool true)], args := [d] }
  | _ => none }
def tagBodiesRow : OpenClaim := { program := "ytmajagdgpmbnhaa", sum := "33c10bd222d4c206c1d0e13efdf7e3eadd536a6e6829d9eba435d88852a491d0", func := "ambry/ambrylaw03.TagBodies", spec := "tagBodies", inPlace := ["math.Float64bits", "math.Float64frombits"], apart := false }
def TagBodiesSaid : Prop := tagBodiesRow.holds Try.pinned (OpenSpec.ofChange tagBodiesSpec)

/-- ITS FALSE NEIGHBOUR: 'it returns false'. Refute it at one input. -/
def tagBodiesWrong : ChangeSpec := { name := "tagBodies", fn := fun _ => fun
  | [d] => { results := [.lit (.bool false)], args := [d] }
  | _ => none }
def TagBodiesWrongFalsely : Prop := tagBodiesRow.holds Try.pinned (OpenSpec.ofChange tagBodiesWrong)

/-- 'ambrylaw03.TagTurned': WHATEVER THE INPUT: true; the input reads as it did. -/
def tagTurnedSpec : ChangeSpec := { name := "tagTurned", fn := fun _ => fun
  | [d1, d2, d3] => { results := [.lit (.bool true)], args := [d1, d2, d3] }
  | _ => none }
def tagTurnedRow : OpenClaim := { program := "ytmajagdgpmbnhaa", sum := "33c10bd222d4c206c1d0e13efdf7e3eadd536a6e6829d9eba435d88852a491d0", func := "ambry/ambrylaw03.TagTurned", spec := "tagTurned", inPlace := ["math.Float64bits", "math.Float64frombits"], apart := false }
def TagTurnedSaid : Prop := tagTurnedRow.holds Try.pinned (OpenSpec.ofChange tagTurnedSpec)

/-- ITS FALSE NEIGHBOUR: 'it returns false'. Refute it at one input. -/
def tagTurnedWrong : ChangeSpec := { name := "tagTurned", fn := fun _ => fun
  | [d1, d2, d3] => { results := [.lit (.bool false)], args := [d1, d2, d3] }
  | _ => none }
def TagTurnedWrongFalsely : Prop := tagTurnedRow.holds Try.pinned (OpenSpec.ofChange tagTurnedWrong)

/-- 'ambrylaw03.TagJoined': WHATEVER THE INPUT: true; the input reads as it did. -/
def tagJoinedSpec : ChangeSpec := { name := "tagJoined", fn := fun _ => fun
  | [d1, d2, d3] => { results := [.lit (.bool true)], args := [d1, d2, d3] }
  | _ => none }
def tagJoinedRow : OpenClaim := { program := "ytmajagdgpmbnhaa", sum := "33c10bd222d4c206c1d0e13efdf7e3eadd536a6e6829d9eba435d88852a491d0", func := "ambry/ambrylaw03.TagJoined", spec := "tagJoined", inPlace := ["math.Float64bits", "math.Float64frombits"], apart := false }
def TagJoinedSaid : Prop := tagJoinedRow.holds Try.pinned (OpenSpec.ofChange tagJoinedSpec)

/-- ITS FALSE NEIGHBOUR: 'it returns false'. Refute it at one input. -/
def tagJoinedWrong : ChangeSpec := { name := "tagJoined", fn := fun _ => fun
  | [d1, d2, d3] => { results := [.lit (.bool false)], args := [d1, d2, d3] }
  | _ => none }
def TagJoinedWrongFalsely : Prop := tagJoinedRow.holds Try.pinned (OpenSpec.ofChange tagJoinedWrong)

/-- 'ambrylaw03.TagWhole': WHATEVER THE INPUT: true; the input reads as it did. -/
def tagWholeSpec : ChangeSpec := { name := "tagWhole", fn := fun _ => fun
  | [d1, d2] => { results := [.lit (.bool true)], args := [d1, d2] }
  | _ => none }
def tagWholeRow : OpenClaim := { program := "ytmajagdgpmbnhaa", sum := "33c10bd222d4c206c1d0e13efdf7e3eadd536a6e6829d9eba435d88852a491d0", func := "ambry/ambrylaw03.TagWhole", spec := "tagWhole", inPlace := ["math.Float64bits", "math.Float64frombits"], apart := false }
def TagWholeSaid : Prop := tagWholeRow.holds Try.pinned (OpenSpec.ofChange tagWholeSpec)

/-- ITS FALSE NEIGHBOUR: 'it returns false'. Refute it at one input. -/
def tagWholeWrong : ChangeSpec := { name := "tagWhole", fn := fun _ => fun
  | [d1, d2] => { results := [.lit (.bool false)], args := [d1, d2] }
  | _ => none }
def TagWholeWrongFalsely : Prop := tagWholeRow.holds Try.pinned (OpenSpec.ofChange tagWholeWrong)

/-- 'ambrylaw03.TagOrder': WHATEVER THE INPUT: true; the input reads as it did. -/
def tagOrderSpec : ChangeSpec := { name := "tagOrder", fn := fun _ => fun
  | [d1, d2, d3, d4, d5] => { results := [.lit (.bool true)], args := [d1, d2, d3, d4, d5] }
  | _ => none }
def tagOrderRow : OpenClaim := { program := "ytmajagdgpmbnhaa", sum := "33c10bd222d4c206c1d0e13efdf7e3eadd536a6e6829d9eba435d88852a491d0", func := "ambry/ambrylaw03.TagOrder", spec := "tagOrder", inPlace := ["math.Float64bits", "math.Float64frombits"], apart := false }
def TagOrderSaid : Prop := tagOrderRow.holds Try.pinned (OpenSpec.ofChange tagOrderSpec)

/-- ITS FALSE NEIGHBOUR: 'it returns false'. Refute it at one input. -/
def tagOrderWrong : ChangeSpec := { name := "tagOrder", fn := fun _ => fun
  | [d1, d2, d3, d4, d5] => { results := [.lit (.bool false)], args := [d1, d2, d3, d4, d5] }
  | _ => none }
def TagOrderWrongFalsely : Prop := tagOrderRow.holds Try.pinned (OpenSpec.ofChange tagOrderWrong)

/-- 'ambrylaw03.TagTexts': WHATEVER THE INPUT: true; the input reads as it did. -/
def tagTextsSpec : ChangeSpec := { name := "tagTexts", fn := fun _ => fun
  | [d1, d2] => { results := [.lit (.bool true)], args := [d1, d2] }
  | _ => none }
def tagTextsRow : OpenClaim := { program := "ytmajagdgpmbnhaa", sum := "33c10bd222d4c206c1d0e13efdf7e3eadd536a6e6829d9eba435d88852a491d0", func := "ambry/ambrylaw03.TagTexts", spec := "tagTexts", inPlace := ["math.Float64bits", "math.Float64frombits"], apart := false }
def TagTextsSaid : Prop := tagTextsRow.holds Try.pinned (OpenSpec.ofChange tagTextsSpec)

/-- ITS FALSE NEIGHBOUR: 'it returns false'. Refute it at one input. -/
def tagTextsWrong : ChangeSpec := { name := "tagTexts", fn := fun _ => fun
  | [d1, d2] => { results := [.lit (.bool false)], args := [d1, d2] }
  | _ => none }
def TagTextsWrongFalsely : Prop := tagTextsRow.holds Try.pinned (OpenSpec.ofChange tagTextsWrong)

/-- 'ambrylaw03.TagBack': WHATEVER THE INPUT: true; the input reads as it did. -/
def tagBackSpec : ChangeSpec := { name := "tagBack", fn := fun _ => fun
  | [d1, d2] => { results := [.lit (.bool true)], args := [d1, d2] }
  | _ => none }
def tagBackRow : OpenClaim := { program := "ytmajagdgpmbnhaa", sum := "33c10bd222d4c206c1d0e13efdf7e3eadd536a6e6829d9eba435d88852a491d0", func := "ambry/ambrylaw03.TagBack", spec := "tagBack", inPlace := ["math.Float64bits", "math.Float64frombits"], apart := false }
def TagBackSaid : Prop := tagBackRow.holds Try.pinned (OpenSpec.ofChange tagBackSpec)

/-- ITS FALSE NEIGHBOUR: 'it returns false'. Refute it at one input. -/
def tagBackWrong : ChangeSpec := { name := "tagBack", fn := fun _ => fun
  | [d1, d2] => { results := [.lit (.bool false)], args := [d1, d2] }
  | _ => none }
def TagBackWrongFalsely : Prop := tagBackRow.holds Try.pinned (OpenSpec.ofChange tagBackWrong)

/- THE SECOND FORM. 'bulk': how many values and letters a reading holds, each counted each time it is reached (what is shared counts as often as it is met; a slice's spare places count too). A statement '..UptoSaid' is the law's where the arguments, and the package variables that the reading takes, are together of bulk at most 1048576: NARROWER than '..Said'. Prove '..Said' where nothing that the law and all that it calls make is longer than what came in: it says more and counts as full. Else prove '..UptoSaid'. A law counts once. -/
mutual
def uptoBulk {H : Type} : DataW H → Nat
  | .lit (.string bytes) => bytes.length + 1
  | .lit _ => 1
  | .nil => 1
  | .ptr d => uptoBulk d + 1
  | .slice elems spare => uptoBulkAll elems + uptoBulkAll spare + 1
  | .agg parts => uptoBulkAll parts + 1
  | .iface _ d => uptoBulk d + 1
  | .map entries => uptoBulkEntries entries + 1
  | .held _ => 1
def uptoBulkAll {H : Type} : List (DataW H) → Nat
  | [] => 0
  | d :: r => uptoBulk d + uptoBulkAll r
def uptoBulkEntries {H : Type} : List (Lit × DataW H) → Nat
  | [] => 0
  | x :: r => uptoBulkEntry x + uptoBulkEntries r
def uptoBulkEntry {H : Type} : Lit × DataW H → Nat
  | (.string bytes, d) => bytes.length + uptoBulk d + 1
  | (_, d) => uptoBulk d + 1
 end
def uptoSmall : (H : Type) → List (DataW H) → Bool := fun _ ds => decide (uptoBulkAll ds ≤ 1048576)
def OpenSpec.upto (s : _root_.Go.ChangeSpec) : _root_.Go.OpenSpec := { _root_.Go.OpenSpec.ofChange s with cond := some uptoSmall }

/-- 'ambrylaw03.TagSums', WHERE WHAT IT READS IS OF BULK AT MOST 1048576: true; the input reads as it did. -/
def tagSumsUptoRow : OpenClaim := { program := "ytmajagdgpmbnhaa", sum := "33c10bd222d4c206c1d0e13efdf7e3eadd536a6e6829d9eba435d88852a491d0", func := "ambry/ambrylaw03.TagSums", spec := "tagSums", inPlace := ["math.Float64bits", "math.Float64frombits"], apart := false, narrowed := true }
def TagSumsUptoSaid : Prop := tagSumsUptoRow.holds Try.pinned (OpenSpec.upto tagSumsSpec)

/-- 'ambrylaw03.TagBodies', WHERE WHAT IT READS IS OF BULK AT MOST 1048576: true; the input reads as it did. -/
def tagBodiesUptoRow : OpenClaim := { program := "ytmajagdgpmbnhaa", sum := "33c10bd222d4c206c1d0e13efdf7e3eadd536a6e6829d9eba435d88852a491d0", func := "ambry/ambrylaw03.TagBodies", spec := "tagBodies", inPlace := ["math.Float64bits", "math.Float64frombits"], apart := false, narrowed := true }
def TagBodiesUptoSaid : Prop := tagBodiesUptoRow.holds Try.pinned (OpenSpec.upto tagBodiesSpec)

/-- 'ambrylaw03.TagTurned', WHERE WHAT IT READS IS OF BULK AT MOST 1048576: true; the input reads as it did. -/
def tagTurnedUptoRow : OpenClaim := { program := "ytmajagdgpmbnhaa", sum := "33c10bd222d4c206c1d0e13efdf7e3eadd536a6e6829d9eba435d88852a491d0", func := "ambry/ambrylaw03.TagTurned", spec := "tagTurned", inPlace := ["math.Float64bits", "math.Float64frombits"], apart := false, narrowed := true }
def TagTurnedUptoSaid : Prop := tagTurnedUptoRow.holds Try.pinned (OpenSpec.upto tagTurnedSpec)

/-- 'ambrylaw03.TagJoined', WHERE WHAT IT READS IS OF BULK AT MOST 1048576: true; the input reads as it did. -/
def tagJoinedUptoRow : OpenClaim := { program := "ytmajagdgpmbnhaa", sum := "33c10bd222d4c206c1d0e13efdf7e3eadd536a6e6829d9eba435d88852a491d0", func := "ambry/ambrylaw03.TagJoined", spec := "tagJoined", inPlace := ["math.Float64bits", "math.Float64frombits"], apart := false, narrowed := true }
def TagJoinedUptoSaid : Prop := tagJoinedUptoRow.holds Try.pinned (OpenSpec.upto tagJoinedSpec)

/-- 'ambrylaw03.TagWhole', WHERE WHAT IT READS IS OF BULK AT MOST 1048576: true; the input reads as it did. -/
def tagWholeUptoRow : OpenClaim := { program := "ytmajagdgpmbnhaa", sum := "33c10bd222d4c206c1d0e13efdf7e3eadd536a6e6829d9eba435d88852a491d0", func := "ambry/ambrylaw03.TagWhole", spec := "tagWhole", inPlace := ["math.Float64bits", "math.Float64frombits"], apart := false, narrowed := true }
def TagWholeUptoSaid : Prop := tagWholeUptoRow.holds Try.pinned (OpenSpec.upto tagWholeSpec)

/-- 'ambrylaw03.TagOrder', WHERE WHAT IT READS IS OF BULK AT MOST 1048576: true; the input reads as it did. -/
def tagOrderUptoRow : OpenClaim := { program := "ytmajagdgpmbnhaa", sum := "33c10bd222d4c206c1d0e13efdf7e3eadd536a6e6829d9eba435d88852a491d0", func := "ambry/ambrylaw03.TagOrder", spec := "tagOrder", inPlace := ["math.Float64bits", "math.Float64frombits"], apart := false, narrowed := true }
def TagOrderUptoSaid : Prop := tagOrderUptoRow.holds Try.pinned (OpenSpec.upto tagOrderSpec)

/-- 'ambrylaw03.TagTexts', WHERE WHAT IT READS IS OF BULK AT MOST 1048576: true; the input reads as it did. -/
def tagTextsUptoRow : OpenClaim := { program := "ytmajagdgpmbnhaa", sum := "33c10bd222d4c206c1d0e13efdf7e3eadd536a6e6829d9eba435d88852a491d0", func := "ambry/ambrylaw03.TagTexts", spec := "tagTexts", inPlace := ["math.Float64bits", "math.Float64frombits"], apart := false, narrowed := true }
def TagTextsUptoSaid : Prop := tagTextsUptoRow.holds Try.pinned (OpenSpec.upto tagTextsSpec)

/-- 'ambrylaw03.TagBack', WHERE WHAT IT READS IS OF BULK AT MOST 1048576: true; the input reads as it did. -/
def tagBackUptoRow : OpenClaim := { program := "ytmajagdgpmbnhaa", sum := "33c10bd222d4c206c1d0e13efdf7e3eadd536a6e6829d9eba435d88852a491d0", func := "ambry/ambrylaw03.TagBack", spec := "tagBack", inPlace := ["math.Float64bits", "math.Float64frombits"], apart := false, narrowed := true }
def TagBackUptoSaid : Prop := tagBackUptoRow.holds Try.pinned (OpenSpec.upto tagBackSpec)

end Rows
end Go.Proofs.Ytmajagdgpmbnhaa
