/-
  No cell of these rows narrows 'for every input' (looked for: loops, veiled, ifaces, maps, wideKeys, modest, calm, conditions, laid).
  DERIVED. THE GIVEN ROWS OF THIS SEAT. 6 by the template 'for every input the law returns true; each argument reads behind the call as it read before'; 0 by the template 'total and deterministic' (their statements: YtlokoepljmlcgaaTotals.lean).
  GIVEN WITH THE SEED: the statements are not yours to turn. If you find one false, say at which input.
  Laid BY PROGRAM, IN A SANDBOX (cutbox-rows.mjs): the forced cells as the released guide's own fill.sh prints them over the translation 41eb7fd4496fa32c… (all of the seat's roots in one cut). By AI agents, Wed Nov 11 2026. No macro, syntax, notation, axiom, sorry.
-/
import Derived.Test.YtlokoepljmlcgaaChecked
import GoSem.Claim
import GoSem.ClaimJoined
import GoSem.ClaimMapViews
import Derived.JoinedTies
import Derived.KernelRfl
namespace Go.Proofs.Ytlokoepljmlcgaa
/- THE CELL 'sum', in the pinned program and in every row, IS THE sha256 OF THE DUMP (.gsa) THAT YtlokoepljmlcgaaProg.lean LOADS. Nothing in Lean hashes anything: it is a label: what it is worth is what the hold of that sum in a sandbox is worth. -/
noncomputable def Try.pinned : Pinned := { name := "ytlokoepljmlcgaa", sum := "41eb7fd4496fa32c6eeeb499ed91f4f5b976adf050366012c73aab3a11edadbb", checked := Try.checked }
namespace Rows
def none {H : Type} : Left H := { results := [], args := [] }

/-- 'latticelaw02.LogicSums': WHATEVER THE INPUT: true; the input reads as it did. -/
def logicSumsSpec : ChangeSpec := { name := "logicSums", fn := fun _ => fun
  | [d] => { results := [.lit (.bool true)], args := [d] }
  | _ => none }
def logicSumsRow : OpenClaim := { program := "ytlokoepljmlcgaa", sum := "41eb7fd4496fa32c6eeeb499ed91f4f5b976adf050366012c73aab3a11edadbb", func := "lattice/latticelaw02.LogicSums", spec := "logicSums", inPlace := ["math/bits.Add64"], unfollowed := true, recurses := true, apart := false }
def LogicSumsSaid : Prop := logicSumsRow.holds Try.pinned (OpenSpec.ofChange logicSumsSpec)

/-- ITS FALSE NEIGHBOUR: 'it returns false'. Refute it at one input. -/
def logicSumsWrong : ChangeSpec := { name := "logicSums", fn := fun _ => fun
  | [d] => { results := [.lit (.bool false)], args := [d] }
  | _ => none }
def LogicSumsWrongFalsely : Prop := logicSumsRow.holds Try.pinned (OpenSpec.ofChange logicSumsWrong)

/-- 'latticelaw02.LogicRanges': WHATEVER THE INPUT: true; the input reads as it did. -/
def logicRangesSpec : ChangeSpec := { name := "logicRanges", fn := fun _ => fun
  | [d1, d2, d3] => { results := [.lit (.bool true)], args := [d1, d2, d3] }
  | _ => none }
def logicRangesRow : OpenClaim := { program := "ytlokoepljmlcgaa", sum := "41eb7fd4496fa32c6eeeb499ed91f4f5b976adf050366012c73aab3a11edadbb", func := "lattice/latticelaw02.LogicRanges", spec := "logicRanges", inPlace := ["math/bits.Add64"], unfollowed := true, recurses := true, apart := false }
def LogicRangesSaid : Prop := logicRangesRow.holds Try.pinned (OpenSpec.ofChange logicRangesSpec)

/-- ITS FALSE NEIGHBOUR: 'it returns false'. Refute it at one input. -/
def logicRangesWrong : ChangeSpec := { name := "logicRanges", fn := fun _ => fun
  | [d1, d2, d3] => { results := [.lit (.bool false)], args := [d1, d2, d3] }
  | _ => none }
def LogicRangesWrongFalsely : Prop := logicRangesRow.holds Try.pinned (OpenSpec.ofChange logicRangesWrong)

/-- 'latticelaw02.LogicParts': WHATEVER THE INPUT: true; the input reads as it did. -/
def logicPartsSpec : ChangeSpec := { name := "logicParts", fn := fun _ => fun
  | [d1, d2] => { results := [.lit (.bool true)], args := [d1, d2] }
  | _ => none }
def logicPartsRow : OpenClaim := { program := "ytlokoepljmlcgaa", sum := "41eb7fd4496fa32c6eeeb499ed91f4f5b976adf050366012c73aab3a11edadbb", func := "lattice/latticelaw02.LogicParts", spec := "logicParts", inPlace := ["math/bits.Add64"], unfollowed := true, recurses := true, apart := false }
def LogicPartsSaid : Prop := logicPartsRow.holds Try.pinned (OpenSpec.ofChange logicPartsSpec)

/-- ITS FALSE NEIGHBOUR: 'it returns false'. Refute it at one input. -/
def logicPartsWrong : ChangeSpec := { name := "logicParts", fn := fun _ => fun
  | [d1, d2] => { results := [.lit (.bool false)], args := [d1, d2] }
  | _ => none }
def LogicPartsWrongFalsely : Prop := logicPartsRow.holds Try.pinned (OpenSpec.ofChange logicPartsWrong)

/-- 'latticelaw02.LogicSame': WHATEVER THE INPUT: true; the input reads as it did. -/
def logicSameSpec : ChangeSpec := { name := "logicSame", fn := fun _ => fun
  | [d1, d2, d3] => { results := [.lit (.bool true)], args := [d1, d2, d3] }
  | _ => none }
def logicSameRow : OpenClaim := { program := "ytlokoepljmlcgaa", sum := "41eb7fd4496fa32c6eeeb499ed91f4f5b976adf050366012c73aab3a11edadbb", func := "lattice/latticelaw02.LogicSame", spec := "logicSame", inPlace := ["math/bits.Add64"], unfollowed := true, recurses := true, apart := false }
def LogicSameSaid : Prop := logicSameRow.holds Try.pinned (OpenSpec.ofChange logicSameSpec)

/-- ITS FALSE NEIGHBOUR: 'it returns false'. Refute it at one input. -/
def logicSameWrong : ChangeSpec := { name := "logicSame", fn := fun _ => fun
  | [d1, d2, d3] => { results := [.lit (.bool false)], args := [d1, d2, d3] }
  | _ => none }
def LogicSameWrongFalsely : Prop := logicSameRow.holds Try.pinned (OpenSpec.ofChange logicSameWrong)

/-- 'latticelaw02.LogicNumbers': WHATEVER THE INPUT: true; the input reads as it did. -/
def logicNumbersSpec : ChangeSpec := { name := "logicNumbers", fn := fun _ => fun
  | [d1, d2] => { results := [.lit (.bool true)], args := [d1, d2] }
  | _ => none }
def logicNumbersRow : OpenClaim := { program := "ytlokoepljmlcgaa", sum := "41eb7fd4496fa32c6eeeb499ed91f4f5b976adf050366012c73aab3a11edadbb", func := "lattice/latticelaw02.LogicNumbers", spec := "logicNumbers", inPlace := ["math/bits.Add64"], unfollowed := true, recurses := true, apart := false }
def LogicNumbersSaid : Prop := logicNumbersRow.holds Try.pinned (OpenSpec.ofChange logicNumbersSpec)

/-- ITS FALSE NEIGHBOUR: 'it returns false'. Refute it at one input. -/
def logicNumbersWrong : ChangeSpec := { name := "logicNumbers", fn := fun _ => fun
  | [d1, d2] => { results := [.lit (.bool false)], args := [d1, d2] }
  | _ => none }
def LogicNumbersWrongFalsely : Prop := logicNumbersRow.holds Try.pinned (OpenSpec.ofChange logicNumbersWrong)

/-- 'latticelaw02.LogicBack': WHATEVER THE INPUT: true; the input reads as it did. -/
def logicBackSpec : ChangeSpec := { name := "logicBack", fn := fun _ => fun
  | [d1, d2] => { results := [.lit (.bool true)], args := [d1, d2] }
  | _ => none }
def logicBackRow : OpenClaim := { program := "ytlokoepljmlcgaa", sum := "41eb7fd4496fa32c6eeeb499ed91f4f5b976adf050366012c73aab3a11edadbb", func := "lattice/latticelaw02.LogicBack", spec := "logicBack", inPlace := ["math/bits.Add64"], unfollowed := true, recurses := true, apart := false }
def LogicBackSaid : Prop := logicBackRow.holds Try.pinned (OpenSpec.ofChange logicBackSpec)

/-- ITS FALSE NEIGHBOUR: 'it returns false'. Refute it at one input. -/
def logicBackWrong : ChangeSpec := { name := "logicBack", fn := fun _ => fun
  | [d1, d2] => { results := [.lit (.bool false)], args := [d1, d2] }
  | _ => none }
def LogicBackWrongFalsely : Prop := logicBackRow.holds Try.pinned (OpenSpec.ofChange logicBackWrong)

/- THE SECOND FORM. 'bulk': how many values and letters a reading holds, each counted each time it is reached (what is shared counts as often as it is met; a slice's spare places count too). A statement '..UptoSaid' is the law's where the arguments, and the package variables that the reading takes, are together of bulk at most 1048576: NARROWER than '..Said'. Prove '..Said' where nothing that the law and all that it calls make is longer than what came in: it says more and counts as full. Else prove '..UptoSaid'. A law counts once. -/
mutual
def uptoBulk {H : Type} : DataW H → Nat
  | .lit (.string bytes) => bytes.length + 1
  | .lit _ => 1
  | .nil => 1
  | .ptr d => uptoBulk d + 1
  | .slice elems spare => uptoBulkAll elems + uptoBulkAll spare + 1
  | .agg parts => uptoBulkAll parts + 1
  | .iface _ d => uptoBulk d + 1
  | .map entries => uptoBulkEntries entries + 1
  | .held _ => 1
def uptoBulkAll {H : Type} : List (DataW H) → Nat
  | [] => 0
  | d :: r => uptoBulk d + uptoBulkAll r
def uptoBulkEntries {H : Type} : List (Lit × DataW H) → Nat
  | [] => 0
  | x :: r => uptoBulkEntry x + uptoBulkEntries r
def uptoBulkEntry {H : Type} : Lit × DataW H → Nat
  | (.string bytes, d) => bytes.length + uptoBulk d + 1
  | (_, d) => uptoBulk d + 1
 end
def uptoSmall : (H : Type) → List (DataW H) → Bool := fun _ ds => decide (uptoBulkAll ds ≤ 1048576)
def OpenSpec.upto (s : _root_.Go.ChangeSpec) : _root_.Go.OpenSpec := { _root_.Go.OpenSpec.ofChange s with cond := some uptoSmall }

/-- 'latticelaw02.LogicSums', WHERE WHAT IT READS IS OF BULK AT MOST 1048576: true; the input reads as it did. -/
def logicSumsUptoRow : OpenClaim := { program := "ytlokoepljmlcgaa", sum := "41eb7fd4496fa32c6eeeb499ed91f4f5b976adf050366012c73aab3a11edadbb", func := "lattice/latticelaw02.LogicSums", spec := "logicSums", inPlace := ["math/bits.Add64"], unfollowed := true, recurses := true, apart := false, narrowed := true }
def LogicSumsUptoSaid : Prop := logicSumsUptoRow.holds Try.pinned (OpenSpec.upto logicSumsSpec)

/-- 'latticelaw02.LogicRanges', WHERE WHAT IT READS IS OF BULK AT MOST 1048576: true; the input reads as it did. -/
def logicRangesUptoRow : OpenClaim := { program := "ytlokoepljmlcgaa", sum := "41eb7fd4496fa32c6eeeb499ed91f4f5b976adf050366012c73aab3a11edadbb", func := "lattice/latticelaw02.LogicRanges", spec := "logicRanges", inPlace := ["math/bits.Add64"], unfollowed := true, recurses := true, apart := false, narrowed := true }
def LogicRangesUptoSaid : Prop := logicRangesUptoRow.holds Try.pinned (OpenSpec.upto logicRangesSpec)

/-- 'latticelaw02.LogicParts', WHERE WHAT IT READS IS OF BULK AT MOST 1048576: true; the input reads as it did. -/
def logicPartsUptoRow : OpenClaim := { program := "ytlokoepljmlcgaa", sum := "41eb7fd4496fa32c6eeeb499ed91f4f5b976adf050366012c73aab3a11edadbb", func := "lattice/latticelaw02.LogicParts", spec := "logicParts", inPlace := ["math/bits.Add64"], unfollowed := true, recurses := true, apart := false, narrowed := true }
def LogicPartsUptoSaid : Prop := logicPartsUptoRow.holds Try.pinned (OpenSpec.upto logicPartsSpec)

/-- 'latticelaw02.LogicSame', WHERE WHAT IT READS IS OF BULK AT MOST 1048576: true; the input reads as it did. -/
def logicSameUptoRow : OpenClaim := { program := "ytlokoepljmlcgaa", sum := "41eb7fd4496fa32c6eeeb499ed91f4f5b976adf050366012c73aab3a11edadbb", func := "lattice/latticelaw02.LogicSame", spec := "logicSame", inPlace := ["math/bits.Add64"], unfollowed := true, recurses := true, apart := false, narrowed := true }
def LogicSameUptoSaid : Prop := logicSameUptoRow.holds Try.pinned (OpenSpec.upto logicSameSpec)

/-- 'latticelaw02.LogicNumbers', WHERE WHAT IT READS IS OF BULK AT MOST 1048576: true; the input reads as it did. -/
def logicNumbersUptoRow : OpenClaim := { program := "ytlokoepljmlcgaa", sum := "41eb7fd4496fa32c6eeeb499ed91f4f5b976adf050366012c73aab3a11edadbb", func := "lattice/latticelaw02.LogicNumbers", spec := "logicNumbers", inPlace := ["math/bits.Add64"], unfollowed := true, recurses := true, apart := false, narrowed := true }
def LogicNumbersUptoSaid : Prop := logicNumbersUptoRow.holds Try.pinned (OpenSpec.upto logicNumbersSpec)

/-- 'latticelaw02.LogicBack', WHERE WHAT IT READS IS OF BULK AT MOST 1048576: true; the input reads as it did. -/
def logicBackUptoRow : OpenClaim := { program := "ytlokoepljmlcgaa", sum := "41eb7fd4496fa32c6eeeb499ed91f4f5b976adf050366012c73aab3a11edadbb", func := "lattice/latticelaw02.LogicBack", spec := "logicBack", inPlace := ["math/bits.Add64"], unfollowed := true, recurses := true, apart := false, narrowed := true }
def LogicBackUptoSaid : Prop := logicBackUptoRow.holds Try.pinned (OpenSpec.upto logicBackSpec)

end Rows
end Go.Proofs.Ytlokoepljmlcgaa
