/-
  No cell of these rows narrows 'for every input' (looked for: loops, veiled, ifaces, maps, wideKeys, modest, calm, conditions, laid).
  DERIVED. THE GIVEN ROWS OF THIS SEAT. 7 by the template 'for every input the law returns true; each argument reads behind the call as it read before'; 0 by the template 'total and deterministic' (their statements: YtemiegbgnpcbiaaTotals.lean).
  GIVEN WITH THE SEED: the statements are not yours to turn. If you find one false, say at which input.
  Laid BY PROGRAM, IN A SANDBOX (cutbox-rows.mjs): the forced cells as the released guide's own fill.sh prints them over the translation a7da57a1563cb4ee… (all of the seat's roots in one cut). By AI agents, Wed Nov 11 2026. No macro, syntax, notation, axiom, sorry.
-/
import Derived.Test.YtemiegbgnpcbiaaChecked
import GoSem.Claim
import GoSem.ClaimJoined
import GoSem.ClaimMapViews
import Derived.JoinedTies
import Derived.KernelRfl
namespace Go.Proofs.Ytemiegbgnpcbiaa
/- THE CELL 'sum', in the pinned program and in every row, IS THE sha256 OF THE DUMP (.gsa) THAT YtemiegbgnpcbiaaProg.lean LOADS. Nothing in Lean hashes anything: it is a label: what it is worth is what the hold of that sum in a sandbox is worth. -/
noncomputable def Try.pinned : Pinned := { name := "ytemiegbgnpcbiaa", sum := "a7da57a1563cb4ee42e8793639c92cefa0793ca3daa4a4081e67d5b8db09e2cc", checked := Try.checked }
namespace Rows
def none {H : Type} : Left H := { results := [], args := [] }

/-- 'diacriticlaw22.LineCuts': WHATEVER THE INPUT: true; the input reads as it did. -/
def lineCutsSpec : ChangeSpec := { name := "lineCuts", fn := fun _ => fun
  | [d] => { results := [.lit (.bool true)], args := [d] }
  | _ => none }
def lineCutsRow : OpenClaim := { program := "ytemiegbgnpcbiaa", sum := "a7da57a1563cb4ee42e8793639c92cefa0793ca3daa4a4081e67d5b8db09e2cc", func := "diacritic/diacriticlaw22.LineCuts", spec := "lineCuts", inPlace := ["internal/abi.NoEscape", "internal/bytealg.MakeNoZero"], apart := false }
def LineCutsSaid : Prop := lineCutsRow.holds Try.pinned (OpenSpec.ofChange lineCutsSpec)

/-- ITS FALSE NEIGHBOUR: 'it returns false'. Refute it at one input. -/
def lineCutsWrong : ChangeSpec := { name := "lineCuts", fn := fun _ => fun
  | [d] => { results := [.lit (.bool false)], args := [d] }
  | _ => none }
def LineCutsWrongFalsely : Prop := lineCutsRow.holds Try.pinned (OpenSpec.ofChange lineCutsWrong)

/-- 'diacriticlaw22.LinePieces': WHATEVER THE INPUT: true; the input reads as it did. -/
def linePiecesSpec : ChangeSpec := { name := "linePieces", fn := fun _ => fun
  | [d1, d2] => { results := [.lit (.bool true)], args := [d1, d2] }
  | _ => none }
def linePiecesRow : OpenClaim := { program := "ytemiegbgnpcbiaa", sum := "a7da57a1563cb4ee42e8793639c92cefa0793ca3daa4a4081e67d5b8db09e2cc", func := "diacritic/diacriticlaw22.LinePieces", spec := "linePieces", inPlace := ["internal/abi.NoEscape", "internal/bytealg.MakeNoZero"], apart := false }
def LinePiecesSaid : Prop := linePiecesRow.holds Try.pinned (OpenSpec.ofChange linePiecesSpec)

/-- ITS FALSE NEIGHBOUR: 'it returns false'. Refute it at one input. -/
def linePiecesWrong : ChangeSpec := { name := "linePieces", fn := fun _ => fun
  | [d1, d2] => { results := [.lit (.bool false)], args := [d1, d2] }
  | _ => none }
def LinePiecesWrongFalsely : Prop := linePiecesRow.holds Try.pinned (OpenSpec.ofChange linePiecesWrong)

/-- 'diacriticlaw22.LineForms': WHATEVER THE INPUT: true; the input reads as it did. -/
def lineFormsSpec : ChangeSpec := { name := "lineForms", fn := fun _ => fun
  | [d1, d2] => { results := [.lit (.bool true)], args := [d1, d2] }
  | _ => none }
def lineFormsRow : OpenClaim := { program := "ytemiegbgnpcbiaa", sum := "a7da57a1563cb4ee42e8793639c92cefa0793ca3daa4a4081e67d5b8db09e2cc", func := "diacritic/diacriticlaw22.LineForms", spec := "lineForms", inPlace := ["internal/abi.NoEscape", "internal/bytealg.MakeNoZero"], apart := false }
def LineFormsSaid : Prop := lineFormsRow.holds Try.pinned (OpenSpec.ofChange lineFormsSpec)

/-- ITS FALSE NEIGHBOUR: 'it returns false'. Refute it at one input. -/
def lineFormsWrong : ChangeSpec := { name := "lineForms", fn := fun _ => fun
  | [d1, d2] => { results := [.lit (.bool false)], args := [d1, d2] }
  | _ => none }
def LineFormsWrongFalsely : Prop := lineFormsRow.holds Try.pinned (OpenSpec.ofChange lineFormsWrong)

/-- 'diacriticlaw24.SrtReads': WHATEVER THE INPUT: true; the input reads as it did. -/
def srtReadsSpec : ChangeSpec := { name := "srtReads", fn := fun _ => fun
  | [d] => { results := [.lit (.bool true)], args := [d] }
  | _ => none }
def srtReadsRow : OpenClaim := { program := "ytemiegbgnpcbiaa", sum := "a7da57a1563cb4ee42e8793639c92cefa0793ca3daa4a4081e67d5b8db09e2cc", func := "diacritic/diacriticlaw24.SrtReads", spec := "srtReads", inPlace := ["internal/abi.NoEscape", "internal/bytealg.MakeNoZero"], unfollowed := true, recurses := true, apart := false }
def SrtReadsSaid : Prop := srtReadsRow.holds Try.pinned (OpenSpec.ofChange srtReadsSpec)

/-- ITS FALSE NEIGHBOUR: 'it returns false'. Refute it at one input. -/
def srtReadsWrong : ChangeSpec := { name := "srtReads", fn := fun _ => fun
  | [d] => { results := [.lit (.bool false)], args := [d] }
  | _ => none }
def SrtReadsWrongFalsely : Prop := srtReadsRow.holds Try.pinned (OpenSpec.ofChange srtReadsWrong)

/-- 'diacriticlaw24.SrtCounts': WHATEVER THE INPUT: true; the input reads as it did. -/
def srtCountsSpec : ChangeSpec := { name := "srtCounts", fn := fun _ => fun
  | [d] => { results := [.lit (.bool true)], args := [d] }
  | _ => none }
def srtCountsRow : OpenClaim := { program := "ytemiegbgnpcbiaa", sum := "a7da57a1563cb4ee42e8793639c92cefa0793ca3daa4a4081e67d5b8db09e2cc", func := "diacritic/diacriticlaw24.SrtCounts", spec := "srtCounts", inPlace := ["internal/abi.NoEscape", "internal/bytealg.MakeNoZero"], unfollowed := true, recurses := true, apart := false }
def SrtCountsSaid : Prop := srtCountsRow.holds Try.pinned (OpenSpec.ofChange srtCountsSpec)

/-- ITS FALSE NEIGHBOUR: 'it returns false'. Refute it at one input. -/
def srtCountsWrong : ChangeSpec := { name := "srtCounts", fn := fun _ => fun
  | [d] => { results := [.lit (.bool false)], args := [d] }
  | _ => none }
def SrtCountsWrongFalsely : Prop := srtCountsRow.holds Try.pinned (OpenSpec.ofChange srtCountsWrong)

/-- 'diacriticlaw24.SrtBlocks': WHATEVER THE INPUT: true; the input reads as it did. -/
def srtBlocksSpec : ChangeSpec := { name := "srtBlocks", fn := fun _ => fun
  | [d1, d2] => { results := [.lit (.bool true)], args := [d1, d2] }
  | _ => none }
def srtBlocksRow : OpenClaim := { program := "ytemiegbgnpcbiaa", sum := "a7da57a1563cb4ee42e8793639c92cefa0793ca3daa4a4081e67d5b8db09e2cc", func := "diacritic/diacriticlaw24.SrtBlocks", spec := "srtBlocks", inPlace := ["internal/abi.NoEscape", "internal/bytealg.MakeNoZero"], unfollowed := true, recurses := true, apart := false }
def SrtBlocksSaid : Prop := srtBlocksRow.holds Try.pinned (OpenSpec.ofChange srtBlocksSpec)

/-- ITS FALSE NEIGHBOUR: 'it returns false'. Refute it at one input. -/
def srtBlocksWrong : ChangeSpec := { name := "srtBlocks", fn := fun _ => fun
  | [d1, d2] => { results := [.lit (.bool false)], args := [d1, d2] }
  | _ => none }
def SrtBlocksWrongFalsely : Prop := srtBlocksRow.holds Try.pinned (OpenSpec.ofChange srtBlocksWrong)

/-- 'diacriticlaw24.SrtTexts': WHATEVER THE INPUT: true; the input reads as it did. -/
def srtTextsSpec : ChangeSpec := { name := "srtTexts", fn := fun _ => fun
  | [d] => { results := [.lit (.bool true)], args := [d] }
  | _ => none }
def srtTextsRow : OpenClaim := { program := "ytemiegbgnpcbiaa", sum := "a7da57a1563cb4ee42e8793639c92cefa0793ca3daa4a4081e67d5b8db09e2cc", func := "diacritic/diacriticlaw24.SrtTexts", spec := "srtTexts", inPlace := ["internal/abi.NoEscape", "internal/bytealg.MakeNoZero"], unfollowed := true, recurses := true, apart := false }
def SrtTextsSaid : Prop := srtTextsRow.holds Try.pinned (OpenSpec.ofChange srtTextsSpec)

/-- ITS FALSE NEIGHBOUR: 'it returns false'. Refute it at one input. -/
def srtTextsWrong : ChangeSpec := { name := "srtTexts", fn := fun _ => fun
  | [d] => { results := [.lit (.bool false)], args := [d] }
  | _ => none }
def SrtTextsWrongFalsely : Prop := srtTextsRow.holds Try.pinned (OpenSpec.ofChange srtTextsWrong)

/- THE SECOND FORM. 'bulk': how many values and letters a reading holds, each counted each time it is reached (what is shared counts as often as it is met; a slice's spare places count too). A statement '..UptoSaid' is the law's where the arguments, and the package variables that the reading takes, are together of bulk at most 1048576: NARROWER than '..Said'. Prove '..Said' where nothing that the law and all that it calls make is longer than what came in: it says more and counts as full. Else prove '..UptoSaid'. A law counts once. -/
mutual
def uptoBulk {H : Type} : DataW H → Nat
  | .lit (.string bytes) => bytes.length + 1
  | .lit _ => 1
  | .nil => 1
  | .ptr d => uptoBulk d + 1
  | .slice elems spare => uptoBulkAll elems + uptoBulkAll spare + 1
  | .agg parts => uptoBulkAll parts + 1
  | .iface _ d => uptoBulk d + 1
  | .map entries => uptoBulkEntries entries + 1
  | .held _ => 1
def uptoBulkAll {H : Type} : List (DataW H) → Nat
  | [] => 0
  | d :: r => uptoBulk d + uptoBulkAll r
def uptoBulkEntries {H : Type} : List (Lit × DataW H) → Nat
  | [] => 0
  | x :: r => uptoBulkEntry x + uptoBulkEntries r
def uptoBulkEntry {H : Type} : Lit × DataW H → Nat
  | (.string bytes, d) => bytes.length + uptoBulk d + 1
  | (_, d) => uptoBulk d + 1
 end
def uptoSmall : (H : Type) → List (DataW H) → Bool := fun _ ds => decide (uptoBulkAll ds ≤ 1048576)
def OpenSpec.upto (s : _root_.Go.ChangeSpec) : _root_.Go.OpenSpec := { _root_.Go.OpenSpec.ofChange s with cond := some uptoSmall }

/-- 'diacriticlaw22.LineCuts', WHERE WHAT IT READS IS OF BULK AT MOST 1048576: true; the input reads as it did. -/
def lineCutsUptoRow : OpenClaim := { program := "ytemiegbgnpcbiaa", sum := "a7da57a1563cb4ee42e8793639c92cefa0793ca3daa4a4081e67d5b8db09e2cc", func := "diacritic/diacriticlaw22.LineCuts", spec := "lineCuts", inPlace := ["internal/abi.NoEscape", "internal/bytealg.MakeNoZero"], apart := false, narrowed := true }
def LineCutsUptoSaid : Prop := lineCutsUptoRow.holds Try.pinned (OpenSpec.upto lineCutsSpec)

/-- 'diacriticlaw22.LinePieces', WHERE WHAT IT READS IS OF BULK AT MOST 1048576: true; the input reads as it did. -/
def linePiecesUptoRow : OpenClaim := { program := "ytemiegbgnpcbiaa", sum := "a7da57a1563cb4ee42e8793639c92cefa0793ca3daa4a4081e67d5b8db09e2cc", func := "diacritic/diacriticlaw22.LinePieces", spec := "linePieces", inPlace := ["internal/abi.NoEscape", "internal/bytealg.MakeNoZero"], apart := false, narrowed := true }
def LinePiecesUptoSaid : Prop := linePiecesUptoRow.holds Try.pinned (OpenSpec.upto linePiecesSpec)

/-- 'diacriticlaw22.LineForms', WHERE WHAT IT READS IS OF BULK AT MOST 1048576: true; the input reads as it did. -/
def lineFormsUptoRow : OpenClaim := { program := "ytemiegbgnpcbiaa", sum := "a7da57a1563cb4ee42e8793639c92cefa0793ca3daa4a4081e67d5b8db09e2cc", func := "diacritic/diacriticlaw22.LineForms", spec := "lineForms", inPlace := ["internal/abi.NoEscape", "internal/bytealg.MakeNoZero"], apart := false, narrowed := true }
def LineFormsUptoSaid : Prop := lineFormsUptoRow.holds Try.pinned (OpenSpec.upto lineFormsSpec)

/-- 'diacriticlaw24.SrtReads', WHERE WHAT IT READS IS OF BULK AT MOST 1048576: true; the input reads as it did. -/
def srtReadsUptoRow : OpenClaim := { program := "ytemiegbgnpcbiaa", sum := "a7da57a1563cb4ee42e8793639c92cefa0793ca3daa4a4081e67d5b8db09e2cc", func := "diacritic/diacriticlaw24.SrtReads", spec := "srtReads", inPlace := ["internal/abi.NoEscape", "internal/bytealg.MakeNoZero"], unfollowed := true, recurses := true, apart := false, narrowed := true }
def SrtReadsUptoSaid : Prop := srtReadsUptoRow.holds Try.pinned (OpenSpec.upto srtReadsSpec)

/-- 'diacriticlaw24.SrtCounts', WHERE WHAT IT READS IS OF BULK AT MOST 1048576: true; the input reads as it did. -/
def srtCountsUptoRow : OpenClaim := { program := "ytemiegbgnpcbiaa", sum := "a7da57a1563cb4ee42e8793639c92cefa0793ca3daa4a4081e67d5b8db09e2cc", func := "diacritic/diacriticlaw24.SrtCounts", spec := "srtCounts", inPlace := ["internal/abi.NoEscape", "internal/bytealg.MakeNoZero"], unfollowed := true, recurses := true, apart := false, narrowed := true }
def SrtCountsUptoSaid : Prop := srtCountsUptoRow.holds Try.pinned (OpenSpec.upto srtCountsSpec)

/-- 'diacriticlaw24.SrtBlocks', WHERE WHAT IT READS IS OF BULK AT MOST 1048576: true; the input reads as it did. -/
def srtBlocksUptoRow : OpenClaim := { program := "ytemiegbgnpcbiaa", sum := "a7da57a1563cb4ee42e8793639c92cefa0793ca3daa4a4081e67d5b8db09e2cc", func := "diacritic/diacriticlaw24.SrtBlocks", spec := "srtBlocks", inPlace := ["internal/abi.NoEscape", "internal/bytealg.MakeNoZero"], unfollowed := true, recurses := true, apart := false, narrowed := true }
def SrtBlocksUptoSaid : Prop := srtBlocksUptoRow.holds Try.pinned (OpenSpec.upto srtBlocksSpec)

/-- 'diacriticlaw24.SrtTexts', WHERE WHAT IT READS IS OF BULK AT MOST 1048576: true; the input reads as it did. -/
def srtTextsUptoRow : OpenClaim := { program := "ytemiegbgnpcbiaa", sum := "a7da57a1563cb4ee42e8793639c92cefa0793ca3daa4a4081e67d5b8db09e2cc", func := "diacritic/diacriticlaw24.SrtTexts", spec := "srtTexts", inPlace := ["internal/abi.NoEscape", "internal/bytealg.MakeNoZero"], unfollowed := true, recurses := true, apart := false, narrowed := true }
def SrtTextsUptoSaid : Prop := srtTextsUptoRow.holds Try.pinned (OpenSpec.upto srtTextsSpec)

end Rows
end Go.Proofs.Ytemiegbgnpcbiaa
