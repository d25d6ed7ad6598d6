/-
  No cell of these rows narrows 'for every input' (looked for: loops, veiled, ifaces, maps, wideKeys, modest, calm, conditions, laid).
  DERIVED. THE GIVEN ROWS OF THIS SEAT. 9 by the template 'for every input the law returns true; each argument reads behind the call as it read before'; 0 by the template 'total and deterministic' (their statements: YtmnmonmbdgedbaaTotals.lean).
  GIVEN WITH THE SEED: the statements are not yours to turn. If you find one false, say at which input.
  Laid BY PROGRAM, IN A SANDBOX (cutbox-rows.mjs): the forced cells as the released guide's own fill.sh prints them over the translation bc8966ce1839f24f… (all of the seat's roots in one cut). By AI agents, Wed Nov 11 2026. No macro, syntax, notation, axiom, sorry.
-/
import Derived.Test.YtmnmonmbdgedbaaChecked
import GoSem.Claim
import GoSem.ClaimJoined
import GoSem.ClaimMapViews
import Derived.JoinedTies
import Derived.KernelRfl
namespace Go.Proofs.Ytmnmonmbdgedbaa
/- THE CELL 'sum', in the pinned program and in every row, IS THE sha256 OF THE DUMP (.gsa) THAT YtmnmonmbdgedbaaProg.lean LOADS. Nothing in Lean hashes anything: it is a label: what it is worth is what the hold of that sum in a sandbox is worth. -/
noncomputable def Try.pinned : Pinned := { name := "ytmnmonmbdgedbaa", sum := "bc8966ce1839f24fa2e16a75474dcd4445797fdaff89f36880e0d91b0cba73d6", checked := Try.checked }
namespace Rows
def none {H : Type} : Left H := { results := [], args := [] }

/-- 'diacritictop.TopSync': WHATEVER THE INPUT: true; the input reads as it did. -/
def topSyncSpec : ChangeSpec := { name := "topSync", fn := fun _ => fun
  | [d1, d2] => { results := [.lit (.bool true)], args := [d1, d2] }
  | _ => none }
def topSyncRow : OpenClaim := { program := "ytmnmonmbdgedbaa", sum := "bc8966ce1839f24fa2e16a75474dcd4445797fdaff89f36880e0d91b0cba73d6", func := "diacritic/diacritictop.TopSync", spec := "topSync", inPlace := ["internal/abi.NoEscape", "internal/bytealg.MakeNoZero"], apart := false }
def TopSyncSaid : Prop := topSyncRow.holds Try.pinned (OpenSpec.ofChange topSyncSpec)

/-- ITS FALSE NEIGHBOUR: 'it returns false'. Refute it at one input. -/
def topSyncWrong : ChangeSpec := { name := "topSync", fn := fun _ => fun
  | [d1, d2] => { results := [.lit (.bool false)], args := [d1, d2] }
  | _ => none }
def TopSyncWrongFalsely : Prop := topSyncRow.holds Try.pinned (OpenSpec.ofChange topSyncWrong)

/-- 'diacriticlaw15.TagSizes': WHATEVER THE INPUT: true; the input reads as it did. -/
def tagSizesSpec : ChangeSpec := { name := "tagSizes", fn := fun _ => fun
  | [d] => { results := [.lit (.bool true)], args := [d] }
  | _ => none }
def tagSizesRow : OpenClaim := { program := "ytmnmonmbdgedbaa", sum := "bc8966ce1839f24fa2e16a75474dcd4445797fdaff89f36880e0d91b0cba73d6", func := "diacritic/diacriticlaw15.TagSizes", spec := "tagSizes", inPlace := ["internal/abi.NoEscape", "internal/bytealg.MakeNoZero"], apart := false }
def TagSizesSaid : Prop := tagSizesRow.holds Try.pinned (OpenSpec.ofChange tagSizesSpec)

/-- ITS FALSE NEIGHBOUR: 'it returns false'. Refute it at one input. -/
def tagSizesWrong : ChangeSpec := { name := "tagSizes", fn := fun _ => fun
  | [d] => { results := [.lit (.bool false)], args := [d] }
  | _ => none }
def TagSizesWrongFalsely : Prop := tagSizesRow.holds Try.pinned (OpenSpec.ofChange tagSizesWrong)

/-- 'diacriticlaw15.TagTwice': WHATEVER THE INPUT: true; the input reads as it did. -/
def tagTwiceSpec : ChangeSpec := { name := "tagTwice", fn := fun _ => fun
  | [d] => { results := [.lit (.bool true)], args := [d] }
  | _ => none }
def tagTwiceRow : OpenClaim := { program := "ytmnmonmbdgedbaa", sum := "bc8966ce1839f24fa2e16a75474dcd4445797fdaff89f36880e0d91b0cba73d6", func := "diacritic/diacriticlaw15.TagTwice", spec := "tagTwice", inPlace := ["internal/abi.NoEscape", "internal/bytealg.MakeNoZero"], apart := false }
def TagTwiceSaid : Prop := tagTwiceRow.holds Try.pinned (OpenSpec.ofChange tagTwiceSpec)

/-- ITS FALSE NEIGHBOUR: 'it returns false'. Refute it at one input. -/
def tagTwiceWrong : ChangeSpec := { name := "tagTwice", fn := fun _ => fun
  | [d] => { results := [.lit (.bool false)], args := [d] }
  | _ => none }
def TagTwiceWrongFalsely : Prop := tagTwiceRow.holds Try.pinned (OpenSpec.ofChange tagTwiceWrong)

/-- 'diacriticlaw15.TagReads': WHATEVER THE INPUT: true; the input reads as it did. -/
def tagReadsSpec : ChangeSpec := { name := "tagReads", fn := fun _ => fun
  | [d] => { results := [.lit (.bool true)], args := [d] }
  | _ => none }
def tagReadsRow : OpenClaim := { program := "ytmnmonmbdgedbaa", sum := "bc8966ce1839f24fa2e16a75474dcd4445797fdaff89f36880e0d91b0cba73d6", func := "diacritic/diacriticlaw15.TagReads", spec := "tagReads", inPlace := ["internal/abi.NoEscape", "internal/bytealg.MakeNoZero"], apart := false }
def TagReadsSaid : Prop := tagReadsRow.holds Try.pinned (OpenSpec.ofChange tagReadsSpec)

/-- ITS FALSE NEIGHBOUR: 'it returns false'. Refute it at one input. -/
def tagReadsWrong : ChangeSpec := { name := "tagReads", fn := fun _ => fun
  | [d] => { results := [.lit (.bool false)], args := [d] }
  | _ => none }
def TagReadsWrongFalsely : Prop := tagReadsRow.holds Try.pinned (OpenSpec.ofChange tagReadsWrong)

/-- 'diacriticlaw15.TagPrints': WHATEVER THE INPUT: true; the input reads as it did. -/
def tagPrintsSpec : ChangeSpec := { name := "tagPrints", fn := fun _ => fun
  | [d1, d2] => { results := [.lit (.bool true)], args := [d1, d2] }
  | _ => none }
def tagPrintsRow : OpenClaim := { program := "ytmnmonmbdgedbaa", sum := "bc8966ce1839f24fa2e16a75474dcd4445797fdaff89f36880e0d91b0cba73d6", func := "diacritic/diacriticlaw15.TagPrints", spec := "tagPrints", inPlace := ["internal/abi.NoEscape", "internal/bytealg.MakeNoZero"], apart := false }
def TagPrintsSaid : Prop := tagPrintsRow.holds Try.pinned (OpenSpec.ofChange tagPrintsSpec)

/-- ITS FALSE NEIGHBOUR: 'it returns false'. Refute it at one input. -/
def tagPrintsWrong : ChangeSpec := { name := "tagPrints", fn := fun _ => fun
  | [d1, d2] => { results := [.lit (.bool false)], args := [d1, d2] }
  | _ => none }
def TagPrintsWrongFalsely : Prop := tagPrintsRow.holds Try.pinned (OpenSpec.ofChange tagPrintsWrong)

/-- 'diacriticlaw18.PacketLaces': WHATEVER THE INPUT: true; the input reads as it did. -/
def packetLacesSpec : ChangeSpec := { name := "packetLaces", fn := fun _ => fun
  | [d] => { results := [.lit (.bool true)], args := [d] }
  | _ => none }
def packetLacesRow : OpenClaim := { program := "ytmnmonmbdgedbaa", sum := "bc8966ce1839f24fa2e16a75474dcd4445797fdaff89f36880e0d91b0cba73d6", func := "diacritic/diacriticlaw18.PacketLaces", spec := "packetLaces", inPlace := ["internal/abi.NoEscape", "internal/bytealg.MakeNoZero"], apart := false }
def PacketLacesSaid : Prop := packetLacesRow.holds Try.pinned (OpenSpec.ofChange packetLacesSpec)

/-- ITS FALSE NEIGHBOUR: 'it returns false'. Refute it at one input. -/
def packetLacesWrong : ChangeSpec := { name := "packetLaces", fn := fun _ => fun
  | [d] => { results := [.lit (.bool false)], args := [d] }
  | _ => none }
def PacketLacesWrongFalsely : Prop := packetLacesRow.holds Try.pinned (OpenSpec.ofChange packetLacesWrong)

/-- 'diacriticlaw18.PacketJoins': WHATEVER THE INPUT: true; the input reads as it did. -/
def packetJoinsSpec : ChangeSpec := { name := "packetJoins", fn := fun _ => fun
  | [d] => { results := [.lit (.bool true)], args := [d] }
  | _ => none }
def packetJoinsRow : OpenClaim := { program := "ytmnmonmbdgedbaa", sum := "bc8966ce1839f24fa2e16a75474dcd4445797fdaff89f36880e0d91b0cba73d6", func := "diacritic/diacriticlaw18.PacketJoins", spec := "packetJoins", inPlace := ["internal/abi.NoEscape", "internal/bytealg.MakeNoZero"], apart := false }
def PacketJoinsSaid : Prop := packetJoinsRow.holds Try.pinned (OpenSpec.ofChange packetJoinsSpec)

/-- ITS FALSE NEIGHBOUR: 'it returns false'. Refute it at one input. -/
def packetJoinsWrong : ChangeSpec := { name := "packetJoins", fn := fun _ => fun
  | [d] => { results := [.lit (.bool false)], args := [d] }
  | _ => none }
def PacketJoinsWrongFalsely : Prop := packetJoinsRow.holds Try.pinned (OpenSpec.ofChange packetJoinsWrong)

/-- 'diacriticlaw18.PacketPages': WHATEVER THE INPUT: true; the input reads as it did. -/
def packetPagesSpec : ChangeSpec := { name := "packetPages", fn := fun _ => fun
  | [d1, d2] => { results := [.lit (.bool true)], args := [d1, d2] }
  | _ => none }
def packetPagesRow : OpenClaim := { program := "ytmnmonmbdgedbaa", sum := "bc8966ce1839f24fa2e16a75474dcd4445797fdaff89f36880e0d91b0cba73d6", func := "diacritic/diacriticlaw18.PacketPages", spec := "packetPages", inPlace := ["internal/abi.NoEscape", "internal/bytealg.MakeNoZero"], apart := false }
def PacketPagesSaid : Prop := packetPagesRow.holds Try.pinned (OpenSpec.ofChange packetPagesSpec)

/-- ITS FALSE NEIGHBOUR: 'it returns false'. Refute it at one input. -/
def packetPagesWrong : ChangeSpec := { name := "packetPages", fn := fun _ => fun
  | [d1, d2] => { results := [.lit (.bool false)], args := [d1, d2] }
  | _ => none }
def PacketPagesWrongFalsely : Prop := packetPagesRow.holds Try.pinned (OpenSpec.ofChange packetPagesWrong)

/-- 'diacriticlaw18.PacketShort': WHATEVER THE INPUT: true; the input reads as it did. -/
def packetShortSpec : ChangeSpec := { name := "packetShort", fn := fun _ => fun
  | [d1, d2] => { results := [.lit (.bool true)], args := [d1, d2] }
  | _ => none }
def packetShortRow : OpenClaim := { program := "ytmnmonmbdgedbaa", sum := "bc8966ce1839f24fa2e16a75474dcd4445797fdaff89f36880e0d91b0cba73d6", func := "diacritic/diacriticlaw18.PacketShort", spec := "packetShort", inPlace := ["internal/abi.NoEscape", "internal/bytealg.MakeNoZero"], apart := false }
def PacketShortSaid : Prop := packetShortRow.holds Try.pinned (OpenSpec.ofChange packetShortSpec)

/-- ITS FALSE NEIGHBOUR: 'it returns false'. Refute it at one input. -/
def packetShortWrong : ChangeSpec := { name := "packetShort", fn := fun _ => fun
  | [d1, d2] => { results := [.lit (.bool false)], args := [d1, d2] }
  | _ => none }
def PacketShortWrongFalsely : Prop := packetShortRow.holds Try.pinned (OpenSpec.ofChange packetShortWrong)

/- THE SECOND FORM. 'bulk': how many values and letters a reading holds, each counted each time it is reached (what is shared counts as often as it is met; a slice's spare places count too). A statement '..UptoSaid' is the law's where the arguments, and the package variables that the reading takes, are together of bulk at most 1048576: NARROWER than '..Said'. Prove '..Said' where nothing that the law and all that it calls make is longer than what came in: it says more and counts as full. Else prove '..UptoSaid'. A law counts once. -/
mutual
def uptoBulk {H : Type} : DataW H → Nat
  | .lit (.string bytes) => bytes.length + 1
  | .lit _ => 1
  | .nil => 1
  | .ptr d => uptoBulk d + 1
  | .slice elems spare => uptoBulkAll elems + uptoBulkAll spare + 1
  | .agg parts => uptoBulkAll parts + 1
  | .iface _ d => uptoBulk d + 1
  | .map entries => uptoBulkEntries entries + 1
  | .held _ => 1
def uptoBulkAll {H : Type} : List (DataW H) → Nat
  | [] => 0
  | d :: r => uptoBulk d + uptoBulkAll r
def uptoBulkEntries {H : Type} : List (Lit × DataW H) → Nat
  | [] => 0
  | x :: r => uptoBulkEntry x + uptoBulkEntries r
def uptoBulkEntry {H : Type} : Lit × DataW H → Nat
  | (.string bytes, d) => bytes.length + uptoBulk d + 1
  | (_, d) => uptoBulk d + 1
 end
def uptoSmall : (H : Type) → List (DataW H) → Bool := fun _ ds => decide (uptoBulkAll ds ≤ 1048576)
def OpenSpec.upto (s : _root_.Go.ChangeSpec) : _root_.Go.OpenSpec := { _root_.Go.OpenSpec.ofChange s with cond := some uptoSmall }

/-- 'diacritictop.TopSync', WHERE WHAT IT READS IS OF BULK AT MOST 1048576: true; the input reads as it did. -/
def topSyncUptoRow : OpenClaim := { program := "ytmnmonmbdgedbaa", sum := "bc8966ce1839f24fa2e16a75474dcd4445797fdaff89f36880e0d91b0cba73d6", func := "diacritic/diacritictop.TopSync", spec := "topSync", inPlace := ["internal/abi.NoEscape", "internal/bytealg.MakeNoZero"], apart := false, narrowed := true }
def TopSyncUptoSaid : Prop := topSyncUptoRow.holds Try.pinned (OpenSpec.upto topSyncSpec)

/-- 'diacriticlaw15.TagSizes', WHERE WHAT IT READS IS OF BULK AT MOST 1048576: true; the input reads as it did. -/
def tagSizesUptoRow : OpenClaim := { program := "ytmnmonmbdgedbaa", sum := "bc8966ce1839f24fa2e16a75474dcd4445797fdaff89f36880e0d91b0cba73d6", func := "diacritic/diacriticlaw15.TagSizes", spec := "tagSizes", inPlace := ["internal/abi.NoEscape", "internal/bytealg.MakeNoZero"], apart := false, narrowed := true }
def TagSizesUptoSaid : Prop := tagSizesUptoRow.holds Try.pinned (OpenSpec.upto tagSizesSpec)

/-- 'diacriticlaw15.TagTwice', WHERE WHAT IT READS IS OF BULK AT MOST 1048576: true; the input reads as it did. -/
def tagTwiceUptoRow : OpenClaim := { program := "ytmnmonmbdgedbaa", sum := "bc8966ce1839f24fa2e16a75474dcd4445797fdaff89f36880e0d91b0cba73d6", func := "diacritic/diacriticlaw15.TagTwice", spec := "tagTwice", inPlace := ["internal/abi.NoEscape", "internal/bytealg.MakeNoZero"], apart := false, narrowed := true }
def TagTwiceUptoSaid : Prop := tagTwiceUptoRow.holds Try.pinned (OpenSpec.upto tagTwiceSpec)

/-- 'diacriticlaw15.TagReads', WHERE WHAT IT READS IS OF BULK AT MOST 1048576: true; the input reads as it did. -/
def tagReadsUptoRow : OpenClaim := { program := "ytmnmonmbdgedbaa", sum := "bc8966ce1839f24fa2e16a75474dcd4445797fdaff89f36880e0d91b0cba73d6", func := "diacritic/diacriticlaw15.TagReads", spec := "tagReads", inPlace := ["internal/abi.NoEscape", "internal/bytealg.MakeNoZero"], apart := false, narrowed := true }
def TagReadsUptoSaid : Prop := tagReadsUptoRow.holds Try.pinned (OpenSpec.upto tagReadsSpec)

/-- 'diacriticlaw15.TagPrints', WHERE WHAT IT READS IS OF BULK AT MOST 1048576: true; the input reads as it did. -/
def tagPrintsUptoRow : OpenClaim := { program := "ytmnmonmbdgedbaa", sum := "bc8966ce1839f24fa2e16a75474dcd4445797fdaff89f36880e0d91b0cba73d6", func := "diacritic/diacriticlaw15.TagPrints", spec := "tagPrints", inPlace := ["internal/abi.NoEscape", "internal/bytealg.MakeNoZero"], apart := false, narrowed := true }
def TagPrintsUptoSaid : Prop := tagPrintsUptoRow.holds Try.pinned (OpenSpec.upto tagPrintsSpec)

/-- 'diacriticlaw18.PacketLaces', WHERE WHAT IT READS IS OF BULK AT MOST 1048576: true; the input reads as it did. -/
def packetLacesUptoRow : OpenClaim := { program := "ytmnmonmbdgedbaa", sum := "bc8966ce1839f24fa2e16a75474dcd4445797fdaff89f36880e0d91b0cba73d6", func := "diacritic/diacriticlaw18.PacketLaces", spec := "packetLaces", inPlace := ["internal/abi.NoEscape", "internal/bytealg.MakeNoZero"], apart := false, narrowed := true }
def PacketLacesUptoSaid : Prop := packetLacesUptoRow.holds Try.pinned (OpenSpec.upto packetLacesSpec)

/-- 'diacriticlaw18.PacketJoins', WHERE WHAT IT READS IS OF BULK AT MOST 1048576: true; the input reads as it did. -/
def packetJoinsUptoRow : OpenClaim := { program := "ytmnmonmbdgedbaa", sum := "bc8966ce1839f24fa2e16a75474dcd4445797fdaff89f36880e0d91b0cba73d6", func := "diacritic/diacriticlaw18.PacketJoins", spec := "packetJoins", inPlace := ["internal/abi.NoEscape", "internal/bytealg.MakeNoZero"], apart := false, narrowed := true }
def PacketJoinsUptoSaid : Prop := packetJoinsUptoRow.holds Try.pinned (OpenSpec.upto packetJoinsSpec)

/-- 'diacriticlaw18.PacketPages', WHERE WHAT IT READS IS OF BULK AT MOST 1048576: true; the input reads as it did. -/
def packetPagesUptoRow : OpenClaim := { program := "ytmnmonmbdgedbaa", sum := "bc8966ce1839f24fa2e16a75474dcd4445797fdaff89f36880e0d91b0cba73d6", func := "diacritic/diacriticlaw18.PacketPages", spec := "packetPages", inPlace := ["internal/abi.NoEscape", "internal/bytealg.MakeNoZero"], apart := false, narrowed := true }
def PacketPagesUptoSaid : Prop := packetPagesUptoRow.holds Try.pinned (OpenSpec.upto packetPagesSpec)

/-- 'diacriticlaw18.PacketShort', WHERE WHAT IT READS IS OF BULK AT MOST 1048576: true; the input reads as it did. -/
def packetShortUptoRow : OpenClaim := { program := "ytmnmonmbdgedbaa", sum := "bc8966ce1839f24fa2e16a75474dcd4445797fdaff89f36880e0d91b0cba73d6", func := "diacritic/diacriticlaw18.PacketShort", spec := "packetShort", inPlace := ["internal/abi.NoEscape", "internal/bytealg.MakeNoZero"], apart := false, narrowed := true }
def PacketShortUptoSaid : Prop := packetShortUptoRow.holds Try.pinned (OpenSpec.upto packetShortSpec)

end Rows
end Go.Proofs.Ytmnmonmbdgedbaa
