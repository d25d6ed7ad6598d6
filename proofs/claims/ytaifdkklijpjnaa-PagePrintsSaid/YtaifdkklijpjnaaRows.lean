/-
  No cell of these rows narrows 'for every input' (looked for: loops, veiled, ifaces, maps, wideKeys, modest, calm, conditions, laid).
  DERIVED. THE GIVEN ROWS OF THIS SEAT. 7 by the template 'for every input the law returns true; each argument reads behind the call as it read before'; 0 by the template 'total and deterministic' (their statements: YtaifdkklijpjnaaTotals.lean).
  GIVEN WITH THE SEED: the statements are not yours to turn. If you find one false, say at which input.
  Laid BY PROGRAM, IN A SANDBOX (cutbox-rows.mjs): the forced cells as the released guide's own fill.sh prints them over the translation b2d18948cac265c0… (all of the seat's roots in one cut). By AI agents, Wed Nov 11 2026. No macro, syntax, notation, axiom, sorry.
-/
import Derived.Test.YtaifdkklijpjnaaChecked
import GoSem.Claim
import GoSem.ClaimJoined
import GoSem.ClaimMapViews
import Derived.JoinedTies
import Derived.KernelRfl
namespace Go.Proofs.Ytaifdkklijpjnaa
/- THE CELL 'sum', in the pinned program and in every row, IS THE sha256 OF THE DUMP (.gsa) THAT YtaifdkklijpjnaaProg.lean LOADS. Nothing in Lean hashes anything: it is a label: what it is worth is what the hold of that sum in a sandbox is worth. -/
noncomputable def Try.pinned : Pinned := { name := "ytaifdkklijpjnaa", sum := "b2d18948cac265c0c9f128d86c7028ee29ed920eb3176f0c0ef44f93e02e513a", checked := Try.checked }
namespace Rows
def none {H : Type} : Left H := { results := [], args := [] }

/-- 'diacriticlaw17.PageSpoilt': WHATEVER THE INPUT: true; the input reads as it did. -/
def pageSpoiltSpec : ChangeSpec := { name := "pageSpoilt", fn := fun _ => fun
  | [d1, d2, d3] => { results := [.lit (.bool true)], args := [d1, d2, d3] }
  | _ => none }
def pageSpoiltRow : OpenClaim := { program := "ytaifdkklijpjnaa", sum := "b2d18948cac265c0c9f128d86c7028ee29ed920eb3176f0c0ef44f93e02e513a", func := "diacritic/diacriticlaw17.PageSpoilt", spec := "pageSpoilt", inPlace := ["internal/abi.NoEscape", "internal/bytealg.MakeNoZero"], apart := false }
def PageSpoiltSaid : Prop := pageSpoiltRow.holds Try.pinned (OpenSpec.ofChange pageSpoiltSpec)

/-- ITS FALSE NEIGHBOUR: 'it returns false'. Refute it at one input. -/
def pageSpoiltWrong : ChangeSpec := { name := "pageSpoilt", fn := fun _ => fun
  | [d1, d2, d3] => { results := [.lit (.bool false)], args := [d1, d2, d3] }
  | _ => none }
def PageSpoiltWrongFalsely : Prop := pageSpoiltRow.holds Try.pinned (OpenSpec.ofChange pageSpoiltWrong)

/-- 'diacriticlaw17.PagePrints': WHATEVER THE INPUT: true; the input reads as it did. -/
def pagePrintsSpec : ChangeSpec := { name := "pagePrints", fn := fun _ => fun
  | [d1, d2] => { results := [.lit (.bool true)], args := [d1, d2] }
  | _ => none }
def pagePrintsRow : OpenClaim := { program := "ytaifdkklijpjnaa", sum := "b2d18948cac265c0c9f128d86c7028ee29ed920eb3176f0c0ef44f93e02e513a", func := "diacritic/diacriticlaw17.PagePrints", spec := "pagePrints", inPlace := ["internal/abi.NoEscape", "internal/bytealg.MakeNoZero"], apart := false }
def PagePrintsSaid : Prop := pagePrintsRow.holds Try.pinned (OpenSpec.ofChange pagePrintsSpec)

/-- ITS FALSE NEIGHBOUR: 'it returns false'. Refute it at one input. -/
def pagePrintsWrong : ChangeSpec := { name := "pagePrints", fn := fun _ => fun
  | [d1, d2] => { results := [.lit (.bool false)], args := [d1, d2] }
  | _ => none }
def PagePrintsWrongFalsely : Prop := pagePrintsRow.holds Try.pinned (OpenSpec.ofChange pagePrintsWrong)

/-- 'diacriticlaw17.PageAll': WHATEVER THE INPUT: true; the input reads as it did. -/
def pageAllSpec : ChangeSpec := { name := "pageAll", fn := fun _ => fun
  | [d1, d2] => { results := [.lit (.bool true)], args := [d1, d2] }
  | _ => none }
def pageAllRow : OpenClaim := { program := "ytaifdkklijpjnaa", sum := "b2d18948cac265c0c9f128d86c7028ee29ed920eb3176f0c0ef44f93e02e513a", func := "diacritic/diacriticlaw17.PageAll", spec := "pageAll", inPlace := ["internal/abi.NoEscape", "internal/bytealg.MakeNoZero"], apart := false }
def PageAllSaid : Prop := pageAllRow.holds Try.pinned (OpenSpec.ofChange pageAllSpec)

/-- ITS FALSE NEIGHBOUR: 'it returns false'. Refute it at one input. -/
def pageAllWrong : ChangeSpec := { name := "pageAll", fn := fun _ => fun
  | [d1, d2] => { results := [.lit (.bool false)], args := [d1, d2] }
  | _ => none }
def PageAllWrongFalsely : Prop := pageAllRow.holds Try.pinned (OpenSpec.ofChange pageAllWrong)

/-- 'diacriticlaw18.PacketLaces': WHATEVER THE INPUT: true; the input reads as it did. -/
def packetLacesSpec : ChangeSpec := { name := "packetLaces", fn := fun _ => fun
  | [d] => { results := [.lit (.bool true)], args := [d] }
  | _ => none }
def packetLacesRow : OpenClaim := { program := "ytaifdkklijpjnaa", sum := "b2d18948cac265c0c9f128d86c7028ee29ed920eb3176f0c0ef44f93e02e513a", func := "diacritic/diacriticlaw18.PacketLaces", spec := "packetLaces", inPlace := ["internal/abi.NoEscape", "internal/bytealg.MakeNoZero"], apart := false }
def PacketLacesSaid : Prop := packetLacesRow.holds Try.pinned (OpenSpec.ofChange packetLacesSpec)

/-- ITS FALSE NEIGHBOUR: 'it returns false'. Refute it at one input. -/
def packetLacesWrong : ChangeSpec := { name := "packetLaces", fn := fun _ => fun
  | [d] => { results := [.lit (.bool false)], args := [d] }
  | _ => none }
def PacketLacesWrongFalsely : Prop := packetLacesRow.holds Try.pinned (OpenSpec.ofChange packetLacesWrong)

/-- 'diacriticlaw18.PacketJoins': WHATEVER THE INPUT: true; the input reads as it did. -/
def packetJoinsSpec : ChangeSpec := { name := "packetJoins", fn := fun _ => fun
  | [d] => { results := [.lit (.bool true)], args := [d] }
  | _ => none }
def packetJoinsRow : OpenClaim := { program := "ytaifdkklijpjnaa", sum := "b2d18948cac265c0c9f128d86c7028ee29ed920eb3176f0c0ef44f93e02e513a", func := "diacritic/diacriticlaw18.PacketJoins", spec := "packetJoins", inPlace := ["internal/abi.NoEscape", "internal/bytealg.MakeNoZero"], apart := false }
def PacketJoinsSaid : Prop := packetJoinsRow.holds Try.pinned (OpenSpec.ofChange packetJoinsSpec)

/-- ITS FALSE NEIGHBOUR: 'it returns false'. Refute it at one input. -/
def packetJoinsWrong : ChangeSpec := { name := "packetJoins", fn := fun _ => fun
  | [d] => { results := [.lit (.bool false)], args := [d] }
  | _ => none }
def PacketJoinsWrongFalsely : Prop := packetJoinsRow.holds Try.pinned (OpenSpec.ofChange packetJoinsWrong)

/-- 'diacriticlaw18.PacketPages': WHATEVER THE INPUT: true; the input reads as it did. -/
def packetPagesSpec : ChangeSpec := { name := "packetPages", fn := fun _ => fun
  | [d1, d2] => { results := [.lit (.bool true)], args := [d1, d2] }
  | _ => none }
def packetPagesRow : OpenClaim := { program := "ytaifdkklijpjnaa", sum := "b2d18948cac265c0c9f128d86c7028ee29ed920eb3176f0c0ef44f93e02e513a", func := "diacritic/diacriticlaw18.PacketPages", spec := "packetPages", inPlace := ["internal/abi.NoEscape", "internal/bytealg.MakeNoZero"], apart := false }
def PacketPagesSaid : Prop := packetPagesRow.holds Try.pinned (OpenSpec.ofChange packetPagesSpec)

/-- ITS FALSE NEIGHBOUR: 'it returns false'. Refute it at one input. -/
def packetPagesWrong : ChangeSpec := { name := "packetPages", fn := fun _ => fun
  | [d1, d2] => { results := [.lit (.bool false)], args := [d1, d2] }
  | _ => none }
def PacketPagesWrongFalsely : Prop := packetPagesRow.holds Try.pinned (OpenSpec.ofChange packetPagesWrong)

/-- 'diacriticlaw18.PacketShort': WHATEVER THE INPUT: true; the input reads as it did. -/
def packetShortSpec : ChangeSpec := { name := "packetShort", fn := fun _ => fun
  | [d1, d2] => { results := [.lit (.bool true)], args := [d1, d2] }
  | _ => none }
def packetShortRow : OpenClaim := { program := "ytaifdkklijpjnaa", sum := "b2d18948cac265c0c9f128d86c7028ee29ed920eb3176f0c0ef44f93e02e513a", func := "diacritic/diacriticlaw18.PacketShort", spec := "packetShort", inPlace := ["internal/abi.NoEscape", "internal/bytealg.MakeNoZero"], apart := false }
def PacketShortSaid : Prop := packetShortRow.holds Try.pinned (OpenSpec.ofChange packetShortSpec)

/-- ITS FALSE NEIGHBOUR: 'it returns false'. Refute it at one input. -/
def packetShortWrong : ChangeSpec := { name := "packetShort", fn := fun _ => fun
  | [d1, d2] => { results := [.lit (.bool false)], args := [d1, d2] }
  | _ => none }
def PacketShortWrongFalsely : Prop := packetShortRow.holds Try.pinned (OpenSpec.ofChange packetShortWrong)

/- THE SECOND FORM. 'bulk': how many values and letters a reading holds, each counted each time it is reached (what is shared counts as often as it is met; a slice's spare places count too). A statement '..UptoSaid' is the law's where the arguments, and the package variables that the reading takes, are together of bulk at most 1048576: NARROWER than '..Said'. Prove '..Said' where nothing that the law and all that it calls make is longer than what came in: it says more and counts as full. Else prove '..UptoSaid'. A law counts once. -/
mutual
def uptoBulk {H : Type} : DataW H → Nat
  | .lit (.string bytes) => bytes.length + 1
  | .lit _ => 1
  | .nil => 1
  | .ptr d => uptoBulk d + 1
  | .slice elems spare => uptoBulkAll elems + uptoBulkAll spare + 1
  | .agg parts => uptoBulkAll parts + 1
  | .iface _ d => uptoBulk d + 1
  | .map entries => uptoBulkEntries entries + 1
  | .held _ => 1
def uptoBulkAll {H : Type} : List (DataW H) → Nat
  | [] => 0
  | d :: r => uptoBulk d + uptoBulkAll r
def uptoBulkEntries {H : Type} : List (Lit × DataW H) → Nat
  | [] => 0
  | x :: r => uptoBulkEntry x + uptoBulkEntries r
def uptoBulkEntry {H : Type} : Lit × DataW H → Nat
  | (.string bytes, d) => bytes.length + uptoBulk d + 1
  | (_, d) => uptoBulk d + 1
 end
def uptoSmall : (H : Type) → List (DataW H) → Bool := fun _ ds => decide (uptoBulkAll ds ≤ 1048576)
def OpenSpec.upto (s : _root_.Go.ChangeSpec) : _root_.Go.OpenSpec := { _root_.Go.OpenSpec.ofChange s with cond := some uptoSmall }

/-- 'diacriticlaw17.PageSpoilt', WHERE WHAT IT READS IS OF BULK AT MOST 1048576: true; the input reads as it did. -/
def pageSpoiltUptoRow : OpenClaim := { program := "ytaifdkklijpjnaa", sum := "b2d18948cac265c0c9f128d86c7028ee29ed920eb3176f0c0ef44f93e02e513a", func := "diacritic/diacriticlaw17.PageSpoilt", spec := "pageSpoilt", inPlace := ["internal/abi.NoEscape", "internal/bytealg.MakeNoZero"], apart := false, narrowed := true }
def PageSpoiltUptoSaid : Prop := pageSpoiltUptoRow.holds Try.pinned (OpenSpec.upto pageSpoiltSpec)

/-- 'diacriticlaw17.PagePrints', WHERE WHAT IT READS IS OF BULK AT MOST 1048576: true; the input reads as it did. -/
def pagePrintsUptoRow : OpenClaim := { program := "ytaifdkklijpjnaa", sum := "b2d18948cac265c0c9f128d86c7028ee29ed920eb3176f0c0ef44f93e02e513a", func := "diacritic/diacriticlaw17.PagePrints", spec := "pagePrints", inPlace := ["internal/abi.NoEscape", "internal/bytealg.MakeNoZero"], apart := false, narrowed := true }
def PagePrintsUptoSaid : Prop := pagePrintsUptoRow.holds Try.pinned (OpenSpec.upto pagePrintsSpec)

/-- 'diacriticlaw17.PageAll', WHERE WHAT IT READS IS OF BULK AT MOST 1048576: true; the input reads as it did. -/
def pageAllUptoRow : OpenClaim := { program := "ytaifdkklijpjnaa", sum := "b2d18948cac265c0c9f128d86c7028ee29ed920eb3176f0c0ef44f93e02e513a", func := "diacritic/diacriticlaw17.PageAll", spec := "pageAll", inPlace := ["internal/abi.NoEscape", "internal/bytealg.MakeNoZero"], apart := false, narrowed := true }
def PageAllUptoSaid : Prop := pageAllUptoRow.holds Try.pinned (OpenSpec.upto pageAllSpec)

/-- 'diacriticlaw18.PacketLaces', WHERE WHAT IT READS IS OF BULK AT MOST 1048576: true; the input reads as it did. -/
def packetLacesUptoRow : OpenClaim := { program := "ytaifdkklijpjnaa", sum := "b2d18948cac265c0c9f128d86c7028ee29ed920eb3176f0c0ef44f93e02e513a", func := "diacritic/diacriticlaw18.PacketLaces", spec := "packetLaces", inPlace := ["internal/abi.NoEscape", "internal/bytealg.MakeNoZero"], apart := false, narrowed := true }
def PacketLacesUptoSaid : Prop := packetLacesUptoRow.holds Try.pinned (OpenSpec.upto packetLacesSpec)

/-- 'diacriticlaw18.PacketJoins', WHERE WHAT IT READS IS OF BULK AT MOST 1048576: true; the input reads as it did. -/
def packetJoinsUptoRow : OpenClaim := { program := "ytaifdkklijpjnaa", sum := "b2d18948cac265c0c9f128d86c7028ee29ed920eb3176f0c0ef44f93e02e513a", func := "diacritic/diacriticlaw18.PacketJoins", spec := "packetJoins", inPlace := ["internal/abi.NoEscape", "internal/bytealg.MakeNoZero"], apart := false, narrowed := true }
def PacketJoinsUptoSaid : Prop := packetJoinsUptoRow.holds Try.pinned (OpenSpec.upto packetJoinsSpec)

/-- 'diacriticlaw18.PacketPages', WHERE WHAT IT READS IS OF BULK AT MOST 1048576: true; the input reads as it did. -/
def packetPagesUptoRow : OpenClaim := { program := "ytaifdkklijpjnaa", sum := "b2d18948cac265c0c9f128d86c7028ee29ed920eb3176f0c0ef44f93e02e513a", func := "diacritic/diacriticlaw18.PacketPages", spec := "packetPages", inPlace := ["internal/abi.NoEscape", "internal/bytealg.MakeNoZero"], apart := false, narrowed := true }
def PacketPagesUptoSaid : Prop := packetPagesUptoRow.holds Try.pinned (OpenSpec.upto packetPagesSpec)

/-- 'diacriticlaw18.PacketShort', WHERE WHAT IT READS IS OF BULK AT MOST 1048576: true; the input reads as it did. -/
def packetShortUptoRow : OpenClaim := { program := "ytaifdkklijpjnaa", sum := "b2d18948cac265c0c9f128d86c7028ee29ed920eb3176f0c0ef44f93e02e513a", func := "diacritic/diacriticlaw18.PacketShort", spec := "packetShort", inPlace := ["internal/abi.NoEscape", "internal/bytealg.MakeNoZero"], apart := false, narrowed := true }
def PacketShortUptoSaid : Prop := packetShortUptoRow.holds Try.pinned (OpenSpec.upto packetShortSpec)

end Rows
end Go.Proofs.Ytaifdkklijpjnaa
