/-
  NARROWER THAN 'FOR EVERY INPUT', by the rows' own cells (each row's printed sentence says how): RegstoreSpoilt: laid · RegstoreNil: laid · RegstoreAgain: laid · RegstoreRuns: laid · RegstoreLasts: laid.
  DERIVED. THE GIVEN ROWS OF THIS SEAT. 5 by the template 'for every input the law returns true; each argument reads behind the call as it read before'; 0 by the template 'total and deterministic' (their statements: YtampemlkcngogaaGreatDoorTotals.lean).
  GIVEN WITH THE SEED: the statements are not yours to turn. If you find one false, say at which input.
  Laid BY PROGRAM, IN A SANDBOX (cutbox-rows.mjs): the forced cells as the released guide's own fill.sh prints them over the translation 08801e6d3931cf14… (all of the seat's roots in one cut). By AI agents, Wed Nov 11 2026. No macro, syntax, notation, axiom, sorry.
-/
import Derived.Test.YtampemlkcngogaaGreatDoorChecked
import GoSem.PinnedTables
import GoSem.Claim
import GoSem.ClaimJoined
import GoSem.ClaimMapViews
import Derived.JoinedTies
import Derived.KernelRfl
namespace Go.Proofs.YtampemlkcngogaaGreatDoor
/- THE CELL 'sum', in the pinned program and in every row, IS THE sha256 OF THE DUMP (.gsa) THAT YtampemlkcngogaaGreatDoorProg.lean LOADS. Nothing in Lean hashes anything: it is a label: what it is worth is what the hold of that sum in a sandbox is worth. -/
noncomputable def Tryz.pinned : Pinned := { name := "ytampemlkcngogaagreatdoor", sum := "08801e6d3931cf145ceae3553df7c0ac52cd3c12804e909dbeeb3afa644c631b", checked := Tryz.checked }
namespace Rows
def none {H : Type} : Left H := { results := [], args := [] }

/- WHAT THE LISTED PACKAGE-LEVEL VARIABLES READ AS WHEN THE CALL BEGINS. Each datum BY PROGRAM (the guide's laid-datum.mjs) off the statement by which the dump's own 'gosem.cut.vars' lays the variable. In a bare row this is a premise. The card (YtampemlkcngogaaGreatDoorCards.lean) ties it to the program's text. -/
def laid_unicode_utf8_acceptRanges {H : Type} : DataW H := .agg [.agg [.lit (.int .u8 128), .lit (.int .u8 191)], .agg [.lit (.int .u8 160), .lit (.int .u8 191)], .agg [.lit (.int .u8 128), .lit (.int .u8 159)], .agg [.lit (.int .u8 144), .lit (.int .u8 191)], .agg [.lit (.int .u8 128), .lit (.int .u8 143)], .agg [.lit (.int .u8 0), .lit (.int .u8 0)], .agg [.lit (.int .u8 0), .lit (.int .u8 0)], .agg [.lit (.int .u8 0), .lit (.int .u8 0)], .agg [.lit (.int .u8 0), .lit (.int .u8 0)], .agg [.lit (.int .u8 0), .lit (.int .u8 0)], .agg [.lit (.int .u8 0), .lit (.int .u8 0)], .agg [.lit (.int .u8 0), .lit (.int .u8 0)], .agg [.lit (.int .u8 0), .lit (.int .u8 0)], .agg [.lit (.int .u8 0), .lit (.int .u8 0)], .agg [.lit (.int .u8 0), .lit (.int .u8 0)], .agg [.lit (.int .u8 0), .lit (.int .u8 0)]]
/-- One of Go's own tables, pinned by name: the form's constant. -/
def laid_unicode_utf8_first : DataW Unit := Go.Pinned.utf8First

/-- 'wharflaw22.RegstoreSpoilt': WHATEVER THE INPUT: true; the input reads as it did. -/
def regstoreSpoiltSpec : ChangeSpec := { name := "regstoreSpoilt", fn := fun _ => fun
  | [d1, d2, d3] => { results := [.lit (.bool true)], args := [d1, d2, d3] }
  | _ => none }
def regstoreSpoiltRow : OpenClaim := { program := "ytampemlkcngogaagreatdoor", sum := "08801e6d3931cf145ceae3553df7c0ac52cd3c12804e909dbeeb3afa644c631b", func := "wharf/wharflaw22.RegstoreSpoilt", spec := "regstoreSpoilt", inPlace := ["internal/bytealg.IndexByteString", "internal/bytealg.IndexString", "internal/bytealg.CountString", "internal/abi.NoEscape", "internal/bytealg.MakeNoZero", "internal/bytealg.abigen_runtime_cmpstring"], unfollowed := true, recurses := true, named := ["internal/bytealg.MaxLen", "unicode/utf8.first", "unicode/utf8.acceptRanges"], apart := false, laid := [("unicode/utf8.acceptRanges", laid_unicode_utf8_acceptRanges), ("unicode/utf8.first", laid_unicode_utf8_first)] }
def RegstoreSpoiltSaid : Prop := regstoreSpoiltRow.holds Tryz.pinned (OpenSpec.ofChange regstoreSpoiltSpec)

/-- ITS FALSE NEIGHBOUR: 'it returns false'. Refute it at one input. -/
def regstoreSpoiltWrong : ChangeSpec := { name := "regstoreSpoilt", fn := fun _ => fun
  | [d1, d2, d3] => { results := [.lit (.bool false)], args := [d1, d2, d3] }
  | _ => none }
def RegstoreSpoiltWrongFalsely : Prop := regstoreSpoiltRow.holds Tryz.pinned (OpenSpec.ofChange regstoreSpoiltWrong)

/-- 'wharflaw22.RegstoreNil': WHATEVER THE INPUT: true; the input reads as it did. -/
def regstoreNilSpec : ChangeSpec := { name := "regstoreNil", fn := fun _ => fun
  | [d1, d2] => { results := [.lit (.bool true)], args := [d1, d2] }
  | _ => none }
def regstoreNilRow : OpenClaim := { program := "ytampemlkcngogaagreatdoor", sum := "08801e6d3931cf145ceae3553df7c0ac52cd3c12804e909dbeeb3afa644c631b", func := "wharf/wharflaw22.RegstoreNil", spec := "regstoreNil", inPlace := ["internal/bytealg.IndexByteString", "internal/bytealg.IndexString", "internal/bytealg.CountString", "internal/abi.NoEscape", "internal/bytealg.MakeNoZero", "internal/bytealg.abigen_runtime_cmpstring"], unfollowed := true, recurses := true, named := ["internal/bytealg.MaxLen", "unicode/utf8.first", "unicode/utf8.acceptRanges"], apart := false, laid := [("unicode/utf8.acceptRanges", laid_unicode_utf8_acceptRanges), ("unicode/utf8.first", laid_unicode_utf8_first)] }
def RegstoreNilSaid : Prop := regstoreNilRow.holds Tryz.pinned (OpenSpec.ofChange regstoreNilSpec)

/-- ITS FALSE NEIGHBOUR: 'it returns false'. Refute it at one input. -/
def regstoreNilWrong : ChangeSpec := { name := "regstoreNil", fn := fun _ => fun
  | [d1, d2] => { results := [.lit (.bool false)], args := [d1, d2] }
  | _ => none }
def RegstoreNilWrongFalsely : Prop := regstoreNilRow.holds Tryz.pinned (OpenSpec.ofChange regstoreNilWrong)

/-- 'wharflaw22.RegstoreAgain': WHATEVER THE INPUT: true; the input reads as it did. -/
def regstoreAgainSpec : ChangeSpec := { name := "regstoreAgain", fn := fun _ => fun
  | [d1, d2] => { results := [.lit (.bool true)], args := [d1, d2] }
  | _ => none }
def regstoreAgainRow : OpenClaim := { program := "ytampemlkcngogaagreatdoor", sum := "08801e6d3931cf145ceae3553df7c0ac52cd3c12804e909dbeeb3afa644c631b", func := "wharf/wharflaw22.RegstoreAgain", spec := "regstoreAgain", inPlace := ["internal/bytealg.IndexByteString", "internal/bytealg.IndexString", "internal/bytealg.CountString", "internal/abi.NoEscape", "internal/bytealg.MakeNoZero", "internal/bytealg.abigen_runtime_cmpstring"], unfollowed := true, recurses := true, named := ["internal/bytealg.MaxLen", "unicode/utf8.first", "unicode/utf8.acceptRanges"], apart := false, laid := [("unicode/utf8.acceptRanges", laid_unicode_utf8_acceptRanges), ("unicode/utf8.first", laid_unicode_utf8_first)] }
def RegstoreAgainSaid : Prop := regstoreAgainRow.holds Tryz.pinned (OpenSpec.ofChange regstoreAgainSpec)

/-- ITS FALSE NEIGHBOUR: 'it returns false'. Refute it at one input. -/
def regstoreAgainWrong : ChangeSpec := { name := "regstoreAgain", fn := fun _ => fun
  | [d1, d2] => { results := [.lit (.bool false)], args := [d1, d2] }
  | _ => none }
def RegstoreAgainWrongFalsely : Prop := regstoreAgainRow.holds Tryz.pinned (OpenSpec.ofChange regstoreAgainWrong)

/-- 'wharflaw22.RegstoreRuns': WHATEVER THE INPUT: true; the input reads as it did. -/
def regstoreRunsSpec : ChangeSpec := { name := "regstoreRuns", fn := fun _ => fun
  | [d1, d2] => { results := [.lit (.bool true)], args := [d1, d2] }
  | _ => none }
def regstoreRunsRow : OpenClaim := { program := "ytampemlkcngogaagreatdoor", sum := "08801e6d3931cf145ceae3553df7c0ac52cd3c12804e909dbeeb3afa644c631b", func := "wharf/wharflaw22.RegstoreRuns", spec := "regstoreRuns", inPlace := ["internal/bytealg.IndexByteString", "internal/bytealg.IndexString", "internal/bytealg.CountString", "internal/abi.NoEscape", "internal/bytealg.MakeNoZero", "internal/bytealg.abigen_runtime_cmpstring"], unfollowed := true, recurses := true, named := ["internal/bytealg.MaxLen", "unicode/utf8.first", "unicode/utf8.acceptRanges"], apart := false, laid := [("unicode/utf8.acceptRanges", laid_unicode_utf8_acceptRanges), ("unicode/utf8.first", laid_unicode_utf8_first)] }
def RegstoreRunsSaid : Prop := regstoreRunsRow.holds Tryz.pinned (OpenSpec.ofChange regstoreRunsSpec)

/-- ITS FALSE NEIGHBOUR: 'it returns false'. Refute it at one input. -/
def regstoreRunsWrong : ChangeSpec := { name := "regstoreRuns", fn := fun _ => fun
  | [d1, d2] => { results := [.lit (.bool false)], args := [d1, d2] }
  | _ => none }
def RegstoreRunsWrongFalsely : Prop := regstoreRunsRow.holds Tryz.pinned (OpenSpec.ofChange regstoreRunsWrong)

/-- 'wharflaw22.RegstoreLasts': WHATEVER THE INPUT: true; the input reads as it did. -/
def regstoreLastsSpec : ChangeSpec := { name := "regstoreLasts", fn := fun _ => fun
  | [d1, d2] => { results := [.lit (.bool true)], args := [d1, d2] }
  | _ => none }
def regstoreLastsRow : OpenClaim := { program := "ytampemlkcngogaagreatdoor", sum := "08801e6d3931cf145ceae3553df7c0ac52cd3c12804e909dbeeb3afa644c631b", func := "wharf/wharflaw22.RegstoreLasts", spec := "regstoreLasts", inPlace := ["internal/bytealg.IndexByteString", "internal/bytealg.IndexString", "internal/bytealg.CountString", "internal/abi.NoEscape", "internal/bytealg.MakeNoZero", "internal/bytealg.abigen_runtime_cmpstring"], unfollowed := true, recurses := true, named := ["internal/bytealg.MaxLen", "unicode/utf8.first", "unicode/utf8.acceptRanges"], apart := false, laid := [("unicode/utf8.acceptRanges", laid_unicode_utf8_acceptRanges), ("unicode/utf8.first", laid_unicode_utf8_first)] }
def RegstoreLastsSaid : Prop := regstoreLastsRow.holds Tryz.pinned (OpenSpec.ofChange regstoreLastsSpec)

/-- ITS FALSE NEIGHBOUR: 'it returns false'. Refute it at one input. -/
def regstoreLastsWrong : ChangeSpec := { name := "regstoreLasts", fn := fun _ => fun
  | [d1, d2] => { results := [.lit (.bool false)], args := [d1, d2] }
  | _ => none }
def RegstoreLastsWrongFalsely : Prop := regstoreLastsRow.holds Tryz.pinned (OpenSpec.ofChange regstoreLastsWrong)

/- THE SECOND FORM. 'bulk': how many values and letters a reading holds, each counted each time it is reached (what is shared counts as often as it is met; a slice's spare places count too). A statement '..UptoSaid' is the law's where the arguments, and the package variables that the reading takes, are together of bulk at most 1048576: NARROWER than '..Said'. Prove '..Said' where nothing that the law and all that it calls make is longer than what came in: it says more and counts as full. Else prove '..UptoSaid'. A law counts once. -/
mutual
def uptoBulk {H : Type} : DataW H → Nat
  | .lit (.string bytes) => bytes.length + 1
  | .lit _ => 1
  | .nil => 1
  | .ptr d => uptoBulk d + 1
  | .slice elems spare => uptoBulkAll elems + uptoBulkAll spare + 1
  | .agg parts => uptoBulkAll parts + 1
  | .iface _ d => uptoBulk d + 1
  | .map entries => uptoBulkEntries entries + 1
  | .held _ => 1
def uptoBulkAll {H : Type} : List (DataW H) → Nat
  | [] => 0
  | d :: r => uptoBulk d + uptoBulkAll r
def uptoBulkEntries {H : Type} : List (Lit × DataW H) → Nat
  | [] => 0
  | x :: r => uptoBulkEntry x + uptoBulkEntries r
def uptoBulkEntry {H : Type} : Lit × DataW H → Nat
  | (.string bytes, d) => bytes.length + uptoBulk d + 1
  | (_, d) => uptoBulk d + 1
 end
def uptoSmall : (H : Type) → List (DataW H) → Bool := fun _ ds => decide (uptoBulkAll ds ≤ 1048576)
def OpenSpec.upto (s : _root_.Go.ChangeSpec) : _root_.Go.OpenSpec := { _root_.Go.OpenSpec.ofChange s with cond := some uptoSmall }

/-- 'wharflaw22.RegstoreSpoilt', WHERE WHAT IT READS IS OF BULK AT MOST 1048576: true; the input reads as it did. -/
def regstoreSpoiltUptoRow : OpenClaim := { program := "ytampemlkcngogaagreatdoor", sum := "08801e6d3931cf145ceae3553df7c0ac52cd3c12804e909dbeeb3afa644c631b", func := "wharf/wharflaw22.RegstoreSpoilt", spec := "regstoreSpoilt", inPlace := ["internal/bytealg.IndexByteString", "internal/bytealg.IndexString", "internal/bytealg.CountString", "internal/abi.NoEscape", "internal/bytealg.MakeNoZero", "internal/bytealg.abigen_runtime_cmpstring"], unfollowed := true, recurses := true, named := ["internal/bytealg.MaxLen", "unicode/utf8.first", "unicode/utf8.acceptRanges"], apart := false, laid := [("unicode/utf8.acceptRanges", laid_unicode_utf8_acceptRanges), ("unicode/utf8.first", laid_unicode_utf8_first)], narrowed := true }
def RegstoreSpoiltUptoSaid : Prop := regstoreSpoiltUptoRow.holds Tryz.pinned (OpenSpec.upto regstoreSpoiltSpec)

/-- 'wharflaw22.RegstoreNil', WHERE WHAT IT READS IS OF BULK AT MOST 1048576: true; the input reads as it did. -/
def regstoreNilUptoRow : OpenClaim := { program := "ytampemlkcngogaagreatdoor", sum := "08801e6d3931cf145ceae3553df7c0ac52cd3c12804e909dbeeb3afa644c631b", func := "wharf/wharflaw22.RegstoreNil", spec := "regstoreNil", inPlace := ["internal/bytealg.IndexByteString", "internal/bytealg.IndexString", "internal/bytealg.CountString", "internal/abi.NoEscape", "internal/bytealg.MakeNoZero", "internal/bytealg.abigen_runtime_cmpstring"], unfollowed := true, recurses := true, named := ["internal/bytealg.MaxLen", "unicode/utf8.first", "unicode/utf8.acceptRanges"], apart := false, laid := [("unicode/utf8.acceptRanges", laid_unicode_utf8_acceptRanges), ("unicode/utf8.first", laid_unicode_utf8_first)], narrowed := true }
def RegstoreNilUptoSaid : Prop := regstoreNilUptoRow.holds Tryz.pinned (OpenSpec.upto regstoreNilSpec)

/-- 'wharflaw22.RegstoreAgain', WHERE WHAT IT READS IS OF BULK AT MOST 1048576: true; the input reads as it did. -/
def regstoreAgainUptoRow : OpenClaim := { program := "ytampemlkcngogaagreatdoor", sum := "08801e6d3931cf145ceae3553df7c0ac52cd3c12804e909dbeeb3afa644c631b", func := "wharf/wharflaw22.RegstoreAgain", spec := "regstoreAgain", inPlace := ["internal/bytealg.IndexByteString", "internal/bytealg.IndexString", "internal/bytealg.CountString", "internal/abi.NoEscape", "internal/bytealg.MakeNoZero", "internal/bytealg.abigen_runtime_cmpstring"], unfollowed := true, recurses := true, named := ["internal/bytealg.MaxLen", "unicode/utf8.first", "unicode/utf8.acceptRanges"], apart := false, laid := [("unicode/utf8.acceptRanges", laid_unicode_utf8_acceptRanges), ("unicode/utf8.first", laid_unicode_utf8_first)], narrowed := true }
def RegstoreAgainUptoSaid : Prop := regstoreAgainUptoRow.holds Tryz.pinned (OpenSpec.upto regstoreAgainSpec)

/-- 'wharflaw22.RegstoreRuns', WHERE WHAT IT READS IS OF BULK AT MOST 1048576: true; the input reads as it did. -/
def regstoreRunsUptoRow : OpenClaim := { program := "ytampemlkcngogaagreatdoor", sum := "08801e6d3931cf145ceae3553df7c0ac52cd3c12804e909dbeeb3afa644c631b", func := "wharf/wharflaw22.RegstoreRuns", spec := "regstoreRuns", inPlace := ["internal/bytealg.IndexByteString", "internal/bytealg.IndexString", "internal/bytealg.CountString", "internal/abi.NoEscape", "internal/bytealg.MakeNoZero", "internal/bytealg.abigen_runtime_cmpstring"], unfollowed := true, recurses := true, named := ["internal/bytealg.MaxLen", "unicode/utf8.first", "unicode/utf8.acceptRanges"], apart := false, laid := [("unicode/utf8.acceptRanges", laid_unicode_utf8_acceptRanges), ("unicode/utf8.first", laid_unicode_utf8_first)], narrowed := true }
def RegstoreRunsUptoSaid : Prop := regstoreRunsUptoRow.holds Tryz.pinned (OpenSpec.upto regstoreRunsSpec)

/-- 'wharflaw22.RegstoreLasts', WHERE WHAT IT READS IS OF BULK AT MOST 1048576: true; the input reads as it did. -/
def regstoreLastsUptoRow : OpenClaim := { program := "ytampemlkcngogaagreatdoor", sum := "08801e6d3931cf145ceae3553df7c0ac52cd3c12804e909dbeeb3afa644c631b", func := "wharf/wharflaw22.RegstoreLasts", spec := "regstoreLasts", inPlace := ["internal/bytealg.IndexByteString", "internal/bytealg.IndexString", "internal/bytealg.CountString", "internal/abi.NoEscape", "internal/bytealg.MakeNoZero", "internal/bytealg.abigen_runtime_cmpstring"], unfollowed := true, recurses := true, named := ["internal/bytealg.MaxLen", "unicode/utf8.first", "unicode/utf8.acceptRanges"], apart := false, laid := [("unicode/utf8.acceptRanges", laid_unicode_utf8_acceptRanges), ("unicode/utf8.first", laid_unicode_utf8_first)], narrowed := true }
def RegstoreLastsUptoSaid : Prop := regstoreLastsUptoRow.holds Tryz.pinned (OpenSpec.upto regstoreLastsSpec)

end Rows
end Go.Proofs.YtampemlkcngogaaGreatDoor
