/-
  NARROWER THAN 'FOR EVERY INPUT', by the rows' own cells (each row's printed sentence says how): PeerLets: laid · PeerLists: laid · PeerNil: laid · PeerMeets: laid · PeerFrames: laid.
  DERIVED. THE GIVEN ROWS OF THIS SEAT. 5 by the template 'for every input the law returns true; each argument reads behind the call as it read before'; 0 by the template 'total and deterministic' (their statements: YtacmmkacdfhagaaGreatDoorTotals.lean).
  GIVEN WITH THE SEED: the statements are not yours to turn. If you find one false, say at which input.
  Laid BY PROGRAM, IN A SANDBOX (cutbox-rows.mjs): the forced cells as the released guide's own fill.sh prints them over the translation 9d316c2864cffe39… (all of the seat's roots in one cut). By AI agents, Wed Nov 11 2026. No macro, syntax, notation, axiom, sorry.
-/
import Derived.Test.YtacmmkacdfhagaaGreatDoorChecked
import GoSem.PinnedTables
import GoSem.Claim
import GoSem.ClaimJoined
import GoSem.ClaimMapViews
import Derived.JoinedTies
import Derived.KernelRfl
namespace Go.Proofs.YtacmmkacdfhagaaGreatDoor
/- THE CELL 'sum', in the pinned program and in every row, IS THE sha256 OF THE DUMP (.gsa) THAT YtacmmkacdfhagaaGreatDoorProg.lean LOADS. Nothing in Lean hashes anything: it is a label: what it is worth is what the hold of that sum in a sandbox is worth. -/
noncomputable def Tryz.pinned : Pinned := { name := "ytacmmkacdfhagaagreatdoor", sum := "9d316c2864cffe3906fae381f20f91e368328f2d89f2ecd86e3e9291eaa5f781", checked := Tryz.checked }
namespace Rows
def none {H : Type} : Left H := { results := [], args := [] }

/- WHAT THE LISTED PACKAGE-LEVEL VARIABLES READ AS WHEN THE CALL BEGINS. Each datum BY PROGRAM (the guide's laid-datum.mjs) off the statement by which the dump's own 'gosem.cut.vars' lays the variable. In a bare row this is a premise. The card (YtacmmkacdfhagaaGreatDoorCards.lean) ties it to the program's text. -/
def laid_unicode_utf8_acceptRanges {H : Type} : DataW H := .agg [.agg [.lit (.int .u8 128), .lit (.int .u8 191)], .agg [.lit (.int .u8 160), .lit (.int .u8 191)], .agg [.lit (.int .u8 128), .lit (.int .u8 159)], .agg [.lit (.int .u8 144), .lit (.int .u8 191)], .agg [.lit (.int .u8 128), .lit (.int .u8 143)], .agg [.lit (.int .u8 0), .lit (.int .u8 0)], .agg [.lit (.int .u8 0), .lit (.int .u8 0)], .agg [.lit (.int .u8 0), .lit (.int .u8 0)], .agg [.lit (.int .u8 0), .lit (.int .u8 0)], .agg [.lit (.int .u8 0), .lit (.int .u8 0)], .agg [.lit (.int .u8 0), .lit (.int .u8 0)], .agg [.lit (.int .u8 0), .lit (.int .u8 0)], .agg [.lit (.int .u8 0), .lit (.int .u8 0)], .agg [.lit (.int .u8 0), .lit (.int .u8 0)], .agg [.lit (.int .u8 0), .lit (.int .u8 0)], .agg [.lit (.int .u8 0), .lit (.int .u8 0)]]
/-- One of Go's own tables, pinned by name: the form's constant. -/
def laid_unicode_utf8_first : DataW Unit := Go.Pinned.utf8First

/-- 'wharflaw26.PeerLets': WHATEVER THE INPUT: true; the input reads as it did. -/
def peerLetsSpec : ChangeSpec := { name := "peerLets", fn := fun _ => fun
  | [d1, d2, d3, d4] => { results := [.lit (.bool true)], args := [d1, d2, d3, d4] }
  | _ => none }
def peerLetsRow : OpenClaim := { program := "ytacmmkacdfhagaagreatdoor", sum := "9d316c2864cffe3906fae381f20f91e368328f2d89f2ecd86e3e9291eaa5f781", func := "wharf/wharflaw26.PeerLets", spec := "peerLets", inPlace := ["internal/bytealg.CountString", "internal/bytealg.IndexByteString", "internal/bytealg.IndexString", "internal/abi.NoEscape", "internal/bytealg.MakeNoZero", "slices.overlaps[wharf/api.Item]"], unfollowed := true, recurses := true, named := ["internal/bytealg.MaxLen", "unicode/utf8.first", "unicode/utf8.acceptRanges"], apart := false, laid := [("unicode/utf8.acceptRanges", laid_unicode_utf8_acceptRanges), ("unicode/utf8.first", laid_unicode_utf8_first)] }
def PeerLetsSaid : Prop := peerLetsRow.holds Tryz.pinned (OpenSpec.ofChange peerLetsSpec)

/-- ITS FALSE NEIGHBOUR: 'it returns false'. Refute it at one input. -/
def peerLetsWrong : ChangeSpec := { name := "peerLets", fn := fun _ => fun
  | [d1, d2, d3, d4] => { results := [.lit (.bool false)], args := [d1, d2, d3, d4] }
  | _ => none }
def PeerLetsWrongFalsely : Prop := peerLetsRow.holds Tryz.pinned (OpenSpec.ofChange peerLetsWrong)

/-- 'wharflaw26.PeerLists': WHATEVER THE INPUT: true; the input reads as it did. -/
def peerListsSpec : ChangeSpec := { name := "peerLists", fn := fun _ => fun
  | [d] => { results := [.lit (.bool true)], args := [d] }
  | _ => none }
def peerListsRow : OpenClaim := { program := "ytacmmkacdfhagaagreatdoor", sum := "9d316c2864cffe3906fae381f20f91e368328f2d89f2ecd86e3e9291eaa5f781", func := "wharf/wharflaw26.PeerLists", spec := "peerLists", inPlace := ["internal/bytealg.CountString", "internal/bytealg.IndexByteString", "internal/bytealg.IndexString", "internal/abi.NoEscape", "internal/bytealg.MakeNoZero", "slices.overlaps[wharf/api.Item]"], unfollowed := true, recurses := true, named := ["internal/bytealg.MaxLen", "unicode/utf8.first", "unicode/utf8.acceptRanges"], apart := false, laid := [("unicode/utf8.acceptRanges", laid_unicode_utf8_acceptRanges), ("unicode/utf8.first", laid_unicode_utf8_first)] }
def PeerListsSaid : Prop := peerListsRow.holds Tryz.pinned (OpenSpec.ofChange peerListsSpec)

/-- ITS FALSE NEIGHBOUR: 'it returns false'. Refute it at one input. -/
def peerListsWrong : ChangeSpec := { name := "peerLists", fn := fun _ => fun
  | [d] => { results := [.lit (.bool false)], args := [d] }
  | _ => none }
def PeerListsWrongFalsely : Prop := peerListsRow.holds Tryz.pinned (OpenSpec.ofChange peerListsWrong)

/-- 'wharflaw26.PeerNil': WHATEVER THE INPUT: true; the input reads as it did. -/
def peerNilSpec : ChangeSpec := { name := "peerNil", fn := fun _ => fun
  | [d1, d2] => { results := [.lit (.bool true)], args := [d1, d2] }
  | _ => none }
def peerNilRow : OpenClaim := { program := "ytacmmkacdfhagaagreatdoor", sum := "9d316c2864cffe3906fae381f20f91e368328f2d89f2ecd86e3e9291eaa5f781", func := "wharf/wharflaw26.PeerNil", spec := "peerNil", inPlace := ["internal/bytealg.CountString", "internal/bytealg.IndexByteString", "internal/bytealg.IndexString", "internal/abi.NoEscape", "internal/bytealg.MakeNoZero", "slices.overlaps[wharf/api.Item]"], unfollowed := true, recurses := true, named := ["internal/bytealg.MaxLen", "unicode/utf8.first", "unicode/utf8.acceptRanges"], apart := false, laid := [("unicode/utf8.acceptRanges", laid_unicode_utf8_acceptRanges), ("unicode/utf8.first", laid_unicode_utf8_first)] }
def PeerNilSaid : Prop := peerNilRow.holds Tryz.pinned (OpenSpec.ofChange peerNilSpec)

/-- ITS FALSE NEIGHBOUR: 'it returns false'. Refute it at one input. -/
def peerNilWrong : ChangeSpec := { name := "peerNil", fn := fun _ => fun
  | [d1, d2] => { results := [.lit (.bool false)], args := [d1, d2] }
  | _ => none }
def PeerNilWrongFalsely : Prop := peerNilRow.holds Tryz.pinned (OpenSpec.ofChange peerNilWrong)

/-- 'wharflaw26.PeerMeets': WHATEVER THE INPUT: true; the input reads as it did. -/
def peerMeetsSpec : ChangeSpec := { name := "peerMeets", fn := fun _ => fun
  | [d1, d2] => { results := [.lit (.bool true)], args := [d1, d2] }
  | _ => none }
def peerMeetsRow : OpenClaim := { program := "ytacmmkacdfhagaagreatdoor", sum := "9d316c2864cffe3906fae381f20f91e368328f2d89f2ecd86e3e9291eaa5f781", func := "wharf/wharflaw26.PeerMeets", spec := "peerMeets", inPlace := ["internal/bytealg.CountString", "internal/bytealg.IndexByteString", "internal/bytealg.IndexString", "internal/abi.NoEscape", "internal/bytealg.MakeNoZero", "slices.overlaps[wharf/api.Item]"], unfollowed := true, recurses := true, named := ["internal/bytealg.MaxLen", "unicode/utf8.first", "unicode/utf8.acceptRanges"], apart := false, laid := [("unicode/utf8.acceptRanges", laid_unicode_utf8_acceptRanges), ("unicode/utf8.first", laid_unicode_utf8_first)] }
def PeerMeetsSaid : Prop := peerMeetsRow.holds Tryz.pinned (OpenSpec.ofChange peerMeetsSpec)

/-- ITS FALSE NEIGHBOUR: 'it returns false'. Refute it at one input. -/
def peerMeetsWrong : ChangeSpec := { name := "peerMeets", fn := fun _ => fun
  | [d1, d2] => { results := [.lit (.bool false)], args := [d1, d2] }
  | _ => none }
def PeerMeetsWrongFalsely : Prop := peerMeetsRow.holds Tryz.pinned (OpenSpec.ofChange peerMeetsWrong)

/-- 'wharflaw26.PeerFrames': WHATEVER THE INPUT: true; the input reads as it did. -/
def peerFramesSpec : ChangeSpec := { name := "peerFrames", fn := fun _ => fun
  | [d] => { results := [.lit (.bool true)], args := [d] }
  | _ => none }
def peerFramesRow : OpenClaim := { program := "ytacmmkacdfhagaagreatdoor", sum := "9d316c2864cffe3906fae381f20f91e368328f2d89f2ecd86e3e9291eaa5f781", func := "wharf/wharflaw26.PeerFrames", spec := "peerFrames", inPlace := ["internal/bytealg.CountString", "internal/bytealg.IndexByteString", "internal/bytealg.IndexString", "internal/abi.NoEscape", "internal/bytealg.MakeNoZero", "slices.overlaps[wharf/api.Item]"], unfollowed := true, recurses := true, named := ["internal/bytealg.MaxLen", "unicode/utf8.first", "unicode/utf8.acceptRanges"], apart := false, laid := [("unicode/utf8.acceptRanges", laid_unicode_utf8_acceptRanges), ("unicode/utf8.first", laid_unicode_utf8_first)] }
def PeerFramesSaid : Prop := peerFramesRow.holds Tryz.pinned (OpenSpec.ofChange peerFramesSpec)

/-- ITS FALSE NEIGHBOUR: 'it returns false'. Refute it at one input. -/
def peerFramesWrong : ChangeSpec := { name := "peerFrames", fn := fun _ => fun
  | [d] => { results := [.lit (.bool false)], args := [d] }
  | _ => none }
def PeerFramesWrongFalsely : Prop := peerFramesRow.holds Tryz.pinned (OpenSpec.ofChange peerFramesWrong)

/- THE SECOND FORM. 'bulk': how many values and letters a reading holds, each counted each time it is reached (what is shared counts as often as it is met; a slice's spare places count too). A statement '..UptoSaid' is the law's where the arguments, and the package variables that the reading takes, are together of bulk at most 1048576: NARROWER than '..Said'. Prove '..Said' where nothing that the law and all that it calls make is longer than what came in: it says more and counts as full. Else prove '..UptoSaid'. A law counts once. -/
mutual
def uptoBulk {H : Type} : DataW H → Nat
  | .lit (.string bytes) => bytes.length + 1
  | .lit _ => 1
  | .nil => 1
  | .ptr d => uptoBulk d + 1
  | .slice elems spare => uptoBulkAll elems + uptoBulkAll spare + 1
  | .agg parts => uptoBulkAll parts + 1
  | .iface _ d => uptoBulk d + 1
  | .map entries => uptoBulkEntries entries + 1
  | .held _ => 1
def uptoBulkAll {H : Type} : List (DataW H) → Nat
  | [] => 0
  | d :: r => uptoBulk d + uptoBulkAll r
def uptoBulkEntries {H : Type} : List (Lit × DataW H) → Nat
  | [] => 0
  | x :: r => uptoBulkEntry x + uptoBulkEntries r
def uptoBulkEntry {H : Type} : Lit × DataW H → Nat
  | (.string bytes, d) => bytes.length + uptoBulk d + 1
  | (_, d) => uptoBulk d + 1
 end
def uptoSmall : (H : Type) → List (DataW H) → Bool := fun _ ds => decide (uptoBulkAll ds ≤ 1048576)
def OpenSpec.upto (s : _root_.Go.ChangeSpec) : _root_.Go.OpenSpec := { _root_.Go.OpenSpec.ofChange s with cond := some uptoSmall }

/-- 'wharflaw26.PeerLets', WHERE WHAT IT READS IS OF BULK AT MOST 1048576: true; the input reads as it did. -/
def peerLetsUptoRow : OpenClaim := { program := "ytacmmkacdfhagaagreatdoor", sum := "9d316c2864cffe3906fae381f20f91e368328f2d89f2ecd86e3e9291eaa5f781", func := "wharf/wharflaw26.PeerLets", spec := "peerLets", inPlace := ["internal/bytealg.CountString", "internal/bytealg.IndexByteString", "internal/bytealg.IndexString", "internal/abi.NoEscape", "internal/bytealg.MakeNoZero", "slices.overlaps[wharf/api.Item]"], unfollowed := true, recurses := true, named := ["internal/bytealg.MaxLen", "unicode/utf8.first", "unicode/utf8.acceptRanges"], apart := false, laid := [("unicode/utf8.acceptRanges", laid_unicode_utf8_acceptRanges), ("unicode/utf8.first", laid_unicode_utf8_first)], narrowed := true }
def PeerLetsUptoSaid : Prop := peerLetsUptoRow.holds Tryz.pinned (OpenSpec.upto peerLetsSpec)

/-- 'wharflaw26.PeerLists', WHERE WHAT IT READS IS OF BULK AT MOST 1048576: true; the input reads as it did. -/
def peerListsUptoRow : OpenClaim := { program := "ytacmmkacdfhagaagreatdoor", sum := "9d316c2864cffe3906fae381f20f91e368328f2d89f2ecd86e3e9291eaa5f781", func := "wharf/wharflaw26.PeerLists", spec := "peerLists", inPlace := ["internal/bytealg.CountString", "internal/bytealg.IndexByteString", "internal/bytealg.IndexString", "internal/abi.NoEscape", "internal/bytealg.MakeNoZero", "slices.overlaps[wharf/api.Item]"], unfollowed := true, recurses := true, named := ["internal/bytealg.MaxLen", "unicode/utf8.first", "unicode/utf8.acceptRanges"], apart := false, laid := [("unicode/utf8.acceptRanges", laid_unicode_utf8_acceptRanges), ("unicode/utf8.first", laid_unicode_utf8_first)], narrowed := true }
def PeerListsUptoSaid : Prop := peerListsUptoRow.holds Tryz.pinned (OpenSpec.upto peerListsSpec)

/-- 'wharflaw26.PeerNil', WHERE WHAT IT READS IS OF BULK AT MOST 1048576: true; the input reads as it did. -/
def peerNilUptoRow : OpenClaim := { program := "ytacmmkacdfhagaagreatdoor", sum := "9d316c2864cffe3906fae381f20f91e368328f2d89f2ecd86e3e9291eaa5f781", func := "wharf/wharflaw26.PeerNil", spec := "peerNil", inPlace := ["internal/bytealg.CountString", "internal/bytealg.IndexByteString", "internal/bytealg.IndexString", "internal/abi.NoEscape", "internal/bytealg.MakeNoZero", "slices.overlaps[wharf/api.Item]"], unfollowed := true, recurses := true, named := ["internal/bytealg.MaxLen", "unicode/utf8.first", "unicode/utf8.acceptRanges"], apart := false, laid := [("unicode/utf8.acceptRanges", laid_unicode_utf8_acceptRanges), ("unicode/utf8.first", laid_unicode_utf8_first)], narrowed := true }
def PeerNilUptoSaid : Prop := peerNilUptoRow.holds Tryz.pinned (OpenSpec.upto peerNilSpec)

/-- 'wharflaw26.PeerMeets', WHERE WHAT IT READS IS OF BULK AT MOST 1048576: true; the input reads as it did. -/
def peerMeetsUptoRow : OpenClaim := { program := "ytacmmkacdfhagaagreatdoor", sum := "9d316c2864cffe3906fae381f20f91e368328f2d89f2ecd86e3e9291eaa5f781", func := "wharf/wharflaw26.PeerMeets", spec := "peerMeets", inPlace := ["internal/bytealg.CountString", "internal/bytealg.IndexByteString", "internal/bytealg.IndexString", "internal/abi.NoEscape", "internal/bytealg.MakeNoZero", "slices.overlaps[wharf/api.Item]"], unfollowed := true, recurses := true, named := ["internal/bytealg.MaxLen", "unicode/utf8.first", "unicode/utf8.acceptRanges"], apart := false, laid := [("unicode/utf8.acceptRanges", laid_unicode_utf8_acceptRanges), ("unicode/utf8.first", laid_unicode_utf8_first)], narrowed := true }
def PeerMeetsUptoSaid : Prop := peerMeetsUptoRow.holds Tryz.pinned (OpenSpec.upto peerMeetsSpec)

/-- 'wharflaw26.PeerFrames', WHERE WHAT IT READS IS OF BULK AT MOST 1048576: true; the input reads as it did. -/
def peerFramesUptoRow : OpenClaim := { program := "ytacmmkacdfhagaagreatdoor", sum := "9d316c2864cffe3906fae381f20f91e368328f2d89f2ecd86e3e9291eaa5f781", func := "wharf/wharflaw26.PeerFrames", spec := "peerFrames", inPlace := ["internal/bytealg.CountString", "internal/bytealg.IndexByteString", "internal/bytealg.IndexString", "internal/abi.NoEscape", "internal/bytealg.MakeNoZero", "slices.overlaps[wharf/api.Item]"], unfollowed := true, recurses := true, named := ["internal/bytealg.MaxLen", "unicode/utf8.first", "unicode/utf8.acceptRanges"], apart := false, laid := [("unicode/utf8.acceptRanges", laid_unicode_utf8_acceptRanges), ("unicode/utf8.first", laid_unicode_utf8_first)], narrowed := true }
def PeerFramesUptoSaid : Prop := peerFramesUptoRow.holds Tryz.pinned (OpenSpec.upto peerFramesSpec)

end Rows
end Go.Proofs.YtacmmkacdfhagaaGreatDoor
