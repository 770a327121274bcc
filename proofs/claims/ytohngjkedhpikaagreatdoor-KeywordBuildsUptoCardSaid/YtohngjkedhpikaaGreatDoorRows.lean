/-
  NARROWER THAN 'FOR EVERY INPUT', by the rows' own cells (each row's printed sentence says how): KeywordAll: laid · KeywordOrders: laid · KeywordHeadings: laid · KeywordFollows: laid · KeywordAsks: laid · KeywordBuilds: laid.
  DERIVED. THE GIVEN ROWS OF THIS SEAT. 6 by the template 'for every input the law returns true; each argument reads behind the call as it read before'; 0 by the template 'total and deterministic' (their statements: YtohngjkedhpikaaGreatDoorTotals.lean).
  GIVEN WITH THE SEED: the statements are not yours to turn. If you find one false, say at which input.
  Laid BY PROGRAM, IN A SANDBOX (cutbox-rows.mjs): the forced cells as the released guide's own fill.sh prints them over the translation dd92f98b2d2cf725… (all of the seat's roots in one cut). By AI agents, Wed Nov 11 2026. No macro, syntax, notation, axiom, sorry.
-/
import Derived.Test.YtohngjkedhpikaaGreatDoorChecked
import GoSem.PinnedTables
import GoSem.Claim
import GoSem.ClaimJoined
import GoSem.ClaimMapViews
import Derived.JoinedTies
import Derived.KernelRfl
namespace Go.Proofs.YtohngjkedhpikaaGreatDoor
/- THE CELL 'sum', in the pinned program and in every row, IS THE sha256 OF THE DUMP (.gsa) THAT YtohngjkedhpikaaGreatDoorProg.lean LOADS. Nothing in Lean hashes anything: it is a label: what it is worth is what the hold of that sum in a sandbox is worth. -/
noncomputable def Tryz.pinned : Pinned := { name := "ytohngjkedhpikaagreatdoor", sum := "dd92f98b2d2cf725b2860a4a26fd612702b3819b632da14c539c1e5d51bcde0c", checked := Tryz.checked }
namespace Rows
def none {H : Type} : Left H := { results := [], args := [] }

/- WHAT THE LISTED PACKAGE-LEVEL VARIABLES READ AS WHEN THE CALL BEGINS. Each datum BY PROGRAM (the guide's laid-datum.mjs) off the statement by which the dump's own 'gosem.cut.vars' lays the variable. In a bare row this is a premise. The card (YtohngjkedhpikaaGreatDoorCards.lean) ties it to the program's text. -/
def laid_unicode_utf8_acceptRanges {H : Type} : DataW H := .agg [.agg [.lit (.int .u8 128), .lit (.int .u8 191)], .agg [.lit (.int .u8 160), .lit (.int .u8 191)], .agg [.lit (.int .u8 128), .lit (.int .u8 159)], .agg [.lit (.int .u8 144), .lit (.int .u8 191)], .agg [.lit (.int .u8 128), .lit (.int .u8 143)], .agg [.lit (.int .u8 0), .lit (.int .u8 0)], .agg [.lit (.int .u8 0), .lit (.int .u8 0)], .agg [.lit (.int .u8 0), .lit (.int .u8 0)], .agg [.lit (.int .u8 0), .lit (.int .u8 0)], .agg [.lit (.int .u8 0), .lit (.int .u8 0)], .agg [.lit (.int .u8 0), .lit (.int .u8 0)], .agg [.lit (.int .u8 0), .lit (.int .u8 0)], .agg [.lit (.int .u8 0), .lit (.int .u8 0)], .agg [.lit (.int .u8 0), .lit (.int .u8 0)], .agg [.lit (.int .u8 0), .lit (.int .u8 0)], .agg [.lit (.int .u8 0), .lit (.int .u8 0)]]
/-- One of Go's own tables, pinned by name: the form's constant. -/
def laid_unicode_utf8_first : DataW Unit := Go.Pinned.utf8First

/-- 'foliolaw09.KeywordAll': WHATEVER THE INPUT: true; the input reads as it did. -/
def keywordAllSpec : ChangeSpec := { name := "keywordAll", fn := fun _ => fun
  | [d] => { results := [.lit (.bool true)], args := [d] }
  | _ => none }
def keywordAllRow : OpenClaim := { program := "ytohngjkedhpikaagreatdoor", sum := "dd92f98b2d2cf725b2860a4a26fd612702b3819b632da14c539c1e5d51bcde0c", func := "folio/foliolaw09.KeywordAll", spec := "keywordAll", inPlace := ["internal/abi.NoEscape", "internal/bytealg.IndexByteString", "internal/bytealg.IndexString", "internal/bytealg.abigen_runtime_cmpstring"], unfollowed := true, recurses := true, named := ["unicode/utf8.first", "unicode/utf8.acceptRanges", "internal/bytealg.MaxLen"], plainKeys := false, apart := false, laid := [("unicode/utf8.acceptRanges", laid_unicode_utf8_acceptRanges), ("unicode/utf8.first", laid_unicode_utf8_first)] }
def KeywordAllSaid : Prop := keywordAllRow.holds Tryz.pinned (OpenSpec.ofChange keywordAllSpec)

/-- ITS FALSE NEIGHBOUR: 'it returns false'. Refute it at one input. -/
def keywordAllWrong : ChangeSpec := { name := "keywordAll", fn := fun _ => fun
  | [d] => { results := [.lit (.bool false)], args := [d] }
  | _ => none }
def KeywordAllWrongFalsely : Prop := keywordAllRow.holds Tryz.pinned (OpenSpec.ofChange keywordAllWrong)

/-- 'foliolaw09.KeywordOrders': WHATEVER THE INPUT: true; the input reads as it did. -/
def keywordOrdersSpec : ChangeSpec := { name := "keywordOrders", fn := fun _ => fun
  | [d] => { results := [.lit (.bool true)], args := [d] }
  | _ => none }
def keywordOrdersRow : OpenClaim := { program := "ytohngjkedhpikaagreatdoor", sum := "dd92f98b2d2cf725b2860a4a26fd612702b3819b632da14c539c1e5d51bcde0c", func := "folio/foliolaw09.KeywordOrders", spec := "keywordOrders", inPlace := ["internal/abi.NoEscape", "internal/bytealg.IndexByteString", "internal/bytealg.IndexString", "internal/bytealg.abigen_runtime_cmpstring"], unfollowed := true, recurses := true, named := ["unicode/utf8.first", "unicode/utf8.acceptRanges", "internal/bytealg.MaxLen"], plainKeys := false, apart := false, laid := [("unicode/utf8.acceptRanges", laid_unicode_utf8_acceptRanges), ("unicode/utf8.first", laid_unicode_utf8_first)] }
def KeywordOrdersSaid : Prop := keywordOrdersRow.holds Tryz.pinned (OpenSpec.ofChange keywordOrdersSpec)

/-- ITS FALSE NEIGHBOUR: 'it returns false'. Refute it at one input. -/
def keywordOrdersWrong : ChangeSpec := { name := "keywordOrders", fn := fun _ => fun
  | [d] => { results := [.lit (.bool false)], args := [d] }
  | _ => none }
def KeywordOrdersWrongFalsely : Prop := keywordOrdersRow.holds Tryz.pinned (OpenSpec.ofChange keywordOrdersWrong)

/-- 'foliolaw09.KeywordHeadings': WHATEVER THE INPUT: true; the input reads as it did. -/
def keywordHeadingsSpec : ChangeSpec := { name := "keywordHeadings", fn := fun _ => fun
  | [d] => { results := [.lit (.bool true)], args := [d] }
  | _ => none }
def keywordHeadingsRow : OpenClaim := { program := "ytohngjkedhpikaagreatdoor", sum := "dd92f98b2d2cf725b2860a4a26fd612702b3819b632da14c539c1e5d51bcde0c", func := "folio/foliolaw09.KeywordHeadings", spec := "keywordHeadings", inPlace := ["internal/abi.NoEscape", "internal/bytealg.IndexByteString", "internal/bytealg.IndexString", "internal/bytealg.abigen_runtime_cmpstring"], unfollowed := true, recurses := true, named := ["unicode/utf8.first", "unicode/utf8.acceptRanges", "internal/bytealg.MaxLen"], plainKeys := false, apart := false, laid := [("unicode/utf8.acceptRanges", laid_unicode_utf8_acceptRanges), ("unicode/utf8.first", laid_unicode_utf8_first)] }
def KeywordHeadingsSaid : Prop := keywordHeadingsRow.holds Tryz.pinned (OpenSpec.ofChange keywordHeadingsSpec)

/-- ITS FALSE NEIGHBOUR: 'it returns false'. Refute it at one input. -/
def keywordHeadingsWrong : ChangeSpec := { name := "keywordHeadings", fn := fun _ => fun
  | [d] => { results := [.lit (.bool false)], args := [d] }
  | _ => none }
def KeywordHeadingsWrongFalsely : Prop := keywordHeadingsRow.holds Tryz.pinned (OpenSpec.ofChange keywordHeadingsWrong)

/-- 'foliolaw09.KeywordFollows': WHATEVER THE INPUT: true; the input reads as it did. -/
def keywordFollowsSpec : ChangeSpec := { name := "keywordFollows", fn := fun _ => fun
  | [d1, d2] => { results := [.lit (.bool true)], args := [d1, d2] }
  | _ => none }
def keywordFollowsRow : OpenClaim := { program := "ytohngjkedhpikaagreatdoor", sum := "dd92f98b2d2cf725b2860a4a26fd612702b3819b632da14c539c1e5d51bcde0c", func := "folio/foliolaw09.KeywordFollows", spec := "keywordFollows", inPlace := ["internal/abi.NoEscape", "internal/bytealg.IndexByteString", "internal/bytealg.IndexString", "internal/bytealg.abigen_runtime_cmpstring"], unfollowed := true, recurses := true, named := ["unicode/utf8.first", "unicode/utf8.acceptRanges", "internal/bytealg.MaxLen"], plainKeys := false, apart := false, laid := [("unicode/utf8.acceptRanges", laid_unicode_utf8_acceptRanges), ("unicode/utf8.first", laid_unicode_utf8_first)] }
def KeywordFollowsSaid : Prop := keywordFollowsRow.holds Tryz.pinned (OpenSpec.ofChange keywordFollowsSpec)

/-- ITS FALSE NEIGHBOUR: 'it returns false'. Refute it at one input. -/
def keywordFollowsWrong : ChangeSpec := { name := "keywordFollows", fn := fun _ => fun
  | [d1, d2] => { results := [.lit (.bool false)], args := [d1, d2] }
  | _ => none }
def KeywordFollowsWrongFalsely : Prop := keywordFollowsRow.holds Tryz.pinned (OpenSpec.ofChange keywordFollowsWrong)

/-- 'foliolaw09.KeywordAsks': WHATEVER THE INPUT: true; the input reads as it did. -/
def keywordAsksSpec : ChangeSpec := { name := "keywordAsks", fn := fun _ => fun
  | [d1, d2, d3] => { results := [.lit (.bool true)], args := [d1, d2, d3] }
  | _ => none }
def keywordAsksRow : OpenClaim := { program := "ytohngjkedhpikaagreatdoor", sum := "dd92f98b2d2cf725b2860a4a26fd612702b3819b632da14c539c1e5d51bcde0c", func := "folio/foliolaw09.KeywordAsks", spec := "keywordAsks", inPlace := ["internal/abi.NoEscape", "internal/bytealg.IndexByteString", "internal/bytealg.IndexString", "internal/bytealg.abigen_runtime_cmpstring"], unfollowed := true, recurses := true, named := ["unicode/utf8.first", "unicode/utf8.acceptRanges", "internal/bytealg.MaxLen"], plainKeys := false, apart := false, laid := [("unicode/utf8.acceptRanges", laid_unicode_utf8_acceptRanges), ("unicode/utf8.first", laid_unicode_utf8_first)] }
def KeywordAsksSaid : Prop := keywordAsksRow.holds Tryz.pinned (OpenSpec.ofChange keywordAsksSpec)

/-- ITS FALSE NEIGHBOUR: 'it returns false'. Refute it at one input. -/
def keywordAsksWrong : ChangeSpec := { name := "keywordAsks", fn := fun _ => fun
  | [d1, d2, d3] => { results := [.lit (.bool false)], args := [d1, d2, d3] }
  | _ => none }
def KeywordAsksWrongFalsely : Prop := keywordAsksRow.holds Tryz.pinned (OpenSpec.ofChange keywordAsksWrong)

/-- 'foliolaw09.KeywordBuilds': WHATEVER THE INPUT: true; the input reads as it did. -/
def keywordBuildsSpec : ChangeSpec := { name := "keywordBuilds", fn := fun _ => fun
  | [d] => { results := [.lit (.bool true)], args := [d] }
  | _ => none }
def keywordBuildsRow : OpenClaim := { program := "ytohngjkedhpikaagreatdoor", sum := "dd92f98b2d2cf725b2860a4a26fd612702b3819b632da14c539c1e5d51bcde0c", func := "folio/foliolaw09.KeywordBuilds", spec := "keywordBuilds", inPlace := ["internal/abi.NoEscape", "internal/bytealg.IndexByteString", "internal/bytealg.IndexString", "internal/bytealg.abigen_runtime_cmpstring"], unfollowed := true, recurses := true, named := ["unicode/utf8.first", "unicode/utf8.acceptRanges", "internal/bytealg.MaxLen"], plainKeys := false, apart := false, laid := [("unicode/utf8.acceptRanges", laid_unicode_utf8_acceptRanges), ("unicode/utf8.first", laid_unicode_utf8_first)] }
def KeywordBuildsSaid : Prop := keywordBuildsRow.holds Tryz.pinned (OpenSpec.ofChange keywordBuildsSpec)

/-- ITS FALSE NEIGHBOUR: 'it returns false'. Refute it at one input. -/
def keywordBuildsWrong : ChangeSpec := { name := "keywordBuilds", fn := fun _ => fun
  | [d] => { results := [.lit (.bool false)], args := [d] }
  | _ => none }
def KeywordBuildsWrongFalsely : Prop := keywordBuildsRow.holds Tryz.pinned (OpenSpec.ofChange keywordBuildsWrong)

/- THE SECOND FORM. 'bulk': how many values and letters a reading holds, each counted each time it is reached (what is shared counts as often as it is met; a slice's spare places count too). A statement '..UptoSaid' is the law's where the arguments, and the package variables that the reading takes, are together of bulk at most 1048576: NARROWER than '..Said'. Prove '..Said' where nothing that the law and all that it calls make is longer than what came in: it says more and counts as full. Else prove '..UptoSaid'. A law counts once. -/
mutual
def uptoBulk {H : Type} : DataW H → Nat
  | .lit (.string bytes) => bytes.length + 1
  | .lit _ => 1
  | .nil => 1
  | .ptr d => uptoBulk d + 1
  | .slice elems spare => uptoBulkAll elems + uptoBulkAll spare + 1
  | .agg parts => uptoBulkAll parts + 1
  | .iface _ d => uptoBulk d + 1
  | .map entries => uptoBulkEntries entries + 1
  | .held _ => 1
def uptoBulkAll {H : Type} : List (DataW H) → Nat
  | [] => 0
  | d :: r => uptoBulk d + uptoBulkAll r
def uptoBulkEntries {H : Type} : List (Lit × DataW H) → Nat
  | [] => 0
  | x :: r => uptoBulkEntry x + uptoBulkEntries r
def uptoBulkEntry {H : Type} : Lit × DataW H → Nat
  | (.string bytes, d) => bytes.length + uptoBulk d + 1
  | (_, d) => uptoBulk d + 1
 end
def uptoSmall : (H : Type) → List (DataW H) → Bool := fun _ ds => decide (uptoBulkAll ds ≤ 1048576)
def OpenSpec.upto (s : _root_.Go.ChangeSpec) : _root_.Go.OpenSpec := { _root_.Go.OpenSpec.ofChange s with cond := some uptoSmall }

/-- 'foliolaw09.KeywordAll', WHERE WHAT IT READS IS OF BULK AT MOST 1048576: true; the input reads as it did. -/
def keywordAllUptoRow : OpenClaim := { program := "ytohngjkedhpikaagreatdoor", sum := "dd92f98b2d2cf725b2860a4a26fd612702b3819b632da14c539c1e5d51bcde0c", func := "folio/foliolaw09.KeywordAll", spec := "keywordAll", inPlace := ["internal/abi.NoEscape", "internal/bytealg.IndexByteString", "internal/bytealg.IndexString", "internal/bytealg.abigen_runtime_cmpstring"], unfollowed := true, recurses := true, named := ["unicode/utf8.first", "unicode/utf8.acceptRanges", "internal/bytealg.MaxLen"], plainKeys := false, apart := false, laid := [("unicode/utf8.acceptRanges", laid_unicode_utf8_acceptRanges), ("unicode/utf8.first", laid_unicode_utf8_first)], narrowed := true }
def KeywordAllUptoSaid : Prop := keywordAllUptoRow.holds Tryz.pinned (OpenSpec.upto keywordAllSpec)

/-- 'foliolaw09.KeywordOrders', WHERE WHAT IT READS IS OF BULK AT MOST 1048576: true; the input reads as it did. -/
def keywordOrdersUptoRow : OpenClaim := { program := "ytohngjkedhpikaagreatdoor", sum := "dd92f98b2d2cf725b2860a4a26fd612702b3819b632da14c539c1e5d51bcde0c", func := "folio/foliolaw09.KeywordOrders", spec := "keywordOrders", inPlace := ["internal/abi.NoEscape", "internal/bytealg.IndexByteString", "internal/bytealg.IndexString", "internal/bytealg.abigen_runtime_cmpstring"], unfollowed := true, recurses := true, named := ["unicode/utf8.first", "unicode/utf8.acceptRanges", "internal/bytealg.MaxLen"], plainKeys := false, apart := false, laid := [("unicode/utf8.acceptRanges", laid_unicode_utf8_acceptRanges), ("unicode/utf8.first", laid_unicode_utf8_first)], narrowed := true }
def KeywordOrdersUptoSaid : Prop := keywordOrdersUptoRow.holds Tryz.pinned (OpenSpec.upto keywordOrdersSpec)

/-- 'foliolaw09.KeywordHeadings', WHERE WHAT IT READS IS OF BULK AT MOST 1048576: true; the input reads as it did. -/
def keywordHeadingsUptoRow : OpenClaim := { program := "ytohngjkedhpikaagreatdoor", sum := "dd92f98b2d2cf725b2860a4a26fd612702b3819b632da14c539c1e5d51bcde0c", func := "folio/foliolaw09.KeywordHeadings", spec := "keywordHeadings", inPlace := ["internal/abi.NoEscape", "internal/bytealg.IndexByteString", "internal/bytealg.IndexString", "internal/bytealg.abigen_runtime_cmpstring"], unfollowed := true, recurses := true, named := ["unicode/utf8.first", "unicode/utf8.acceptRanges", "internal/bytealg.MaxLen"], plainKeys := false, apart := false, laid := [("unicode/utf8.acceptRanges", laid_unicode_utf8_acceptRanges), ("unicode/utf8.first", laid_unicode_utf8_first)], narrowed := true }
def KeywordHeadingsUptoSaid : Prop := keywordHeadingsUptoRow.holds Tryz.pinned (OpenSpec.upto keywordHeadingsSpec)

/-- 'foliolaw09.KeywordFollows', WHERE WHAT IT READS IS OF BULK AT MOST 1048576: true; the input reads as it did. -/
def keywordFollowsUptoRow : OpenClaim := { program := "ytohngjkedhpikaagreatdoor", sum := "dd92f98b2d2cf725b2860a4a26fd612702b3819b632da14c539c1e5d51bcde0c", func := "folio/foliolaw09.KeywordFollows", spec := "keywordFollows", inPlace := ["internal/abi.NoEscape", "internal/bytealg.IndexByteString", "internal/bytealg.IndexString", "internal/bytealg.abigen_runtime_cmpstring"], unfollowed := true, recurses := true, named := ["unicode/utf8.first", "unicode/utf8.acceptRanges", "internal/bytealg.MaxLen"], plainKeys := false, apart := false, laid := [("unicode/utf8.acceptRanges", laid_unicode_utf8_acceptRanges), ("unicode/utf8.first", laid_unicode_utf8_first)], narrowed := true }
def KeywordFollowsUptoSaid : Prop := keywordFollowsUptoRow.holds Tryz.pinned (OpenSpec.upto keywordFollowsSpec)

/-- 'foliolaw09.KeywordAsks', WHERE WHAT IT READS IS OF BULK AT MOST 1048576: true; the input reads as it did. -/
def keywordAsksUptoRow : OpenClaim := { program := "ytohngjkedhpikaagreatdoor", sum := "dd92f98b2d2cf725b2860a4a26fd612702b3819b632da14c539c1e5d51bcde0c", func := "folio/foliolaw09.KeywordAsks", spec := "keywordAsks", inPlace := ["internal/abi.NoEscape", "internal/bytealg.IndexByteString", "internal/bytealg.IndexString", "internal/bytealg.abigen_runtime_cmpstring"], unfollowed := true, recurses := true, named := ["unicode/utf8.first", "unicode/utf8.acceptRanges", "internal/bytealg.MaxLen"], plainKeys := false, apart := false, laid := [("unicode/utf8.acceptRanges", laid_unicode_utf8_acceptRanges), ("unicode/utf8.first", laid_unicode_utf8_first)], narrowed := true }
def KeywordAsksUptoSaid : Prop := keywordAsksUptoRow.holds Tryz.pinned (OpenSpec.upto keywordAsksSpec)

/-- 'foliolaw09.KeywordBuilds', WHERE WHAT IT READS IS OF BULK AT MOST 1048576: true; the input reads as it did. -/
def keywordBuildsUptoRow : OpenClaim := { program := "ytohngjkedhpikaagreatdoor", sum := "dd92f98b2d2cf725b2860a4a26fd612702b3819b632da14c539c1e5d51bcde0c", func := "folio/foliolaw09.KeywordBuilds", spec := "keywordBuilds", inPlace := ["internal/abi.NoEscape", "internal/bytealg.IndexByteString", "internal/bytealg.IndexString", "internal/bytealg.abigen_runtime_cmpstring"], unfollowed := true, recurses := true, named := ["unicode/utf8.first", "unicode/utf8.acceptRanges", "internal/bytealg.MaxLen"], plainKeys := false, apart := false, laid := [("unicode/utf8.acceptRanges", laid_unicode_utf8_acceptRanges), ("unicode/utf8.first", laid_unicode_utf8_first)], narrowed := true }
def KeywordBuildsUptoSaid : Prop := keywordBuildsUptoRow.holds Tryz.pinned (OpenSpec.upto keywordBuildsSpec)

end Rows
end Go.Proofs.YtohngjkedhpikaaGreatDoor
