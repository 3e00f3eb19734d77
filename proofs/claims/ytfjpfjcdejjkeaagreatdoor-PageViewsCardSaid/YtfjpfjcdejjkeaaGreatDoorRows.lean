/-
  NARROWER THAN 'FOR EVERY INPUT', by the rows' own cells (each row's printed sentence says how): PageMatchesReference: laid · PageViewsMatchReference: laid · PageEdges: laid · PageViews: laid · PageJoins: laid · PageRoots: laid · PageLocal: laid.
  DERIVED. THE GIVEN ROWS OF THIS SEAT. 7 by the template 'for every input the law returns true; each argument reads behind the call as it read before'; 0 by the template 'total and deterministic' (their statements: YtfjpfjcdejjkeaaGreatDoorTotals.lean).
  GIVEN WITH THE SEED: the statements are not yours to turn. If you find one false, say at which input.
  Laid BY PROGRAM, IN A SANDBOX (cutbox-rows.mjs): the forced cells as the released guide's own fill.sh prints them over the translation 062fd46865533312… (all of the seat's roots in one cut). By AI agents, Wed Nov 11 2026. No macro, syntax, notation, axiom, sorry.
-/
import Derived.Test.YtfjpfjcdejjkeaaGreatDoorChecked
import GoSem.Claim
import GoSem.ClaimJoined
import GoSem.ClaimMapViews
import Derived.JoinedTies
import Derived.KernelRfl
namespace Go.Proofs.YtfjpfjcdejjkeaaGreatDoor
/- THE CELL 'sum', in the pinned program and in every row, IS THE sha256 OF THE DUMP (.gsa) THAT YtfjpfjcdejjkeaaGreatDoorProg.lean LOADS. Nothing in Lean hashes anything: it is a label: what it is worth is what the hold of that sum in a sandbox is worth. -/
noncomputable def Tryz.pinned : Pinned := { name := "ytfjpfjcdejjkeaagreatdoor", sum := "062fd46865533312a4b5d65a26da321488aa9fcfe3ec58cc9190c60875ba8560", checked := Tryz.checked }
namespace Rows
def none {H : Type} : Left H := { results := [], args := [] }

/- WHAT THE LISTED PACKAGE-LEVEL VARIABLES READ AS WHEN THE CALL BEGINS. Each datum BY PROGRAM (the guide's laid-datum.mjs) off the statement by which the dump's own 'gosem.cut.vars' lays the variable. In a bare row this is a premise. The card (YtfjpfjcdejjkeaaGreatDoorCards.lean) ties it to the program's text. -/
def laid_clearway_digest_round {H : Type} : DataW H := .agg [.lit (.int .u32 1116352408), .lit (.int .u32 1899447441), .lit (.int .u32 3049323471), .lit (.int .u32 3921009573), .lit (.int .u32 961987163), .lit (.int .u32 1508970993), .lit (.int .u32 2453635748), .lit (.int .u32 2870763221), .lit (.int .u32 3624381080), .lit (.int .u32 310598401), .lit (.int .u32 607225278), .lit (.int .u32 1426881987), .lit (.int .u32 1925078388), .lit (.int .u32 2162078206), .lit (.int .u32 2614888103), .lit (.int .u32 3248222580), .lit (.int .u32 3835390401), .lit (.int .u32 4022224774), .lit (.int .u32 264347078), .lit (.int .u32 604807628), .lit (.int .u32 770255983), .lit (.int .u32 1249150122), .lit (.int .u32 1555081692), .lit (.int .u32 1996064986), .lit (.int .u32 2554220882), .lit (.int .u32 2821834349), .lit (.int .u32 2952996808), .lit (.int .u32 3210313671), .lit (.int .u32 3336571891), .lit (.int .u32 3584528711), .lit (.int .u32 113926993), .lit (.int .u32 338241895), .lit (.int .u32 666307205), .lit (.int .u32 773529912), .lit (.int .u32 1294757372), .lit (.int .u32 1396182291), .lit (.int .u32 1695183700), .lit (.int .u32 1986661051), .lit (.int .u32 2177026350), .lit (.int .u32 2456956037), .lit (.int .u32 2730485921), .lit (.int .u32 2820302411), .lit (.int .u32 3259730800), .lit (.int .u32 3345764771), .lit (.int .u32 3516065817), .lit (.int .u32 3600352804), .lit (.int .u32 4094571909), .lit (.int .u32 275423344), .lit (.int .u32 430227734), .lit (.int .u32 506948616), .lit (.int .u32 659060556), .lit (.int .u32 883997877), .lit (.int .u32 958139571), .lit (.int .u32 1322822218), .lit (.int .u32 1537002063), .lit (.int .u32 1747873779), .lit (.int .u32 1955562222), .lit (.int .u32 2024104815), .lit (.int .u32 2227730452), .lit (.int .u32 2361852424), .lit (.int .u32 2428436474), .lit (.int .u32 2756734187), .lit (.int .u32 3204031479), .lit (.int .u32 3329325298)]

/-- 'clearwaylaw06.PageMatchesReference': WHATEVER THE INPUT: true; the input reads as it did. -/
def pageMatchesReferenceSpec : ChangeSpec := { name := "pageMatchesReference", fn := fun _ => fun
  | [d1, d2, d3, d4, d5, d6, d7, d8, d9] => { results := [.lit (.bool true)], args := [d1, d2, d3, d4, d5, d6, d7, d8, d9] }
  | _ => none }
def pageMatchesReferenceRow : OpenClaim := { program := "ytfjpfjcdejjkeaagreatdoor", sum := "062fd46865533312a4b5d65a26da321488aa9fcfe3ec58cc9190c60875ba8560", func := "clearway/clearwaylaw06.PageMatchesReference", spec := "pageMatchesReference", inPlace := ["internal/abi.NoEscape"], unfollowed := true, recurses := true, named := ["clearway/digest.round"], apart := false, laid := [("clearway/digest.round", laid_clearway_digest_round)] }
def PageMatchesReferenceSaid : Prop := pageMatchesReferenceRow.holds Tryz.pinned (OpenSpec.ofChange pageMatchesReferenceSpec)

/-- ITS FALSE NEIGHBOUR: 'it returns false'. Refute it at one input. -/
def pageMatchesReferenceWrong : ChangeSpec := { name := "pageMatchesReference", fn := fun _ => fun
  | [d1, d2, d3, d4, d5, d6, d7, d8, d9] => { results := [.lit (.bool false)], args := [d1, d2, d3, d4, d5, d6, d7, d8, d9] }
  | _ => none }
def PageMatchesReferenceWrongFalsely : Prop := pageMatchesReferenceRow.holds Tryz.pinned (OpenSpec.ofChange pageMatchesReferenceWrong)

/-- 'clearwaylaw06.PageViewsMatchReference': WHATEVER THE INPUT: true; the input reads as it did. -/
def pageViewsMatchReferenceSpec : ChangeSpec := { name := "pageViewsMatchReference", fn := fun _ => fun
  | [d1, d2, d3, d4, d5, d6, d7] => { results := [.lit (.bool true)], args := [d1, d2, d3, d4, d5, d6, d7] }
  | _ => none }
def pageViewsMatchReferenceRow : OpenClaim := { program := "ytfjpfjcdejjkeaagreatdoor", sum := "062fd46865533312a4b5d65a26da321488aa9fcfe3ec58cc9190c60875ba8560", func := "clearway/clearwaylaw06.PageViewsMatchReference", spec := "pageViewsMatchReference", inPlace := ["internal/abi.NoEscape"], unfollowed := true, recurses := true, named := ["clearway/digest.round"], apart := false, laid := [("clearway/digest.round", laid_clearway_digest_round)] }
def PageViewsMatchReferenceSaid : Prop := pageViewsMatchReferenceRow.holds Tryz.pinned (OpenSpec.ofChange pageViewsMatchReferenceSpec)

/-- ITS FALSE NEIGHBOUR: 'it returns false'. Refute it at one input. -/
def pageViewsMatchReferenceWrong : ChangeSpec := { name := "pageViewsMatchReference", fn := fun _ => fun
  | [d1, d2, d3, d4, d5, d6, d7] => { results := [.lit (.bool false)], args := [d1, d2, d3, d4, d5, d6, d7] }
  | _ => none }
def PageViewsMatchReferenceWrongFalsely : Prop := pageViewsMatchReferenceRow.holds Tryz.pinned (OpenSpec.ofChange pageViewsMatchReferenceWrong)

/-- 'clearwaylaw06.PageEdges': WHATEVER THE INPUT: true; the input reads as it did. -/
def pageEdgesSpec : ChangeSpec := { name := "pageEdges", fn := fun _ => fun
  | [d1, d2, d3] => { results := [.lit (.bool true)], args := [d1, d2, d3] }
  | _ => none }
def pageEdgesRow : OpenClaim := { program := "ytfjpfjcdejjkeaagreatdoor", sum := "062fd46865533312a4b5d65a26da321488aa9fcfe3ec58cc9190c60875ba8560", func := "clearway/clearwaylaw06.PageEdges", spec := "pageEdges", inPlace := ["internal/abi.NoEscape"], unfollowed := true, recurses := true, named := ["clearway/digest.round"], apart := false, laid := [("clearway/digest.round", laid_clearway_digest_round)] }
def PageEdgesSaid : Prop := pageEdgesRow.holds Tryz.pinned (OpenSpec.ofChange pageEdgesSpec)

/-- ITS FALSE NEIGHBOUR: 'it returns false'. Refute it at one input. -/
def pageEdgesWrong : ChangeSpec := { name := "pageEdges", fn := fun _ => fun
  | [d1, d2, d3] => { results := [.lit (.bool false)], args := [d1, d2, d3] }
  | _ => none }
def PageEdgesWrongFalsely : Prop := pageEdgesRow.holds Tryz.pinned (OpenSpec.ofChange pageEdgesWrong)

/-- 'clearwaylaw06.PageViews': WHATEVER THE INPUT: true; the input reads as it did. -/
def pageViewsSpec : ChangeSpec := { name := "pageViews", fn := fun _ => fun
  | [d1, d2, d3, d4, d5, d6, d7] => { results := [.lit (.bool true)], args := [d1, d2, d3, d4, d5, d6, d7] }
  | _ => none }
def pageViewsRow : OpenClaim := { program := "ytfjpfjcdejjkeaagreatdoor", sum := "062fd46865533312a4b5d65a26da321488aa9fcfe3ec58cc9190c60875ba8560", func := "clearway/clearwaylaw06.PageViews", spec := "pageViews", inPlace := ["internal/abi.NoEscape"], unfollowed := true, recurses := true, named := ["clearway/digest.round"], apart := false, laid := [("clearway/digest.round", laid_clearway_digest_round)] }
def PageViewsSaid : Prop := pageViewsRow.holds Tryz.pinned (OpenSpec.ofChange pageViewsSpec)

/-- ITS FALSE NEIGHBOUR: 'it returns false'. Refute it at one input. -/
def pageViewsWrong : ChangeSpec := { name := "pageViews", fn := fun _ => fun
  | [d1, d2, d3, d4, d5, d6, d7] => { results := [.lit (.bool false)], args := [d1, d2, d3, d4, d5, d6, d7] }
  | _ => none }
def PageViewsWrongFalsely : Prop := pageViewsRow.holds Tryz.pinned (OpenSpec.ofChange pageViewsWrong)

/-- 'clearwaylaw06.PageJoins': WHATEVER THE INPUT: true; the input reads as it did. -/
def pageJoinsSpec : ChangeSpec := { name := "pageJoins", fn := fun _ => fun
  | [d1, d2, d3, d4, d5] => { results := [.lit (.bool true)], args := [d1, d2, d3, d4, d5] }
  | _ => none }
def pageJoinsRow : OpenClaim := { program := "ytfjpfjcdejjkeaagreatdoor", sum := "062fd46865533312a4b5d65a26da321488aa9fcfe3ec58cc9190c60875ba8560", func := "clearway/clearwaylaw06.PageJoins", spec := "pageJoins", inPlace := ["internal/abi.NoEscape"], unfollowed := true, recurses := true, named := ["clearway/digest.round"], apart := false, laid := [("clearway/digest.round", laid_clearway_digest_round)] }
def PageJoinsSaid : Prop := pageJoinsRow.holds Tryz.pinned (OpenSpec.ofChange pageJoinsSpec)

/-- ITS FALSE NEIGHBOUR: 'it returns false'. Refute it at one input. -/
def pageJoinsWrong : ChangeSpec := { name := "pageJoins", fn := fun _ => fun
  | [d1, d2, d3, d4, d5] => { results := [.lit (.bool false)], args := [d1, d2, d3, d4, d5] }
  | _ => none }
def PageJoinsWrongFalsely : Prop := pageJoinsRow.holds Tryz.pinned (OpenSpec.ofChange pageJoinsWrong)

/-- 'clearwaylaw06.PageRoots': WHATEVER THE INPUT: true; the input reads as it did. -/
def pageRootsSpec : ChangeSpec := { name := "pageRoots", fn := fun _ => fun
  | [d1, d2, d3, d4] => { results := [.lit (.bool true)], args := [d1, d2, d3, d4] }
  | _ => none }
def pageRootsRow : OpenClaim := { program := "ytfjpfjcdejjkeaagreatdoor", sum := "062fd46865533312a4b5d65a26da321488aa9fcfe3ec58cc9190c60875ba8560", func := "clearway/clearwaylaw06.PageRoots", spec := "pageRoots", inPlace := ["internal/abi.NoEscape"], unfollowed := true, recurses := true, named := ["clearway/digest.round"], apart := false, laid := [("clearway/digest.round", laid_clearway_digest_round)] }
def PageRootsSaid : Prop := pageRootsRow.holds Tryz.pinned (OpenSpec.ofChange pageRootsSpec)

/-- ITS FALSE NEIGHBOUR: 'it returns false'. Refute it at one input. -/
def pageRootsWrong : ChangeSpec := { name := "pageRoots", fn := fun _ => fun
  | [d1, d2, d3, d4] => { results := [.lit (.bool false)], args := [d1, d2, d3, d4] }
  | _ => none }
def PageRootsWrongFalsely : Prop := pageRootsRow.holds Tryz.pinned (OpenSpec.ofChange pageRootsWrong)

/-- 'clearwaylaw06.PageLocal': WHATEVER THE INPUT: true; the input reads as it did. -/
def pageLocalSpec : ChangeSpec := { name := "pageLocal", fn := fun _ => fun
  | [d1, d2, d3, d4] => { results := [.lit (.bool true)], args := [d1, d2, d3, d4] }
  | _ => none }
def pageLocalRow : OpenClaim := { program := "ytfjpfjcdejjkeaagreatdoor", sum := "062fd46865533312a4b5d65a26da321488aa9fcfe3ec58cc9190c60875ba8560", func := "clearway/clearwaylaw06.PageLocal", spec := "pageLocal", inPlace := ["internal/abi.NoEscape", "slices.overlaps[clearway/api.Vertex]", "slices.overlaps[clearway/api.Edge]"], unfollowed := true, recurses := true, named := ["clearway/digest.round"], apart := false, laid := [("clearway/digest.round", laid_clearway_digest_round)] }
def PageLocalSaid : Prop := pageLocalRow.holds Tryz.pinned (OpenSpec.ofChange pageLocalSpec)

/-- ITS FALSE NEIGHBOUR: 'it returns false'. Refute it at one input. -/
def pageLocalWrong : ChangeSpec := { name := "pageLocal", fn := fun _ => fun
  | [d1, d2, d3, d4] => { results := [.lit (.bool false)], args := [d1, d2, d3, d4] }
  | _ => none }
def PageLocalWrongFalsely : Prop := pageLocalRow.holds Tryz.pinned (OpenSpec.ofChange pageLocalWrong)

/- THE SECOND FORM. 'bulk': how many values and letters a reading holds, each counted each time it is reached (what is shared counts as often as it is met; a slice's spare places count too). A statement '..UptoSaid' is the law's where the arguments, and the package variables that the reading takes, are together of bulk at most 1048576: NARROWER than '..Said'. Prove '..Said' where nothing that the law and all that it calls make is longer than what came in: it says more and counts as full. Else prove '..UptoSaid'. A law counts once. -/
mutual
def uptoBulk {H : Type} : DataW H → Nat
  | .lit (.string bytes) => bytes.length + 1
  | .lit _ => 1
  | .nil => 1
  | .ptr d => uptoBulk d + 1
  | .slice elems spare => uptoBulkAll elems + uptoBulkAll spare + 1
  | .agg parts => uptoBulkAll parts + 1
  | .iface _ d => uptoBulk d + 1
  | .map entries => uptoBulkEntries entries + 1
  | .held _ => 1
def uptoBulkAll {H : Type} : List (DataW H) → Nat
  | [] => 0
  | d :: r => uptoBulk d + uptoBulkAll r
def uptoBulkEntries {H : Type} : List (Lit × DataW H) → Nat
  | [] => 0
  | x :: r => uptoBulkEntry x + uptoBulkEntries r
def uptoBulkEntry {H : Type} : Lit × DataW H → Nat
  | (.string bytes, d) => bytes.length + uptoBulk d + 1
  | (_, d) => uptoBulk d + 1
 end
def uptoSmall : (H : Type) → List (DataW H) → Bool := fun _ ds => decide (uptoBulkAll ds ≤ 1048576)
def OpenSpec.upto (s : _root_.Go.ChangeSpec) : _root_.Go.OpenSpec := { _root_.Go.OpenSpec.ofChange s with cond := some uptoSmall }

/-- 'clearwaylaw06.PageMatchesReference', WHERE WHAT IT READS IS OF BULK AT MOST 1048576: true; the input reads as it did. -/
def pageMatchesReferenceUptoRow : OpenClaim := { program := "ytfjpfjcdejjkeaagreatdoor", sum := "062fd46865533312a4b5d65a26da321488aa9fcfe3ec58cc9190c60875ba8560", func := "clearway/clearwaylaw06.PageMatchesReference", spec := "pageMatchesReference", inPlace := ["internal/abi.NoEscape"], unfollowed := true, recurses := true, named := ["clearway/digest.round"], apart := false, laid := [("clearway/digest.round", laid_clearway_digest_round)], narrowed := true }
def PageMatchesReferenceUptoSaid : Prop := pageMatchesReferenceUptoRow.holds Tryz.pinned (OpenSpec.upto pageMatchesReferenceSpec)

/-- 'clearwaylaw06.PageViewsMatchReference', WHERE WHAT IT READS IS OF BULK AT MOST 1048576: true; the input reads as it did. -/
def pageViewsMatchReferenceUptoRow : OpenClaim := { program := "ytfjpfjcdejjkeaagreatdoor", sum := "062fd46865533312a4b5d65a26da321488aa9fcfe3ec58cc9190c60875ba8560", func := "clearway/clearwaylaw06.PageViewsMatchReference", spec := "pageViewsMatchReference", inPlace := ["internal/abi.NoEscape"], unfollowed := true, recurses := true, named := ["clearway/digest.round"], apart := false, laid := [("clearway/digest.round", laid_clearway_digest_round)], narrowed := true }
def PageViewsMatchReferenceUptoSaid : Prop := pageViewsMatchReferenceUptoRow.holds Tryz.pinned (OpenSpec.upto pageViewsMatchReferenceSpec)

/-- 'clearwaylaw06.PageEdges', WHERE WHAT IT READS IS OF BULK AT MOST 1048576: true; the input reads as it did. -/
def pageEdgesUptoRow : OpenClaim := { program := "ytfjpfjcdejjkeaagreatdoor", sum := "062fd46865533312a4b5d65a26da321488aa9fcfe3ec58cc9190c60875ba8560", func := "clearway/clearwaylaw06.PageEdges", spec := "pageEdges", inPlace := ["internal/abi.NoEscape"], unfollowed := true, recurses := true, named := ["clearway/digest.round"], apart := false, laid := [("clearway/digest.round", laid_clearway_digest_round)], narrowed := true }
def PageEdgesUptoSaid : Prop := pageEdgesUptoRow.holds Tryz.pinned (OpenSpec.upto pageEdgesSpec)

/-- 'clearwaylaw06.PageViews', WHERE WHAT IT READS IS OF BULK AT MOST 1048576: true; the input reads as it did. -/
def pageViewsUptoRow : OpenClaim := { program := "ytfjpfjcdejjkeaagreatdoor", sum := "062fd46865533312a4b5d65a26da321488aa9fcfe3ec58cc9190c60875ba8560", func := "clearway/clearwaylaw06.PageViews", spec := "pageViews", inPlace := ["internal/abi.NoEscape"], unfollowed := true, recurses := true, named := ["clearway/digest.round"], apart := false, laid := [("clearway/digest.round", laid_clearway_digest_round)], narrowed := true }
def PageViewsUptoSaid : Prop := pageViewsUptoRow.holds Tryz.pinned (OpenSpec.upto pageViewsSpec)

/-- 'clearwaylaw06.PageJoins', WHERE WHAT IT READS IS OF BULK AT MOST 1048576: true; the input reads as it did. -/
def pageJoinsUptoRow : OpenClaim := { program := "ytfjpfjcdejjkeaagreatdoor", sum := "062fd46865533312a4b5d65a26da321488aa9fcfe3ec58cc9190c60875ba8560", func := "clearway/clearwaylaw06.PageJoins", spec := "pageJoins", inPlace := ["internal/abi.NoEscape"], unfollowed := true, recurses := true, named := ["clearway/digest.round"], apart := false, laid := [("clearway/digest.round", laid_clearway_digest_round)], narrowed := true }
def PageJoinsUptoSaid : Prop := pageJoinsUptoRow.holds Tryz.pinned (OpenSpec.upto pageJoinsSpec)

/-- 'clearwaylaw06.PageRoots', WHERE WHAT IT READS IS OF BULK AT MOST 1048576: true; the input reads as it did. -/
def pageRootsUptoRow : OpenClaim := { program := "ytfjpfjcdejjkeaagreatdoor", sum := "062fd46865533312a4b5d65a26da321488aa9fcfe3ec58cc9190c60875ba8560", func := "clearway/clearwaylaw06.PageRoots", spec := "pageRoots", inPlace := ["internal/abi.NoEscape"], unfollowed := true, recurses := true, named := ["clearway/digest.round"], apart := false, laid := [("clearway/digest.round", laid_clearway_digest_round)], narrowed := true }
def PageRootsUptoSaid : Prop := pageRootsUptoRow.holds Tryz.pinned (OpenSpec.upto pageRootsSpec)

/-- 'clearwaylaw06.PageLocal', WHERE WHAT IT READS IS OF BULK AT MOST 1048576: true; the input reads as it did. -/
def pageLocalUptoRow : OpenClaim := { program := "ytfjpfjcdejjkeaagreatdoor", sum := "062fd46865533312a4b5d65a26da321488aa9fcfe3ec58cc9190c60875ba8560", func := "clearway/clearwaylaw06.PageLocal", spec := "pageLocal", inPlace := ["internal/abi.NoEscape", "slices.overlaps[clearway/api.Vertex]", "slices.overlaps[clearway/api.Edge]"], unfollowed := true, recurses := true, named := ["clearway/digest.round"], apart := false, laid := [("clearway/digest.round", laid_clearway_digest_round)], narrowed := true }
def PageLocalUptoSaid : Prop := pageLocalUptoRow.holds Tryz.pinned (OpenSpec.upto pageLocalSpec)

end Rows
end Go.Proofs.YtfjpfjcdejjkeaaGreatDoor
