/-
  NARROWER THAN 'FOR EVERY INPUT', by the rows' own cells (each row's printed sentence says how): SparseMatchesReference: laid · SparseReadsMatchReference: laid · SparseComplete: laid · SparseBinding: laid · SparseRoot: laid · SparseUpdates: laid · SparseOrder: laid.
  DERIVED. THE GIVEN ROWS OF THIS SEAT. 7 by the template 'for every input the law returns true; each argument reads behind the call as it read before'; 0 by the template 'total and deterministic' (their statements: YtccdkoimpoockaaDoorTotals.lean).
  GIVEN WITH THE SEED: the statements are not yours to turn. If you find one false, say at which input.
  Laid BY PROGRAM, IN A SANDBOX (cutbox-rows.mjs): the forced cells as the released guide's own fill.sh prints them over the translation 0697a223b9c7bf5c… (all of the seat's roots in one cut). By AI agents, Wed Nov 11 2026. No macro, syntax, notation, axiom, sorry.
-/
import Derived.Test.YtccdkoimpoockaaDoorChecked
import GoSem.Claim
import GoSem.ClaimJoined
import GoSem.ClaimMapViews
import Derived.JoinedTies
import Derived.KernelRfl
namespace Go.Proofs.YtccdkoimpoockaaDoor
/- THE CELL 'sum', in the pinned program and in every row, IS THE sha256 OF THE DUMP (.gsa) THAT YtccdkoimpoockaaDoorProg.lean LOADS. Nothing in Lean hashes anything: it is a label: what it is worth is what the hold of that sum in a sandbox is worth. -/
noncomputable def Tryd.pinned : Pinned := { name := "ytccdkoimpoockaadoor", sum := "0697a223b9c7bf5c01cc91b747f68f1557afe55fcc57dd8f24a06d6ca42fadda", checked := Tryd.checked }
namespace Rows
def none {H : Type} : Left H := { results := [], args := [] }

/- WHAT THE LISTED PACKAGE-LEVEL VARIABLES READ AS WHEN THE CALL BEGINS. Each datum BY PROGRAM (the guide's laid-datum.mjs) off the statement by which the dump's own 'gosem.cut.vars' lays the variable. In a bare row this is a premise. The card (YtccdkoimpoockaaDoorCards.lean) ties it to the program's text. -/
def laid_clearway_digest_round {H : Type} : DataW H := .agg [.lit (.int .u32 1116352408), .lit (.int .u32 1899447441), .lit (.int .u32 3049323471), .lit (.int .u32 3921009573), .lit (.int .u32 961987163), .lit (.int .u32 1508970993), .lit (.int .u32 2453635748), .lit (.int .u32 2870763221), .lit (.int .u32 3624381080), .lit (.int .u32 310598401), .lit (.int .u32 607225278), .lit (.int .u32 1426881987), .lit (.int .u32 1925078388), .lit (.int .u32 2162078206), .lit (.int .u32 2614888103), .lit (.int .u32 3248222580), .lit (.int .u32 3835390401), .lit (.int .u32 4022224774), .lit (.int .u32 264347078), .lit (.int .u32 604807628), .lit (.int .u32 770255983), .lit (.int .u32 1249150122), .lit (.int .u32 1555081692), .lit (.int .u32 1996064986), .lit (.int .u32 2554220882), .lit (.int .u32 2821834349), .lit (.int .u32 2952996808), .lit (.int .u32 3210313671), .lit (.int .u32 3336571891), .lit (.int .u32 3584528711), .lit (.int .u32 113926993), .lit (.int .u32 338241895), .lit (.int .u32 666307205), .lit (.int .u32 773529912), .lit (.int .u32 1294757372), .lit (.int .u32 1396182291), .lit (.int .u32 1695183700), .lit (.int .u32 1986661051), .lit (.int .u32 2177026350), .lit (.int .u32 2456956037), .lit (.int .u32 2730485921), .lit (.int .u32 2820302411), .lit (.int .u32 3259730800), .lit (.int .u32 3345764771), .lit (.int .u32 3516065817), .lit (.int .u32 3600352804), .lit (.int .u32 4094571909), .lit (.int .u32 275423344), .lit (.int .u32 430227734), .lit (.int .u32 506948616), .lit (.int .u32 659060556), .lit (.int .u32 883997877), .lit (.int .u32 958139571), .lit (.int .u32 1322822218), .lit (.int .u32 1537002063), .lit (.int .u32 1747873779), .lit (.int .u32 1955562222), .lit (.int .u32 2024104815), .lit (.int .u32 2227730452), .lit (.int .u32 2361852424), .lit (.int .u32 2428436474), .lit (.int .u32 2756734187), .lit (.int .u32 3204031479), .lit (.int .u32 3329325298)]

/-- 'clearwaylaw04.SparseMatchesReference': WHATEVER THE INPUT: true; the input reads as it did. -/
def sparseMatchesReferenceSpec : ChangeSpec := { name := "sparseMatchesReference", fn := fun _ => fun
  | [d1, d2, d3, d4] => { results := [.lit (.bool true)], args := [d1, d2, d3, d4] }
  | _ => none }
def sparseMatchesReferenceRow : OpenClaim := { program := "ytccdkoimpoockaadoor", sum := "0697a223b9c7bf5c01cc91b747f68f1557afe55fcc57dd8f24a06d6ca42fadda", func := "clearway/clearwaylaw04.SparseMatchesReference", spec := "sparseMatchesReference", unfollowed := true, recurses := true, named := ["clearway/digest.round"], apart := false, laid := [("clearway/digest.round", laid_clearway_digest_round)] }
def SparseMatchesReferenceSaid : Prop := sparseMatchesReferenceRow.holds Tryd.pinned (OpenSpec.ofChange sparseMatchesReferenceSpec)

/-- ITS FALSE NEIGHBOUR: 'it returns false'. Refute it at one input. -/
def sparseMatchesReferenceWrong : ChangeSpec := { name := "sparseMatchesReference", fn := fun _ => fun
  | [d1, d2, d3, d4] => { results := [.lit (.bool false)], args := [d1, d2, d3, d4] }
  | _ => none }
def SparseMatchesReferenceWrongFalsely : Prop := sparseMatchesReferenceRow.holds Tryd.pinned (OpenSpec.ofChange sparseMatchesReferenceWrong)

/-- 'clearwaylaw04.SparseReadsMatchReference': WHATEVER THE INPUT: true; the input reads as it did. -/
def sparseReadsMatchReferenceSpec : ChangeSpec := { name := "sparseReadsMatchReference", fn := fun _ => fun
  | [d1, d2, d3, d4, d5, d6] => { results := [.lit (.bool true)], args := [d1, d2, d3, d4, d5, d6] }
  | _ => none }
def sparseReadsMatchReferenceRow : OpenClaim := { program := "ytccdkoimpoockaadoor", sum := "0697a223b9c7bf5c01cc91b747f68f1557afe55fcc57dd8f24a06d6ca42fadda", func := "clearway/clearwaylaw04.SparseReadsMatchReference", spec := "sparseReadsMatchReference", unfollowed := true, recurses := true, named := ["clearway/digest.round"], apart := false, laid := [("clearway/digest.round", laid_clearway_digest_round)] }
def SparseReadsMatchReferenceSaid : Prop := sparseReadsMatchReferenceRow.holds Tryd.pinned (OpenSpec.ofChange sparseReadsMatchReferenceSpec)

/-- ITS FALSE NEIGHBOUR: 'it returns false'. Refute it at one input. -/
def sparseReadsMatchReferenceWrong : ChangeSpec := { name := "sparseReadsMatchReference", fn := fun _ => fun
  | [d1, d2, d3, d4, d5, d6] => { results := [.lit (.bool false)], args := [d1, d2, d3, d4, d5, d6] }
  | _ => none }
def SparseReadsMatchReferenceWrongFalsely : Prop := sparseReadsMatchReferenceRow.holds Tryd.pinned (OpenSpec.ofChange sparseReadsMatchReferenceWrong)

/-- 'clearwaylaw04.SparseComplete': WHATEVER THE INPUT: true; the input reads as it did. -/
def sparseCompleteSpec : ChangeSpec := { name := "sparseComplete", fn := fun _ => fun
  | [d1, d2] => { results := [.lit (.bool true)], args := [d1, d2] }
  | _ => none }
def sparseCompleteRow : OpenClaim := { program := "ytccdkoimpoockaadoor", sum := "0697a223b9c7bf5c01cc91b747f68f1557afe55fcc57dd8f24a06d6ca42fadda", func := "clearway/clearwaylaw04.SparseComplete", spec := "sparseComplete", unfollowed := true, recurses := true, named := ["clearway/digest.round"], apart := false, laid := [("clearway/digest.round", laid_clearway_digest_round)] }
def SparseCompleteSaid : Prop := sparseCompleteRow.holds Tryd.pinned (OpenSpec.ofChange sparseCompleteSpec)

/-- ITS FALSE NEIGHBOUR: 'it returns false'. Refute it at one input. -/
def sparseCompleteWrong : ChangeSpec := { name := "sparseComplete", fn := fun _ => fun
  | [d1, d2] => { results := [.lit (.bool false)], args := [d1, d2] }
  | _ => none }
def SparseCompleteWrongFalsely : Prop := sparseCompleteRow.holds Tryd.pinned (OpenSpec.ofChange sparseCompleteWrong)

/-- 'clearwaylaw04.SparseBinding': WHATEVER THE INPUT: true; the input reads as it did. -/
def sparseBindingSpec : ChangeSpec := { name := "sparseBinding", fn := fun _ => fun
  | [d1, d2, d3, d4, d5] => { results := [.lit (.bool true)], args := [d1, d2, d3, d4, d5] }
  | _ => none }
def sparseBindingRow : OpenClaim := { program := "ytccdkoimpoockaadoor", sum := "0697a223b9c7bf5c01cc91b747f68f1557afe55fcc57dd8f24a06d6ca42fadda", func := "clearway/clearwaylaw04.SparseBinding", spec := "sparseBinding", unfollowed := true, recurses := true, named := ["clearway/digest.round"], apart := false, laid := [("clearway/digest.round", laid_clearway_digest_round)] }
def SparseBindingSaid : Prop := sparseBindingRow.holds Tryd.pinned (OpenSpec.ofChange sparseBindingSpec)

/-- ITS FALSE NEIGHBOUR: 'it returns false'. Refute it at one input. -/
def sparseBindingWrong : ChangeSpec := { name := "sparseBinding", fn := fun _ => fun
  | [d1, d2, d3, d4, d5] => { results := [.lit (.bool false)], args := [d1, d2, d3, d4, d5] }
  | _ => none }
def SparseBindingWrongFalsely : Prop := sparseBindingRow.holds Tryd.pinned (OpenSpec.ofChange sparseBindingWrong)

/-- 'clearwaylaw04.SparseRoot': WHATEVER THE INPUT: true; the input reads as it did. -/
def sparseRootSpec : ChangeSpec := { name := "sparseRoot", fn := fun _ => fun
  | [d1, d2, d3, d4] => { results := [.lit (.bool true)], args := [d1, d2, d3, d4] }
  | _ => none }
def sparseRootRow : OpenClaim := { program := "ytccdkoimpoockaadoor", sum := "0697a223b9c7bf5c01cc91b747f68f1557afe55fcc57dd8f24a06d6ca42fadda", func := "clearway/clearwaylaw04.SparseRoot", spec := "sparseRoot", unfollowed := true, recurses := true, named := ["clearway/digest.round"], apart := false, laid := [("clearway/digest.round", laid_clearway_digest_round)] }
def SparseRootSaid : Prop := sparseRootRow.holds Tryd.pinned (OpenSpec.ofChange sparseRootSpec)

/-- ITS FALSE NEIGHBOUR: 'it returns false'. Refute it at one input. -/
def sparseRootWrong : ChangeSpec := { name := "sparseRoot", fn := fun _ => fun
  | [d1, d2, d3, d4] => { results := [.lit (.bool false)], args := [d1, d2, d3, d4] }
  | _ => none }
def SparseRootWrongFalsely : Prop := sparseRootRow.holds Tryd.pinned (OpenSpec.ofChange sparseRootWrong)

/-- 'clearwaylaw04.SparseUpdates': WHATEVER THE INPUT: true; the input reads as it did. -/
def sparseUpdatesSpec : ChangeSpec := { name := "sparseUpdates", fn := fun _ => fun
  | [d1, d2, d3] => { results := [.lit (.bool true)], args := [d1, d2, d3] }
  | _ => none }
def sparseUpdatesRow : OpenClaim := { program := "ytccdkoimpoockaadoor", sum := "0697a223b9c7bf5c01cc91b747f68f1557afe55fcc57dd8f24a06d6ca42fadda", func := "clearway/clearwaylaw04.SparseUpdates", spec := "sparseUpdates", unfollowed := true, recurses := true, named := ["clearway/digest.round"], apart := false, laid := [("clearway/digest.round", laid_clearway_digest_round)] }
def SparseUpdatesSaid : Prop := sparseUpdatesRow.holds Tryd.pinned (OpenSpec.ofChange sparseUpdatesSpec)

/-- ITS FALSE NEIGHBOUR: 'it returns false'. Refute it at one input. -/
def sparseUpdatesWrong : ChangeSpec := { name := "sparseUpdates", fn := fun _ => fun
  | [d1, d2, d3] => { results := [.lit (.bool false)], args := [d1, d2, d3] }
  | _ => none }
def SparseUpdatesWrongFalsely : Prop := sparseUpdatesRow.holds Tryd.pinned (OpenSpec.ofChange sparseUpdatesWrong)

/-- 'clearwaylaw04.SparseOrder': WHATEVER THE INPUT: true; the input reads as it did. -/
def sparseOrderSpec : ChangeSpec := { name := "sparseOrder", fn := fun _ => fun
  | [d1, d2, d3] => { results := [.lit (.bool true)], args := [d1, d2, d3] }
  | _ => none }
def sparseOrderRow : OpenClaim := { program := "ytccdkoimpoockaadoor", sum := "0697a223b9c7bf5c01cc91b747f68f1557afe55fcc57dd8f24a06d6ca42fadda", func := "clearway/clearwaylaw04.SparseOrder", spec := "sparseOrder", unfollowed := true, recurses := true, named := ["clearway/digest.round"], apart := false, laid := [("clearway/digest.round", laid_clearway_digest_round)] }
def SparseOrderSaid : Prop := sparseOrderRow.holds Tryd.pinned (OpenSpec.ofChange sparseOrderSpec)

/-- ITS FALSE NEIGHBOUR: 'it returns false'. Refute it at one input. -/
def sparseOrderWrong : ChangeSpec := { name := "sparseOrder", fn := fun _ => fun
  | [d1, d2, d3] => { results := [.lit (.bool false)], args := [d1, d2, d3] }
  | _ => none }
def SparseOrderWrongFalsely : Prop := sparseOrderRow.holds Tryd.pinned (OpenSpec.ofChange sparseOrderWrong)

/- THE SECOND FORM. 'bulk': how many values and letters a reading holds, each counted each time it is reached (what is shared counts as often as it is met; a slice's spare places count too). A statement '..UptoSaid' is the law's where the arguments, and the package variables that the reading takes, are together of bulk at most 1048576: NARROWER than '..Said'. Prove '..Said' where nothing that the law and all that it calls make is longer than what came in: it says more and counts as full. Else prove '..UptoSaid'. A law counts once. -/
mutual
def uptoBulk {H : Type} : DataW H → Nat
  | .lit (.string bytes) => bytes.length + 1
  | .lit _ => 1
  | .nil => 1
  | .ptr d => uptoBulk d + 1
  | .slice elems spare => uptoBulkAll elems + uptoBulkAll spare + 1
  | .agg parts => uptoBulkAll parts + 1
  | .iface _ d => uptoBulk d + 1
  | .map entries => uptoBulkEntries entries + 1
  | .held _ => 1
def uptoBulkAll {H : Type} : List (DataW H) → Nat
  | [] => 0
  | d :: r => uptoBulk d + uptoBulkAll r
def uptoBulkEntries {H : Type} : List (Lit × DataW H) → Nat
  | [] => 0
  | x :: r => uptoBulkEntry x + uptoBulkEntries r
def uptoBulkEntry {H : Type} : Lit × DataW H → Nat
  | (.string bytes, d) => bytes.length + uptoBulk d + 1
  | (_, d) => uptoBulk d + 1
 end
def uptoSmall : (H : Type) → List (DataW H) → Bool := fun _ ds => decide (uptoBulkAll ds ≤ 1048576)
def OpenSpec.upto (s : _root_.Go.ChangeSpec) : _root_.Go.OpenSpec := { _root_.Go.OpenSpec.ofChange s with cond := some uptoSmall }

/-- 'clearwaylaw04.SparseMatchesReference', WHERE WHAT IT READS IS OF BULK AT MOST 1048576: true; the input reads as it did. -/
def sparseMatchesReferenceUptoRow : OpenClaim := { program := "ytccdkoimpoockaadoor", sum := "0697a223b9c7bf5c01cc91b747f68f1557afe55fcc57dd8f24a06d6ca42fadda", func := "clearway/clearwaylaw04.SparseMatchesReference", spec := "sparseMatchesReference", unfollowed := true, recurses := true, named := ["clearway/digest.round"], apart := false, laid := [("clearway/digest.round", laid_clearway_digest_round)], narrowed := true }
def SparseMatchesReferenceUptoSaid : Prop := sparseMatchesReferenceUptoRow.holds Tryd.pinned (OpenSpec.upto sparseMatchesReferenceSpec)

/-- 'clearwaylaw04.SparseReadsMatchReference', WHERE WHAT IT READS IS OF BULK AT MOST 1048576: true; the input reads as it did. -/
def sparseReadsMatchReferenceUptoRow : OpenClaim := { program := "ytccdkoimpoockaadoor", sum := "0697a223b9c7bf5c01cc91b747f68f1557afe55fcc57dd8f24a06d6ca42fadda", func := "clearway/clearwaylaw04.SparseReadsMatchReference", spec := "sparseReadsMatchReference", unfollowed := true, recurses := true, named := ["clearway/digest.round"], apart := false, laid := [("clearway/digest.round", laid_clearway_digest_round)], narrowed := true }
def SparseReadsMatchReferenceUptoSaid : Prop := sparseReadsMatchReferenceUptoRow.holds Tryd.pinned (OpenSpec.upto sparseReadsMatchReferenceSpec)

/-- 'clearwaylaw04.SparseComplete', WHERE WHAT IT READS IS OF BULK AT MOST 1048576: true; the input reads as it did. -/
def sparseCompleteUptoRow : OpenClaim := { program := "ytccdkoimpoockaadoor", sum := "0697a223b9c7bf5c01cc91b747f68f1557afe55fcc57dd8f24a06d6ca42fadda", func := "clearway/clearwaylaw04.SparseComplete", spec := "sparseComplete", unfollowed := true, recurses := true, named := ["clearway/digest.round"], apart := false, laid := [("clearway/digest.round", laid_clearway_digest_round)], narrowed := true }
def SparseCompleteUptoSaid : Prop := sparseCompleteUptoRow.holds Tryd.pinned (OpenSpec.upto sparseCompleteSpec)

/-- 'clearwaylaw04.SparseBinding', WHERE WHAT IT READS IS OF BULK AT MOST 1048576: true; the input reads as it did. -/
def sparseBindingUptoRow : OpenClaim := { program := "ytccdkoimpoockaadoor", sum := "0697a223b9c7bf5c01cc91b747f68f1557afe55fcc57dd8f24a06d6ca42fadda", func := "clearway/clearwaylaw04.SparseBinding", spec := "sparseBinding", unfollowed := true, recurses := true, named := ["clearway/digest.round"], apart := false, laid := [("clearway/digest.round", laid_clearway_digest_round)], narrowed := true }
def SparseBindingUptoSaid : Prop := sparseBindingUptoRow.holds Tryd.pinned (OpenSpec.upto sparseBindingSpec)

/-- 'clearwaylaw04.SparseRoot', WHERE WHAT IT READS IS OF BULK AT MOST 1048576: true; the input reads as it did. -/
def sparseRootUptoRow : OpenClaim := { program := "ytccdkoimpoockaadoor", sum := "0697a223b9c7bf5c01cc91b747f68f1557afe55fcc57dd8f24a06d6ca42fadda", func := "clearway/clearwaylaw04.SparseRoot", spec := "sparseRoot", unfollowed := true, recurses := true, named := ["clearway/digest.round"], apart := false, laid := [("clearway/digest.round", laid_clearway_digest_round)], narrowed := true }
def SparseRootUptoSaid : Prop := sparseRootUptoRow.holds Tryd.pinned (OpenSpec.upto sparseRootSpec)

/-- 'clearwaylaw04.SparseUpdates', WHERE WHAT IT READS IS OF BULK AT MOST 1048576: true; the input reads as it did. -/
def sparseUpdatesUptoRow : OpenClaim := { program := "ytccdkoimpoockaadoor", sum := "0697a223b9c7bf5c01cc91b747f68f1557afe55fcc57dd8f24a06d6ca42fadda", func := "clearway/clearwaylaw04.SparseUpdates", spec := "sparseUpdates", unfollowed := true, recurses := true, named := ["clearway/digest.round"], apart := false, laid := [("clearway/digest.round", laid_clearway_digest_round)], narrowed := true }
def SparseUpdatesUptoSaid : Prop := sparseUpdatesUptoRow.holds Tryd.pinned (OpenSpec.upto sparseUpdatesSpec)

/-- 'clearwaylaw04.SparseOrder', WHERE WHAT IT READS IS OF BULK AT MOST 1048576: true; the input reads as it did. -/
def sparseOrderUptoRow : OpenClaim := { program := "ytccdkoimpoockaadoor", sum := "0697a223b9c7bf5c01cc91b747f68f1557afe55fcc57dd8f24a06d6ca42fadda", func := "clearway/clearwaylaw04.SparseOrder", spec := "sparseOrder", unfollowed := true, recurses := true, named := ["clearway/digest.round"], apart := false, laid := [("clearway/digest.round", laid_clearway_digest_round)], narrowed := true }
def SparseOrderUptoSaid : Prop := sparseOrderUptoRow.holds Tryd.pinned (OpenSpec.upto sparseOrderSpec)

end Rows
end Go.Proofs.YtccdkoimpoockaaDoor
