/-
  NARROWER THAN 'FOR EVERY INPUT', by the rows' own cells (each row's printed sentence says how): CertDeltasMatchReference: laid · CertThereAndBack: laid · CertComposes: laid · CertRefuses: laid.
  DERIVED. THE GIVEN ROWS OF THIS SEAT. 4 by the template 'for every input the law returns true; each argument reads behind the call as it read before'; 0 by the template 'total and deterministic' (their statements: YtijakakpbijdkaaGreatDoorTotals.lean).
  GIVEN WITH THE SEED: the statements are not yours to turn. If you find one false, say at which input.
  Laid BY PROGRAM, IN A SANDBOX (cutbox-rows.mjs): the forced cells as the released guide's own fill.sh prints them over the translation d17c9799ae7aca31… (all of the seat's roots in one cut). By AI agents, Wed Nov 11 2026. No macro, syntax, notation, axiom, sorry.
-/
import Derived.Test.YtijakakpbijdkaaGreatDoorChecked
import GoSem.Claim
import GoSem.ClaimJoined
import GoSem.ClaimMapViews
import Derived.JoinedTies
import Derived.KernelRfl
namespace Go.Proofs.YtijakakpbijdkaaGreatDoor
/- THE CELL 'sum', in the pinned program and in every row, IS THE sha256 OF THE DUMP (.gsa) THAT YtijakakpbijdkaaGreatDoorProg.lean LOADS. Nothing in Lean hashes anything: it is a label: what it is worth is what the hold of that sum in a sandbox is worth. -/
noncomputable def Tryz.pinned : Pinned := { name := "ytijakakpbijdkaagreatdoor", sum := "d17c9799ae7aca319f828a49280d75dbc8df8d5112b41868a102acc1c79bf3dc", checked := Tryz.checked }
namespace Rows
def none {H : Type} : Left H := { results := [], args := [] }

/- WHAT THE LISTED PACKAGE-LEVEL VARIABLES READ AS WHEN THE CALL BEGINS. Each datum BY PROGRAM (the guide's laid-datum.mjs) off the statement by which the dump's own 'gosem.cut.vars' lays the variable. In a bare row this is a premise. The card (YtijakakpbijdkaaGreatDoorCards.lean) ties it to the program's text. -/
def laid_math_bits_deBruijn32tab {H : Type} : DataW H := .agg [.lit (.int .u8 0), .lit (.int .u8 1), .lit (.int .u8 28), .lit (.int .u8 2), .lit (.int .u8 29), .lit (.int .u8 14), .lit (.int .u8 24), .lit (.int .u8 3), .lit (.int .u8 30), .lit (.int .u8 22), .lit (.int .u8 20), .lit (.int .u8 15), .lit (.int .u8 25), .lit (.int .u8 17), .lit (.int .u8 4), .lit (.int .u8 8), .lit (.int .u8 31), .lit (.int .u8 27), .lit (.int .u8 13), .lit (.int .u8 23), .lit (.int .u8 21), .lit (.int .u8 19), .lit (.int .u8 16), .lit (.int .u8 7), .lit (.int .u8 26), .lit (.int .u8 12), .lit (.int .u8 18), .lit (.int .u8 6), .lit (.int .u8 11), .lit (.int .u8 5), .lit (.int .u8 10), .lit (.int .u8 9)]
def laid_clearway_digest_round {H : Type} : DataW H := .agg [.lit (.int .u32 1116352408), .lit (.int .u32 1899447441), .lit (.int .u32 3049323471), .lit (.int .u32 3921009573), .lit (.int .u32 961987163), .lit (.int .u32 1508970993), .lit (.int .u32 2453635748), .lit (.int .u32 2870763221), .lit (.int .u32 3624381080), .lit (.int .u32 310598401), .lit (.int .u32 607225278), .lit (.int .u32 1426881987), .lit (.int .u32 1925078388), .lit (.int .u32 2162078206), .lit (.int .u32 2614888103), .lit (.int .u32 3248222580), .lit (.int .u32 3835390401), .lit (.int .u32 4022224774), .lit (.int .u32 264347078), .lit (.int .u32 604807628), .lit (.int .u32 770255983), .lit (.int .u32 1249150122), .lit (.int .u32 1555081692), .lit (.int .u32 1996064986), .lit (.int .u32 2554220882), .lit (.int .u32 2821834349), .lit (.int .u32 2952996808), .lit (.int .u32 3210313671), .lit (.int .u32 3336571891), .lit (.int .u32 3584528711), .lit (.int .u32 113926993), .lit (.int .u32 338241895), .lit (.int .u32 666307205), .lit (.int .u32 773529912), .lit (.int .u32 1294757372), .lit (.int .u32 1396182291), .lit (.int .u32 1695183700), .lit (.int .u32 1986661051), .lit (.int .u32 2177026350), .lit (.int .u32 2456956037), .lit (.int .u32 2730485921), .lit (.int .u32 2820302411), .lit (.int .u32 3259730800), .lit (.int .u32 3345764771), .lit (.int .u32 3516065817), .lit (.int .u32 3600352804), .lit (.int .u32 4094571909), .lit (.int .u32 275423344), .lit (.int .u32 430227734), .lit (.int .u32 506948616), .lit (.int .u32 659060556), .lit (.int .u32 883997877), .lit (.int .u32 958139571), .lit (.int .u32 1322822218), .lit (.int .u32 1537002063), .lit (.int .u32 1747873779), .lit (.int .u32 1955562222), .lit (.int .u32 2024104815), .lit (.int .u32 2227730452), .lit (.int .u32 2361852424), .lit (.int .u32 2428436474), .lit (.int .u32 2756734187), .lit (.int .u32 3204031479), .lit (.int .u32 3329325298)]
def laid_clearway_dist_checks {H : Type} : DataW H := .iface "func table" (.agg [.iface "func" (.lit (.string [40, 99, 108, 101, 97, 114, 119, 97, 121, 47, 100, 105, 115, 116, 46, 115, 105, 100, 101, 41, 46, 110, 111, 110, 101])), .iface "func" (.lit (.string [40, 99, 108, 101, 97, 114, 119, 97, 121, 47, 100, 105, 115, 116, 46, 115, 105, 100, 101, 41, 46, 102, 105, 110, 105, 116, 101])), .iface "func" (.lit (.string [40, 99, 108, 101, 97, 114, 119, 97, 121, 47, 100, 105, 115, 116, 46, 115, 105, 100, 101, 41, 46, 101, 110, 100, 108, 101, 115, 115]))])

/-- 'clearwaylaw16.CertDeltasMatchReference': WHATEVER THE INPUT: true; the input reads as it did. -/
def certDeltasMatchReferenceSpec : ChangeSpec := { name := "certDeltasMatchReference", fn := fun _ => fun
  | [d1, d2, d3, d4, d5] => { results := [.lit (.bool true)], args := [d1, d2, d3, d4, d5] }
  | _ => none }
def certDeltasMatchReferenceRow : OpenClaim := { program := "ytijakakpbijdkaagreatdoor", sum := "d17c9799ae7aca319f828a49280d75dbc8df8d5112b41868a102acc1c79bf3dc", func := "clearway/clearwaylaw16.CertDeltasMatchReference", spec := "certDeltasMatchReference", inPlace := ["internal/abi.NoEscape", "internal/bytealg.MakeNoZero"], unfollowed := true, recurses := true, named := ["clearway/digest.round", "clearway/dist.checks", "math/bits.deBruijn32tab"], plainKeys := false, apart := false, laid := [("math/bits.deBruijn32tab", laid_math_bits_deBruijn32tab), ("clearway/digest.round", laid_clearway_digest_round), ("clearway/dist.checks", laid_clearway_dist_checks)] }
def CertDeltasMatchReferenceSaid : Prop := certDeltasMatchReferenceRow.holds Tryz.pinned (OpenSpec.ofChange certDeltasMatchReferenceSpec)

/-- ITS FALSE NEIGHBOUR: 'it returns false'. Refute it at one input. -/
def certDeltasMatchReferenceWrong : ChangeSpec := { name := "certDeltasMatchReference", fn := fun _ => fun
  | [d1, d2, d3, d4, d5] => { results := [.lit (.bool false)], args := [d1, d2, d3, d4, d5] }
  | _ => none }
def CertDeltasMatchReferenceWrongFalsely : Prop := certDeltasMatchReferenceRow.holds Tryz.pinned (OpenSpec.ofChange certDeltasMatchReferenceWrong)

/-- 'clearwaylaw16.CertThereAndBack': WHATEVER THE INPUT: true; the input reads as it did. -/
def certThereAndBackSpec : ChangeSpec := { name := "certThereAndBack", fn := fun _ => fun
  | [d1, d2, d3] => { results := [.lit (.bool true)], args := [d1, d2, d3] }
  | _ => none }
def certThereAndBackRow : OpenClaim := { program := "ytijakakpbijdkaagreatdoor", sum := "d17c9799ae7aca319f828a49280d75dbc8df8d5112b41868a102acc1c79bf3dc", func := "clearway/clearwaylaw16.CertThereAndBack", spec := "certThereAndBack", inPlace := ["internal/abi.NoEscape", "internal/bytealg.MakeNoZero"], unfollowed := true, recurses := true, named := ["clearway/digest.round", "clearway/dist.checks", "math/bits.deBruijn32tab"], plainKeys := false, apart := false, laid := [("math/bits.deBruijn32tab", laid_math_bits_deBruijn32tab), ("clearway/digest.round", laid_clearway_digest_round), ("clearway/dist.checks", laid_clearway_dist_checks)] }
def CertThereAndBackSaid : Prop := certThereAndBackRow.holds Tryz.pinned (OpenSpec.ofChange certThereAndBackSpec)

/-- ITS FALSE NEIGHBOUR: 'it returns false'. Refute it at one input. -/
def certThereAndBackWrong : ChangeSpec := { name := "certThereAndBack", fn := fun _ => fun
  | [d1, d2, d3] => { results := [.lit (.bool false)], args := [d1, d2, d3] }
  | _ => none }
def CertThereAndBackWrongFalsely : Prop := certThereAndBackRow.holds Tryz.pinned (OpenSpec.ofChange certThereAndBackWrong)

/-- 'clearwaylaw16.CertComposes': WHATEVER THE INPUT: true; the input reads as it did. -/
def certComposesSpec : ChangeSpec := { name := "certComposes", fn := fun _ => fun
  | [d] => { results := [.lit (.bool true)], args := [d] }
  | _ => none }
def certComposesRow : OpenClaim := { program := "ytijakakpbijdkaagreatdoor", sum := "d17c9799ae7aca319f828a49280d75dbc8df8d5112b41868a102acc1c79bf3dc", func := "clearway/clearwaylaw16.CertComposes", spec := "certComposes", inPlace := ["internal/abi.NoEscape", "internal/bytealg.MakeNoZero"], unfollowed := true, recurses := true, named := ["clearway/digest.round", "clearway/dist.checks", "math/bits.deBruijn32tab"], plainKeys := false, apart := false, laid := [("math/bits.deBruijn32tab", laid_math_bits_deBruijn32tab), ("clearway/digest.round", laid_clearway_digest_round), ("clearway/dist.checks", laid_clearway_dist_checks)] }
def CertComposesSaid : Prop := certComposesRow.holds Tryz.pinned (OpenSpec.ofChange certComposesSpec)

/-- ITS FALSE NEIGHBOUR: 'it returns false'. Refute it at one input. -/
def certComposesWrong : ChangeSpec := { name := "certComposes", fn := fun _ => fun
  | [d] => { results := [.lit (.bool false)], args := [d] }
  | _ => none }
def CertComposesWrongFalsely : Prop := certComposesRow.holds Tryz.pinned (OpenSpec.ofChange certComposesWrong)

/-- 'clearwaylaw16.CertRefuses': WHATEVER THE INPUT: true; the input reads as it did. -/
def certRefusesSpec : ChangeSpec := { name := "certRefuses", fn := fun _ => fun
  | [d] => { results := [.lit (.bool true)], args := [d] }
  | _ => none }
def certRefusesRow : OpenClaim := { program := "ytijakakpbijdkaagreatdoor", sum := "d17c9799ae7aca319f828a49280d75dbc8df8d5112b41868a102acc1c79bf3dc", func := "clearway/clearwaylaw16.CertRefuses", spec := "certRefuses", inPlace := ["internal/abi.NoEscape", "internal/bytealg.MakeNoZero"], unfollowed := true, recurses := true, named := ["clearway/digest.round", "clearway/dist.checks", "math/bits.deBruijn32tab"], plainKeys := false, apart := false, laid := [("math/bits.deBruijn32tab", laid_math_bits_deBruijn32tab), ("clearway/digest.round", laid_clearway_digest_round), ("clearway/dist.checks", laid_clearway_dist_checks)] }
def CertRefusesSaid : Prop := certRefusesRow.holds Tryz.pinned (OpenSpec.ofChange certRefusesSpec)

/-- ITS FALSE NEIGHBOUR: 'it returns false'. Refute it at one input. -/
def certRefusesWrong : ChangeSpec := { name := "certRefuses", fn := fun _ => fun
  | [d] => { results := [.lit (.bool false)], args := [d] }
  | _ => none }
def CertRefusesWrongFalsely : Prop := certRefusesRow.holds Tryz.pinned (OpenSpec.ofChange certRefusesWrong)

/- THE SECOND FORM. 'bulk': how many values and letters a reading holds, each counted each time it is reached (what is shared counts as often as it is met; a slice's spare places count too). A statement '..UptoSaid' is the law's where the arguments, and the package variables that the reading takes, are together of bulk at most 1048576: NARROWER than '..Said'. Prove '..Said' where nothing that the law and all that it calls make is longer than what came in: it says more and counts as full. Else prove '..UptoSaid'. A law counts once. -/
mutual
def uptoBulk {H : Type} : DataW H → Nat
  | .lit (.string bytes) => bytes.length + 1
  | .lit _ => 1
  | .nil => 1
  | .ptr d => uptoBulk d + 1
  | .slice elems spare => uptoBulkAll elems + uptoBulkAll spare + 1
  | .agg parts => uptoBulkAll parts + 1
  | .iface _ d => uptoBulk d + 1
  | .map entries => uptoBulkEntries entries + 1
  | .held _ => 1
def uptoBulkAll {H : Type} : List (DataW H) → Nat
  | [] => 0
  | d :: r => uptoBulk d + uptoBulkAll r
def uptoBulkEntries {H : Type} : List (Lit × DataW H) → Nat
  | [] => 0
  | x :: r => uptoBulkEntry x + uptoBulkEntries r
def uptoBulkEntry {H : Type} : Lit × DataW H → Nat
  | (.string bytes, d) => bytes.length + uptoBulk d + 1
  | (_, d) => uptoBulk d + 1
 end
def uptoSmall : (H : Type) → List (DataW H) → Bool := fun _ ds => decide (uptoBulkAll ds ≤ 1048576)
def OpenSpec.upto (s : _root_.Go.ChangeSpec) : _root_.Go.OpenSpec := { _root_.Go.OpenSpec.ofChange s with cond := some uptoSmall }

/-- 'clearwaylaw16.CertDeltasMatchReference', WHERE WHAT IT READS IS OF BULK AT MOST 1048576: true; the input reads as it did. -/
def certDeltasMatchReferenceUptoRow : OpenClaim := { program := "ytijakakpbijdkaagreatdoor", sum := "d17c9799ae7aca319f828a49280d75dbc8df8d5112b41868a102acc1c79bf3dc", func := "clearway/clearwaylaw16.CertDeltasMatchReference", spec := "certDeltasMatchReference", inPlace := ["internal/abi.NoEscape", "internal/bytealg.MakeNoZero"], unfollowed := true, recurses := true, named := ["clearway/digest.round", "clearway/dist.checks", "math/bits.deBruijn32tab"], plainKeys := false, apart := false, laid := [("math/bits.deBruijn32tab", laid_math_bits_deBruijn32tab), ("clearway/digest.round", laid_clearway_digest_round), ("clearway/dist.checks", laid_clearway_dist_checks)], narrowed := true }
def CertDeltasMatchReferenceUptoSaid : Prop := certDeltasMatchReferenceUptoRow.holds Tryz.pinned (OpenSpec.upto certDeltasMatchReferenceSpec)

/-- 'clearwaylaw16.CertThereAndBack', WHERE WHAT IT READS IS OF BULK AT MOST 1048576: true; the input reads as it did. -/
def certThereAndBackUptoRow : OpenClaim := { program := "ytijakakpbijdkaagreatdoor", sum := "d17c9799ae7aca319f828a49280d75dbc8df8d5112b41868a102acc1c79bf3dc", func := "clearway/clearwaylaw16.CertThereAndBack", spec := "certThereAndBack", inPlace := ["internal/abi.NoEscape", "internal/bytealg.MakeNoZero"], unfollowed := true, recurses := true, named := ["clearway/digest.round", "clearway/dist.checks", "math/bits.deBruijn32tab"], plainKeys := false, apart := false, laid := [("math/bits.deBruijn32tab", laid_math_bits_deBruijn32tab), ("clearway/digest.round", laid_clearway_digest_round), ("clearway/dist.checks", laid_clearway_dist_checks)], narrowed := true }
def CertThereAndBackUptoSaid : Prop := certThereAndBackUptoRow.holds Tryz.pinned (OpenSpec.upto certThereAndBackSpec)

/-- 'clearwaylaw16.CertComposes', WHERE WHAT IT READS IS OF BULK AT MOST 1048576: true; the input reads as it did. -/
def certComposesUptoRow : OpenClaim := { program := "ytijakakpbijdkaagreatdoor", sum := "d17c9799ae7aca319f828a49280d75dbc8df8d5112b41868a102acc1c79bf3dc", func := "clearway/clearwaylaw16.CertComposes", spec := "certComposes", inPlace := ["internal/abi.NoEscape", "internal/bytealg.MakeNoZero"], unfollowed := true, recurses := true, named := ["clearway/digest.round", "clearway/dist.checks", "math/bits.deBruijn32tab"], plainKeys := false, apart := false, laid := [("math/bits.deBruijn32tab", laid_math_bits_deBruijn32tab), ("clearway/digest.round", laid_clearway_digest_round), ("clearway/dist.checks", laid_clearway_dist_checks)], narrowed := true }
def CertComposesUptoSaid : Prop := certComposesUptoRow.holds Tryz.pinned (OpenSpec.upto certComposesSpec)

/-- 'clearwaylaw16.CertRefuses', WHERE WHAT IT READS IS OF BULK AT MOST 1048576: true; the input reads as it did. -/
def certRefusesUptoRow : OpenClaim := { program := "ytijakakpbijdkaagreatdoor", sum := "d17c9799ae7aca319f828a49280d75dbc8df8d5112b41868a102acc1c79bf3dc", func := "clearway/clearwaylaw16.CertRefuses", spec := "certRefuses", inPlace := ["internal/abi.NoEscape", "internal/bytealg.MakeNoZero"], unfollowed := true, recurses := true, named := ["clearway/digest.round", "clearway/dist.checks", "math/bits.deBruijn32tab"], plainKeys := false, apart := false, laid := [("math/bits.deBruijn32tab", laid_math_bits_deBruijn32tab), ("clearway/digest.round", laid_clearway_digest_round), ("clearway/dist.checks", laid_clearway_dist_checks)], narrowed := true }
def CertRefusesUptoSaid : Prop := certRefusesUptoRow.holds Tryz.pinned (OpenSpec.upto certRefusesSpec)

end Rows
end Go.Proofs.YtijakakpbijdkaaGreatDoor
