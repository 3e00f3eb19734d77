/- Part of the proof. -/
import Derived.KernelRfl
import Derived.Test.YtijakakpbijdkaaGreatDoorProg
import Derived.Test.YtijakakpbijdkaaGreatDoorA6
set_option linter.all false
set_option linter.unusedVariables false
set_option linter.unusedSectionVars false
set_option linter.unusedSimpArgs false
namespace Go.V
noncomputable instance:Codes:=⟨codesOf Go.Proofs.Tryz.prog⟩
theorem cds (f id:Nat):Codes.cd f id = codesOf Go.Proofs.Tryz.prog f id:=rfl
def roundTable:List Int:=[1116352408,1899447441,3049323471,3921009573,961987163,1508970993,2453635748,2870763221,3624381080,310598401,607225278,1426881987,1925078388,2162078206,2614888103,3248222580,3835390401,4022224774,264347078,604807628,770255983,1249150122,1555081692,1996064986,2554220882,2821834349,2952996808,3210313671,3336571891,3584528711,113926993,338241895,666307205,773529912,1294757372,1396182291,1695183700,1986661051,2177026350,2456956037,2730485921,2820302411,3259730800,3345764771,3516065817,3600352804,4094571909,275423344,430227734,506948616,659060556,883997877,958139571,1322822218,1537002063,1747873779,1955562222,2024104815,2227730452,2361852424,2428436474,2756734187,3204031479,3329325298]
def cfgZ:List (Option (List ZG)):=[none,some [.nilf],some [.val yI],some [.val yI],some [.val .bool],some [.val (.int .u8)],some [.val (.int .u8)],some [.val yI,.val yI,.val .bool,.val (.int .u8)],some [.val yI,.val yI,.val .bool,.val (.int .u8)],some [.val .str],some [.val .str],some [.val .str],some [.val (.int .u64)],some [.val .str,.val (.int .u64)],some [.val .str,.val (.int .u64)],some [.nilp],some [.nilp],some [.nilp],some [.nilp],some [.nilp],some [.nili],some [.val (.int .i32)],some [.nils],some [.nils],some [.nils],some [.nils],some [.nils],some [.val (.arr 8 (.sl yN))],some [.val (.arr 8 (.sl yN))],some [.val (.arr 8 (.sl yN))],some [.nilf],some [.nilf],some [.val yI],none,some [.nilf],some [.nilf],some [.nils],some [.nilf],some [.nils],some [.nilf],none,some [.nilf],some [.nilf],some [.nilf],some [.nilf],some [.nilf],some [.nilf],some [.nilf],some [.nilf],some [.val (.arr 4 (.sl (.arr 4 yI)))],some [.nilf],some [.nils],some [.val yI,.val yI,.val .bool,.nils,.val .bool,.nils],some [.val yI,.val yI,.val .bool,.nils,.val .bool,.nils],none,some [.nilf],some [.nilf],some [.val yI,.nils],some [.val yI,.nils],none,some [.nilf],none,some [.nilf],some [.nilf],none,some [.nilf],some [.val (.arr 8 .str)],none,some [.nilf],some [.nilf],some [.val yI,.val yI],some [.val yI,.val yI],some [.nils],some [.nils],some [.nils,.nils,.nils],some [.nils,.nils,.nils],some [.nilf],some [.nilf],some [.nilf],some [.nilf],some [.val (.arr 4 yI)],some [.nilf],some [.nilf],some [.nilf],some [.val (.arr 2 yI)],some [.val (.arr 2 yI)],some [.val .bool,.nils],some [.val .bool,.nils],some [.nilf],some [.nilf],some [.nilf],some [.nilf],some [.nilf],some [.nilp],some [.nilf],some [.nilm],some [.nilf],some [.nilf],none,some [.nilf],some [.nilf],some [.nilf],some [.nilf],some [.nilf],some [.nilf],some [.nilf],some [.nilf],some [.nilf],some [.nilf],some [.nilp],some [.val .str,.val yI],some [.val .str,.val yI],some [.nilf],some [.nilf],some [.nils],none,some [.nilf],some [.nilf],some [.nils],none,some [.nilf],some [.nilf],some [.nilf],some [.nils],some [.nils],some [.nilf],some [.nilf],some [.nilf],some [.nilf],some [],some [],none,some [.nilf],some [.nilf],some [.nilp],some [.nilp,.nils],some [.nilp,.nils],some [.nilf],some [.nili],some [.nili],none,some [.nilf],none,some [.nilf],some [.val yI,.val .str],some [.val yI,.val .str],some [.nilf],some [.nilp],some [.nilf],some [.nilf],some [.nilf],some [.nilf],some [.nilf,.nilf,.nilf],some [.nilf,.nilf,.nilf],none,some [.nilf],some [.nilf],some [.nilf],some [.nilf],some [.nilf],some [.nilf],some [.nilf],some [.nilf],some [.nilf],some [.nilf],some [.nilf],some [.val (.int .u64)],some [.val (.int .u64)],some [.nilp],some [.nilf],some [.nilf],some [.nilf],some [.nilf],some [.val (.arr 128 .str)],some [.val (.arr 128 .str)],some [.nilf],some [.nilf,.nilf,.nilf,.nilf,.nilf,.nilf,.nilf,.nilf,.nilf,.nilf,.nilf,.nilf,.nilf,.nilf,.nilf,.nilf,.nilf,.nilf,.nilf,.nilf,.nilf,.nilf,.nilf,.nilf],some [.nilf],some [.nilf],some [.nilf],some [.nilf],some [.nilf],some [.nilf],some [.val (.int .u32)],some [.val (.arr 8 (.int .u32))],some [.val (.arr 8 (.int .u32))],some [.nilf],some [.nilf],some [.nilf],some [.nilf],some [.nilf],some [.nilf],none,some [.nilf],some [.nilf],some [.nilf],some [.nilf],some [.nilf],some [.val yI,.val yI,.val yI,.val .bool,.val yI,.val yI],some [.val yI,.val yI,.val yI,.val .bool,.val yI,.val yI],some [.nilf],some [.nilp],some [.nils,.nils,.nils],some [.nils,.nils,.nils],some [.nilf],some [.nilf],some [.nilf],some [.nilf],some [.nilf],some [.nilf],some [.nilf],some [.nilp],some [.val (.arr 64 (.int .u32))],some [.nilf],some [.nilf],some [.nils],some [.val (.arr 32 (.int .u8))],some [.nilm],some [.nilm],some [.nilf],some [.val yI,.val yI,.nils,.nils,.nils],some [.val yI,.val yI,.nils,.nils,.nils],some [.nilf],some [.nilf],some [.nilp],some [.nilf],some [.val (.arr 24 yI)],some [.val (.arr 24 (.sl yI))],some [.nils,.nils,.nils,.val (.arr 24 yI),.val (.arr 24 yI),.val (.arr 24 (.sl yI)),.val (.arr 24 (.sl yI))],some [.nils,.nils,.nils,.val (.arr 24 yI),.val (.arr 24 yI),.val (.arr 24 (.sl yI)),.val (.arr 24 (.sl yI))],some [.nilf],some [.nilf],some [.nilf],some [.nilf],some [.nilf],some [.nilf],some [.nilf],some [.nilf],some [.nilp],some [.val yI,.val yI,.val .bool],some [.val yI,.val yI,.val .bool],some [.nilf],some [.nilf],some [.nilm],none,some [.nilf],some [.val (.arr 9 yI)],some [.val (.arr 9 yI)],some [.val (.arr 24 (.arr 9 yI))],some [.nilf],some [.nilf],some [.nilf],some [.nilf],some [.nils],some [.nilf],some [.nilm],some [.val yI,.val .bool,.val (.arr 9 yI),.nils,.nils,.nilm],some [.val yI,.val .bool,.val (.arr 9 yI),.nils,.nils,.nilm],some [.nilf],some [.nilf],some [.nilf],some [.val yI,.val yI,.val yI,.val .bool,.val yI,.val yI,.val yI,.val yI,.val yI],some [.val yI,.val yI,.val yI,.val .bool,.val yI,.val yI,.val yI,.val yI,.val yI],some [.nilf],some [.nilf,.nilf,.nilf],none,some [.nilf],some [.nils],some [.val yI,.nils,.nils],some [.val yI,.nils,.nils],none,some [.nilf],some [.val yI,.val yI,.val yI,.val .bool,.val yI,.val yI,.val yI,.nils],some [.val yI,.val yI,.val yI,.val .bool,.val yI,.val yI,.val yI,.nils],some [.nilf],none,some [.nilf],some [.nilf],some [.nilf],some [.nilf],some [.nilf],some [.nilp],some [.nils],none,some [.nilf],some [.nilf],some [.nils],some [.nils,.nils,.nils,.nils],some [.nils,.nils,.nils,.nils],some [.val yI,.val yI,.val yI,.val yI],some [.val yI,.val yI,.val yI,.val yI],some [.nilf],some [.val (.int .u32)],some [.val (.int .u32),.val yI],some [.val (.int .u32),.val yI],some [.nilf],some [.nilf],some [.nilf],some [.nilf],some [.nils],some [.nilf],some [.nilf],none,some [.nilf],none,some [.nilf],some [.nilp],some [.nilf],some [.nils],some [.nilf],some [.nilf],some [.nilf],some [.val (.arr 3 yI)],some [.val (.arr 24 (.sl yD))],some [.nilm],some [.val (.arr 24 (.arr 3 yI))],some [.val (.arr 24 (.sl yD)),.nilm,.val (.arr 24 (.arr 3 yI))],some [.val (.arr 24 (.sl yD)),.nilm,.val (.arr 24 (.arr 3 yI))],some [.nilm],some [.nilm],none,some [.nilf],some [.nilf],some [.nilf],some [.nilf],some [.nilf],some [.nilf],some [.nilf],some [.nilf],some [.val (.arr 24 (.int .u32))],some [.val (.arr 24 (.int .u32))],some [.nilf],some [.nilf],some [.nilf],some [.val (.arr 7 yI)],some [.nilf],some [.nilf],some [.val (.arr 24 .bool)],some [.val (.arr 24 .bool)],some [.val (.arr 24 (.arr 24 .bool))],none,some [.nilf],some [.nilf],some [.nilf],some [.val (.arr 24 yI)],some [.nilf],some [.nilf],some [.nilf],some [.val (.arr 4 yI)],none,some [.nilp],none,some [.nilf],some [.nilf],some [.nilp],some [.nils,.nils,.nils,.nils,.val (.arr 24 yI),.nils],some [.nils,.nils,.nils,.nils,.val (.arr 24 yI),.nils],some [.nilf],some [.nilf],some [],some [.nilf],some [.nilp],some [.nilp],some [.val (.arr 5 yI)],some [.val (.arr 5 yI)],some [.nilf],some [.nilf],some [.nilp],some [.nilf],some [.nilf],none,some [.nilf],some [.nilf],none,some [.nilf],none,some [.nilf],some [.nilf],none,some [.nilf],none,some [.nilf],some [.nilf],some [.nilf],some [.nilf],some [.nils],some [.nilf],some [.nilm],none,some [.nilf],some [.nilm],some [.nilf],some [.nilf],some [.val (.arr 49 yI)],some [.val (.arr 25 (.arr 49 yI))],some [.val (.arr 25 (.arr 49 yI)),.val (.arr 25 (.arr 49 yI)),.nils,.nils],some [.val (.arr 25 (.arr 49 yI)),.val (.arr 25 (.arr 49 yI)),.nils,.nils],some [.nilm],some [.nils],some [.nilf],some [.nilp],some [.nilf],some [.nilf],some [.nils],some [.nils,.nils,.nils,.nils,.nils],some [.nils,.nils,.nils,.nils,.nils],some [.nilf],some [.nilf],some [.nilf],some [.nilf],some [.nilf],some [.nilf],some [.nilf],some [.nilf],some [.nilf],some [.nilf],some [.nilf],some [.nilf],none,some [.nilf],none,some [.nilf],some [.nilf],some [.nilf],some [.nilf],some [.val yI],none,some [.nilf],some [.nilf],some [.nilf],some [.nilf],some [.nilf],some [.nilf],some [.nilf],some [.nilf],some [.nilf],some [.nilf],some [.nilf],some [.nilf],some [.nilf],some [.nilf],some [.nilf],some [.nilf],some [.nilf],some [.nilf],some [.val (.int .u64)],some [.nilf],some [.nilf],some [.nilf],some [.nilp],some [.nilf],some [.nilf],some [.nilf],some [.nilp],some [.nils,.nils,.nils,.nils,.nils],some [.nils,.nils,.nils,.nils,.nils],some [.nilf],some [.nilf],some [.nilp],some [.nilf],some [.nilf],some [.nilf],some [.nilf],some [.nilp,.nilp,.nilp,.val .str],some [.nilp,.nilp,.nilp,.val .str],some [],some [],some [],some [.nilf],some [.val (.int .u8)],some [.val (.int .u8)],some [.nilf],some [.val (.int .i32)],some [.val (.int .i32)],some [.val (.int .u64),.val (.int .u64),.val (.int .u32),.val (.int .u8),.val (.int .u8),.val (.int .u8),.val (.int .u8),.nilf,.nilp,.val (.int .i32),.val (.int .i32)],some [.val (.int .u64),.val (.int .u64),.val (.int .u32),.val (.int .u8),.val (.int .u8),.val (.int .u8),.val (.int .u8),.nilf,.nilp,.val (.int .i32),.val (.int .i32)]]
def cfg:Cfg where
 unders:=[.tup,.fn,.int .i64,.int .i64,.bool,.int .u8,.int .u8,.st [(0,2),(1,3),(2,4),(3,6)],.st [(0,2),(1,3),(2,4),(3,6)],.str,.str,.str,.int .u64,.st [(0,9),(1,12)],.st [(0,9),(1,12)],.ptr 464,.ptr 467,.ptr 475,.st [(0,17)],.st [(0,17)],.iface,.int .i32,.sl 80,.sl 53,.st [(0,23)],.st [(0,23)],.sl 58,.arr 8 26,.st [(0,27)],.st [(0,27)],.fn,.fn,.int .i64,.tup,.fn,.fn,.sl 25,.fn,.sl 29,.fn,.tup,.fn,.fn,.fn,.fn,.fn,.fn,.fn,.fn,.arr 4 22,.fn,.sl 3,.st [(0,3),(1,3),(2,4),(3,51),(4,4),(5,51)],.st [(0,3),(1,3),(2,4),(3,51),(4,4),(5,51)],.tup,.fn,.fn,.st [(0,3),(1,51)],.st [(0,3),(1,51)],.tup,.fn,.tup,.fn,.fn,.tup,.fn,.arr 8 9,.tup,.fn,.fn,.st [(0,3),(1,3)],.st [(0,3),(1,3)],.sl 71,.sl 199,.st [(0,72),(1,73),(2,51)],.st [(0,72),(1,73),(2,51)],.fn,.fn,.fn,.fn,.arr 4 3,.fn,.fn,.fn,.arr 2 3,.arr 2 3,.st [(0,4),(1,51)],.st [(0,4),(1,51)],.fn,.fn,.fn,.fn,.fn,.ptr 32,.fn,.map 85 53,.fn,.fn,.tup,.fn,.fn,.fn,.fn,.fn,.fn,.fn,.fn,.fn,.fn,.ptr 111,.st [(0,9),(1,3)],.st [(0,9),(1,3)],.fn,.fn,.sl 145,.tup,.fn,.fn,.sl 26,.tup,.fn,.fn,.fn,.sl 9,.sl 5,.fn,.fn,.fn,.fn,.st [],.st [],.tup,.fn,.fn,.ptr 136,.st [(0,134),(1,124)],.st [(0,134),(1,124)],.fn,.iface,.iface,.tup,.fn,.tup,.fn,.st [(0,3),(1,9)],.st [(0,3),(1,9)],.fn,.ptr 174,.fn,.fn,.fn,.fn,.st [(0,149),(1,150),(2,151)],.st [(0,149),(1,150),(2,151)],.tup,.fn,.fn,.fn,.fn,.fn,.fn,.fn,.fn,.fn,.fn,.fn,.int .u64,.int .u64,.ptr 5,.fn,.fn,.fn,.fn,.arr 128 9,.arr 128 9,.fn,.arr 8 153,.fn,.fn,.fn,.fn,.fn,.fn,.int .u32,.arr 8 183,.arr 8 183,.fn,.fn,.fn,.fn,.fn,.fn,.oth,.fn,.fn,.fn,.fn,.fn,.st [(0,3),(1,3),(2,3),(3,4),(4,3),(5,3)],.st [(0,3),(1,3),(2,3),(3,4),(4,3),(5,3)],.fn,.ptr 203,.st [(0,75)],.st [(0,75)],.fn,.fn,.fn,.fn,.fn,.fn,.fn,.ptr 185,.arr 64 183,.fn,.fn,.sl 183,.arr 32 5,.map 3 51,.map 3 51,.fn,.st [(0,71),(2,51),(3,73),(4,26)],.st [(0,71),(2,51),(3,73),(4,26)],.fn,.fn,.ptr 229,.fn,.arr 24 3,.arr 24 51,.st [(0,75),(3,226),(27,226),(51,227),(75,227)],.st [(0,75),(3,226),(27,226),(51,227),(75,227)],.fn,.fn,.fn,.fn,.fn,.fn,.fn,.fn,.ptr 240,.st [(0,3),(1,3),(2,4)],.st [(0,3),(1,3),(2,4)],.fn,.fn,.map 3 348,.tup,.fn,.arr 9 3,.arr 9 3,.arr 24 247,.fn,.fn,.fn,.fn,.sl 262,.fn,.map 3 247,.st [(0,3),(1,4),(2,247),(11,253),(12,253),(13,255)],.st [(0,3),(1,4),(2,247),(11,253),(12,253),(13,255)],.fn,.fn,.fn,.st [(0,199),(6,3),(7,3),(8,3)],.st [(0,199),(6,3),(7,3),(8,3)],.fn,.arr 3 263,.tup,.fn,.sl 273,.st [(0,3),(1,51),(2,267)],.st [(0,3),(1,51),(2,267)],.tup,.fn,.st [(0,199),(6,3),(7,51)],.st [(0,199),(6,3),(7,51)],.fn,.tup,.fn,.fn,.fn,.fn,.fn,.ptr 288,.sl 290,.tup,.fn,.fn,.sl 294,.st [(0,51),(1,282),(2,51),(3,286)],.st [(0,51),(1,282),(2,51),(3,286)],.st [(0,3),(1,3),(2,3),(3,3)],.st [(0,3),(1,3),(2,3),(3,3)],.fn,.int .u32,.st [(0,292),(1,3)],.st [(0,292),(1,3)],.fn,.fn,.fn,.fn,.sl 3,.fn,.fn,.tup,.fn,.tup,.fn,.ptr 317,.fn,.sl 51,.fn,.fn,.fn,.arr 3 3,.arr 24 73,.map 3 4,.arr 24 312,.st [(0,313),(24,314),(25,315)],.st [(0,313),(24,314),(25,315)],.map 3 312,.map 3 312,.tup,.fn,.fn,.fn,.fn,.fn,.fn,.fn,.fn,.arr 24 183,.arr 24 183,.fn,.fn,.fn,.arr 7 3,.fn,.fn,.arr 24 4,.arr 24 4,.arr 24 338,.tup,.fn,.fn,.fn,.arr 24 3,.fn,.fn,.fn,.arr 4 3,.tup,.ptr 247,.tup,.fn,.fn,.ptr 356,.st [(0,75),(3,73),(4,226),(28,73)],.st [(0,75),(3,73),(4,226),(28,73)],.fn,.fn,.st [],.fn,.ptr 337,.ptr 269,.arr 5 3,.arr 5 3,.fn,.fn,.ptr 396,.fn,.fn,.tup,.fn,.fn,.tup,.fn,.tup,.fn,.fn,.tup,.fn,.tup,.fn,.fn,.fn,.fn,.sl 344,.fn,.map 3 364,.tup,.fn,.map 3 84,.fn,.fn,.arr 49 3,.arr 25 393,.st [(0,394),(1225,394),(2450,51),(2451,51)],.st [(0,394),(1225,394),(2450,51),(2451,51)],.map 3 3,.sl 4,.fn,.ptr 405,.fn,.fn,.sl 292,.st [(0,51),(1,403),(2,398),(3,398),(4,51)],.st [(0,51),(1,403),(2,398),(3,398),(4,51)],.fn,.fn,.fn,.fn,.fn,.fn,.fn,.fn,.fn,.fn,.fn,.fn,.tup,.fn,.tup,.fn,.fn,.fn,.fn,.int .i64,.tup,.fn,.fn,.fn,.fn,.fn,.fn,.fn,.fn,.fn,.fn,.fn,.fn,.fn,.fn,.fn,.fn,.fn,.fn,.int .u64,.fn,.fn,.fn,.ptr 3,.fn,.fn,.fn,.ptr 455,.st [(0,308),(1,51),(2,51),(3,51),(4,398)],.st [(0,308),(1,51),(2,51),(3,51),(4,398)],.fn,.fn,.ptr 445,.fn,.fn,.fn,.fn,.st [(0,17),(1,17),(2,17),(3,9)],.st [(0,17),(1,17),(2,17),(3,9)],.arr 0 16,.st [(0,465)],.st [(0,465)],.fn,.int .u8,.int .u8,.fn,.int .i32,.int .i32,.st [(0,12),(1,12),(2,183),(3,469),(4,5),(5,5),(6,470),(7,471),(8,168),(9,472),(10,473)],.st [(0,12),(1,12),(2,183),(3,469),(4,5),(5,5),(6,470),(7,471),(8,168),(9,472),(10,473)]]
 sizes:=[1,1,1,1,1,1,1,4,4,1,1,1,1,2,2,1,1,1,1,1,1,1,1,1,1,1,1,8,8,8,1,1,1,1,1,1,1,1,1,1,1,1,1,1,1,1,1,1,1,4,1,1,6,6,1,1,1,2,2,1,1,1,1,1,1,1,8,1,1,1,2,2,1,1,3,3,1,1,1,1,4,1,1,1,2,2,2,2,1,1,1,1,1,1,1,1,1,1,1,1,1,1,1,1,1,1,1,1,1,1,2,2,1,1,1,1,1,1,1,1,1,1,1,1,1,1,1,1,1,0,0,1,1,1,1,2,2,1,1,1,1,1,1,1,2,2,1,1,1,1,1,1,3,3,1,1,1,1,1,1,1,1,1,1,1,1,1,1,1,1,1,1,1,128,128,1,24,1,1,1,1,1,1,1,8,8,1,1,1,1,1,1,1,1,1,1,1,1,6,6,1,1,3,3,1,1,1,1,1,1,1,1,64,1,1,1,32,1,1,1,5,5,1,1,1,1,24,24,99,99,1,1,1,1,1,1,1,1,1,3,3,1,1,1,1,1,9,9,216,1,1,1,1,1,1,1,14,14,1,1,1,9,9,1,3,1,1,1,3,3,1,1,8,8,1,1,1,1,1,1,1,1,1,1,1,1,1,4,4,4,4,1,1,2,2,1,1,1,1,1,1,1,1,1,1,1,1,1,1,1,1,1,3,24,1,72,97,97,1,1,1,1,1,1,1,1,1,1,1,24,24,1,1,1,7,1,1,24,24,576,1,1,1,1,24,1,1,1,4,1,1,1,1,1,1,29,29,1,1,0,1,1,1,5,5,1,1,1,1,1,1,1,1,1,1,1,1,1,1,1,1,1,1,1,1,1,1,1,1,1,1,1,1,49,1225,2452,2452,1,1,1,1,1,1,1,5,5,1,1,1,1,1,1,1,1,1,1,1,1,1,1,1,1,1,1,1,1,1,1,1,1,1,1,1,1,1,1,1,1,1,1,1,1,1,1,1,1,1,1,1,1,1,1,1,1,5,5,1,1,1,1,1,1,1,4,4,0,0,0,1,1,1,1,1,1,11,11]
 tys:=[none,none,some yI,some yI,some .bool,some (.int .u8),some (.int .u8),some (.pair yI (.pair yI (.pair .bool (.pair (.int .u8) .unit)))),some (.pair yI (.pair yI (.pair .bool (.pair (.int .u8) .unit)))),some .str,some .str,some .str,some (.int .u64),some (.pair .str (.pair (.int .u64) .unit)),some (.pair .str (.pair (.int .u64) .unit)),none,none,none,none,none,none,some (.int .i32),some (.sl (.arr 4 yI)),some (.sl yR),some (.pair (.sl yR) .unit),some (.pair (.sl yR) .unit),some (.sl yN),some (.arr 8 (.sl yN)),some yC,some yC,none,none,some yI,none,none,none,some (.sl (.pair (.sl yR) .unit)),none,some (.sl yC),none,none,none,none,none,none,none,none,none,none,some (.arr 4 (.sl (.arr 4 yI))),none,some (.sl yI),some yR,some yR,none,none,none,some yN,some yN,none,none,none,none,none,none,none,some (.arr 8 .str),none,none,none,some yV,some yV,some (.sl yV),some (.sl yD),some yG,some yG,none,none,none,none,some (.arr 4 yI),none,none,none,some (.arr 2 yI),some (.arr 2 yI),some (.pair .bool (.pair (.sl yI) .unit)),some (.pair .bool (.pair (.sl yI) .unit)),none,none,none,none,none,none,none,none,none,none,none,none,none,none,none,none,none,none,none,none,none,none,some (.pair .str (.pair yI .unit)),some (.pair .str (.pair yI .unit)),none,none,some (.sl yE),none,none,none,some (.sl (.sl yN)),none,none,none,none,some (.sl .str),some (.sl (.int .u8)),none,none,none,none,some .unit,some .unit,none,none,none,none,none,none,none,none,none,none,none,none,none,some yE,some yE,none,none,none,none,none,none,none,none,none,none,none,none,none,none,none,none,none,none,none,none,some (.int .u64),some (.int .u64),none,none,none,none,none,some (.arr 128 .str),some (.arr 128 .str),none,none,none,none,none,none,none,none,some (.int .u32),some (.arr 8 (.int .u32)),some (.arr 8 (.int .u32)),none,none,none,none,none,none,none,none,none,none,none,none,some yD,some yD,none,none,some (.pair yG .unit),some (.pair yG .unit),none,none,none,none,none,none,none,none,some (.arr 64 (.int .u32)),none,none,some (.sl (.int .u32)),some (.arr 32 (.int .u8)),none,none,none,some (.pair yV (.pair (.sl yI) (.pair (.sl yD) (.pair (.sl yN) .unit)))),some (.pair yV (.pair (.sl yI) (.pair (.sl yD) (.pair (.sl yN) .unit)))),none,none,none,none,some (.arr 24 yI),some (.arr 24 (.sl yI)),some (.pair yG (.pair (.arr 24 yI) (.pair (.arr 24 yI) (.pair (.arr 24 (.sl yI)) (.pair (.arr 24 (.sl yI)) .unit))))),some (.pair yG (.pair (.arr 24 yI) (.pair (.arr 24 yI) (.pair (.arr 24 (.sl yI)) (.pair (.arr 24 (.sl yI)) .unit))))),none,none,none,none,none,none,none,none,none,some (.pair yI (.pair yI (.pair .bool .unit))),some (.pair yI (.pair yI (.pair .bool .unit))),none,none,none,none,none,some (.arr 9 yI),some (.arr 9 yI),some (.arr 24 (.arr 9 yI)),none,none,none,none,some (.sl (.pair yD (.pair yI yV))),none,none,none,none,none,none,none,some (.pair yD (.pair yI yV)),some (.pair yD (.pair yI yV)),none,none,none,none,some (.sl (.pair yD yN)),some (.pair yI (.pair (.sl yI) (.pair (.sl (.pair yD yN)) .unit))),some (.pair yI (.pair (.sl yI) (.pair (.sl (.pair yD yN)) .unit))),none,none,some (.pair yD yN),some (.pair yD yN),none,none,none,none,none,none,none,none,some (.sl (.pair yI (.pair yI yV))),none,none,none,some (.sl (.pair (.int .u32) (.pair yI .unit))),some (.pair (.sl yI) (.pair (.sl (.pair yI (.pair yI yV))) (.pair (.sl yI) (.pair (.sl (.pair (.int .u32) (.pair yI .unit))) .unit)))),some (.pair (.sl yI) (.pair (.sl (.pair yI (.pair yI yV))) (.pair (.sl yI) (.pair (.sl (.pair (.int .u32) (.pair yI .unit))) .unit)))),some (.pair yI (.pair yI yV)),some (.pair yI (.pair yI yV)),none,some (.int .u32),some (.pair (.int .u32) (.pair yI .unit)),some (.pair (.int .u32) (.pair yI .unit)),none,none,none,none,some (.sl yI),none,none,none,none,none,none,none,none,some (.sl (.sl yI)),none,none,none,some (.arr 3 yI),some (.arr 24 (.sl yD)),none,some (.arr 24 (.arr 3 yI)),none,none,none,none,none,none,none,none,none,none,none,none,none,some (.arr 24 (.int .u32)),some (.arr 24 (.int .u32)),none,none,none,some (.arr 7 yI),none,none,some (.arr 24 .bool),some (.arr 24 .bool),some (.arr 24 (.arr 24 .bool)),none,none,none,none,some (.arr 24 yI),none,none,none,some (.arr 4 yI),none,none,none,none,none,none,some (.pair yG (.pair (.sl yD) (.pair (.arr 24 yI) (.pair (.sl yD) .unit)))),some (.pair yG (.pair (.sl yD) (.pair (.arr 24 yI) (.pair (.sl yD) .unit)))),none,none,some .unit,none,none,none,some (.arr 5 yI),some (.arr 5 yI),none,none,none,none,none,none,none,none,none,none,none,none,none,none,none,none,none,none,none,none,some (.sl (.arr 24 yI)),none,none,none,none,none,none,none,some (.arr 49 yI),some (.arr 25 (.arr 49 yI)),some (.pair (.arr 25 (.arr 49 yI)) (.pair (.arr 25 (.arr 49 yI)) (.pair (.sl yI) (.pair (.sl yI) .unit)))),some (.pair (.arr 25 (.arr 49 yI)) (.pair (.arr 25 (.arr 49 yI)) (.pair (.sl yI) (.pair (.sl yI) .unit)))),none,some (.sl .bool),none,none,none,none,some (.sl (.int .u32)),some (.pair (.sl yI) (.pair (.sl (.int .u32)) (.pair (.sl .bool) (.pair (.sl .bool) (.pair (.sl yI) .unit))))),some (.pair (.sl yI) (.pair (.sl (.int .u32)) (.pair (.sl .bool) (.pair (.sl .bool) (.pair (.sl yI) .unit))))),none,none,none,none,none,none,none,none,none,none,none,none,none,none,none,none,none,none,none,some yI,none,none,none,none,none,none,none,none,none,none,none,none,none,none,none,none,none,none,none,some (.int .u64),none,none,none,none,none,none,none,none,some (.pair (.sl (.sl yI)) (.pair (.sl yI) (.pair (.sl yI) (.pair (.sl yI) (.pair (.sl .bool) .unit))))),some (.pair (.sl (.sl yI)) (.pair (.sl yI) (.pair (.sl yI) (.pair (.sl yI) (.pair (.sl .bool) .unit))))),none,none,none,none,none,none,none,none,none,none,none,none,none,some (.int .u8),some (.int .u8),none,some (.int .i32),some (.int .i32),none,none]
 bytes:=[0,8,8,8,1,1,1,24,24,16,16,16,8,24,24,8,8,8,8,8,16,4,24,24,24,24,24,192,192,192,8,8,8,0,8,8,24,8,24,8,0,8,8,8,8,8,8,8,8,96,8,24,80,80,0,8,8,32,32,0,8,0,8,8,0,8,128,0,8,8,16,16,24,24,72,72,8,8,8,8,32,8,8,8,16,16,32,32,8,8,8,8,8,8,8,8,8,8,0,8,8,8,8,8,8,8,8,8,8,8,24,24,8,8,24,0,8,8,24,0,8,8,8,24,24,8,8,8,8,0,0,0,8,8,8,32,32,8,16,16,0,8,0,8,24,24,8,8,8,8,8,8,24,24,0,8,8,8,8,8,8,8,8,8,8,8,8,8,8,8,8,8,8,2048,2048,8,192,8,8,8,8,8,8,4,32,32,8,8,8,8,8,8,8,8,8,8,8,8,48,48,8,8,72,72,8,8,8,8,8,8,8,8,256,8,8,24,32,8,8,8,88,88,8,8,8,8,192,576,1608,1608,8,8,8,8,8,8,8,8,8,24,24,8,8,8,0,8,72,72,1728,8,8,8,8,24,8,8,144,144,8,8,8,72,72,8,24,0,8,24,56,56,0,8,80,80,8,0,8,8,8,8,8,8,24,0,8,8,24,96,96,32,32,8,4,16,16,8,8,8,8,24,8,8,0,8,0,8,8,8,24,8,8,8,24,576,8,576,1160,1160,8,8,0,8,8,8,8,8,8,8,8,96,96,8,8,8,56,8,8,24,24,576,0,8,8,8,192,8,8,8,32,0,8,0,8,8,8,312,312,8,8,0,8,8,8,40,40,8,8,8,8,8,0,8,8,0,8,0,8,8,0,8,0,8,8,8,8,24,8,8,0,8,8,8,8,392,9800,19648,19648,8,24,8,8,8,8,24,120,120,8,8,8,8,8,8,8,8,8,8,8,8,0,8,0,8,8,8,8,8,0,8,8,8,8,8,8,8,8,8,8,8,8,8,8,8,8,8,8,8,8,8,8,8,8,8,8,8,120,120,8,8,8,8,8,8,8,40,40,0,0,0,8,1,1,8,4,4,48,48]
 zeros:=cfgZ.map (Option.map (List.map ZG.av))
 glob:=fun n=>bif Nat.beq n 0 then some (.eptr [.val (.arr 64 (.int .u32)) roundTable]) else none
 eqs:=[199]
 eqa:=[84,85,226,247,312,330]
theorem range_app {p:Nat→Bool} {a b c:Nat} (h:(List.range' a b).all p = true) (k:(List.range' (a + b) c).all p = true):(List.range' a (b + c)).all p = true:=by
 rw [← List.range'_append_1,List.all_append,h,k]; rfl
theorem chk0:(List.range' 0 60).all (checkAt cfg cfgZ Go.Proofs.Tryz.prog) = true:=by kernel_rfl
theorem chk60:(List.range' 60 60).all (checkAt cfg cfgZ Go.Proofs.Tryz.prog) = true:=by kernel_rfl
theorem chk120:(List.range' 120 60).all (checkAt cfg cfgZ Go.Proofs.Tryz.prog) = true:=by kernel_rfl
theorem chk180:(List.range' 180 60).all (checkAt cfg cfgZ Go.Proofs.Tryz.prog) = true:=by kernel_rfl
theorem chk240:(List.range' 240 60).all (checkAt cfg cfgZ Go.Proofs.Tryz.prog) = true:=by kernel_rfl
theorem chk300:(List.range' 300 60).all (checkAt cfg cfgZ Go.Proofs.Tryz.prog) = true:=by kernel_rfl
theorem chk360:(List.range' 360 60).all (checkAt cfg cfgZ Go.Proofs.Tryz.prog) = true:=by kernel_rfl
theorem chk420:(List.range' 420 56).all (checkAt cfg cfgZ Go.Proofs.Tryz.prog) = true:=by kernel_rfl
end Go.V
namespace Go.V
theorem acc120:(List.range' 0 120).all (checkAt cfg cfgZ Go.Proofs.Tryz.prog) = true:=range_app (a:=0) (b:=60) (c:=60) chk0 chk60
theorem acc180:(List.range' 0 180).all (checkAt cfg cfgZ Go.Proofs.Tryz.prog) = true:=range_app (a:=0) (b:=120) (c:=60) acc120 chk120
theorem acc240:(List.range' 0 240).all (checkAt cfg cfgZ Go.Proofs.Tryz.prog) = true:=range_app (a:=0) (b:=180) (c:=60) acc180 chk180
theorem acc300:(List.range' 0 300).all (checkAt cfg cfgZ Go.Proofs.Tryz.prog) = true:=range_app (a:=0) (b:=240) (c:=60) acc240 chk240
theorem acc360:(List.range' 0 360).all (checkAt cfg cfgZ Go.Proofs.Tryz.prog) = true:=range_app (a:=0) (b:=300) (c:=60) acc300 chk300
theorem acc420:(List.range' 0 420).all (checkAt cfg cfgZ Go.Proofs.Tryz.prog) = true:=range_app (a:=0) (b:=360) (c:=60) acc360 chk360
theorem acc476:(List.range' 0 476).all (checkAt cfg cfgZ Go.Proofs.Tryz.prog) = true:=range_app (a:=0) (b:=420) (c:=56) acc420 chk420
theorem cfg_ok:CfgOK cfg Go.Proofs.Tryz.prog:=cfgOK_of cfgZ 476 (by kernel_rfl) rfl (Nat.le_of_ble_eq_true (by kernel_rfl)) (Nat.le_of_ble_eq_true (by kernel_rfl)) (Nat.le_of_ble_eq_true (by kernel_rfl)) (Nat.le_of_ble_eq_true (by kernel_rfl)) (by rw [List.range_eq_range']; exact acc476) (by kernel_rfl)
end Go.V
namespace Go.V
theorem zK {P : Program} {f : Nat} {fn : Func} {t : List Nat} (h : P.funcs[f]? = some fn) (k : funOk t fn = true := by kernel_rfl) : P.funcs[f]? = some fn ∧ funOk t fn = true := ⟨h, k⟩
abbrev zQ (f : Nat) : Prop := Enterable Go.Proofs.Tryz.prog f
theorem zN {f : Nat} {fn : Func} (h : Go.Proofs.Tryz.prog.funcs[f]? = some fn) (k : entOk fn = true := by kernel_rfl) : zQ f := enter_fun h k
abbrev zU (f : Nat) (s : PSpec) : Prop := PureOK Go.Proofs.Tryz.prog cfg f s
theorem zP {E : Env0} (e : EnvOK Go.Proofs.Tryz.prog E) {f : Nat} (fn : Func) (c : Code) {s : PSpec} (r : ∀ x, runF E f fn c s.args s.res x = s.fn x) (hf : find E.F f = some fn := by rfl) (hb : fn.body = some c := by rfl) : PureOK Go.Proofs.Tryz.prog E.C f s := pure_of_run e hf hb s fun x y h => (r x).trans h
abbrev zE (E : Env0) : Prop := EnvOK Go.Proofs.Tryz.prog E
theorem zO {E : Env0} (h1 : CfgOK E.C Go.Proofs.Tryz.prog) (h2 : PuresOK Go.Proofs.Tryz.prog E.C E.P) (h5 : CallsOK Go.Proofs.Tryz.prog E.C E.S) (h3 : FunsOK E Go.Proofs.Tryz.prog E.F) (h4 : LoopsOK E E.L) (h6 : FreshesOK Go.Proofs.Tryz.prog E.C E.R := by trivial) (h7 : InplsOK Go.Proofs.Tryz.prog E.C E.I := by trivial) (h8 : MapsOK Go.Proofs.Tryz.prog E.C E.M := by trivial) : EnvOK Go.Proofs.Tryz.prog E := envOK_of cds (by kernel_rfl) h1 h2 h5 h3 h4 h6 h7 h8
abbrev zR (E : Env0) (f : Nat) (fn : Func) (c : Code) (s : PSpec) : Prop := ∀ x : tysDen s.args, runF E f fn c s.args s.res x = s.fn x
end Go.V
namespace Go.V.K
abbrev Nm:=Int × (List Int × Unit)
abbrev Ct:=List (List Nm) × Unit
abbrev Rl:=Int × (Int × (Bool × (List Int × (Bool × (List Int × Unit)))))
abbrev Lb:=Bool × List Int
def lkp (l:List Nm) (i:Int):Lb :=
 match l.find? (fun n=>decide (n.1 = i)) with
 | some n=>(true,n.2.1)
 | none=>(false,[])
def la (c:Ct) (k i:Int):Lb:=lkp (c.1.getD k.toNat []) i
def ids:List Int:=(List.range 24).map Int.ofNat
def kinds:List Int:=(List.range' 1 7).map Int.ofNat
def keys:List (Int × Int):=kinds.flatMap fun k=>ids.map fun i=>(k,i)
def lt2 (a b:Int × Int):Prop:=a.1 < b.1 ∨ (a.1 = b.1∧a.2 < b.2)
def kOf (r:Rl):Int × Int:=(r.1,r.2.1)
def bf (r:Rl):Lb:=(r.2.2.1,r.2.2.2.1)
def af (r:Rl):Lb:=(r.2.2.2.2.1,r.2.2.2.2.2.1)
def mkR (k:Int × Int) (a b:Lb):Rl:=(k.1,k.2,a.1,a.2,b.1,b.2,())
def okL (l:List Int):Prop:=l.length≤64∧∀ n∈l,-1152921504606846976≤n∧n≤1152921504606846976
def okM (m:Lb):Prop:=okL m.2∧(m.1 = false→m.2 = [])
def okR (r:Rl):Prop:=kOf r∈keys∧okM (bf r)∧okM (af r)∧bf r ≠ af r
def okD (d:List Rl):Prop:=(∀ r∈d,okR r)∧d.Pairwise (fun a b=>lt2 (kOf a) (kOf b))
def okRow (l:List Nm):Prop:=(∀ n∈l,n.1∈ids∧okL n.2.1)∧l.Pairwise (fun a b=>a.1 < b.1)
def okC (c:Ct):Prop:=c.1.length = 8∧c.1.getD 0 [] = []∧∀ k∈kinds,okRow (c.1.getD k.toNat [])
theorem fm_congr {α β:Type} {f g:α→Option β}:∀ {l:List α},(∀ x∈l,f x = g x)→l.filterMap f = l.filterMap g
 | [],_=>rfl
 | a :: l,h=>by
  rw [List.filterMap_cons,List.filterMap_cons,h a (by simp),fm_congr fun x hx=>h x (by simp [hx])]
theorem pick_eq {α κ:Type} [DecidableEq κ] {lt:κ→κ→Prop} (irr:∀ a,¬ lt a a) (tr:∀ a b c,lt a b→lt b c→lt a c) (key:α→κ) :
  ∀ (ks:List κ) (l:List α),ks.Pairwise lt→l.Pairwise (fun a b=>lt (key a) (key b))→(∀ x∈l,key x∈ks) →
   ks.filterMap (fun k=>l.find? (fun x=>decide (key x = k))) = l
 | [],l,_,_,h=>by
  cases l with
  | nil=>rfl
  | cons x l=>exact absurd (h x (by simp)) (by simp)
 | k :: ks,[],_,_,_=>by
  simp
 | k :: ks,x :: l,hk,hl,h=>by
  have hk1:=List.pairwise_cons.1 hk
  have hl1:=List.pairwise_cons.1 hl
  by_cases e:key x = k
  ·have h1:(x :: l).find? (fun y=>decide (key y = k)) = some x:=by simp [e]
   rw [List.filterMap_cons,h1]
   show x :: ks.filterMap (fun k=>(x :: l).find? (fun x=>decide (key x = k))) = x :: l
   congr 1
   have hin:∀ y∈l,key y∈ks:=by
    intro y hy
    have h2:=h y (by simp [hy])
    rcases List.mem_cons.1 h2 with h3 | h3
    ·exact absurd (hl1.1 y hy) (by rw [e,h3]; exact irr k)
    ·exact h3
   have h3:=pick_eq irr tr key ks l hk1.2 hl1.2 hin
   refine Eq.trans (show ks.filterMap (fun k=>(x :: l).find? (fun x=>decide (key x = k))) = ks.filterMap (fun k=>l.find? (fun x=>decide (key x = k))) from fm_congr fun k' hk'=>?_) h3
   have hne:¬ key x = k':=by
    intro e2
    exact irr k (by have:=hk1.1 k' hk'; rw [← e2,e] at this; exact this)
   simp [hne]
  ·have hx:key x∈ks:=by
    rcases List.mem_cons.1 (h x (by simp)) with h3 | h3
    ·exact absurd h3 e
    ·exact h3
   have hlt:lt k (key x):=hk1.1 _ hx
   have h1:(x :: l).find? (fun y=>decide (key y = k)) = none:=by
    rw [List.find?_eq_none]
    intro y hy
    simp only [decide_eq_true_eq]
    intro e2
    rcases List.mem_cons.1 hy with h3 | h3
    ·subst h3; exact e e2
    ·have:=tr _ _ _ hlt (hl1.1 y h3)
     rw [e2] at this
     exact irr _ this
   rw [List.filterMap_cons,h1]
   refine pick_eq irr tr key ks (x :: l) hk1.2 hl fun y hy=>?_
   rcases List.mem_cons.1 hy with h3 | h3
   ·subst h3; exact hx
   ·rcases List.mem_cons.1 (h y hy) with h4 | h4
    ·exact absurd (tr _ _ _ hlt (hl1.1 y h3)) (by rw [h4]; exact irr k)
    ·exact h4
theorem lt2_irr (a:Int × Int):¬ lt2 a a:=by unfold lt2; omega
theorem lt2_tr (a b c:Int × Int) (h:lt2 a b) (k:lt2 b c):lt2 a c:=by unfold lt2 at *; omega
theorem mem_ids {i:Int}:i∈ids ↔ 0≤i∧i < 24:=by
 unfold ids
 simp only [List.mem_map,List.mem_range]
 constructor
 ·rintro ⟨n,h,rfl⟩
  exact ⟨Int.natCast_nonneg n,by simp only [Int.ofNat_eq_natCast]; omega⟩
 ·rintro ⟨h1,h2⟩
  exact ⟨i.toNat,by omega,by simp only [Int.ofNat_eq_natCast]; omega⟩
theorem mem_kinds {i:Int}:i∈kinds ↔ 1≤i∧i≤7:=by
 unfold kinds
 simp only [List.mem_map,List.mem_range'_1]
 constructor
 ·rintro ⟨n,h,rfl⟩
  simp only [Int.ofNat_eq_natCast]
  omega
 ·rintro ⟨h1,h2⟩
  exact ⟨i.toNat,by omega,by simp only [Int.ofNat_eq_natCast]; omega⟩
theorem mem_keys {k:Int × Int}:k∈keys ↔ (1≤k.1∧k.1≤7)∧(0≤k.2∧k.2 < 24):=by
 unfold keys
 simp only [List.mem_flatMap,List.mem_map]
 constructor
 ·rintro ⟨a,ha,b,hb,rfl⟩
  exact ⟨mem_kinds.1 ha,mem_ids.1 hb⟩
 ·rintro ⟨h1,h2⟩
  exact ⟨k.1,mem_kinds.2 h1,k.2,mem_ids.2 h2,rfl⟩
theorem range'_asc:∀ (n s:Nat),((List.range' s n).map Int.ofNat).Pairwise (· < ·)
 | 0,_=>by simp
 | n + 1,s=>by
  rw [List.range'_succ,List.map_cons,List.pairwise_cons]
  refine ⟨fun x hx=>?_,range'_asc n (s + 1)⟩
  obtain ⟨y,hy,rfl⟩:=List.mem_map.1 hx
  have:=(List.mem_range'_1.1 hy).1
  simp only [Int.ofNat_eq_natCast]
  omega
theorem ids_asc:ids.Pairwise (· < ·):=by
 unfold ids
 rw [List.range_eq_range']
 exact range'_asc 24 0
theorem kinds_asc:kinds.Pairwise (· < ·):=range'_asc 7 1
theorem keys_asc:keys.Pairwise lt2:=by
 unfold keys
 have main:∀ (l:List Int),l.Pairwise (· < ·)→(l.flatMap fun k=>ids.map fun i=>(k,i)).Pairwise lt2:=by
  intro l
  induction l with
  | nil=>intro _; simp
  | cons a l ih =>
   intro h
   have h1:=List.pairwise_cons.1 h
   rw [List.flatMap_cons,List.pairwise_append]
   refine ⟨?_,ih h1.2,?_⟩
   ·rw [List.pairwise_map]
    exact ids_asc.imp fun h=>.inr ⟨rfl,h⟩
   ·intro x hx y hy
    obtain ⟨i,_,rfl⟩:=List.mem_map.1 hx
    obtain ⟨b,hb,hy2⟩:=List.mem_flatMap.1 hy
    obtain ⟨j,_,rfl⟩:=List.mem_map.1 hy2
    exact .inl (h1.1 b hb)
 exact main kinds kinds_asc
theorem row_eq {l:List Nm} (h:okRow l):(ids.filterMap fun i=>if (lkp l i).1 then some (i,(lkp l i).2,()) else none) = l:=by
 refine Eq.trans (fm_congr fun i _=>?_) (pick_eq (lt:=(· < ·)) (fun a=>Int.lt_irrefl a) (fun a b c=>Int.lt_trans) (fun n:Nm=>n.1) ids l ids_asc h.2 (fun x hx=>(h.1 x hx).1))
 unfold lkp
 cases e:l.find? (fun n=>decide (n.1 = i)) with
 | none=>simp
 | some n =>
  have:=List.find?_some e
  simp only [decide_eq_true_eq] at this
  simp [← this]
def mkRow (f:Int→Lb):List Nm:=ids.filterMap fun i=>if (f i).1 then some (i,(f i).2,()) else none
def mkC (M:Int→Int→Lb):Ct:=([] :: kinds.map fun k=>mkRow (M k),())
theorem mkC_congr {M N:Int→Int→Lb} (h:∀ k i,(k,i)∈keys→M k i = N k i):mkC M = mkC N:=by
 unfold mkC
 congr 2
 refine List.map_congr_left fun k hk=>fm_congr fun i hi=>?_
 rw [h k i (mem_keys.2 ⟨mem_kinds.1 hk,mem_ids.1 hi⟩)]
theorem mkC_row {M:Int→Int→Lb} {k:Int} (hk:k∈kinds):(mkC M).1.getD k.toNat [] = mkRow (M k):=by
 unfold mkC
 have h:=mem_kinds.1 hk
 have e:k.toNat = (k.toNat - 1) + 1:=by omega
 rw [e]
 simp only [List.getD_cons_succ]
 unfold kinds
 rw [List.getD_eq_getElem?_getD,List.map_map,List.getElem?_map,List.getElem?_range' (by omega)]
 simp only [Option.map_some,Option.getD_some,Function.comp]
 congr 2
 simp only [Int.ofNat_eq_natCast]
 omega
theorem mkC_la {c:Ct} (h:okC c):mkC (la c) = c:=by
 obtain ⟨l,u⟩:=c
 obtain ⟨h1,h2,h3⟩:=h
 unfold mkC
 congr 1
 match l,h1 with
 | [l0,l1,l2,l3,l4,l5,l6,l7],_ =>
  have e0:l0 = []:=h2
  have hr:∀ k∈kinds,mkRow (la ([l0,l1,l2,l3,l4,l5,l6,l7],u) k) = [l0,l1,l2,l3,l4,l5,l6,l7].getD k.toNat []:=fun k hk=>row_eq (h3 k hk)
  rw [List.map_congr_left (fun k hk=>hr k hk),e0]
  rfl
theorem lkp_ok {l:List Nm} (h:okRow l) (i:Int):okM (lkp l i):=by
 unfold lkp
 cases e:l.find? (fun n=>decide (n.1 = i)) with
 | none=>exact ⟨⟨by simp,by simp⟩,fun _=>rfl⟩
 | some n=>exact ⟨(h.1 n (List.mem_of_find?_eq_some e)).2,by simp⟩
theorem la_ok {c:Ct} (h:okC c) {k i:Int} (hk:(k,i)∈keys):okM (la c k i):=lkp_ok (h.2.2 k (mem_kinds.2 (mem_keys.1 hk).1)) i
theorem okRow_mk {f:Int→Lb} (h:∀ i∈ids,okM (f i)):okRow (mkRow f):=by
 unfold mkRow
 constructor
 ·intro n hn
  obtain ⟨i,hi,e⟩:=List.mem_filterMap.1 hn
  split at e
  ·cases e; exact ⟨hi,(h i hi).1⟩
  ·cases e
 ·rw [List.pairwise_filterMap]
  refine ids_asc.imp fun {a b} hab x hx y hy=>?_
  split at hx
  ·split at hy
   ·cases hx; cases hy; exact hab
   ·cases hy
  ·cases hx
theorem okC_mk {M:Int→Int→Lb} (h:∀ k i,(k,i)∈keys→okM (M k i)):okC (mkC M):=by
 refine ⟨by simp [mkC,kinds],rfl,fun k hk=>?_⟩
 rw [mkC_row hk]
 exact okRow_mk fun i hi=>h k i (mem_keys.2 ⟨mem_kinds.1 hk,mem_ids.1 hi⟩)
def fd (d:List Rl) (k:Int × Int):Option Rl:=d.find? (fun r=>decide (kOf r = k))
def dif (A B:Int→Int→Lb):List Rl:=keys.filterMap fun k=>if A k.1 k.2 = B k.1 k.2 then none else some (mkR k (A k.1 k.2) (B k.1 k.2))
def inv (r:Rl):Rl:=mkR (kOf r) (af r) (bf r)
theorem fd_some {d:List Rl} {k:Int × Int} {r:Rl} (h:fd d k = some r):r∈d∧kOf r = k:=by
 refine ⟨List.mem_of_find?_eq_some h,?_⟩
 have:=List.find?_some h
 simpa using this
theorem fd_mem {d:List Rl} (h:d.Pairwise (fun a b=>lt2 (kOf a) (kOf b))) {r:Rl} (hr:r∈d):fd d (kOf r) = some r:=by
 induction d with
 | nil=>cases hr
 | cons x d ih =>
  have h1:=List.pairwise_cons.1 h
  unfold fd
  rcases List.mem_cons.1 hr with e | e
  ·subst e; simp
  ·have hne:¬ kOf x = kOf r:=by
    intro e2
    have:=h1.1 r e
    rw [e2] at this
    exact lt2_irr _ this
   simp only [List.find?_cons,hne,decide_false]
   exact ih h1.2 e
theorem gen_asc {F:Int × Int→Option Rl} (hF:∀ k x,F k = some x→kOf x = k):(keys.filterMap F).Pairwise (fun a b=>lt2 (kOf a) (kOf b)):=by
 rw [List.pairwise_filterMap]
 refine keys_asc.imp fun {a b} hab x hx y hy=>?_
 rw [hF _ _ hx,hF _ _ hy]
 exact hab
theorem okD_dif {A B:Int→Int→Lb} (hA:∀ k i,(k,i)∈keys→okM (A k i)) (hB:∀ k i,(k,i)∈keys→okM (B k i)):okD (dif A B):=by
 refine ⟨fun r hr=>?_,gen_asc fun k x hx=>by
  split at hx
  ·cases hx
  ·cases hx; rfl⟩
 obtain ⟨k,hk,e⟩:=List.mem_filterMap.1 hr
 split at e
 ·cases e
 ·rename_i hne
  cases e
  exact ⟨hk,hA _ _ hk,hB _ _ hk,hne⟩
theorem okD_gen {d:List Rl} (h:okD d):keys.filterMap (fd d) = d :=
 pick_eq lt2_irr lt2_tr kOf keys d keys_asc h.2 (fun x hx=>(h.1 x hx).1)
def aft (A:Int→Int→Lb) (d:List Rl) (k i:Int):Lb :=
 match fd d (k,i) with
 | some r=>af r
 | none=>A k i
def fits (A:Int→Int→Lb) (d:List Rl):Prop:=∀ r∈d,A r.1 r.2.1 = bf r
theorem aft_ok {A:Int→Int→Lb} {d:List Rl} (hA:∀ k i,(k,i)∈keys→okM (A k i)) (hd:okD d):∀ k i,(k,i)∈keys→okM (aft A d k i):=by
 intro k i h
 unfold aft
 cases e:fd d (k,i) with
 | none=>exact hA k i h
 | some r=>exact (hd.1 r (fd_some e).1).2.2.1
def cmp1 (x y:Option Rl) (k:Int × Int):Option Rl :=
 match x,y with
 | none,none=>none
 | some x,none=>some x
 | none,some y=>some y
 | some x,some y=>if bf x = af y then none else some (mkR k (bf x) (af y))
def clash1 (x y:Option Rl):Bool :=
 match x,y with
 | some x,some y=>!decide (af x = bf y)
 | _,_=>false
def clash (d e:List Rl):Bool:=keys.any fun k=>clash1 (fd d k) (fd e k)
def comp (d e:List Rl):List Rl:=keys.filterMap fun k=>cmp1 (fd d k) (fd e k) k
def putS (id:Int) (next:List Int):List Nm→Bool→List Nm
 | [],d=>if d then [] else [(id,next,())]
 | n :: l,d =>
  if id < n.1∧d = false then (id,next,()) :: (if n.1 = id then putS id next l true else n :: putS id next l true)
  else (if n.1 = id then putS id next l d else n :: putS id next l d)
theorem putS_hi {id:Int} {next:List Int}:∀ {l:List Nm},(∀ n∈l,id < n.1)→putS id next l true = l
 | [],_=>rfl
 | n :: l,h=>by
  have h1:=h n (by simp)
  have h2:¬ n.1 = id:=by omega
  simp only [putS,h2,if_false,Bool.true_eq_false,and_false]
  rw [putS_hi fun m hm=>h m (by simp [hm])]
theorem putS_eq {id:Int} {next:List Int}:∀ {l:List Nm} (d:Bool),l.Pairwise (fun a b=>a.1 < b.1) →
  putS id next l d = l.filter (fun n=>decide (n.1 < id))++((if d then [] else [(id,next,())])++l.filter (fun n=>decide (id < n.1)))
 | [],d,_=>by cases d <;> rfl
 | n :: l,d,h=>by
  have h1:=List.pairwise_cons.1 h
  rcases Int.lt_trichotomy n.1 id with e | e | e
  ·have e1:¬ id < n.1:=by omega
   have e2:¬ n.1 = id:=by omega
   simp only [putS,e1,e2,false_and,if_false,List.filter_cons,e,decide_true,if_true,decide_false,Bool.false_eq_true,List.cons_append]
   rw [putS_eq d h1.2]
  ·have e1:¬ id < n.1:=by omega
   have e2:¬ n.1 < id:=by omega
   simp only [putS,e1,e,false_and,if_false,if_true,List.filter_cons,decide_false,Bool.false_eq_true,Int.lt_irrefl]
   rw [putS_eq d h1.2]
  ·have e2:¬ n.1 < id:=by omega
   have e3:¬ n.1 = id:=by omega
   have hl:∀ m∈l,id < m.1:=fun m hm=>Int.lt_trans e (h1.1 m hm)
   have f1:l.filter (fun n=>decide (n.1 < id)) = []:=by
    rw [List.filter_eq_nil_iff]
    intro m hm
    have:=hl m hm
    simp only [decide_eq_true_eq]
    omega
   have f2:l.filter (fun n=>decide (id < n.1)) = l:=by
    rw [List.filter_eq_self]
    intro m hm
    simpa using hl m hm
   cases d with
   | true=>simp only [putS,e,e3,Bool.true_eq_false,and_false,if_false,List.filter_cons,e2,decide_false,Bool.false_eq_true,decide_true,if_true,f1,f2,List.nil_append,putS_hi hl]
   | false=>simp only [putS,e,e3,and_self,if_false,List.filter_cons,e2,decide_false,Bool.false_eq_true,decide_true,if_true,f1,f2,List.nil_append,putS_hi hl,List.cons_append]
theorem lkp_app (a b:List Nm) (i:Int):lkp (a++b) i = if (lkp a i).1 then lkp a i else lkp b i:=by
 unfold lkp
 rw [List.find?_append]
 cases a.find? (fun n=>decide (n.1 = i)) <;> simp
theorem lkp_none {l:List Nm} {i:Int} (h:∀ n∈l,n.1 ≠ i):lkp l i = (false,[]):=by
 unfold lkp
 rw [List.find?_eq_none.2 fun n hn=>by simpa using h n hn]
theorem lkp_filter {l:List Nm} {i:Int} (p:Nm→Bool) (h:∀ n,n.1 = i→p n = true):lkp (l.filter p) i = lkp l i:=by
 unfold lkp
 rw [List.find?_filter]
 congr 2
 funext n
 by_cases e:n.1 = i
 ·simp [e,h n e]
 ·simp [e]
theorem lkp_put {l:List Nm} (h:okRow l) (id:Int) (next:List Int) (d:Bool) (j:Int) :
  lkp (putS id next l d) j = if j = id then (if d then (false,[]) else (true,next)) else lkp l j:=by
 rw [putS_eq d h.2]
 have lo:∀ i,∀ n∈l.filter (fun n=>decide (n.1 < id)),¬ i < id→n.1 ≠ i:=by
  intro i n hn hi e
  have:=(List.mem_filter.1 hn).2
  simp only [decide_eq_true_eq] at this
  omega
 have hi:∀ i,∀ n∈l.filter (fun n=>decide (id < n.1)),¬ id < i→n.1 ≠ i:=by
  intro i n hn hi e
  have:=(List.mem_filter.1 hn).2
  simp only [decide_eq_true_eq] at this
  omega
 rw [lkp_app,lkp_app]
 rcases Int.lt_trichotomy j id with e | e | e
 ·rw [lkp_filter _ (fun n hn=>by simp [hn,e]),if_neg (show ¬ j = id by omega)]
  have h2:lkp (if d = true then [] else [(id,next,())]) j = (false,[]):=lkp_none (by
   intro n hn
   cases d
   ·simp only [Bool.false_eq_true,if_false,List.mem_singleton] at hn
    subst hn
    simp only
    omega
   ·simp at hn)
  have h3:lkp (l.filter (fun n=>decide (id < n.1))) j = (false,[]):=lkp_none fun n hn=>hi j n hn (by omega)
  rw [h2,h3]
  simp only [Bool.false_eq_true,if_false]
  unfold lkp
  cases l.find? (fun n=>decide (n.1 = j)) <;> simp
 ·subst e
  rw [lkp_none fun n hn=>lo j n hn (by omega),lkp_none fun n hn=>hi j n hn (by omega)]
  cases d <;> simp [lkp]
 ·rw [lkp_none fun n hn=>lo j n hn (by omega),if_neg (show ¬ j = id by omega)]
  have h2:lkp (if d = true then [] else [(id,next,())]) j = (false,[]):=lkp_none (by
   intro n hn
   cases d
   ·simp only [Bool.false_eq_true,if_false,List.mem_singleton] at hn
    subst hn
    simp only
    omega
   ·simp at hn)
  rw [h2,lkp_filter _ (fun n hn=>by simp [hn,e])]
  simp
theorem okRow_put {l:List Nm} (h:okRow l) {id:Int} (hid:id∈ids) {next:List Int} (hn:okL next) (d:Bool):okRow (putS id next l d):=by
 rw [putS_eq d h.2]
 constructor
 ·intro n hm
  simp only [List.mem_append,List.mem_filter] at hm
  rcases hm with hm | hm | hm
  ·exact h.1 n hm.1
  ·cases d
   ·simp only [Bool.false_eq_true,if_false,List.mem_singleton] at hm
    subst hm
    exact ⟨hid,hn⟩
   ·simp at hm
  ·exact h.1 n hm.1
 ·rw [List.pairwise_append,List.pairwise_append]
  refine ⟨h.2.filter _,⟨by cases d <;> simp,h.2.filter _,?_⟩,?_⟩
  ·intro a ha b hb
   have hb2:=(List.mem_filter.1 hb).2
   simp only [decide_eq_true_eq] at hb2
   cases d
   ·simp only [Bool.false_eq_true,if_false,List.mem_singleton] at ha
    subst ha
    exact hb2
   ·simp at ha
  ·intro a ha b hb
   have ha2:=(List.mem_filter.1 ha).2
   simp only [decide_eq_true_eq] at ha2
   rcases List.mem_append.1 hb with hb | hb
   ·cases d
    ·simp only [Bool.false_eq_true,if_false,List.mem_singleton] at hb
     subst hb
     exact ha2
    ·simp at hb
   ·have hb2:=(List.mem_filter.1 hb).2
    simp only [decide_eq_true_eq] at hb2
    omega
end Go.V.K
namespace Go.V.G
open Go.Proofs
open Go.V.K
theorem wrap_i64 (n:Int) (h0:-9223372036854775808≤n) (h1:n < 9223372036854775808):IntKind.wrap .i64 n = n:=by
 simp [IntKind.wrap,IntKind.bits,IntKind.signed]
 omega
theorem atN (T:Ty) (l:List T.den) (j:Nat) (h:j < l.length):at_ T l (j:Int) = l[j]:=by
 unfold at_
 rw [Int.toNat_natCast,List.getD_eq_getElem?_getD,List.getElem?_eq_getElem h]
 rfl
theorem inRN (j n:Nat):inR (j:Int) n = decide (j < n):=by
 unfold inR
 by_cases h:j < n <;> simp [h]
theorem wS (n:Nat) (h:n < 9223372036854775807):IntKind.wrap .i64 ((n:Int) + 1) = ((n + 1:Nat):Int):=by rw [wrap_i64 _ (by omega) (by omega)]; omega
theorem wP (n:Nat) (h0:0 < n) (h:n < 9223372036854775807):IntKind.wrap .i64 ((n:Int) - 1) = ((n - 1:Nat):Int):=by rw [wrap_i64 _ (by omega) (by omega)]; omega
theorem bind_step {A B:Type} {o:Option A} {a:A} {f:A→Option B} {r:Option B} (h:o = some a) (h2:f a = r):o.bind f = r:=by subst h; exact h2
section
variable {A R:Type}
def rounds (step:Nat→A→A ⊕ R) (fin:A→R):Nat→Nat→A→R
 | 0,_,acc=>fin acc
 | m + 1,j,acc=>match step j acc with
  | .inl acc=>rounds step fin m (j + 1) acc
  | .inr r=>r
theorem loop_rounds (n:Nat) (I:Nat→A→Prop) (step:Nat→A→A ⊕ R) (fin:A→R) (F:Nat→Int→A→Option R)
  (hF:∀ k (j:Nat) acc,j≤n→I j acc→F (k + 1) (j:Int) acc = if j < n then (match step j acc with | .inl a=>F k ((j + 1:Nat):Int) a | .inr r=>some r) else some (fin acc))
  (hI:∀ j acc a,j < n→I j acc→step j acc = .inl a→I (j + 1) a) :
  ∀ (m k j:Nat) acc,n - j = m→j≤n→m < k→I j acc→F k (j:Int) acc = some (rounds step fin m j acc):=by
 intro m
 induction m with
 | zero =>
  intro k j acc h1 h2 h3 h4
  obtain ⟨k,rfl⟩:∃ q,k = q + 1:=⟨k - 1,by omega⟩
  rw [hF k j acc h2 h4,if_neg (by omega)]
  rfl
 | succ m ih =>
  intro k j acc h1 h2 h3 h4
  obtain ⟨k,rfl⟩:∃ q,k = q + 1:=⟨k - 1,by omega⟩
  rw [hF k j acc h2 h4,if_pos (by omega)]
  simp only [rounds]
  cases h:step j acc with
  | inl a=>exact ih k (j + 1) a (by omega) (by omega) (by omega) (hI j acc a (by omega) h4 h)
  | inr r=>rfl
def looksAt (ok:Nat→Bool) (no:R) (j:Nat) (u:Unit):Unit ⊕ R:=if ok j = true then .inl () else .inr no
theorem rounds_looks (ok:Nat→Bool) (yes no:R):∀ (m j:Nat),rounds (looksAt ok no) (fun _=>yes) m j () = if (List.range' j m).all ok then yes else no
 | 0,j=>rfl
 | m + 1,j=>by
  simp only [rounds,looksAt,List.range'_succ,List.all_cons]
  cases h:ok j with
  | true=>simp only [if_true,Bool.true_and]; exact rounds_looks ok yes no m (j + 1)
  | false=>simp
theorem all_loop (n:Nat) (ok:Nat→Bool) (F:Nat→Int→Option R) (yes no:R)
  (hF:∀ k (j:Nat),j≤n→F (k + 1) (j:Int) = if j < n then (if ok j = true then F k ((j + 1:Nat):Int) else some no) else some yes)
  (k:Nat) (hk:n < k):F k 0 = some (if (List.range n).all ok then yes else no):=by
 have:=loop_rounds n (fun _ _=>True) (looksAt ok no) (fun _=>yes) (fun k j _=>F k j) (fun k j _ h _=>by
  rw [hF k j h]
  unfold looksAt
  cases ok j <;> rfl) (fun _ _ _ _ _ _=>trivial) n k 0 () (by omega) (by omega) hk trivial
 rw [rounds_looks] at this
 rw [List.range_eq_range']
 exact this
theorem rounds_app {B:Type} (g:Nat→List B) (fin:List B→R):∀ (m j:Nat) (acc:List B),rounds (fun j acc=>.inl (acc++g j)) fin m j acc = fin (acc++(List.range' j m).flatMap g)
 | 0,j,acc=>by simp [rounds]
 | m + 1,j,acc=>by
  simp only [rounds,List.range'_succ,List.flatMap_cons]
  rw [rounds_app g fin m (j + 1)]
  simp
theorem app_loop {B:Type} (n:Nat) (I:Nat→List B→Prop) (g:Nat→List B) (fin:List B→R) (F:Nat→Int→List B→Option R)
  (hF:∀ k (j:Nat) acc,j≤n→I j acc→F (k + 1) (j:Int) acc = if j < n then F k ((j + 1:Nat):Int) (acc++g j) else some (fin acc))
  (hI:∀ j acc,j < n→I j acc→I (j + 1) (acc++g j)) (k j:Nat) (acc:List B) (hj:j≤n) (hk:n - j < k) (h:I j acc) :
  F k (j:Int) acc = some (fin (acc++(List.range' j (n - j)).flatMap g)):=by
 have:=loop_rounds n I (fun j acc=>.inl (acc++g j)) fin F (fun k j acc h h2=>hF k j acc h h2) (fun j acc a h1 h2 e=>by cases e; exact hI j acc h1 h2) (n - j) k j acc rfl hj hk h
 rw [rounds_app] at this
 exact this
end
theorem all_range_eq {α:Type} [DecidableEq α] (a b:List α) (h:a.length = b.length) (ok:Nat→Bool) (hok:∀ j (h1:j < a.length),ok j = decide (a[j] = b[j])):(List.range a.length).all ok = decide (a = b):=by
 rw [Bool.eq_iff_iff]
 simp only [List.all_eq_true,List.mem_range,decide_eq_true_eq]
 constructor
 ·intro h1
  refine List.ext_getElem h fun i h2 h3=>?_
  have:=h1 i h2
  rw [hok i h2] at this
  simpa using this
 ·rintro rfl i h2
  rw [hok i h2]
  simp
theorem flat_filter {α β:Type} (f:α→Option β):∀ (l:List α),l.flatMap (fun x=>(f x).toList) = l.filterMap f
 | []=>rfl
 | x :: l=>by
  rw [List.flatMap_cons,flat_filter f l,List.filterMap_cons]
  cases f x <;> rfl
end Go.V.G
namespace Go.V
def cfgF:Cfg:={ cfg with frz:=[51] }
theorem cfgF_ok:CfgOK cfgF Go.Proofs.Tryz.prog:={ cfg_ok with }
def certZ:List ZG:=[.nils,.nils,.nils,.nils,.nils,.nils,.nils,.nils]
def cfgX:Cfg:={ cfg with zeros:=cfg.zeros.set 29 (some (certZ.map ZG.av)),frz:=[51] }
theorem cfgX_at:(match Go.Proofs.Tryz.prog.info? 29 with
  | some i=>chkI cfg 29 i && (match i.zero with | some z=>chkZ certZ z.cells.toList | none=>false)
  | none=>false) = true:=by kernel_rfl
theorem cfgX_zero:cfgX.zero 29 = some (certZ.map ZG.av):=by kernel_rfl
theorem cfgX_ok:CfgOK cfgX Go.Proofs.Tryz.prog:={ cfg_ok with
 zero:=fun t gs h=>by
  by_cases e:t = 29
  ·subst e
   rw [cfgX_zero] at h
   obtain rfl:=Option.some.inj h
   have h2:=cfgX_at
   split at h2
   ·rename_i i hi
    simp only [Bool.and_eq_true] at h2
    obtain ⟨h3,h4⟩:=h2
    split at h4
    ·rename_i z hz
     exact ⟨i,z,hi,(chkI_ok h3).1,(chkI_ok h3).2,hz,fun g=>chkZ_ok h4⟩
    ·cases h4
   ·cases h2
  ·refine cfg_ok.zero t gs ?_
   unfold Cfg.zero at h ⊢
   have e2:cfgX.zeros = cfg.zeros.set 29 (some (certZ.map ZG.av)):=rfl
   rw [e2,List.getD_eq_getElem?_getD,List.getElem?_set_ne (fun h=>e h.symm),← List.getD_eq_getElem?_getD] at h
   exact h }
noncomputable abbrev gI {R:Type} (x y:Int) (r:Option R):Option R:=eqGate (.val yI x) (.val yI y) r
end Go.V
namespace Go.V.G
open Go.Proofs
noncomputable section
def f37 (a0:Int) (a1:Int):Option (Int × Unit) :=
 bif (decide (a0 < (0:Int))) then
 let v1:Int:=(IntKind.wrap .i64 (0 - (IntKind.wrap .i64 (a0 + 1))))
 bif (decide (a1 ≠ 0)) then some ((Int.tmod v1 a1),()) else none
 else
 bif (decide (a1 ≠ 0)) then some ((Int.tmod a0 a1),()) else none
def f37_spec:PSpec:={ args:=[yI,yI],res:=[yI],fn:=fun x=>f37 x.1 x.2.1 }
noncomputable def f37_code:Code:=Tryz.f37.body.getD .skip
noncomputable def f37_env:Env0:={ C:=cfgF,P:=[],L:=[],F:=[(37,Tryz.f37)] }
theorem f37_run:zR f37_env 37 Tryz.f37 f37_code f37_spec:=by intro x; kernel_rfl
theorem f37_enter:zQ 37:=zN Tryz.func37
theorem f37_envOK:zE f37_env:=zO cfgF_ok trivial trivial ⟨zK Tryz.func37,trivial⟩ trivial
theorem f37_pure:zU 37 f37_spec:=zP f37_envOK Tryz.f37 f37_code f37_run
def f38_l4_head:Ann:={ env:=[(0,.ty (.sl yN)),(1,YI),(3,.ty (.sl yI)),(9,.cst (.row 38 .whole)),(10,.ty .bool),(11,YI)],bxs:=[(38,.row yN false)] }
def f38_l4_outs:List (Ex × Ann):=[((.exit 0),{ env:=[(1,YI),(3,.ty (.sl yI)),(9,.cst (.row 38 .whole)),(10,.ty .bool)],bxs:=[(38,.row yN false)] })]
def f38_l4 (t0:(List Yn)) (t1:Int) (t3:(List Int)):Nat→Bool→Int→(List Yn)→Option (outDen f38_l4_outs)
 | 0,_,_,_=>none
 | k + 1,t10,t11,r38 =>
 bif (decide (t11 < (t0.length:Int))) then
 bif (inR t11 t0.length) then
 let v1:Int:=(at_ yN t0 t11).1
 bif (decide (v1 > t1)) then
 bif (!t10) then
 bif (decide (t3.length≤appLim)) then
 bif (decide (r38.length + ([(t1,(t3,()))]:List Yn).length≤appLim)) then
 bif (inR t11 t0.length) then
 let v2:Int:=(at_ yN t0 t11).1
 bif (decide (v2 ≠ t1)) then
 bif (inR t11 t0.length) then
 let v3:Int:=(at_ yN t0 t11).1
 bif (inR t11 t0.length) then
 let v4:(List Int):=(at_ yN t0 t11).2.1
 bif (decide (v4.length≤appLim)) then bif (decide ((r38++([(t1,(t3,()))]:List Yn)).length + ([(v3,(v4,()))]:List Yn).length≤appLim)) then f38_l4 t0 t1 t3 k true (IntKind.wrap .i64 (t11 + 1)) ((r38++([(t1,(t3,()))]:List Yn))++([(v3,(v4,()))]:List Yn)) else none else none
 else none
 else none
 else
 f38_l4 t0 t1 t3 k true (IntKind.wrap .i64 (t11 + 1)) (r38++([(t1,(t3,()))]:List Yn))
 else none
 else none
 else none
 else
 bif (inR t11 t0.length) then
 let v5:Int:=(at_ yN t0 t11).1
 bif (decide (v5 ≠ t1)) then
 bif (inR t11 t0.length) then
 let v6:Int:=(at_ yN t0 t11).1
 bif (inR t11 t0.length) then
 let v7:(List Int):=(at_ yN t0 t11).2.1
 bif (decide (v7.length≤appLim)) then bif (decide (r38.length + ([(v6,(v7,()))]:List Yn).length≤appLim)) then f38_l4 t0 t1 t3 k t10 (IntKind.wrap .i64 (t11 + 1)) (r38++([(v6,(v7,()))]:List Yn)) else none else none
 else none
 else none
 else
 f38_l4 t0 t1 t3 k t10 (IntKind.wrap .i64 (t11 + 1)) r38
 else none
 else
 bif (inR t11 t0.length) then
 let v8:Int:=(at_ yN t0 t11).1
 bif (decide (v8 ≠ t1)) then
 bif (inR t11 t0.length) then
 let v9:Int:=(at_ yN t0 t11).1
 bif (inR t11 t0.length) then
 let v10:(List Int):=(at_ yN t0 t11).2.1
 bif (decide (v10.length≤appLim)) then bif (decide (r38.length + ([(v9,(v10,()))]:List Yn).length≤appLim)) then f38_l4 t0 t1 t3 k t10 (IntKind.wrap .i64 (t11 + 1)) (r38++([(v9,(v10,()))]:List Yn)) else none else none
 else none
 else none
 else
 f38_l4 t0 t1 t3 k t10 (IntKind.wrap .i64 (t11 + 1)) r38
 else none
 else none
 else
 some ((t1,t3,t10,()),(),(r38,()))
def f38_l4_n (n:Nat) (x:f38_l4_head.den):=f38_l4 x.1.1 x.1.2.1 x.1.2.2.1 n x.1.2.2.2.1 x.1.2.2.2.2.1 x.2.2.1
def f38_l4_spec:LSpec:={ thaws:=[.slot 9 38 yN],head:=f38_l4_head,outs:=f38_l4_outs,fn:=fun x=>f38_l4_n (((x.1.1.length:Int) - x.1.2.2.2.2.1).toNat + 1) x }
def f38 (a0:(List Yn)) (a1:Int) (a2:Bool) (a3:(List Int)):Option ((List Yn) × Unit) :=
 (f38_l4 a0 a1 a3 (((a0.length:Int) - (0:Int)).toNat + 1) (!a2) (0:Int) []).bind fun o11 =>
 let u12:Int:=o11.1.1
 let u13:(List Int):=o11.1.2.1
 let u14:Bool:=o11.1.2.2.1
 let u15:(List Yn):=o11.2.2.1
 bif (!u14) then
 bif (decide (u13.length≤appLim)) then bif (decide (u15.length + ([(u12,(u13,()))]:List Yn).length≤appLim)) then some ((u15++([(u12,(u13,()))]:List Yn)),()) else none else none
 else
 some (u15,())
def f38_spec:PSpec:={ args:=[(.sl yN),yI,.bool,(.sl yI)],res:=[(.sl yN)],fn:=fun x=>f38 x.1 x.2.1 x.2.2.1 x.2.2.2.1 }
noncomputable def f38_code:Code:=Tryz.f38.body.getD .skip
noncomputable def f38_env:Env0:={ C:=cfgF,P:=[],L:=[(⟨12,0,38,4⟩,f38_l4_spec)],F:=[(38,Tryz.f38)] }
theorem f38_l4_ok:LoopOK f38_env 12 38 0 (loopAt f38_code 4) f38_l4_spec :=
 loopOK_of (by kernel_rfl) f38_l4_n (fun x o h=>⟨_,h⟩) (fun x=>by kernel_rfl) (fun n x=>by kernel_rfl)
theorem f38_run:zR f38_env 38 Tryz.f38 f38_code f38_spec:=by intro x; kernel_rfl
theorem f38_enter:zQ 38:=zN Tryz.func38
theorem f38_envOK:zE f38_env:=zO cfgF_ok trivial trivial ⟨zK Tryz.func38,trivial⟩ ⟨⟨Tryz.f38,f38_code,rfl,rfl,f38_l4_ok⟩,trivial⟩
theorem f38_pure:zU 38 f38_spec:=zP f38_envOK Tryz.f38 f38_code f38_run
def f8_l7_head:Ann:={ env:=[(0,.ty (.sl (.arr 4 yI))),(2,cP 2),(3,cP 3),(4,YI),(5,.cst (.row 40 .whole)),(6,YI)],bxs:=[(2,.var [.ty (.arr 8 (.sl yN))]),(3,.var [.ty (.arr 8 (.sl yN))]),(40,.row yI false)] }
def f8_l7_outs:List (Ex × Ann):=[((.exit 2),{ env:=[(0,.ty (.sl (.arr 4 yI))),(2,cP 2),(3,cP 3),(4,YI),(5,.ty (.sl yI))],bxs:=[(2,.var [.ty (.arr 8 (.sl yN))]),(3,.var [.ty (.arr 8 (.sl yN))])] })]
def f8_l7 (t0:(List (List Int))) (t4:Int) (b2g0:(List (List Yn))) (b3g0:(List (List Yn))):Nat→Int→(List Int)→Option (outDen f8_l7_outs)
 | 0,_,_=>none
 | k + 1,t6,r40 =>
 bif (inR t4 t0.length) then
 bif (inR (2:Int) 4) then
 let v1:Int:=(at_ yI (at_ (.arr 4 yI) t0 t4) (2:Int))
 (f37 v1 (4:Int)).bind fun y2 =>
 bif (decide (t6 < y2.1)) then
 bif (inR t4 t0.length) then
 bif (inR (3:Int) 4) then
 let v3:Int:=(at_ yI (at_ (.arr 4 yI) t0 t4) (3:Int))
 bif (decide ((IntKind.wrap .i64 ((1:Int) + t6)) ≠ 0)) then
 let v4:Int:=(IntKind.wrap .i64 (Int.tdiv v3 (IntKind.wrap .i64 ((1:Int) + t6))))
 (f37 v4 (5:Int)).bind fun y5 =>
 bif (decide (r40.length + ([(IntKind.wrap .i64 (y5.1 - (1:Int)))]:List Int).length≤appLim)) then f8_l7 t0 t4 b2g0 b3g0 k (IntKind.wrap .i64 (t6 + 1)) (r40++([(IntKind.wrap .i64 (y5.1 - (1:Int)))]:List Int)) else none
 else none
 else none
 else none
 else
 some ((t0,t4,r40,()),(),((b2g0,()),(b3g0,()),()))
 else none
 else none
def f8_l7_n (n:Nat) (x:f8_l7_head.den):=f8_l7 x.1.1 x.1.2.1 x.2.2.1.1 x.2.2.2.1.1 n x.1.2.2.1 x.2.2.2.2.1
def f8_l7_spec:LSpec:={ thaws:=[.slot 5 40 yI],head:=f8_l7_head,outs:=f8_l7_outs,fn:=fun x=>f8_l7_n ((5:Nat)) x }
def f8_l3_head:Ann:={ env:=[(0,.ty (.sl (.arr 4 yI))),(2,cP 2),(3,cP 3),(4,YI)],bxs:=[(2,.var [.ty (.arr 8 (.sl yN))]),(3,.var [.ty (.arr 8 (.sl yN))])] }
def f8_l3_outs:List (Ex × Ann):=[((.exit 0),{ env:=[(2,cP 2),(3,cP 3)],bxs:=[(2,.var [.ty (.arr 8 (.sl yN))]),(3,.var [.ty (.arr 8 (.sl yN))])] })]
def f8_l3:Nat→(List (List Int))→Int→(List (List Yn))→(List (List Yn))→Option (outDen f8_l3_outs)
 | 0,_,_,_,_=>none
 | k + 1,t0,t4,b2g0,b3g0 =>
 bif (decide (t4 < (t0.length:Int))) then
 bif (decide (t4 < (20:Int))) then
 (f8_l7 t0 t4 b2g0 b3g0 ((5:Nat)) (0:Int) []).bind fun o6 =>
 let u7:(List (List Int)):=o6.1.1
 let u8:Int:=o6.1.2.1
 let u9:(List Int):=o6.1.2.2.1
 let u10:(List (List Yn)):=o6.2.2.1.1
 let u11:(List (List Yn)):=o6.2.2.2.1.1
 bif (inR u8 u7.length) then
 bif (inR (0:Int) 4) then
 let v12:Int:=(at_ yI (at_ (.arr 4 yI) u7 u8) (0:Int))
 (f37 v12 (7:Int)).bind fun y13 =>
 bif (inR (IntKind.wrap .i64 ((1:Int) + y13.1)) 8) then
 let v14:(List Yn):=(at_ (.sl yN) u11 (IntKind.wrap .i64 ((1:Int) + y13.1)))
 bif (inR u8 u7.length) then
 bif (inR (1:Int) 4) then
 let v15:Int:=(at_ yI (at_ (.arr 4 yI) u7 u8) (1:Int))
 (f37 v15 (6:Int)).bind fun y16 =>
 (f38 v14 y16.1 true u9).bind fun y17 =>
 bif (inR (IntKind.wrap .i64 ((1:Int) + y13.1)) 8) then f8_l3 k u7 (IntKind.wrap .i64 (u8 + 1)) u10 (u11.set (Int.toNat (IntKind.wrap .i64 ((1:Int) + y13.1))) y17.1) else none
 else none
 else none
 else none
 else none
 else none
 else
 some ((),(),((b2g0,()),(b3g0,()),()))
 else
 some ((),(),((b2g0,()),(b3g0,()),()))
def f8_l3_n (n:Nat) (x:f8_l3_head.den):=f8_l3 n x.1.1 x.1.2.1 x.2.2.1.1 x.2.2.2.1.1
def f8_l3_spec:LSpec:={ head:=f8_l3_head,outs:=f8_l3_outs,fn:=fun x=>f8_l3_n (((x.1.1.length:Int) - x.1.2.1).toNat + 1) x }
def f8 (a0:(List (List Int))):Option (Yc × Unit) :=
 (f8_l3 (((a0.length:Int) - (0:Int)).toNat + 1) a0 (0:Int) (List.replicate 8 []) (List.replicate 8 [])).bind fun o18 =>
 let u20:(List (List Yn)):=o18.2.2.2.1.1
 some ((u20,()),())
def f8_spec:PSpec:={ args:=[(.sl (.arr 4 yI))],res:=[yC],fn:=fun x=>f8 x.1 }
noncomputable def f8_code:Code:=Tryz.f8.body.getD .skip
noncomputable def f8_env:Env0:={ C:=cfgF,P:=[(37,f37_spec),(38,f38_spec)],L:=[(⟨12,0,8,7⟩,f8_l7_spec),(⟨12,0,8,3⟩,f8_l3_spec)],F:=[(8,Tryz.f8)] }
theorem f8_l7_ok:LoopOK f8_env 12 8 0 (loopAt f8_code 7) f8_l7_spec :=
 loopOK_of (by kernel_rfl) f8_l7_n (fun x o h=>⟨_,h⟩) (fun x=>by kernel_rfl) (fun n x=>by kernel_rfl)
theorem f8_l3_ok:LoopOK f8_env 12 8 0 (loopAt f8_code 3) f8_l3_spec :=
 loopOK_of (by kernel_rfl) f8_l3_n (fun x o h=>⟨_,h⟩) (fun x=>by kernel_rfl) (fun n x=>by kernel_rfl)
theorem f8_run:zR f8_env 8 Tryz.f8 f8_code f8_spec:=by intro x; kernel_rfl
theorem f8_enter:zQ 8:=zN Tryz.func8
theorem f8_envOK:zE f8_env:=zO cfgF_ok ⟨⟨f37_pure,f37_enter⟩,⟨f38_pure,f38_enter⟩,trivial⟩ trivial ⟨zK Tryz.func8,trivial⟩ ⟨⟨Tryz.f8,f8_code,rfl,rfl,f8_l7_ok⟩,⟨Tryz.f8,f8_code,rfl,rfl,f8_l3_ok⟩,trivial⟩
theorem f8_pure:zU 8 f8_spec:=zP f8_envOK Tryz.f8 f8_code f8_run
def f25_l2_head:Ann:={ env:=[(1,YI),(2,YI),(3,cP 3),(8,YI)],bxs:=[(3,.var [.ty (.arr 8 (.sl yN))])] }
def f25_l2_outs:List (Ex × Ann):=[((.exit 0),{ env:=[] }),(.ret,{ env:=[(6,.cst (.row 37 .whole)),(7,.ty .bool)],bxs:=[(37,.row yI true)] })]
def f25_l2 (t1:Int) (t2:Int) (b3g0:(List (List Yn))):Nat→Int→Option (outDen f25_l2_outs)
 | 0,_=>none
 | k + 1,t8 =>
 bif (inR t1 8) then
 let v1:(List Yn):=(at_ (.sl yN) b3g0 t1)
 bif (decide (t8 < (v1.length:Int))) then
 bif (inR t1 8) then
 let v2:(List Yn):=(at_ (.sl yN) b3g0 t1)
 bif (inR t8 v2.length) then
 let v3:Int:=(at_ yN v2 t8).1
 bif (decide (v3 = t2)) then
 bif (inR t1 8) then
 let v4:(List Yn):=(at_ (.sl yN) b3g0 t1)
 bif (inR t8 v4.length) then
 let v5:(List Int):=(at_ yN v4 t8).2.1
 bif (decide (v5.length≤appLim)) then some (.inr ((true,()),(),(v5,()))) else none
 else none
 else none
 else
 f25_l2 t1 t2 b3g0 k (IntKind.wrap .i64 (t8 + 1))
 else none
 else none
 else
 some (.inl ((),(),()))
 else none
def f25_l2_n (n:Nat) (x:f25_l2_head.den):=f25_l2 x.1.1 x.1.2.1 x.2.2.1.1 n x.1.2.2.1
def f25_l2_spec:LSpec:={ head:=f25_l2_head,outs:=f25_l2_outs,fn:=fun x=>f25_l2_n (((at_ (.sl yN) x.2.2.1.1 x.1.1).length - x.1.2.2.1).toNat + 1) x }
def f25 (a0:Yc) (a1:Int) (a2:Int):Option ((List Int) × Bool × Unit) :=
 (f25_l2 a1 a2 a0.1 (((at_ (.sl yN) a0.1 a1).length - (0:Int)).toNat + 1) (0:Int)).bind fun o6 =>
 Sum.elim (fun o7 =>
 some ([],false,())) (fun o8 =>
 let u9:Bool:=o8.1.1
 let u10:(List Int):=o8.2.2.1
 some (u10,u9,())) o6
def f25_spec:PSpec:={ args:=[yC,yI,yI],res:=[(.sl yI),.bool],fn:=fun x=>f25 x.1 x.2.1 x.2.2.1 }
noncomputable def f25_code:Code:=Tryz.f25.body.getD .skip
noncomputable def f25_env:Env0:={ C:=cfgF,P:=[],L:=[(⟨12,0,25,2⟩,f25_l2_spec)],F:=[(25,Tryz.f25)] }
theorem f25_l2_ok:LoopOK f25_env 12 25 0 (loopAt f25_code 2) f25_l2_spec :=
 loopOK_of (by kernel_rfl) f25_l2_n (fun x o h=>⟨_,h⟩) (fun x=>by kernel_rfl) (fun n x=>by kernel_rfl)
theorem f25_run:zR f25_env 25 Tryz.f25 f25_code f25_spec:=by intro x; kernel_rfl
theorem f25_enter:zQ 25:=zN Tryz.func25
theorem f25_envOK:zE f25_env:=zO cfgF_ok trivial trivial ⟨zK Tryz.func25,trivial⟩ ⟨⟨Tryz.f25,f25_code,rfl,rfl,f25_l2_ok⟩,trivial⟩
theorem f25_pure:zU 25 f25_spec:=zP f25_envOK Tryz.f25 f25_code f25_run
def f81_l2_head:Ann:={ env:=[(0,.ty (.sl yI)),(3,YI)] }
def f81_l2_outs:List (Ex × Ann):=[((.exit 0),{ env:=[(0,.ty (.sl yI))] }),(.ret,{ env:=[(2,.ty .bool)] })]
def f81_l2 (t0:(List Int)):Nat→Int→Option (outDen f81_l2_outs)
 | 0,_=>none
 | k + 1,t3 =>
 bif (decide (t3 < (t0.length:Int))) then
 bif (inR t3 t0.length) then
 let v1:Bool:=(decide ((at_ yI t0 t3) < (-1152921504606846976:Int)))
 bif v1 then
 some (.inr ((false,()),(),()))
 else
 bif (inR t3 t0.length) then
 let v2:Bool:=(decide ((at_ yI t0 t3) > (1152921504606846976:Int)))
 bif v2 then
 some (.inr ((false,()),(),()))
 else
 f81_l2 t0 k (IntKind.wrap .i64 (t3 + 1))
 else none
 else none
 else
 some (.inl ((t0,()),(),()))
def f81_l2_n (n:Nat) (x:f81_l2_head.den):=f81_l2 x.1.1 n x.1.2.1
def f81_l2_spec:LSpec:={ head:=f81_l2_head,outs:=f81_l2_outs,fn:=fun x=>f81_l2_n (((x.1.1.length:Int) - x.1.2.1).toNat + 1) x }
def f81 (a0:(List Int)):Option (Bool × Unit) :=
 (f81_l2 a0 (((a0.length:Int) - (0:Int)).toNat + 1) (0:Int)).bind fun o3 =>
 Sum.elim (fun o4 =>
 let u6:(List Int):=o4.1.1
 let v7:Bool:=(decide ((u6.length:Int)≤(64:Int)))
 some (v7,())) (fun o5 =>
 let u8:Bool:=o5.1.1
 some (u8,())) o3
def f81_spec:PSpec:={ args:=[(.sl yI)],res:=[.bool],fn:=fun x=>f81 x.1 }
noncomputable def f81_code:Code:=Tryz.f81.body.getD .skip
noncomputable def f81_env:Env0:={ C:=cfgF,P:=[],L:=[(⟨12,0,81,2⟩,f81_l2_spec)],F:=[(81,Tryz.f81)] }
theorem f81_l2_ok:LoopOK f81_env 12 81 0 (loopAt f81_code 2) f81_l2_spec :=
 loopOK_of (by kernel_rfl) f81_l2_n (fun x o h=>⟨_,h⟩) (fun x=>by kernel_rfl) (fun n x=>by kernel_rfl)
theorem f81_run:zR f81_env 81 Tryz.f81 f81_code f81_spec:=by intro x; kernel_rfl
theorem f81_enter:zQ 81:=zN Tryz.func81
theorem f81_envOK:zE f81_env:=zO cfgF_ok trivial trivial ⟨zK Tryz.func81,trivial⟩ ⟨⟨Tryz.f81,f81_code,rfl,rfl,f81_l2_ok⟩,trivial⟩
theorem f81_pure:zU 81 f81_spec:=zP f81_envOK Tryz.f81 f81_code f81_run
def f39_l6_head:Ann:={ env:=[(1,cP 1),(3,YI),(4,.ty (.sl yN)),(5,YI)],bxs:=[(1,.var [.ty (.arr 8 (.sl yN))])] }
def f39_l6_outs:List (Ex × Ann):=[((.exit 2),{ env:=[(1,cP 1),(3,YI)],bxs:=[(1,.var [.ty (.arr 8 (.sl yN))])] }),(.ret,{ env:=[(2,.ty .bool)] })]
def f39_l6 (t3:Int) (t4:(List Yn)) (b1g0:(List (List Yn))):Nat→Int→Option (outDen f39_l6_outs)
 | 0,_=>none
 | k + 1,t5 =>
 bif (decide (t5 < (t4.length:Int))) then
 bif (decide (t3 = (0:Int))) then
 some (.inr ((false,()),(),()))
 else
 bif (inR t5 t4.length) then
 let v2:Int:=(at_ yN t4 t5).1
 bif (decide (v2 < (0:Int))) then
 some (.inr ((false,()),(),()))
 else
 bif (inR t5 t4.length) then
 let v3:Int:=(at_ yN t4 t5).1
 bif (decide (v3 ≥ (24:Int))) then
 some (.inr ((false,()),(),()))
 else
 bif (decide (t5 > (0:Int))) then
 bif (inR t5 t4.length) then
 let v4:Int:=(at_ yN t4 t5).1
 bif (inR (IntKind.wrap .i64 (t5 - (1:Int))) t4.length) then
 let v5:Int:=(at_ yN t4 (IntKind.wrap .i64 (t5 - (1:Int)))).1
 bif (decide (v4≤v5)) then
 some (.inr ((false,()),(),()))
 else
 bif (inR t5 t4.length) then
 let v6:(List Int):=(at_ yN t4 t5).2.1
 (f81 v6).bind fun y7 =>
 bif (!y7.1) then
 some (.inr ((false,()),(),()))
 else
 f39_l6 t3 t4 b1g0 k (IntKind.wrap .i64 (t5 + 1))
 else none
 else none
 else none
 else
 bif (inR t5 t4.length) then
 let v8:(List Int):=(at_ yN t4 t5).2.1
 (f81 v8).bind fun y9 =>
 bif (!y9.1) then
 some (.inr ((false,()),(),()))
 else
 f39_l6 t3 t4 b1g0 k (IntKind.wrap .i64 (t5 + 1))
 else none
 else none
 else none
 else
 some (.inl ((t3,()),(),((b1g0,()),())))
def f39_l6_n (n:Nat) (x:f39_l6_head.den):=f39_l6 x.1.1 x.1.2.1 x.2.2.1.1 n x.1.2.2.1
def f39_l6_spec:LSpec:={ head:=f39_l6_head,outs:=f39_l6_outs,fn:=fun x=>f39_l6_n (((x.1.2.1.length:Int) - x.1.2.2.1).toNat + 1) x }
def f39_l2_head:Ann:={ env:=[(1,cP 1),(3,YI)],bxs:=[(1,.var [.ty (.arr 8 (.sl yN))])] }
def f39_l2_outs:List (Ex × Ann):=[((.exit 0),{ env:=[] }),(.ret,{ env:=[(2,.ty .bool)] })]
def f39_l2:Nat→Int→(List (List Yn))→Option (outDen f39_l2_outs)
 | 0,_,_=>none
 | k + 1,t3,b1g0 =>
 bif (decide (t3 < (8:Int))) then
 bif (inR t3 8) then
 let v1:(List Yn):=(at_ (.sl yN) b1g0 t3)
 (f39_l6 t3 v1 b1g0 (((v1.length:Int) - (0:Int)).toNat + 1) (0:Int)).bind fun o10 =>
 Sum.elim (fun o11 =>
 let u13:Int:=o11.1.1
 let u14:(List (List Yn)):=o11.2.2.1.1
 f39_l2 k (IntKind.wrap .i64 (u13 + 1)) u14) (fun o12 =>
 let u15:Bool:=o12.1.1
 some (.inr ((u15,()),(),()))) o10
 else none
 else
 some (.inl ((),(),()))
def f39_l2_n (n:Nat) (x:f39_l2_head.den):=f39_l2 n x.1.1 x.2.2.1.1
def f39_l2_spec:LSpec:={ head:=f39_l2_head,outs:=f39_l2_outs,fn:=fun x=>f39_l2_n (((8:Int) - x.1.1).toNat + 1) x }
def f39 (a0:Yc):Option (Bool × Unit) :=
 (f39_l2 (((8:Int) - (0:Int)).toNat + 1) (0:Int) a0.1).bind fun o16 =>
 Sum.elim (fun o17 =>
 some (true,())) (fun o18 =>
 let u19:Bool:=o18.1.1
 some (u19,())) o16
def f39_spec:PSpec:={ args:=[yC],res:=[.bool],fn:=fun x=>f39 x.1 }
noncomputable def f39_code:Code:=Tryz.f39.body.getD .skip
noncomputable def f39_env:Env0:={ C:=cfgF,P:=[(81,f81_spec)],L:=[(⟨12,0,39,6⟩,f39_l6_spec),(⟨12,0,39,2⟩,f39_l2_spec)],F:=[(39,Tryz.f39)] }
theorem f39_l6_ok:LoopOK f39_env 12 39 0 (loopAt f39_code 6) f39_l6_spec :=
 loopOK_of (by kernel_rfl) f39_l6_n (fun x o h=>⟨_,h⟩) (fun x=>by kernel_rfl) (fun n x=>by kernel_rfl)
theorem f39_l2_ok:LoopOK f39_env 12 39 0 (loopAt f39_code 2) f39_l2_spec :=
 loopOK_of (by kernel_rfl) f39_l2_n (fun x o h=>⟨_,h⟩) (fun x=>by kernel_rfl) (fun n x=>by kernel_rfl)
theorem f39_run:zR f39_env 39 Tryz.f39 f39_code f39_spec:=by intro x; kernel_rfl
theorem f39_enter:zQ 39:=zN Tryz.func39
theorem f39_envOK:zE f39_env:=zO cfgF_ok ⟨⟨f81_pure,f81_enter⟩,trivial⟩ trivial ⟨zK Tryz.func39,trivial⟩ ⟨⟨Tryz.f39,f39_code,rfl,rfl,f39_l6_ok⟩,⟨Tryz.f39,f39_code,rfl,rfl,f39_l2_ok⟩,trivial⟩
theorem f39_pure:zU 39 f39_spec:=zP f39_envOK Tryz.f39 f39_code f39_run
def f26_l4_head:Ann:={ env:=[(0,.ty (.sl yI)),(1,.ty (.sl yI)),(5,YI)] }
def f26_l4_outs:List (Ex × Ann):=[((.exit 0),{ env:=[] }),(.ret,{ env:=[(4,.ty .bool)] })]
def f26_l4 (t0:(List Int)) (t1:(List Int)):Nat→Int→Option (outDen f26_l4_outs)
 | 0,_=>none
 | k + 1,t5 =>
 bif (decide (t5 < (t0.length:Int))) then
 bif (inR t5 t0.length) then
 bif (inR t5 t1.length) then
 let v2:Bool:=(decide ((at_ yI t0 t5) ≠ (at_ yI t1 t5)))
 bif v2 then
 some (.inr ((false,()),(),()))
 else
 f26_l4 t0 t1 k (IntKind.wrap .i64 (t5 + 1))
 else none
 else none
 else
 some (.inl ((),(),()))
def f26_l4_n (n:Nat) (x:f26_l4_head.den):=f26_l4 x.1.1 x.1.2.1 n x.1.2.2.1
def f26_l4_spec:LSpec:={ head:=f26_l4_head,outs:=f26_l4_outs,fn:=fun x=>f26_l4_n (((x.1.1.length:Int) - x.1.2.2.1).toNat + 1) x }
def f26 (a0:(List Int)) (a1:(List Int)):Option (Bool × Unit) :=
 let v1:Bool:=(decide ((a0.length:Int) ≠ (a1.length:Int)))
 bif v1 then
 some (false,())
 else
 (f26_l4 a0 a1 (((a0.length:Int) - (0:Int)).toNat + 1) (0:Int)).bind fun o3 =>
 Sum.elim (fun o4 =>
 some (true,())) (fun o5 =>
 let u6:Bool:=o5.1.1
 some (u6,())) o3
def f26_spec:PSpec:={ args:=[(.sl yI),(.sl yI)],res:=[.bool],fn:=fun x=>f26 x.1 x.2.1 }
noncomputable def f26_code:Code:=Tryz.f26.body.getD .skip
noncomputable def f26_env:Env0:={ C:=cfgF,P:=[],L:=[(⟨12,0,26,4⟩,f26_l4_spec)],F:=[(26,Tryz.f26)] }
theorem f26_l4_ok:LoopOK f26_env 12 26 0 (loopAt f26_code 4) f26_l4_spec :=
 loopOK_of (by kernel_rfl) f26_l4_n (fun x o h=>⟨_,h⟩) (fun x=>by kernel_rfl) (fun n x=>by kernel_rfl)
theorem f26_run:zR f26_env 26 Tryz.f26 f26_code f26_spec:=by intro x; kernel_rfl
theorem f26_enter:zQ 26:=zN Tryz.func26
theorem f26_envOK:zE f26_env:=zO cfgF_ok trivial trivial ⟨zK Tryz.func26,trivial⟩ ⟨⟨Tryz.f26,f26_code,rfl,rfl,f26_l4_ok⟩,trivial⟩
theorem f26_pure:zU 26 f26_spec:=zP f26_envOK Tryz.f26 f26_code f26_run
def f40 (a0:Bool) (a1:(List Int)) (a2:Bool) (a3:(List Int)):Option (Bool × Unit) :=
 bif (decide (a0 = a2)) then
 (f26 a1 a3).bind fun y1 =>
 some (y1.1,())
 else
 some (false,())
def f40_spec:PSpec:={ args:=[.bool,(.sl yI),.bool,(.sl yI)],res:=[.bool],fn:=fun x=>f40 x.1 x.2.1 x.2.2.1 x.2.2.2.1 }
noncomputable def f40_code:Code:=Tryz.f40.body.getD .skip
noncomputable def f40_env:Env0:={ C:=cfgF,P:=[(26,f26_spec)],L:=[],F:=[(40,Tryz.f40)] }
theorem f40_run:zR f40_env 40 Tryz.f40 f40_code f40_spec:=by intro x; kernel_rfl
theorem f40_enter:zQ 40:=zN Tryz.func40
theorem f40_envOK:zE f40_env:=zO cfgF_ok ⟨⟨f26_pure,f26_enter⟩,trivial⟩ trivial ⟨zK Tryz.func40,trivial⟩ trivial
theorem f40_pure:zU 40 f40_spec:=zP f40_envOK Tryz.f40 f40_code f40_run
def f9_l8_head:Ann:={ env:=[(2,cP 2),(3,cP 3),(4,cP 4),(6,cP 6),(7,YI),(8,YI)],bxs:=[(2,.var [.ty (.arr 8 (.sl yN))]),(3,.var [.ty (.arr 8 (.sl yN))]),(4,.var [.cst .nils]),(6,.var [.cst (.row 60 .whole)]),(60,.row yR false)] }
def f9_l8_outs:List (Ex × Ann):=[((.exit 2),{ env:=[(2,cP 2),(3,cP 3),(4,cP 4),(6,cP 6),(7,YI)],bxs:=[(2,.var [.ty (.arr 8 (.sl yN))]),(3,.var [.ty (.arr 8 (.sl yN))]),(4,.var [.cst .nils]),(6,.var [.cst (.row 60 .whole)]),(60,.row yR false)] })]
def f9_l8 (t7:Int) (b2g0:(List (List Yn))) (b3g0:(List (List Yn))):Nat→Int→(List Yr)→Option (outDen f9_l8_outs)
 | 0,_,_=>none
 | k + 1,t8,r60 =>
 bif (decide (t8 < (24:Int))) then
 (f25 (b2g0,()) t7 t8).bind fun y3 =>
 (f25 (b3g0,()) t7 t8).bind fun y4 =>
 (f40 y3.2.1 y3.1 y4.2.1 y4.1).bind fun y5 =>
 bif (!y5.1) then
 bif (decide (r60.length + ([(t7,(t8,(y3.2.1,(y3.1,(y4.2.1,(y4.1,()))))))]:List Yr).length≤appLim)) then f9_l8 t7 b2g0 b3g0 k (IntKind.wrap .i64 (t8 + 1)) (r60++([(t7,(t8,(y3.2.1,(y3.1,(y4.2.1,(y4.1,()))))))]:List Yr)) else none
 else
 f9_l8 t7 b2g0 b3g0 k (IntKind.wrap .i64 (t8 + 1)) r60
 else
 some ((t7,()),(),((b2g0,()),(b3g0,()),(),(),r60,()))
def f9_l8_n (n:Nat) (x:f9_l8_head.den):=f9_l8 x.1.1 x.2.2.1.1 x.2.2.2.1.1 n x.1.2.1 x.2.2.2.2.2.2.1
def f9_l8_spec:LSpec:={ head:=f9_l8_head,outs:=f9_l8_outs,fn:=fun x=>f9_l8_n (((24:Int) - x.1.2.1).toNat + 1) x }
def f9_l5_head:Ann:={ env:=[(2,cP 2),(3,cP 3),(4,cP 4),(6,cP 6),(7,YI)],bxs:=[(2,.var [.ty (.arr 8 (.sl yN))]),(3,.var [.ty (.arr 8 (.sl yN))]),(4,.var [.cst .nils]),(6,.var [.cst (.row 60 .whole)]),(60,.row yR false)] }
def f9_l5_outs:List (Ex × Ann):=[((.exit 0),{ env:=[(4,cP 4),(6,cP 6)],bxs:=[(4,.var [.cst .nils]),(6,.var [.cst (.row 60 .whole)]),(60,.row yR false)] })]
def f9_l5:Nat→Int→(List (List Yn))→(List (List Yn))→(List Yr)→Option (outDen f9_l5_outs)
 | 0,_,_,_,_=>none
 | k + 1,t7,b2g0,b3g0,r60 =>
 bif (decide (t7≤(7:Int))) then
 (f9_l8 t7 b2g0 b3g0 (((24:Int) - (0:Int)).toNat + 1) (0:Int) r60).bind fun o6 =>
 let u7:Int:=o6.1.1
 let u8:(List (List Yn)):=o6.2.2.1.1
 let u9:(List (List Yn)):=o6.2.2.2.1.1
 let u10:(List Yr):=o6.2.2.2.2.2.2.1
 f9_l5 k (IntKind.wrap .i64 (u7 + 1)) u8 u9 u10
 else
 some ((),(),((),(),r60,()))
def f9_l5_n (n:Nat) (x:f9_l5_head.den):=f9_l5 n x.1.1 x.2.2.1.1 x.2.2.2.1.1 x.2.2.2.2.2.2.1
def f9_l5_spec:LSpec:={ thaws:=[.cell 6 0 60 yR],head:=f9_l5_head,outs:=f9_l5_outs,fn:=fun x=>f9_l5_n (((8:Int) - x.1.1).toNat + 1) x }
def f9 (a0:Yc) (a1:Yc):Option (((List Yr) × Unit) × Int × Unit) :=
 (f39 a0).bind fun y1 =>
 bif (!y1.1) then
 some (([],()),(160:Int),())
 else
 (f39 a1).bind fun y2 =>
 bif (!y2.1) then
 some (([],()),(160:Int),())
 else
 (f9_l5 (((8:Int) - (1:Int)).toNat + 1) (1:Int) a0.1 a1.1 []).bind fun o11 =>
 let u12:(List Yr):=o11.2.2.2.2.1
 some ((u12,()),(0:Int),())
def f9_spec:PSpec:={ args:=[yC,yC],res:=[(.pair (.sl yR) .unit),yI],fn:=fun x=>f9 x.1 x.2.1 }
noncomputable def f9_code:Code:=Tryz.f9.body.getD .skip
noncomputable def f9_env:Env0:={ C:=cfgF,P:=[(25,f25_spec),(39,f39_spec),(40,f40_spec)],L:=[(⟨12,0,9,8⟩,f9_l8_spec),(⟨12,0,9,5⟩,f9_l5_spec)],F:=[(9,Tryz.f9)] }
theorem f9_l8_ok:LoopOK f9_env 12 9 0 (loopAt f9_code 8) f9_l8_spec :=
 loopOK_of (by kernel_rfl) f9_l8_n (fun x o h=>⟨_,h⟩) (fun x=>by kernel_rfl) (fun n x=>by kernel_rfl)
theorem f9_l5_ok:LoopOK f9_env 12 9 0 (loopAt f9_code 5) f9_l5_spec :=
 loopOK_of (by kernel_rfl) f9_l5_n (fun x o h=>⟨_,h⟩) (fun x=>by kernel_rfl) (fun n x=>by kernel_rfl)
theorem f9_run:zR f9_env 9 Tryz.f9 f9_code f9_spec:=by intro x; kernel_rfl
theorem f9_enter:zQ 9:=zN Tryz.func9
theorem f9_envOK:zE f9_env:=zO cfgF_ok ⟨⟨f25_pure,f25_enter⟩,⟨f39_pure,f39_enter⟩,⟨f40_pure,f40_enter⟩,trivial⟩ trivial ⟨zK Tryz.func9,trivial⟩ ⟨⟨Tryz.f9,f9_code,rfl,rfl,f9_l8_ok⟩,⟨Tryz.f9,f9_code,rfl,rfl,f9_l5_ok⟩,trivial⟩
theorem f9_pure:zU 9 f9_spec:=zP f9_envOK Tryz.f9 f9_code f9_run
def f10_l3_head:Ann:={ env:=[(1,cP 1),(2,cP 2),(3,cP 3),(4,YI)],bxs:=[(1,.var [.ty (.sl yR)]),(2,.var [.cst .nils]),(3,.var [.cst (.row 42 .whole)]),(42,.row yR false)] }
def f10_l3_outs:List (Ex × Ann):=[((.exit 0),{ env:=[(2,cP 2),(3,cP 3)],bxs:=[(2,.var [.cst .nils]),(3,.var [.cst (.row 42 .whole)]),(42,.row yR false)] })]
def f10_l3 (b1g0:(List Yr)):Nat→Int→(List Yr)→Option (outDen f10_l3_outs)
 | 0,_,_=>none
 | k + 1,t4,r42 =>
 bif (decide (t4 < (b1g0.length:Int))) then
 bif (decide (t4 < (6:Int))) then
 bif (inR t4 b1g0.length) then
 let v1:(List Int):=(at_ yR b1g0 t4).2.2.2.1
 let v2:(List Int):=(at_ yR b1g0 t4).2.2.2.1
 let v3:Int:=(if (5:Int) < (v2.length:Int) then (5:Int) else (v2.length:Int))
 bif (cutOk v1.length none (some v3)) then
 let v4:(List Int):=(at_ yR b1g0 t4).2.2.2.2.2.1
 let v5:(List Int):=(at_ yR b1g0 t4).2.2.2.2.2.1
 let v6:Int:=(if (5:Int) < (v5.length:Int) then (5:Int) else (v5.length:Int))
 bif (cutOk v4.length none (some v6)) then bif (decide (r42.length + ([((at_ yR b1g0 t4).1,((at_ yR b1g0 t4).2.1,((at_ yR b1g0 t4).2.2.1,((v1.take (Int.toNat v3)),((at_ yR b1g0 t4).2.2.2.2.1,((v4.take (Int.toNat v6)),()))))))]:List Yr).length≤appLim)) then f10_l3 b1g0 k (IntKind.wrap .i64 (t4 + 1)) (r42++([((at_ yR b1g0 t4).1,((at_ yR b1g0 t4).2.1,((at_ yR b1g0 t4).2.2.1,((v1.take (Int.toNat v3)),((at_ yR b1g0 t4).2.2.2.2.1,((v4.take (Int.toNat v6)),()))))))]:List Yr)) else none else none
 else none
 else none
 else
 some ((),(),((),(),r42,()))
 else
 some ((),(),((),(),r42,()))
def f10_l3_n (n:Nat) (x:f10_l3_head.den):=f10_l3 x.2.2.1.1 n x.1.1 x.2.2.2.2.2.1
def f10_l3_spec:LSpec:={ thaws:=[.cell 3 0 42 yR],head:=f10_l3_head,outs:=f10_l3_outs,fn:=fun x=>f10_l3_n (((x.2.2.1.1.length:Int) - x.1.1).toNat + 1) x }
def f10 (a0:((List Yr) × Unit)):Option (((List Yr) × Unit) × Unit) :=
 (f10_l3 a0.1 (((a0.1.length:Int) - (0:Int)).toNat + 1) (0:Int) []).bind fun o7 =>
 let u8:(List Yr):=o7.2.2.2.2.1
 some ((u8,()),())
def f10_spec:PSpec:={ args:=[(.pair (.sl yR) .unit)],res:=[(.pair (.sl yR) .unit)],fn:=fun x=>f10 x.1 }
noncomputable def f10_code:Code:=Tryz.f10.body.getD .skip
noncomputable def f10_env:Env0:={ C:=cfgF,P:=[],L:=[(⟨12,0,10,3⟩,f10_l3_spec)],F:=[(10,Tryz.f10)] }
theorem f10_l3_ok:LoopOK f10_env 12 10 0 (loopAt f10_code 3) f10_l3_spec :=
 loopOK_of (by kernel_rfl) f10_l3_n (fun x o h=>⟨_,h⟩) (fun x=>by kernel_rfl) (fun n x=>by kernel_rfl)
theorem f10_run:zR f10_env 10 Tryz.f10 f10_code f10_spec:=by intro x; kernel_rfl
theorem f10_enter:zQ 10:=zN Tryz.func10
theorem f10_envOK:zE f10_env:=zO cfgF_ok trivial trivial ⟨zK Tryz.func10,trivial⟩ ⟨⟨Tryz.f10,f10_code,rfl,rfl,f10_l3_ok⟩,trivial⟩
theorem f10_pure:zU 10 f10_spec:=zP f10_envOK Tryz.f10 f10_code f10_run
def f100_l2x_head:Ann:={ env:=[(0,.ty (.sl yI)),(1,.cst (.fn 85 [])),(7,YI),(8,YI)],stk:=[[(4,.ty .bool)],[(2,.ty .bool),(7,.ty .bool)]] }
def f100_l2x_outs:List (Ex × Ann):=[((.exit 0),{ env:=[],stk:=[[(4,.ty .bool)],[(2,.ty .bool),(7,.ty .bool)]] }),(.ret,{ env:=[(4,YI)],stk:=[[(4,.ty .bool)],[(2,.ty .bool),(7,.ty .bool)]] })]
def f100_l2x (t0:(List Int)) (t7:Int) (k0t4:Bool) (k1t2:Bool) (k1t7:Bool):Nat→Int→Option (outDen f100_l2x_outs)
 | 0,_=>none
 | k + 1,t8 =>
 bif (decide (t8 < t7)) then
 bif (inR t8 t0.length) then
 let v2:Bool:=(decide ((at_ yI t0 t8) < (-1152921504606846976:Int)))
 bif v2 then
 some (.inr ((t8,()),((k0t4,()),(k1t2,k1t7,()),()),()))
 else
 let v3:Bool:=(decide ((at_ yI t0 t8) > (1152921504606846976:Int)))
 bif v3 then
 some (.inr ((t8,()),((k0t4,()),(k1t2,k1t7,()),()),()))
 else
 f100_l2x t0 t7 k0t4 k1t2 k1t7 k (IntKind.wrap .i64 (t8 + 1))
 else none
 else
 some (.inl ((),((k0t4,()),(k1t2,k1t7,()),()),()))
def f100_l2x_n (n:Nat) (x:f100_l2x_head.den):=f100_l2x x.1.1 x.1.2.1 x.2.1.1.1 x.2.1.2.1.1 x.2.1.2.1.2.1 n x.1.2.2.1
def f100_l2x_spec:LSpec:={ head:=f100_l2x_head,outs:=f100_l2x_outs,fn:=fun x=>f100_l2x_n ((x.1.2.1 - x.1.2.2.1).toNat + 1) x }
def f65 (a0:(List Int)):Option (Bool × Unit) :=
 let v1:Bool:=(decide ((a0.length:Int)≤(64:Int)))
 bif v1 then
 (f100_l2x a0 (a0.length:Int) false false true (((a0.length:Int) - (0:Int)).toNat + 1) (0:Int)).bind fun o4 =>
 Sum.elim (fun o5 =>
 let u9:Bool:=o5.2.1.2.1.2.1
 bif u9 then
 some (true,())
 else
 some (false,())) (fun o6 =>
 let u10:Int:=o6.1.1
 let u13:Bool:=o6.2.1.2.1.2.1
 bif u13 then
 some ((!(decide (u10 ≥ (0:Int)))),())
 else
 some (false,())) o4
 else
 some (false,())
def f65_spec:PSpec:={ args:=[(.sl yI)],res:=[.bool],fn:=fun x=>f65 x.1 }
noncomputable def f65_code:Code:=Tryz.f65.body.getD .skip
noncomputable def f65_code_100:Code:=Tryz.f100.body.getD .skip
noncomputable def f65_env:Env0:={ C:=cfgF,P:=[],L:=[(⟨10,10007000,100,2⟩,f100_l2x_spec)],F:=[(65,Tryz.f65),(85,Tryz.f85),(86,Tryz.f86),(100,Tryz.f100)] }
theorem f100_l2x_ok:LoopOK f65_env 10 100 10007000 (loopAt f65_code_100 2) f100_l2x_spec :=
 loopOK_of (by kernel_rfl) f100_l2x_n (fun x o h=>⟨_,h⟩) (fun x=>by kernel_rfl) (fun n x=>by kernel_rfl)
theorem f65_run:zR f65_env 65 Tryz.f65 f65_code f65_spec:=by intro x; kernel_rfl
theorem f65_enter:zQ 65:=zN Tryz.func65
theorem f65_envOK:zE f65_env:=zO cfgF_ok trivial trivial ⟨zK Tryz.func65,zK Tryz.func85,zK Tryz.func86,zK Tryz.func100,trivial⟩ ⟨⟨Tryz.f100,f65_code_100,rfl,rfl,f100_l2x_ok⟩,trivial⟩
theorem f65_pure:zU 65 f65_spec:=zP f65_envOK Tryz.f65 f65_code f65_run
def f35_l5_head:Ann:={ env:=[(1,cP 1),(4,.ty (.sl yN)),(8,.cst (.vsl 1 0 8 (Int.toNat (1:Int)) (cutLen 8 (some (1:Int)) none))),(9,YI),(10,YI),(14,.ty (.sl yN)),(15,YI),(16,YI)],bxs:=[(1,.var [.ty (.arr 8 (.sl yN))])] }
def f35_l5_outs:List (Ex × Ann):=[((.exit 2),{ env:=[(1,cP 1),(8,.cst (.vsl 1 0 8 (Int.toNat (1:Int)) (cutLen 8 (some (1:Int)) none))),(9,YI),(10,YI)],bxs:=[(1,.var [.ty (.arr 8 (.sl yN))])] }),(.ret,{ env:=[(2,.ty .bool)] })]
def f35_l5 (t4:(List Yn)) (t9:Int) (t10:Int) (t14:(List Yn)) (t15:Int) (b1g0:(List (List Yn))):Nat→Int→Option (outDen f35_l5_outs)
 | 0,_=>none
 | k + 1,t16 =>
 bif (decide (t16 < t15)) then
 bif (inR t16 t14.length) then
 let v3:Int:=(at_ yN t14 t16).1
 bif (decide (v3 < (0:Int))) then
 some (.inr ((false,()),(),()))
 else
 let v4:Int:=(at_ yN t14 t16).1
 bif (decide (v4 ≥ (24:Int))) then
 some (.inr ((false,()),(),()))
 else
 bif (decide (t16 > (0:Int))) then
 bif (inR (IntKind.wrap .i64 (t16 - (1:Int))) t4.length) then
 let v5:Int:=(at_ yN t4 (IntKind.wrap .i64 (t16 - (1:Int)))).1
 let v6:Int:=(at_ yN t14 t16).1
 bif (decide (v5 ≥ v6)) then
 some (.inr ((false,()),(),()))
 else
 let v7:(List Int):=(at_ yN t14 t16).2.1
 (f65 v7).bind fun y8 =>
 bif (!y8.1) then
 some (.inr ((false,()),(),()))
 else
 f35_l5 t4 t9 t10 t14 t15 b1g0 k (IntKind.wrap .i64 (t16 + 1))
 else none
 else
 let v9:(List Int):=(at_ yN t14 t16).2.1
 (f65 v9).bind fun y10 =>
 bif (!y10.1) then
 some (.inr ((false,()),(),()))
 else
 f35_l5 t4 t9 t10 t14 t15 b1g0 k (IntKind.wrap .i64 (t16 + 1))
 else none
 else
 some (.inl ((t9,t10,()),(),((b1g0,()),())))
def f35_l5_n (n:Nat) (x:f35_l5_head.den):=f35_l5 x.1.1 x.1.2.1 x.1.2.2.1 x.1.2.2.2.1 x.1.2.2.2.2.1 x.2.2.1.1 n x.1.2.2.2.2.2.1
def f35_l5_spec:LSpec:={ head:=f35_l5_head,outs:=f35_l5_outs,fn:=fun x=>f35_l5_n ((x.1.2.2.2.2.1 - x.1.2.2.2.2.2.1).toNat + 1) x }
def f35_l2_head:Ann:={ env:=[(1,cP 1),(8,.cst (.vsl 1 0 8 (Int.toNat (1:Int)) (cutLen 8 (some (1:Int)) none))),(9,YI),(10,YI)],bxs:=[(1,.var [.ty (.arr 8 (.sl yN))])] }
def f35_l2_outs:List (Ex × Ann):=[((.exit 0),{ env:=[(1,cP 1)],bxs:=[(1,.var [.ty (.arr 8 (.sl yN))])] }),(.ret,{ env:=[(2,.ty .bool)] })]
def f35_l2:Nat→Int→Int→(List (List Yn))→Option (outDen f35_l2_outs)
 | 0,_,_,_=>none
 | k + 1,t9,t10,b1g0 =>
 bif (decide (t10 < t9)) then
 bif (inR t10 (cutLen 8 (some (1:Int)) none)) then
 let v2:(List Yn):=(at_ (.sl yN) b1g0 ((Int.toNat (1:Int)) + t10))
 (f35_l5 v2 t9 t10 v2 (v2.length:Int) b1g0 (((v2.length:Int) - (0:Int)).toNat + 1) (0:Int)).bind fun o11 =>
 Sum.elim (fun o12 =>
 let u14:Int:=o12.1.1
 let u15:Int:=o12.1.2.1
 let u16:(List (List Yn)):=o12.2.2.1.1
 f35_l2 k u14 (IntKind.wrap .i64 (u15 + 1)) u16) (fun o13 =>
 let u17:Bool:=o13.1.1
 some (.inr ((u17,()),(),()))) o11
 else none
 else
 some (.inl ((),(),((b1g0,()),())))
def f35_l2_n (n:Nat) (x:f35_l2_head.den):=f35_l2 n x.1.1 x.1.2.1 x.2.2.1.1
def f35_l2_spec:LSpec:={ head:=f35_l2_head,outs:=f35_l2_outs,fn:=fun x=>f35_l2_n ((x.1.1 - x.1.2.1).toNat + 1) x }
def f35 (a0:Yc):Option (Bool × Unit) :=
 bif (cutOk 8 (some (1:Int)) none) then
 let v1:Int:=(((cutLen 8 (some (1:Int)) none):Nat):Int)
 (f35_l2 ((v1 - (0:Int)).toNat + 1) v1 (0:Int) a0.1).bind fun o18 =>
 Sum.elim (fun o19 =>
 let u21:(List (List Yn)):=o19.2.2.1.1
 bif (inR (0:Int) 8) then
 let v22:(List Yn):=(at_ (.sl yN) u21 (0:Int))
 let v23:Bool:=(decide ((v22.length:Int) = (0:Int)))
 some (v23,())
 else none) (fun o20 =>
 let u24:Bool:=o20.1.1
 some (u24,())) o18
 else none
def f35_spec:PSpec:={ args:=[yC],res:=[.bool],fn:=fun x=>f35 x.1 }
noncomputable def f35_code:Code:=Tryz.f35.body.getD .skip
noncomputable def f35_env:Env0:={ C:=cfgF,P:=[(65,f65_spec)],L:=[(⟨12,0,35,5⟩,f35_l5_spec),(⟨12,0,35,2⟩,f35_l2_spec)],F:=[(35,Tryz.f35)] }
theorem f35_l5_ok:LoopOK f35_env 12 35 0 (loopAt f35_code 5) f35_l5_spec :=
 loopOK_of (by kernel_rfl) f35_l5_n (fun x o h=>⟨_,h⟩) (fun x=>by kernel_rfl) (fun n x=>by kernel_rfl)
theorem f35_l2_ok:LoopOK f35_env 12 35 0 (loopAt f35_code 2) f35_l2_spec :=
 loopOK_of (by kernel_rfl) f35_l2_n (fun x o h=>⟨_,h⟩) (fun x=>by kernel_rfl) (fun n x=>by kernel_rfl)
theorem f35_run:zR f35_env 35 Tryz.f35 f35_code f35_spec:=by intro x; kernel_rfl
theorem f35_enter:zQ 35:=zN Tryz.func35
theorem f35_envOK:zE f35_env:=zO cfgF_ok ⟨⟨f65_pure,f65_enter⟩,trivial⟩ trivial ⟨zK Tryz.func35,trivial⟩ ⟨⟨Tryz.f35,f35_code,rfl,rfl,f35_l5_ok⟩,⟨Tryz.f35,f35_code,rfl,rfl,f35_l2_ok⟩,trivial⟩
theorem f35_pure:zU 35 f35_spec:=zP f35_envOK Tryz.f35 f35_code f35_run
end
end Go.V.G
namespace Go.V.G
open Go.Proofs
noncomputable section
def f82_l2x_head:Ann:={ env:=[(0,.ty (.sl yN)),(1,.cst (.fn 83 [(.ptr 3 0 [])])),(7,YI),(8,YI)],stk:=[[(2,cP 2),(3,cP 3),(4,cP 4)]],bxs:=[(3,.var [.ty (.arr 2 yI)]),(2,.var [.ty (.arr 8 (.sl yN))]),(4,.var [.ty .bool,.cst .nils])] }
def f82_l2x_outs:List (Ex × Ann):=[((.exit 0),{ env:=[],stk:=[[(2,cP 2),(3,cP 3),(4,cP 4)]],bxs:=[(2,.var [.ty (.arr 8 (.sl yN))]),(3,.var [.ty (.arr 2 yI)]),(4,.var [.ty .bool,.cst .nils])] }),(.ret,{ env:=[(4,YI)],stk:=[[(2,cP 2),(3,cP 3),(4,cP 4)]],bxs:=[(2,.var [.ty (.arr 8 (.sl yN))]),(3,.var [.ty (.arr 2 yI)]),(4,.var [.ty .bool,.cst .nils])] })]
def f82_l2x (t0:(List Yn)) (t7:Int) (b3g0:(List Int)) (b2g0:(List (List Yn))) (b4g0:Bool):Nat→Int→Option (outDen f82_l2x_outs)
 | 0,_=>none
 | k + 1,t8 =>
 bif (decide (t8 < t7)) then
 bif (inR t8 t0.length) then
 let v2:Int:=(at_ yN t0 t8).1
 bif (inR (1:Int) 2) then
 let v3:Bool:=(decide (v2 = (at_ yI b3g0 (1:Int))))
 bif v3 then
 some (.inr ((t8,()),((),()),((b2g0,()),(b3g0,()),(b4g0,()),())))
 else
 f82_l2x t0 t7 b3g0 b2g0 b4g0 k (IntKind.wrap .i64 (t8 + 1))
 else none
 else none
 else
 some (.inl ((),((),()),((b2g0,()),(b3g0,()),(b4g0,()),())))
def f82_l2x_n (n:Nat) (x:f82_l2x_head.den):=f82_l2x x.1.1 x.1.2.1 x.2.2.1.1 x.2.2.2.1.1 x.2.2.2.2.1.1 n x.1.2.2.1
def f82_l2x_spec:LSpec:={ head:=f82_l2x_head,outs:=f82_l2x_outs,fn:=fun x=>f82_l2x_n ((x.1.2.1 - x.1.2.2.1).toNat + 1) x }
def f43 (a0:Yc) (a1:(List Int)):Option ((Bool × ((List Int) × Unit)) × Unit) :=
 bif (inR (0:Int) 2) then
 bif (inR (at_ yI a1 (0:Int)) 8) then
 let v1:(List Yn):=(at_ (.sl yN) a0.1 (at_ yI a1 (0:Int)))
 (f82_l2x v1 (v1.length:Int) a1 a0.1 false (((v1.length:Int) - (0:Int)).toNat + 1) (0:Int)).bind fun o4 =>
 Sum.elim (fun o5 =>
 some ((false,([],())),())) (fun o6 =>
 let u10:Int:=o6.1.1
 let u11:(List (List Yn)):=o6.2.2.1.1
 let u12:(List Int):=o6.2.2.2.1.1
 bif (decide (u10 ≥ (0:Int))) then
 bif (inR (0:Int) 2) then
 bif (inR (at_ yI u12 (0:Int)) 8) then
 let v14:(List Yn):=(at_ (.sl yN) u11 (at_ yI u12 (0:Int)))
 bif (inR u10 v14.length) then
 let v15:(List Int):=(at_ yN v14 u10).2.1
 some ((true,(v15,())),())
 else none
 else none
 else none
 else
 some ((false,([],())),())) o4
 else none
 else none
def f43_spec:PSpec:={ args:=[yC,(.arr 2 yI)],res:=[(.pair .bool (.pair (.sl yI) .unit))],fn:=fun x=>f43 x.1 x.2.1 }
noncomputable def f43_code:Code:=Tryz.f43.body.getD .skip
noncomputable def f43_code_82:Code:=Tryz.f82.body.getD .skip
noncomputable def f43_env:Env0:={ C:=cfgF,P:=[],L:=[(⟨11,12000,82,2⟩,f82_l2x_spec)],F:=[(43,Tryz.f43),(82,Tryz.f82),(83,Tryz.f83)] }
theorem f82_l2x_ok:LoopOK f43_env 11 82 12000 (loopAt f43_code_82 2) f82_l2x_spec :=
 loopOK_of (by kernel_rfl) f82_l2x_n (fun x o h=>⟨_,h⟩) (fun x=>by kernel_rfl) (fun n x=>by kernel_rfl)
theorem f43_run:zR f43_env 43 Tryz.f43 f43_code f43_spec:=by intro x; kernel_rfl
theorem f43_enter:zQ 43:=zN Tryz.func43
theorem f43_envOK:zE f43_env:=zO cfgF_ok trivial trivial ⟨zK Tryz.func43,zK Tryz.func82,zK Tryz.func83,trivial⟩ ⟨⟨Tryz.f82,f43_code_82,rfl,rfl,f82_l2x_ok⟩,trivial⟩
theorem f43_pure:zU 43 f43_spec:=zP f43_envOK Tryz.f43 f43_code f43_run
def f80_l4_head:Ann:={ env:=[(0,.ty (.sl yI)),(1,.ty (.sl yI)),(12,YI),(13,YI)] }
def f80_l4_outs:List (Ex × Ann):=[((.exit 0),{ env:=[] }),(.ret,{ env:=[(4,.ty .bool)] })]
def f80_l4 (t0:(List Int)) (t1:(List Int)) (t12:Int):Nat→Int→Option (outDen f80_l4_outs)
 | 0,_=>none
 | k + 1,t13 =>
 bif (decide (t13 < t12)) then
 bif (inR t13 t0.length) then
 bif (inR t13 t1.length) then
 let v2:Bool:=(decide ((at_ yI t0 t13) ≠ (at_ yI t1 t13)))
 bif v2 then
 some (.inr ((false,()),(),()))
 else
 f80_l4 t0 t1 t12 k (IntKind.wrap .i64 (t13 + 1))
 else none
 else none
 else
 some (.inl ((),(),()))
def f80_l4_n (n:Nat) (x:f80_l4_head.den):=f80_l4 x.1.1 x.1.2.1 x.1.2.2.1 n x.1.2.2.2.1
def f80_l4_spec:LSpec:={ head:=f80_l4_head,outs:=f80_l4_outs,fn:=fun x=>f80_l4_n ((x.1.2.2.1 - x.1.2.2.2.1).toNat + 1) x }
def f80 (a0:(List Int)) (a1:(List Int)):Option (Bool × Unit) :=
 let v1:Bool:=(decide ((a0.length:Int) ≠ (a1.length:Int)))
 bif v1 then
 some (false,())
 else
 (f80_l4 a0 a1 (a0.length:Int) (((a0.length:Int) - (0:Int)).toNat + 1) (0:Int)).bind fun o3 =>
 Sum.elim (fun o4 =>
 some (true,())) (fun o5 =>
 let u6:Bool:=o5.1.1
 some (u6,())) o3
def f80_spec:PSpec:={ args:=[(.sl yI),(.sl yI)],res:=[.bool],fn:=fun x=>f80 x.1 x.2.1 }
noncomputable def f80_code:Code:=Tryz.f80.body.getD .skip
noncomputable def f80_env:Env0:={ C:=cfgF,P:=[],L:=[(⟨12,0,80,4⟩,f80_l4_spec)],F:=[(80,Tryz.f80)] }
theorem f80_l4_ok:LoopOK f80_env 12 80 0 (loopAt f80_code 4) f80_l4_spec :=
 loopOK_of (by kernel_rfl) f80_l4_n (fun x o h=>⟨_,h⟩) (fun x=>by kernel_rfl) (fun n x=>by kernel_rfl)
theorem f80_run:zR f80_env 80 Tryz.f80 f80_code f80_spec:=by intro x; kernel_rfl
theorem f80_enter:zQ 80:=zN Tryz.func80
theorem f80_envOK:zE f80_env:=zO cfgF_ok trivial trivial ⟨zK Tryz.func80,trivial⟩ ⟨⟨Tryz.f80,f80_code,rfl,rfl,f80_l4_ok⟩,trivial⟩
theorem f80_pure:zU 80 f80_spec:=zP f80_envOK Tryz.f80 f80_code f80_run
def f44 (a0:(Bool × ((List Int) × Unit))) (a1:(Bool × ((List Int) × Unit))):Option (Bool × Unit) :=
 bif (decide (a0.1 = a1.1)) then
 (f80 a0.2.1 a1.2.1).bind fun y1 =>
 some (y1.1,())
 else
 some (false,())
def f44_spec:PSpec:={ args:=[(.pair .bool (.pair (.sl yI) .unit)),(.pair .bool (.pair (.sl yI) .unit))],res:=[.bool],fn:=fun x=>f44 x.1 x.2.1 }
noncomputable def f44_code:Code:=Tryz.f44.body.getD .skip
noncomputable def f44_env:Env0:={ C:=cfgF,P:=[(80,f80_spec)],L:=[],F:=[(44,Tryz.f44)] }
theorem f44_run:zR f44_env 44 Tryz.f44 f44_code f44_spec:=by intro x; kernel_rfl
theorem f44_enter:zQ 44:=zN Tryz.func44
theorem f44_envOK:zE f44_env:=zO cfgF_ok ⟨⟨f80_pure,f80_enter⟩,trivial⟩ trivial ⟨zK Tryz.func44,trivial⟩ trivial
theorem f44_pure:zU 44 f44_spec:=zP f44_envOK Tryz.f44 f44_code f44_run
def f54 (a0:(List Int)):Option ((List Int) × Unit) :=
 bif decide (a0.length≤appLim) then some (a0,()) else none
def f54_spec:PSpec:={ args:=[(.sl yI)],res:=[(.sl yI)],fn:=fun x=>f54 x.1 }
noncomputable def f54_code:Code:=Tryz.f54.body.getD .skip
noncomputable def f54_env:Env0:={ C:=cfg,P:=[],L:=[],F:=[(54,Tryz.f54)] }
theorem f54_run0 (x:tysDen []):runV f54_env 54 Tryz.f54 f54_code (.nils :: tysAV [] x) [(.sl yI)] = f54_spec.fn ([],x):=by kernel_rfl
theorem f54_run1 (l:(List Int)) (x:tysDen []):runV f54_env 54 Tryz.f54 f54_code (.nn yI l :: tysAV [] x) [(.sl yI)] = f54_spec.fn (l,x):=by kernel_rfl
theorem f54_enter:zQ 54:=zN Tryz.func54
theorem f54_envOK:zE f54_env:=zO cfg_ok trivial trivial ⟨zK Tryz.func54,trivial⟩ trivial
theorem f54_pure:PureOK Tryz.prog cfg 54 f54_spec:=pure_nil f54_envOK (fn:=Tryz.f54) (c:=f54_code) rfl rfl yI [] [(.sl yI)] f54_spec.fn (fun x y h=>(f54_run0 x).trans h) (fun l x y h=>(f54_run1 l x).trans h)
def f45 (a0:(List Int)) (a1:(Bool × ((List Int) × Unit))) (a2:(Bool × ((List Int) × Unit))):Option (Yr × Unit) :=
 bif (inR (0:Int) 2) then
 bif (inR (1:Int) 2) then
 (f54 a1.2.1).bind fun y1 =>
 (f54 a2.2.1).bind fun y2 =>
 some (((at_ yI a0 (0:Int)),((at_ yI a0 (1:Int)),(a1.1,(y1.1,(a2.1,(y2.1,())))))),())
 else none
 else none
def f45_spec:PSpec:={ args:=[(.arr 2 yI),(.pair .bool (.pair (.sl yI) .unit)),(.pair .bool (.pair (.sl yI) .unit))],res:=[yR],fn:=fun x=>f45 x.1 x.2.1 x.2.2.1 }
noncomputable def f45_code:Code:=Tryz.f45.body.getD .skip
noncomputable def f45_env:Env0:={ C:=cfgF,P:=[(54,f54_spec)],L:=[],F:=[(45,Tryz.f45)] }
theorem f45_run:zR f45_env 45 Tryz.f45 f45_code f45_spec:=by intro x; kernel_rfl
theorem f45_enter:zQ 45:=zN Tryz.func45
theorem f45_envOK:zE f45_env:=zO cfgF_ok ⟨⟨f54_pure,f54_enter⟩,trivial⟩ trivial ⟨zK Tryz.func45,trivial⟩ trivial
theorem f45_pure:zU 45 f45_spec:=zP f45_envOK Tryz.f45 f45_code f45_run
def f41_l4x_head:Ann:={ env:=[(0,.cst (.fn 42 [(.ptr 2 0 []),(.ptr 3 0 []),(.ptr 6 0 [])])),(2,YI),(8,YI)],stk:=[[(4,cP 4),(5,YI),(6,cP 6)]],bxs:=[(2,.var [.ty (.arr 8 (.sl yN))]),(3,.var [.ty (.arr 8 (.sl yN))]),(6,.var [.cst (.row 17015024 .whole)]),(4,.var [.cst .nils]),(17015024,.row yR false)] }
def f41_l4x_outs:List (Ex × Ann):=[((.exit 2),{ env:=[(0,.cst (.fn 42 [(.ptr 2 0 []),(.ptr 3 0 []),(.ptr 6 0 [])])),(2,YI)],stk:=[[(4,cP 4),(5,YI),(6,cP 6)]],bxs:=[(2,.var [.ty (.arr 8 (.sl yN))]),(3,.var [.ty (.arr 8 (.sl yN))]),(6,.var [.cst (.row 17015024 .whole)]),(4,.var [.cst .nils]),(17015024,.row yR false)] })]
def f41_l4x (t2:Int) (k0t5:Int) (b2g0:(List (List Yn))) (b3g0:(List (List Yn))):Nat→Int→(List Yr)→Option (outDen f41_l4x_outs)
 | 0,_,_=>none
 | k + 1,t8,r17015024 =>
 bif (decide (t8 < (24:Int))) then
 (f43 (b2g0,()) ([t2,t8]:List Int)).bind fun y3 =>
 (f43 (b3g0,()) ([t2,t8]:List Int)).bind fun y4 =>
 (f44 y3.1 y4.1).bind fun y5 =>
 bif (!y5.1) then
 (f45 ([t2,t8]:List Int) y3.1 y4.1).bind fun y6 =>
 bif (decide (r17015024.length + ([y6.1]:List Yr).length≤appLim)) then f41_l4x t2 k0t5 b2g0 b3g0 k (IntKind.wrap .i64 (t8 + 1)) (r17015024++([y6.1]:List Yr)) else none
 else
 f41_l4x t2 k0t5 b2g0 b3g0 k (IntKind.wrap .i64 (t8 + 1)) r17015024
 else
 some ((t2,()),((k0t5,()),()),((b2g0,()),(b3g0,()),(),(),r17015024,()))
def f41_l4x_n (n:Nat) (x:f41_l4x_head.den):=f41_l4x x.1.1 x.2.1.1.1 x.2.2.1.1 x.2.2.2.1.1 n x.1.2.1 x.2.2.2.2.2.2.1
def f41_l4x_spec:LSpec:={ head:=f41_l4x_head,outs:=f41_l4x_outs,fn:=fun x=>f41_l4x_n (((24:Int) - x.1.2.1).toNat + 1) x }
def f41_l1x_head:Ann:={ env:=[(0,.cst (.fn 42 [(.ptr 2 0 []),(.ptr 3 0 []),(.ptr 6 0 [])])),(2,YI)],stk:=[[(4,cP 4),(5,YI),(6,cP 6)]],bxs:=[(2,.var [.ty (.arr 8 (.sl yN))]),(3,.var [.ty (.arr 8 (.sl yN))]),(6,.var [.cst (.row 17015024 .whole)]),(4,.var [.cst .nils]),(17015024,.row yR false)] }
def f41_l1x_outs:List (Ex × Ann):=[((.exit 0),{ env:=[],stk:=[[(4,cP 4),(5,YI),(6,cP 6)]],bxs:=[(4,.var [.cst .nils]),(6,.var [.cst (.row 17015024 .whole)]),(17015024,.row yR false)] })]
def f41_l1x:Nat→Int→Int→(List (List Yn))→(List (List Yn))→(List Yr)→Option (outDen f41_l1x_outs)
 | 0,_,_,_,_,_=>none
 | k + 1,t2,k0t5,b2g0,b3g0,r17015024 =>
 bif (decide (t2≤(7:Int))) then
 (f41_l4x t2 k0t5 b2g0 b3g0 (((24:Int) - (0:Int)).toNat + 1) (0:Int) r17015024).bind fun o7 =>
 let u8:Int:=o7.1.1
 let u9:Int:=o7.2.1.1.1
 let u10:(List (List Yn)):=o7.2.2.1.1
 let u11:(List (List Yn)):=o7.2.2.2.1.1
 let u12:(List Yr):=o7.2.2.2.2.2.2.1
 f41_l1x k (IntKind.wrap .i64 (u8 + 1)) u9 u10 u11 u12
 else
 some ((),((k0t5,()),()),((),(),r17015024,()))
def f41_l1x_n (n:Nat) (x:f41_l1x_head.den):=f41_l1x n x.1.1 x.2.1.1.1 x.2.2.1.1 x.2.2.2.1.1 x.2.2.2.2.2.2.1
def f41_l1x_spec:LSpec:={ thaws:=[.cell 6 0 17015024 yR],head:=f41_l1x_head,outs:=f41_l1x_outs,fn:=fun x=>f41_l1x_n (((8:Int) - x.1.1).toNat + 1) x }
def f12 (a0:Yc) (a1:Yc):Option (((List Yr) × Unit) × Int × Unit) :=
 (f35 a0).bind fun y1 =>
 bif (!y1.1) then
 some (([],()),(160:Int),())
 else
 (f35 a1).bind fun y2 =>
 bif (!y2.1) then
 some (([],()),(160:Int),())
 else
 (f41_l1x (((8:Int) - (1:Int)).toNat + 1) (1:Int) (0:Int) a0.1 a1.1 []).bind fun o13 =>
 let u15:(List Yr):=o13.2.2.2.2.1
 some ((u15,()),(0:Int),())
def f12_spec:PSpec:={ args:=[yC,yC],res:=[(.pair (.sl yR) .unit),yI],fn:=fun x=>f12 x.1 x.2.1 }
noncomputable def f12_code:Code:=Tryz.f12.body.getD .skip
noncomputable def f12_code_41:Code:=Tryz.f41.body.getD .skip
noncomputable def f12_env:Env0:={ C:=cfgF,P:=[(35,f35_spec),(43,f43_spec),(44,f44_spec),(45,f45_spec)],L:=[(⟨11,17000,41,4⟩,f41_l4x_spec),(⟨11,17000,41,1⟩,f41_l1x_spec)],F:=[(12,Tryz.f12),(41,Tryz.f41),(42,Tryz.f42)] }
theorem f41_l4x_ok:LoopOK f12_env 11 41 17000 (loopAt f12_code_41 4) f41_l4x_spec :=
 loopOK_of (by kernel_rfl) f41_l4x_n (fun x o h=>⟨_,h⟩) (fun x=>by kernel_rfl) (fun n x=>by kernel_rfl)
theorem f41_l1x_ok:LoopOK f12_env 11 41 17000 (loopAt f12_code_41 1) f41_l1x_spec :=
 loopOK_of (by kernel_rfl) f41_l1x_n (fun x o h=>⟨_,h⟩) (fun x=>by kernel_rfl) (fun n x=>by kernel_rfl)
theorem f12_run:zR f12_env 12 Tryz.f12 f12_code f12_spec:=by intro x; kernel_rfl
theorem f12_enter:zQ 12:=zN Tryz.func12
theorem f12_envOK:zE f12_env:=zO cfgF_ok ⟨⟨f35_pure,f35_enter⟩,⟨f43_pure,f43_enter⟩,⟨f44_pure,f44_enter⟩,⟨f45_pure,f45_enter⟩,trivial⟩ trivial ⟨zK Tryz.func12,zK Tryz.func41,zK Tryz.func42,trivial⟩ ⟨⟨Tryz.f41,f12_code_41,rfl,rfl,f41_l4x_ok⟩,⟨Tryz.f41,f12_code_41,rfl,rfl,f41_l1x_ok⟩,trivial⟩
theorem f12_pure:zU 12 f12_spec:=zP f12_envOK Tryz.f12 f12_code f12_run
def f13_l4_head:Ann:={ env:=[(2,cP 2),(3,cP 3),(5,YI)],bxs:=[(2,.var [.ty (.sl yR)]),(3,.var [.ty (.sl yR)])] }
def f13_l4_outs:List (Ex × Ann):=[((.exit 0),{ env:=[] }),(.ret,{ env:=[(4,.ty .bool)] })]
def f13_l4 (b2g0:(List Yr)) (b3g0:(List Yr)):Nat→Int→Option (outDen f13_l4_outs)
 | 0,_=>none
 | k + 1,t5 =>
 bif (decide (t5 < (b2g0.length:Int))) then
 bif (inR t5 b2g0.length) then
 bif (inR t5 b3g0.length) then
 let v2:Int:=(at_ yR b2g0 t5).1
 let v3:Int:=(at_ yR b3g0 t5).1
 bif (decide (v2 ≠ v3)) then
 some (.inr ((false,()),(),()))
 else
 let v4:Int:=(at_ yR b2g0 t5).2.1
 let v5:Int:=(at_ yR b3g0 t5).2.1
 bif (decide (v4 ≠ v5)) then
 some (.inr ((false,()),(),()))
 else
 let v6:Bool:=(at_ yR b2g0 t5).2.2.1
 let v7:Bool:=(at_ yR b3g0 t5).2.2.1
 bif (!(decide (v6 = v7))) then
 some (.inr ((false,()),(),()))
 else
 let v8:Bool:=(at_ yR b2g0 t5).2.2.2.2.1
 let v9:Bool:=(at_ yR b3g0 t5).2.2.2.2.1
 bif (!(decide (v8 = v9))) then
 some (.inr ((false,()),(),()))
 else
 let v10:(List Int):=(at_ yR b2g0 t5).2.2.2.1
 let v11:(List Int):=(at_ yR b3g0 t5).2.2.2.1
 (f26 v10 v11).bind fun y12 =>
 bif (!y12.1) then
 some (.inr ((false,()),(),()))
 else
 let v13:(List Int):=(at_ yR b2g0 t5).2.2.2.2.2.1
 let v14:(List Int):=(at_ yR b3g0 t5).2.2.2.2.2.1
 (f26 v13 v14).bind fun y15 =>
 bif (!y15.1) then
 some (.inr ((false,()),(),()))
 else
 f13_l4 b2g0 b3g0 k (IntKind.wrap .i64 (t5 + 1))
 else none
 else none
 else
 some (.inl ((),(),()))
def f13_l4_n (n:Nat) (x:f13_l4_head.den):=f13_l4 x.2.2.1.1 x.2.2.2.1.1 n x.1.1
def f13_l4_spec:LSpec:={ head:=f13_l4_head,outs:=f13_l4_outs,fn:=fun x=>f13_l4_n (((x.2.2.1.1.length:Int) - x.1.1).toNat + 1) x }
def f13 (a0:((List Yr) × Unit)) (a1:((List Yr) × Unit)):Option (Bool × Unit) :=
 let v1:Bool:=(decide ((a0.1.length:Int) ≠ (a1.1.length:Int)))
 bif v1 then
 some (false,())
 else
 (f13_l4 a0.1 a1.1 (((a0.1.length:Int) - (0:Int)).toNat + 1) (0:Int)).bind fun o16 =>
 Sum.elim (fun o17 =>
 some (true,())) (fun o18 =>
 let u19:Bool:=o18.1.1
 some (u19,())) o16
def f13_spec:PSpec:={ args:=[(.pair (.sl yR) .unit),(.pair (.sl yR) .unit)],res:=[.bool],fn:=fun x=>f13 x.1 x.2.1 }
noncomputable def f13_code:Code:=Tryz.f13.body.getD .skip
noncomputable def f13_env:Env0:={ C:=cfgF,P:=[(26,f26_spec)],L:=[(⟨12,0,13,4⟩,f13_l4_spec)],F:=[(13,Tryz.f13)] }
theorem f13_l4_ok:LoopOK f13_env 12 13 0 (loopAt f13_code 4) f13_l4_spec :=
 loopOK_of (by kernel_rfl) f13_l4_n (fun x o h=>⟨_,h⟩) (fun x=>by kernel_rfl) (fun n x=>by kernel_rfl)
theorem f13_run:zR f13_env 13 Tryz.f13 f13_code f13_spec:=by intro x; kernel_rfl
theorem f13_enter:zQ 13:=zN Tryz.func13
theorem f13_envOK:zE f13_env:=zO cfgF_ok ⟨⟨f26_pure,f26_enter⟩,trivial⟩ trivial ⟨zK Tryz.func13,trivial⟩ ⟨⟨Tryz.f13,f13_code,rfl,rfl,f13_l4_ok⟩,trivial⟩
theorem f13_pure:zU 13 f13_spec:=zP f13_envOK Tryz.f13 f13_code f13_run
def f52 (a0:Yr):Option ((Bool × ((List Int) × Unit)) × Unit) :=
 some ((a0.2.2.1,(a0.2.2.2.1,())),())
def f52_spec:PSpec:={ args:=[yR],res:=[(.pair .bool (.pair (.sl yI) .unit))],fn:=fun x=>f52 x.1 }
noncomputable def f52_code:Code:=Tryz.f52.body.getD .skip
noncomputable def f52_env:Env0:={ C:=cfgF,P:=[],L:=[],F:=[(52,Tryz.f52)] }
theorem f52_run:zR f52_env 52 Tryz.f52 f52_code f52_spec:=by intro x; kernel_rfl
theorem f52_enter:zQ 52:=zN Tryz.func52
theorem f52_envOK:zE f52_env:=zO cfgF_ok trivial trivial ⟨zK Tryz.func52,trivial⟩ trivial
theorem f52_pure:zU 52 f52_spec:=zP f52_envOK Tryz.f52 f52_code f52_run
def f53 (a0:Yr):Option ((Bool × ((List Int) × Unit)) × Unit) :=
 some (a0.2.2.2.2,())
def f53_spec:PSpec:={ args:=[yR],res:=[(.pair .bool (.pair (.sl yI) .unit))],fn:=fun x=>f53 x.1 }
noncomputable def f53_code:Code:=Tryz.f53.body.getD .skip
noncomputable def f53_env:Env0:={ C:=cfgF,P:=[],L:=[],F:=[(53,Tryz.f53)] }
theorem f53_run:zR f53_env 53 Tryz.f53 f53_code f53_spec:=by intro x; kernel_rfl
theorem f53_enter:zQ 53:=zN Tryz.func53
theorem f53_envOK:zE f53_env:=zO cfgF_ok trivial trivial ⟨zK Tryz.func53,trivial⟩ trivial
theorem f53_pure:zU 53 f53_spec:=zP f53_envOK Tryz.f53 f53_code f53_run
def f56 (a0:Yr):Option (Bool × Unit) :=
 bif (decide (a0.1 ≥ (1:Int))) then
 bif (decide (a0.1≤(7:Int))) then
 bif (decide (a0.2.1 ≥ (0:Int))) then
 bif a0.2.2.1 then
 bif a0.2.2.2.2.1 then
 bif (decide (a0.2.1 < (24:Int))) then
 (f65 a0.2.2.2.1).bind fun y1 =>
 bif y1.1 then
 (f65 a0.2.2.2.2.2.1).bind fun y2 =>
 bif y2.1 then
 (f52 a0).bind fun y3 =>
 (f53 a0).bind fun y4 =>
 (f44 y3.1 y4.1).bind fun y5 =>
 some ((!y5.1),())
 else
 some (false,())
 else
 some (false,())
 else
 some (false,())
 else
 let v6:Bool:=(decide ((a0.2.2.2.2.2.1.length:Int) = (0:Int)))
 bif (decide (a0.2.1 < (24:Int))) then
 bif v6 then
 (f65 a0.2.2.2.1).bind fun y7 =>
 bif y7.1 then
 (f65 a0.2.2.2.2.2.1).bind fun y8 =>
 bif y8.1 then
 (f52 a0).bind fun y9 =>
 (f53 a0).bind fun y10 =>
 (f44 y9.1 y10.1).bind fun y11 =>
 some ((!y11.1),())
 else
 some (false,())
 else
 some (false,())
 else
 some (false,())
 else
 some (false,())
 else
 let v12:Bool:=(decide ((a0.2.2.2.1.length:Int) = (0:Int)))
 bif v12 then
 bif a0.2.2.2.2.1 then
 bif (decide (a0.2.1 < (24:Int))) then
 (f65 a0.2.2.2.1).bind fun y13 =>
 bif y13.1 then
 (f65 a0.2.2.2.2.2.1).bind fun y14 =>
 bif y14.1 then
 (f52 a0).bind fun y15 =>
 (f53 a0).bind fun y16 =>
 (f44 y15.1 y16.1).bind fun y17 =>
 some ((!y17.1),())
 else
 some (false,())
 else
 some (false,())
 else
 some (false,())
 else
 let v18:Bool:=(decide ((a0.2.2.2.2.2.1.length:Int) = (0:Int)))
 bif (decide (a0.2.1 < (24:Int))) then
 bif v18 then
 (f65 a0.2.2.2.1).bind fun y19 =>
 bif y19.1 then
 (f65 a0.2.2.2.2.2.1).bind fun y20 =>
 bif y20.1 then
 (f52 a0).bind fun y21 =>
 (f53 a0).bind fun y22 =>
 (f44 y21.1 y22.1).bind fun y23 =>
 some ((!y23.1),())
 else
 some (false,())
 else
 some (false,())
 else
 some (false,())
 else
 some (false,())
 else
 bif (decide (a0.2.1 < (24:Int))) then
 some (false,())
 else
 some (false,())
 else
 bif a0.2.2.1 then
 bif a0.2.2.2.2.1 then
 some (false,())
 else
 let v24:Bool:=(decide ((a0.2.2.2.2.2.1.length:Int) = (0:Int)))
 some (false,())
 else
 let v25:Bool:=(decide ((a0.2.2.2.1.length:Int) = (0:Int)))
 bif v25 then
 bif a0.2.2.2.2.1 then
 some (false,())
 else
 let v26:Bool:=(decide ((a0.2.2.2.2.2.1.length:Int) = (0:Int)))
 some (false,())
 else
 some (false,())
 else
 bif a0.2.2.1 then
 bif a0.2.2.2.2.1 then
 some (false,())
 else
 let v27:Bool:=(decide ((a0.2.2.2.2.2.1.length:Int) = (0:Int)))
 some (false,())
 else
 let v28:Bool:=(decide ((a0.2.2.2.1.length:Int) = (0:Int)))
 bif v28 then
 bif a0.2.2.2.2.1 then
 some (false,())
 else
 let v29:Bool:=(decide ((a0.2.2.2.2.2.1.length:Int) = (0:Int)))
 some (false,())
 else
 some (false,())
 else
 bif a0.2.2.1 then
 bif a0.2.2.2.2.1 then
 some (false,())
 else
 let v30:Bool:=(decide ((a0.2.2.2.2.2.1.length:Int) = (0:Int)))
 some (false,())
 else
 let v31:Bool:=(decide ((a0.2.2.2.1.length:Int) = (0:Int)))
 bif v31 then
 bif a0.2.2.2.2.1 then
 some (false,())
 else
 let v32:Bool:=(decide ((a0.2.2.2.2.2.1.length:Int) = (0:Int)))
 some (false,())
 else
 some (false,())
def f56_spec:PSpec:={ args:=[yR],res:=[.bool],fn:=fun x=>f56 x.1 }
noncomputable def f56_code:Code:=Tryz.f56.body.getD .skip
noncomputable def f56_env:Env0:={ C:=cfgF,P:=[(44,f44_spec),(52,f52_spec),(53,f53_spec),(65,f65_spec)],L:=[],F:=[(56,Tryz.f56)] }
theorem f56_run:zR f56_env 56 Tryz.f56 f56_code f56_spec:=by intro x; kernel_rfl
theorem f56_enter:zQ 56:=zN Tryz.func56
theorem f56_envOK:zE f56_env:=zO cfgF_ok ⟨⟨f44_pure,f44_enter⟩,⟨f52_pure,f52_enter⟩,⟨f53_pure,f53_enter⟩,⟨f65_pure,f65_enter⟩,trivial⟩ trivial ⟨zK Tryz.func56,trivial⟩ trivial
theorem f56_pure:zU 56 f56_spec:=zP f56_envOK Tryz.f56 f56_code f56_run
def f99 (a0:Int):Option (Bool × Unit) :=
 some ((decide (a0 ≠ a0)),())
def f99_spec:PSpec:={ args:=[yI],res:=[.bool],fn:=fun x=>f99 x.1 }
noncomputable def f99_code:Code:=Tryz.f99.body.getD .skip
noncomputable def f99_env:Env0:={ C:=cfgF,P:=[],L:=[],F:=[(99,Tryz.f99)] }
theorem f99_run:zR f99_env 99 Tryz.f99 f99_code f99_spec:=by intro x; kernel_rfl
theorem f99_enter:zQ 99:=zN Tryz.func99
theorem f99_envOK:zE f99_env:=zO cfgF_ok trivial trivial ⟨zK Tryz.func99,trivial⟩ trivial
theorem f99_pure:zU 99 f99_spec:=zP f99_envOK Tryz.f99 f99_code f99_run
def f84 (a0:Int) (a1:Int):Option (Int × Unit) :=
 (f99 a0).bind fun y1 =>
 (f99 a1).bind fun y2 =>
 bif y1.1 then
 bif y2.1 then
 some ((0:Int),())
 else
 some ((-1:Int),())
 else
 bif y2.1 then
 some ((1:Int),())
 else
 bif (decide (a0 < a1)) then
 some ((-1:Int),())
 else
 bif (decide (a0 > a1)) then
 some ((1:Int),())
 else
 some ((0:Int),())
def f84_spec:PSpec:={ args:=[yI,yI],res:=[yI],fn:=fun x=>f84 x.1 x.2.1 }
noncomputable def f84_code:Code:=Tryz.f84.body.getD .skip
noncomputable def f84_env:Env0:={ C:=cfgF,P:=[(99,f99_spec)],L:=[],F:=[(84,Tryz.f84)] }
theorem f84_run:zR f84_env 84 Tryz.f84 f84_code f84_spec:=by intro x; kernel_rfl
theorem f84_enter:zQ 84:=zN Tryz.func84
theorem f84_envOK:zE f84_env:=zO cfgF_ok ⟨⟨f99_pure,f99_enter⟩,trivial⟩ trivial ⟨zK Tryz.func84,trivial⟩ trivial
theorem f84_pure:zU 84 f84_spec:=zP f84_envOK Tryz.f84 f84_code f84_run
def f57_l2x_head:Ann:={ env:=[(0,.cst (.vsl 6 0 2 0 (cutLen 2 none none))),(1,.cst (.vsl 7 0 2 0 (cutLen 2 none none))),(9,.cst (.vsl 6 0 2 0 (cutLen 2 none none))),(10,YI),(11,YI)],stk:=[[(1,cP 1),(6,cP 6),(7,cP 7),(9,.ty (.sl yR)),(10,YI),(11,YI),(37,.ty (.arr 2 yI)),(38,.ty (.arr 2 yI)),(39,.ty .bool),(40,.ty .bool),(41,.cst (.vsl 6 0 2 0 (cutLen 2 none none))),(42,.cst (.vsl 7 0 2 0 (cutLen 2 none none)))]],bxs:=[(6,.var [.ty (.arr 2 yI)]),(7,.var [.ty (.arr 2 yI)]),(1,.var [.ty (.sl yR)])] }
def f57_l2x_outs:List (Ex × Ann):=[((.exit 0),{ env:=[(0,.cst (.vsl 6 0 2 0 (cutLen 2 none none))),(1,.cst (.vsl 7 0 2 0 (cutLen 2 none none)))],stk:=[[(1,cP 1),(6,cP 6),(7,cP 7),(9,.ty (.sl yR)),(10,YI),(11,YI),(37,.ty (.arr 2 yI)),(38,.ty (.arr 2 yI)),(39,.ty .bool),(40,.ty .bool),(41,.cst (.vsl 6 0 2 0 (cutLen 2 none none))),(42,.cst (.vsl 7 0 2 0 (cutLen 2 none none)))]],bxs:=[(6,.var [.ty (.arr 2 yI)]),(7,.var [.ty (.arr 2 yI)]),(1,.var [.ty (.sl yR)])] }),(.ret,{ env:=[(4,YI)],stk:=[[(1,cP 1),(6,cP 6),(7,cP 7),(9,.ty (.sl yR)),(10,YI),(11,YI),(37,.ty (.arr 2 yI)),(38,.ty (.arr 2 yI)),(39,.ty .bool),(40,.ty .bool),(41,.cst (.vsl 6 0 2 0 (cutLen 2 none none))),(42,.cst (.vsl 7 0 2 0 (cutLen 2 none none)))]],bxs:=[(1,.var [.ty (.sl yR)]),(6,.var [.ty (.arr 2 yI)]),(7,.var [.ty (.arr 2 yI)])] })]
def f57_l2x (t10:Int) (k0t9:(List Yr)) (k0t10:Int) (k0t11:Int) (k0t37:(List Int)) (k0t38:(List Int)) (k0t39:Bool) (k0t40:Bool) (b6g0:(List Int)) (b7g0:(List Int)) (b1g0:(List Yr)):Nat→Int→Option (outDen f57_l2x_outs)
 | 0,_=>none
 | k + 1,t11 =>
 bif (decide (t11 < t10)) then
 bif (inR t11 (cutLen 2 none none)) then
 let v7:Bool:=(decide (t11 ≥ (((cutLen 2 none none):Nat):Int)))
 bif v7 then
 some (.inr (((1:Int),()),((k0t9,k0t10,k0t11,k0t37,k0t38,k0t39,k0t40,()),()),((b1g0,()),(b6g0,()),(b7g0,()),())))
 else
 bif (inR t11 (cutLen 2 none none)) then
 (f84 (at_ yI b6g0 (0 + t11)) (at_ yI b7g0 (0 + t11))).bind fun y8 =>
 bif (decide (y8.1 ≠ (0:Int))) then
 some (.inr ((y8.1,()),((k0t9,k0t10,k0t11,k0t37,k0t38,k0t39,k0t40,()),()),((b1g0,()),(b6g0,()),(b7g0,()),())))
 else
 f57_l2x t10 k0t9 k0t10 k0t11 k0t37 k0t38 k0t39 k0t40 b6g0 b7g0 b1g0 k (IntKind.wrap .i64 (t11 + 1))
 else none
 else none
 else
 some (.inl ((),((k0t9,k0t10,k0t11,k0t37,k0t38,k0t39,k0t40,()),()),((b6g0,()),(b7g0,()),(b1g0,()),())))
def f57_l2x_n (n:Nat) (x:f57_l2x_head.den):=f57_l2x x.1.1 x.2.1.1.1 x.2.1.1.2.1 x.2.1.1.2.2.1 x.2.1.1.2.2.2.1 x.2.1.1.2.2.2.2.1 x.2.1.1.2.2.2.2.2.1 x.2.1.1.2.2.2.2.2.2.1 x.2.2.1.1 x.2.2.2.1.1 x.2.2.2.2.1.1 n x.1.2.1
def f57_l2x_spec:LSpec:={ head:=f57_l2x_head,outs:=f57_l2x_outs,fn:=fun x=>f57_l2x_n ((x.1.1 - x.1.2.1).toNat + 1) x }
def f19_l2_head:Ann:={ env:=[(1,cP 1),(9,.ty (.sl yR)),(10,YI),(11,YI)],bxs:=[(1,.var [.ty (.sl yR)])] }
def f19_l2_outs:List (Ex × Ann):=[((.exit 0),{ env:=[] }),(.ret,{ env:=[(2,.ty .bool)] })]
def f19_l2:Nat→(List Yr)→Int→Int→(List Yr)→Option (outDen f19_l2_outs)
 | 0,_,_,_,_=>none
 | k + 1,t9,t10,t11,b1g0 =>
 bif (decide (t11 < t10)) then
 bif (inR t11 t9.length) then
 (f56 (at_ yR t9 t11)).bind fun y1 =>
 bif (!y1.1) then
 some (.inr ((false,()),(),()))
 else
 bif (decide (t11 > (0:Int))) then
 bif (inR (IntKind.wrap .i64 (t11 - (1:Int))) b1g0.length) then
 let v2:Int:=(at_ yR b1g0 (IntKind.wrap .i64 (t11 - (1:Int)))).1
 let v3:Int:=(at_ yR b1g0 (IntKind.wrap .i64 (t11 - (1:Int)))).2.1
 let v4:Int:=(at_ yR t9 t11).1
 let v5:Int:=(at_ yR t9 t11).2.1
 let w3:Option (outDen f19_l2_outs):=(
 let v6:Bool:=(decide (([v2,v3]:List Int) = ([v4,v5]:List Int)))
 let w1:Option (outDen f19_l2_outs):=(
 bif v6 then
 some (.inr ((false,()),(),()))
 else
 (f57_l2x (((cutLen 2 none none):Nat):Int) t9 t10 t11 ([v2,v3]:List Int) ([v4,v5]:List Int) v6 false ([v2,v3]:List Int) ([v4,v5]:List Int) b1g0 (((((cutLen 2 none none):Nat):Int) - (0:Int)).toNat + 1) (0:Int)).bind fun o9 =>
 Sum.elim (fun o10 =>
 let u12:(List Yr):=o10.2.1.1.1
 let u13:Int:=o10.2.1.1.2.1
 let u14:Int:=o10.2.1.1.2.2.1
 let u18:Bool:=o10.2.1.1.2.2.2.2.2.2.1
 let u21:(List Yr):=o10.2.2.2.2.1.1
 let v22:Bool:=(decide ((((cutLen 2 none none):Nat):Int) < (((cutLen 2 none none):Nat):Int)))
 bif v22 then
 bif u18 then
 some (.inr ((false,()),(),()))
 else
 f19_l2 k u12 u13 (IntKind.wrap .i64 (u14 + 1)) u21
 else
 bif u18 then
 some (.inr ((false,()),(),()))
 else
 f19_l2 k u12 u13 (IntKind.wrap .i64 (u14 + 1)) u21) (fun o11 =>
 let u23:Int:=o11.1.1
 let u24:(List Yr):=o11.2.1.1.1
 let u25:Int:=o11.2.1.1.2.1
 let u26:Int:=o11.2.1.1.2.2.1
 let u30:Bool:=o11.2.1.1.2.2.2.2.2.2.1
 let u31:(List Yr):=o11.2.2.1.1
 bif u30 then
 some (.inr ((false,()),(),()))
 else
 bif (decide (u23 > (0:Int))) then
 some (.inr ((false,()),(),()))
 else
 f19_l2 k u24 u25 (IntKind.wrap .i64 (u26 + 1)) u31) o9)
 same w1 w1)
 same w3 w3
 else none
 else
 f19_l2 k t9 t10 (IntKind.wrap .i64 (t11 + 1)) b1g0
 else none
 else
 some (.inl ((),(),()))
def f19_l2_n (n:Nat) (x:f19_l2_head.den):=f19_l2 n x.1.1 x.1.2.1 x.1.2.2.1 x.2.2.1.1
def f19_l2_spec:LSpec:={ head:=f19_l2_head,outs:=f19_l2_outs,fn:=fun x=>f19_l2_n ((x.1.2.1 - x.1.2.2.1).toNat + 1) x }
def f19 (a0:((List Yr) × Unit)):Option (Bool × Unit) :=
 (f19_l2 (((a0.1.length:Int) - (0:Int)).toNat + 1) a0.1 (a0.1.length:Int) (0:Int) a0.1).bind fun o116 =>
 Sum.elim (fun o117 =>
 some (true,())) (fun o118 =>
 let u119:Bool:=o118.1.1
 some (u119,())) o116
def f19_spec:PSpec:={ args:=[(.pair (.sl yR) .unit)],res:=[.bool],fn:=fun x=>f19 x.1 }
noncomputable def f19_code:Code:=Tryz.f19.body.getD .skip
noncomputable def f19_code_57:Code:=Tryz.f57.body.getD .skip
noncomputable def f19_env:Env0:={ C:=cfgF,P:=[(56,f56_spec),(84,f84_spec)],L:=[(⟨11,43000,57,2⟩,f57_l2x_spec),(⟨12,0,19,2⟩,f19_l2_spec)],F:=[(19,Tryz.f19),(57,Tryz.f57)],I:=[],tot:=[(19,[9])],sym:=true }
theorem f57_l2x_ok:LoopOK f19_env 11 57 43000 (loopAt f19_code_57 2) f57_l2x_spec :=
 loopOK_of (by kernel_rfl) f57_l2x_n (fun x o h=>⟨_,h⟩) (fun x=>by kernel_rfl) (fun n x=>by kernel_rfl)
theorem f19_l2_ok:LoopOK f19_env 12 19 0 (loopAt f19_code 2) f19_l2_spec :=
 loopOK_of (by kernel_rfl) f19_l2_n (fun x o h=>⟨_,h⟩) (fun x=>by kernel_rfl) (fun n x=>by kernel_rfl)
theorem f19_run:zR f19_env 19 Tryz.f19 f19_code f19_spec:=by intro x; kernel_rfl
theorem f19_enter:zQ 19:=zN Tryz.func19
theorem f19_envOK:zE f19_env:=zO cfgF_ok ⟨⟨f56_pure,f56_enter⟩,⟨f84_pure,f84_enter⟩,trivial⟩ trivial ⟨zK Tryz.func19,zK Tryz.func57,trivial⟩ ⟨⟨Tryz.f57,f19_code_57,rfl,rfl,f57_l2x_ok⟩,⟨Tryz.f19,f19_code,rfl,rfl,f19_l2_ok⟩,trivial⟩
theorem f19_pure:zU 19 f19_spec:=zP f19_envOK Tryz.f19 f19_code f19_run
def f50 (a0:Yr):Option ((List Int) × Unit) :=
 some (([a0.1,a0.2.1]:List Int),())
def f50_spec:PSpec:={ args:=[yR],res:=[(.arr 2 yI)],fn:=fun x=>f50 x.1 }
noncomputable def f50_code:Code:=Tryz.f50.body.getD .skip
noncomputable def f50_env:Env0:={ C:=cfgF,P:=[],L:=[],F:=[(50,Tryz.f50)] }
theorem f50_run:zR f50_env 50 Tryz.f50 f50_code f50_spec:=by intro x; kernel_rfl
theorem f50_enter:zQ 50:=zN Tryz.func50
theorem f50_envOK:zE f50_env:=zO cfgF_ok trivial trivial ⟨zK Tryz.func50,trivial⟩ trivial
theorem f50_pure:zU 50 f50_spec:=zP f50_envOK Tryz.f50 f50_code f50_run
def f58 (a0:Yr):Option (Bool × Unit) :=
 bif (decide (a0.1 < (1:Int))) then
 some (false,())
 else
 bif (decide (a0.1 > (7:Int))) then
 some (false,())
 else
 bif (decide (a0.2.1 < (0:Int))) then
 some (false,())
 else
 bif (decide (a0.2.1 ≥ (24:Int))) then
 some (false,())
 else
 (f81 a0.2.2.2.1).bind fun y1 =>
 bif (!y1.1) then
 some (false,())
 else
 (f81 a0.2.2.2.2.2.1).bind fun y2 =>
 bif (!y2.1) then
 some (false,())
 else
 bif a0.2.2.1 then
 bif a0.2.2.2.2.1 then
 bif a0.2.2.1 then
 (f40 a0.2.2.1 a0.2.2.2.1 a0.2.2.2.2.1 a0.2.2.2.2.2.1).bind fun y3 =>
 some ((!y3.1),())
 else
 bif a0.2.2.2.2.1 then
 (f40 a0.2.2.1 a0.2.2.2.1 a0.2.2.2.2.1 a0.2.2.2.2.2.1).bind fun y4 =>
 some ((!y4.1),())
 else
 some (false,())
 else
 let v5:Bool:=(decide ((a0.2.2.2.2.2.1.length:Int) = (0:Int)))
 bif v5 then
 bif a0.2.2.1 then
 (f40 a0.2.2.1 a0.2.2.2.1 a0.2.2.2.2.1 a0.2.2.2.2.2.1).bind fun y6 =>
 some ((!y6.1),())
 else
 bif a0.2.2.2.2.1 then
 (f40 a0.2.2.1 a0.2.2.2.1 a0.2.2.2.2.1 a0.2.2.2.2.2.1).bind fun y7 =>
 some ((!y7.1),())
 else
 some (false,())
 else
 some (false,())
 else
 let v8:Bool:=(decide ((a0.2.2.2.1.length:Int) = (0:Int)))
 bif v8 then
 bif a0.2.2.2.2.1 then
 bif a0.2.2.1 then
 (f40 a0.2.2.1 a0.2.2.2.1 a0.2.2.2.2.1 a0.2.2.2.2.2.1).bind fun y9 =>
 some ((!y9.1),())
 else
 bif a0.2.2.2.2.1 then
 (f40 a0.2.2.1 a0.2.2.2.1 a0.2.2.2.2.1 a0.2.2.2.2.2.1).bind fun y10 =>
 some ((!y10.1),())
 else
 some (false,())
 else
 let v11:Bool:=(decide ((a0.2.2.2.2.2.1.length:Int) = (0:Int)))
 bif v11 then
 bif a0.2.2.1 then
 (f40 a0.2.2.1 a0.2.2.2.1 a0.2.2.2.2.1 a0.2.2.2.2.2.1).bind fun y12 =>
 some ((!y12.1),())
 else
 bif a0.2.2.2.2.1 then
 (f40 a0.2.2.1 a0.2.2.2.1 a0.2.2.2.2.1 a0.2.2.2.2.2.1).bind fun y13 =>
 some ((!y13.1),())
 else
 some (false,())
 else
 some (false,())
 else
 some (false,())
def f58_spec:PSpec:={ args:=[yR],res:=[.bool],fn:=fun x=>f58 x.1 }
noncomputable def f58_code:Code:=Tryz.f58.body.getD .skip
noncomputable def f58_env:Env0:={ C:=cfgF,P:=[(40,f40_spec),(81,f81_spec)],L:=[],F:=[(58,Tryz.f58)] }
theorem f58_run:zR f58_env 58 Tryz.f58 f58_code f58_spec:=by intro x; kernel_rfl
theorem f58_enter:zQ 58:=zN Tryz.func58
theorem f58_envOK:zE f58_env:=zO cfgF_ok ⟨⟨f40_pure,f40_enter⟩,⟨f81_pure,f81_enter⟩,trivial⟩ trivial ⟨zK Tryz.func58,trivial⟩ trivial
theorem f58_pure:zU 58 f58_spec:=zP f58_envOK Tryz.f58 f58_code f58_run
def f59 (a0:Yr) (a1:Yr):Option (Bool × Unit) :=
 bif (decide (a0.1 < a1.1)) then
 some (true,())
 else
 bif (decide (a0.1 = a1.1)) then
 some ((decide (a0.2.1 < a1.2.1)),())
 else
 some (false,())
def f59_spec:PSpec:={ args:=[yR,yR],res:=[.bool],fn:=fun x=>f59 x.1 x.2.1 }
noncomputable def f59_code:Code:=Tryz.f59.body.getD .skip
noncomputable def f59_env:Env0:={ C:=cfgF,P:=[],L:=[],F:=[(59,Tryz.f59)] }
theorem f59_run:zR f59_env 59 Tryz.f59 f59_code f59_spec:=by intro x; kernel_rfl
theorem f59_enter:zQ 59:=zN Tryz.func59
theorem f59_envOK:zE f59_env:=zO cfgF_ok trivial trivial ⟨zK Tryz.func59,trivial⟩ trivial
theorem f59_pure:zU 59 f59_spec:=zP f59_envOK Tryz.f59 f59_code f59_run
def f20_l2_head:Ann:={ env:=[(1,cP 1),(3,YI)],bxs:=[(1,.var [.ty (.sl yR)])] }
def f20_l2_outs:List (Ex × Ann):=[((.exit 0),{ env:=[] }),(.ret,{ env:=[(2,.ty .bool)] })]
def f20_l2 (b1g0:(List Yr)):Nat→Int→Option (outDen f20_l2_outs)
 | 0,_=>none
 | k + 1,t3 =>
 bif (decide (t3 < (b1g0.length:Int))) then
 bif (inR t3 b1g0.length) then
 (f58 (at_ yR b1g0 t3)).bind fun y1 =>
 bif (!y1.1) then
 some (.inr ((false,()),(),()))
 else
 bif (decide (t3 > (0:Int))) then
 bif (inR (IntKind.wrap .i64 (t3 - (1:Int))) b1g0.length) then
 bif (inR t3 b1g0.length) then
 (f59 (at_ yR b1g0 (IntKind.wrap .i64 (t3 - (1:Int)))) (at_ yR b1g0 t3)).bind fun y2 =>
 bif (!y2.1) then
 some (.inr ((false,()),(),()))
 else
 f20_l2 b1g0 k (IntKind.wrap .i64 (t3 + 1))
 else none
 else none
 else
 f20_l2 b1g0 k (IntKind.wrap .i64 (t3 + 1))
 else none
 else
 some (.inl ((),(),()))
def f20_l2_n (n:Nat) (x:f20_l2_head.den):=f20_l2 x.2.2.1.1 n x.1.1
def f20_l2_spec:LSpec:={ head:=f20_l2_head,outs:=f20_l2_outs,fn:=fun x=>f20_l2_n (((x.2.2.1.1.length:Int) - x.1.1).toNat + 1) x }
def f20 (a0:((List Yr) × Unit)):Option (Bool × Unit) :=
 (f20_l2 a0.1 (((a0.1.length:Int) - (0:Int)).toNat + 1) (0:Int)).bind fun o3 =>
 Sum.elim (fun o4 =>
 some (true,())) (fun o5 =>
 let u6:Bool:=o5.1.1
 some (u6,())) o3
def f20_spec:PSpec:={ args:=[(.pair (.sl yR) .unit)],res:=[.bool],fn:=fun x=>f20 x.1 }
noncomputable def f20_code:Code:=Tryz.f20.body.getD .skip
noncomputable def f20_env:Env0:={ C:=cfgF,P:=[(58,f58_spec),(59,f59_spec)],L:=[(⟨12,0,20,2⟩,f20_l2_spec)],F:=[(20,Tryz.f20)] }
theorem f20_l2_ok:LoopOK f20_env 12 20 0 (loopAt f20_code 2) f20_l2_spec :=
 loopOK_of (by kernel_rfl) f20_l2_n (fun x o h=>⟨_,h⟩) (fun x=>by kernel_rfl) (fun n x=>by kernel_rfl)
theorem f20_run:zR f20_env 20 Tryz.f20 f20_code f20_spec:=by intro x; kernel_rfl
theorem f20_enter:zQ 20:=zN Tryz.func20
theorem f20_envOK:zE f20_env:=zO cfgF_ok ⟨⟨f58_pure,f58_enter⟩,⟨f59_pure,f59_enter⟩,trivial⟩ trivial ⟨zK Tryz.func20,trivial⟩ ⟨⟨Tryz.f20,f20_code,rfl,rfl,f20_l2_ok⟩,trivial⟩
theorem f20_pure:zU 20 f20_spec:=zP f20_envOK Tryz.f20 f20_code f20_run
end
end Go.V.G
namespace Go.V.G
open Go.Proofs
open Go.V.K
theorem f26_eq (a b:List Int) (ha:a.length≤1000000):f26 a b = some (decide (a = b),()):=by
 unfold f26
 by_cases hl:a.length = b.length
 ·have e:decide ((a.length:Int) ≠ (b.length:Int)) = false:=by simp [hl]
  simp only [e,cond_false]
  have h:=all_loop a.length (fun j=>decide (at_ yI a j = at_ yI b j)) (f26_l4 a b) (.inl ((),(),())) (.inr ((false,()),(),())) (by
   intro k j hj
   conv=>lhs; unfold f26_l4
   by_cases h:j < a.length
   ·simp only [Int.ofNat_lt,inRN,h,show j < b.length by omega,decide_true,cond_true,if_true,wS j (by omega)]
    by_cases e:at_ yI a j = at_ yI b j <;> simp [e]
   ·simp only [Int.ofNat_lt,h,decide_false,cond_false,if_false]) (((a.length:Int) - 0).toNat + 1) (by omega)
  refine bind_step h ?_
  rw [all_range_eq a b hl _ (fun j h1=>by rw [atN _ _ _ h1,atN _ _ _ (hl ▸ h1)])]
  by_cases e:a = b <;> simp [e]
 ·have e:decide ((a.length:Int) ≠ (b.length:Int)) = true:=by simp; omega
  simp only [e,cond_true]
  have:¬ a = b:=fun h=>hl (by rw [h])
  simp [this]
theorem f80_eq (a b:List Int) (ha:a.length≤1000000):f80 a b = some (decide (a = b),()):=by
 unfold f80
 by_cases hl:a.length = b.length
 ·have e:decide ((a.length:Int) ≠ (b.length:Int)) = false:=by simp [hl]
  simp only [e,cond_false]
  have h:=all_loop a.length (fun j=>decide (at_ yI a j = at_ yI b j)) (f80_l4 a b (a.length:Int)) (.inl ((),(),())) (.inr ((false,()),(),())) (by
   intro k j hj
   conv=>lhs; unfold f80_l4
   by_cases h:j < a.length
   ·simp only [Int.ofNat_lt,inRN,h,show j < b.length by omega,decide_true,cond_true,if_true,wS j (by omega)]
    by_cases e:at_ yI a j = at_ yI b j <;> simp [e]
   ·simp only [Int.ofNat_lt,h,decide_false,cond_false,if_false]) (((a.length:Int) - 0).toNat + 1) (by omega)
  refine bind_step h ?_
  rw [all_range_eq a b hl _ (fun j h1=>by rw [atN _ _ _ h1,atN _ _ _ (hl ▸ h1)])]
  by_cases e:a = b <;> simp [e]
 ·have e:decide ((a.length:Int) ≠ (b.length:Int)) = true:=by simp; omega
  simp only [e,cond_true]
  have:¬ a = b:=fun h=>hl (by rw [h])
  simp [this]
theorem f40_eq (h:Bool) (a:List Int) (h':Bool) (b:List Int) (ha:a.length≤1000000):f40 h a h' b = some (decide ((h,a) = (h',b)),()):=by
 unfold f40
 by_cases e:h = h'
 ·simp only [e,decide_true,cond_true]
  refine bind_step (f26_eq a b ha) ?_
  simp
 ·simp [e]
theorem f44_eq (x y:Bool × (List Int × Unit)) (ha:x.2.1.length≤1000000):f44 x y = some (decide ((x.1,x.2.1) = (y.1,y.2.1)),()):=by
 unfold f44
 by_cases e:x.1 = y.1
 ·simp only [e,decide_true,cond_true]
  refine bind_step (f80_eq _ _ ha) ?_
  simp
 ·simp [e]
def okLb (l:List Int):Bool:=decide (l.length≤64) && l.all fun n=>decide (-1152921504606846976≤n) && decide (n≤1152921504606846976)
theorem okLb_iff {l:List Int}:okLb l = true ↔ okL l:=by
 unfold okLb okL
 simp only [Bool.and_eq_true,decide_eq_true_eq,List.all_eq_true]
theorem all_range {α:Type} [Inhabited α] (l:List α) (p:α→Bool) (ok:Nat→Bool) (hok:∀ j (h:j < l.length),ok j = p l[j]):(List.range l.length).all ok = l.all p:=by
 rw [Bool.eq_iff_iff,List.all_eq_true,List.all_eq_true]
 constructor
 ·intro h x hx
  obtain ⟨i,hi,rfl⟩:=List.mem_iff_getElem.1 hx
  rw [← hok i hi]
  exact h i (List.mem_range.2 hi)
 ·intro h i hi
  rw [hok i (List.mem_range.1 hi)]
  exact h _ (List.getElem_mem _)
def inNum (n:Int):Bool:=decide (-1152921504606846976≤n) && decide (n≤1152921504606846976)
theorem inNum_lt {n:Int} (h:n < -1152921504606846976):inNum n = false:=by
 unfold inNum
 have:¬ -1152921504606846976≤n:=by omega
 simp [this]
theorem inNum_gt {n:Int} (h:n > 1152921504606846976):inNum n = false:=by
 unfold inNum
 have:¬ n≤1152921504606846976:=by omega
 simp [this]
theorem inNum_mid {n:Int} (h:¬ n < -1152921504606846976) (h2:¬ n > 1152921504606846976):inNum n = true:=by
 unfold inNum
 have h3:-1152921504606846976≤n:=by omega
 have h4:n≤1152921504606846976:=by omega
 simp [h3,h4]
theorem dle (n:Nat):decide ((n:Int)≤64) = decide (n≤64):=by
 rw [decide_eq_decide]
 omega
theorem f81_eq (l:List Int) (ha:l.length≤1000000):f81 l = some (okLb l,()):=by
 unfold f81
 have h:=all_loop l.length (fun j=>inNum (at_ yI l j)) (f81_l2 l) (.inl ((l,()),(),())) (.inr ((false,()),(),())) (by
  intro k j hj
  conv=>lhs; unfold f81_l2
  by_cases h:j < l.length
  ·simp only [Int.ofNat_lt,inRN,h,decide_true,cond_true,if_true,wS j (by omega)]
   by_cases e1:at_ yI l j < -1152921504606846976
   ·simp only [e1,decide_true,cond_true,inNum_lt e1,Bool.false_eq_true,if_false]
   ·by_cases e2:at_ yI l j > 1152921504606846976
    ·simp only [e1,e2,decide_true,decide_false,cond_true,cond_false,inNum_gt e2,Bool.false_eq_true,if_false]
    ·simp only [e1,e2,decide_false,cond_false,inNum_mid e1 e2,if_true]
  ·simp only [Int.ofNat_lt,h,decide_false,cond_false,if_false]) (((l.length:Int) - 0).toNat + 1) (by omega)
 refine bind_step h ?_
 rw [all_range l inNum _ (fun j h1=>by rw [atN _ _ _ h1])]
 unfold okLb
 show _ = some ((decide (l.length≤64) && l.all inNum),())
 cases e:l.all inNum with
 | true =>
  show some (decide ((l.length:Int)≤64),()) = _
  rw [dle,Bool.and_true]
 | false=>simp
theorem f65_eq (l:List Int) (ha:l.length≤1000000):f65 l = some (okLb l,()):=by
 unfold f65
 by_cases hl:l.length≤64
 ·have e:decide ((l.length:Int)≤64) = true:=by rw [dle]; exact zT hl
  simp only [e,cond_true]
  have h:=loop_rounds l.length (fun _ _=>True) (fun j (_:Unit)=>if inNum (at_ yI l j) = true then (.inl ():Unit ⊕ _) else .inr (.inr (((j:Int),()),((false,()),(false,true,()),()),()))) (fun _=>.inl ((),((false,()),(false,true,()),()),())) (fun k j _=>f100_l2x l (l.length:Int) false false true k j) (by
   intro k j _ hj _
   conv=>lhs; unfold f100_l2x
   by_cases h:j < l.length
   ·simp only [Int.ofNat_lt,inRN,h,decide_true,cond_true,if_true,wS j (by omega)]
    by_cases e1:at_ yI l j < -1152921504606846976
    ·simp only [e1,decide_true,cond_true,inNum_lt e1,Bool.false_eq_true,if_false]
    ·by_cases e2:at_ yI l j > 1152921504606846976
     ·simp only [e1,e2,decide_true,decide_false,cond_true,cond_false,inNum_gt e2,Bool.false_eq_true,if_false]
     ·simp only [e1,e2,decide_false,cond_false,inNum_mid e1 e2,if_true]
   ·simp only [Int.ofNat_lt,h,decide_false,cond_false,if_false]) (fun _ _ _ _ _ _=>trivial) l.length (((l.length:Int) - 0).toNat + 1) 0 () (by omega) (by omega) (by omega) trivial
  refine bind_step h ?_
  have key:∀ (m j:Nat),j + m = l.length→((l.drop j).all inNum = true∧rounds (fun j (_:Unit)=>if inNum (at_ yI l j) = true then (.inl ():Unit ⊕ outDen f100_l2x_outs) else .inr (.inr (((j:Int),()),((false,()),(false,true,()),()),()))) (fun _=>.inl ((),((false,()),(false,true,()),()),())) m j () = .inl ((),((false,()),(false,true,()),()),())) ∨
    ((l.drop j).all inNum = false∧∃ i:Nat,rounds (fun j (_:Unit)=>if inNum (at_ yI l j) = true then (.inl ():Unit ⊕ outDen f100_l2x_outs) else .inr (.inr (((j:Int),()),((false,()),(false,true,()),()),()))) (fun _=>.inl ((),((false,()),(false,true,()),()),())) m j () = .inr (((i:Int),()),((false,()),(false,true,()),()),())):=by
   intro m
   induction m with
   | zero=>intro j hj; exact .inl ⟨by rw [List.drop_of_length_le (by omega)]; rfl,rfl⟩
   | succ m ih =>
    intro j hj
    rw [List.drop_eq_getElem_cons (show j < l.length by omega),List.all_cons,← atN yI l j (by omega)]
    simp only [rounds]
    cases e:inNum (at_ yI l j) with
    | true =>
     simp only [if_true,Bool.true_and]
     exact ih (j + 1) (by omega)
    | false=>exact .inr ⟨by simp,j,rfl⟩
  unfold okLb
  show _ = some ((decide (l.length≤64) && l.all inNum),())
  rcases key l.length 0 (by omega) with ⟨h1,h2⟩ | ⟨h1,i,h2⟩
  ·rw [h2]
   rw [List.drop_zero] at h1
   simp [h1,hl]
  ·rw [h2]
   rw [List.drop_zero] at h1
   simp [h1]
 ·have e:decide ((l.length:Int)≤64) = false:=by rw [dle]; exact zF hl
  simp only [e,cond_false]
  unfold okLb
  simp [hl]
end Go.V.G
