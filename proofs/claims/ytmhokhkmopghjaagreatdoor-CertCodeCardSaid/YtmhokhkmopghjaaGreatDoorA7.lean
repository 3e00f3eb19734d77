/- Part of the proof. -/
import Derived.KernelRfl
import Derived.Test.YtmhokhkmopghjaaGreatDoorProg
import Derived.Test.YtmhokhkmopghjaaGreatDoorA6
set_option linter.all false
set_option linter.unusedVariables false
set_option linter.unusedSectionVars false
set_option linter.unusedSimpArgs false
namespace Go.V
noncomputable instance:Codes:=⟨zhN Go.Proofs.Tryz.prog⟩
theorem cds (f id:Nat):Codes.cd f id = zhN Go.Proofs.Tryz.prog f id:=rfl
def zbn:List Int:=[1116352408,1899447441,3049323471,3921009573,961987163,1508970993,2453635748,2870763221,3624381080,310598401,607225278,1426881987,1925078388,2162078206,2614888103,3248222580,3835390401,4022224774,264347078,604807628,770255983,1249150122,1555081692,1996064986,2554220882,2821834349,2952996808,3210313671,3336571891,3584528711,113926993,338241895,666307205,773529912,1294757372,1396182291,1695183700,1986661051,2177026350,2456956037,2730485921,2820302411,3259730800,3345764771,3516065817,3600352804,4094571909,275423344,430227734,506948616,659060556,883997877,958139571,1322822218,1537002063,1747873779,1955562222,2024104815,2227730452,2361852424,2428436474,2756734187,3204031479,3329325298]
def cfgZ:List (Option (List ZG)):=[none,some [.nilf],some [.val yI],some [.val yI],some [.val .bool],some [.val (.int .u8)],some [.val (.int .u8)],some [.val yI,.val yI,.val .bool,.val (.int .u8)],some [.val yI,.val yI,.val .bool,.val (.int .u8)],some [.val .str],some [.val .str],some [.val .str],some [.val (.int .u64)],some [.val .str,.val (.int .u64)],some [.val .str,.val (.int .u64)],some [.nilp],some [.nilp],some [.nilp],some [.nilp],some [.nilp],some [.nili],some [.val (.int .i32)],some [.nils],some [.nils],some [.nilf],some [.nils],some [.nils],some [.nils],some [.val yI],none,some [.nilf],some [.nils],some [.val (.arr 8 (.sl yN))],some [.val (.arr 8 (.sl yN))],some [.val (.arr 8 (.sl yN))],some [.nilf],none,some [.nilf],none,some [.nilf],some [.nilf],some [.nils],some [.nilf],some [.nils],some [.nilf],none,some [.nilf],some [.nilf],some [.nilf],some [.val yI,.nils],some [.val yI,.nils],some [.val yI,.val yI,.val .bool,.nils,.val .bool,.nils],some [.val yI,.val yI,.val .bool,.nils,.val .bool,.nils],none,some [.nilf],some [.nilf],some [.nilf],some [.val (.arr 8 .str)],none,some [.nilf],some [.nilf],some [.val yI,.val yI],some [.val yI,.val yI],some [.nils],some [.nils],some [.nils,.nils,.nils],some [.nils,.nils,.nils],some [.nilf],some [.nilf],some [.nilf],some [.nilf],some [.nilf],some [.nilf],some [.nilf],some [.val (.arr 2 yI)],some [.val (.arr 2 yI)],some [.val .bool,.nils],some [.val .bool,.nils],some [.nilf],some [.nilf],some [.nilf],some [.nilf],some [.val (.arr 4 yI)],some [.nilf],some [.nilf],some [.nilf],some [.nilf],some [.nilf],some [.nilf],some [.nilp],some [.nilp],some [.val .str,.val yI],some [.val .str,.val yI],some [.nilf],some [.nilf],none,some [.nilf],none,some [.nilf],some [.nilf],some [.nilf],none,some [.nilf],some [.nilm],some [.nilf],some [.nilf],none,some [.nilf],some [.nils],none,some [.nilf],some [.nilf],some [.nils],none,some [.nilf],some [.nilf],some [.nilf],some [.nilf],some [.nilf],some [.nilf],some [.nilf],some [.nilf],some [.nilf],some [.nilf],some [.nilf],some [.nilf],some [.nilp],some [.nilp,.nils],some [.nilp,.nils],some [.nilf],some [.nili],some [.nili],none,some [.nilf],some [],some [],none,some [.val (.int .u64)],some [.nilf],some [.nilf],some [.val yI,.val .str],some [.val yI,.val .str],some [.nilf],some [.nilp],some [.nilf],some [.nilf],some [.nilf],some [.nilf],some [.nilf,.nilf,.nilf],some [.nilf,.nilf,.nilf],none,some [.nilf],some [.nilf],some [.nilf],some [.nilf],some [.nilf],some [.nilf],some [.nilf],some [.nilf],some [.nilf],some [.nilf],some [.val (.int .u64)],some [.nilp],some [.nilf],some [.nilf],some [.nilf],some [.nilf],some [.nilf],some [.nilf],some [.nilf],some [.val (.arr 128 .str)],some [.val (.arr 128 .str)],some [.nilf],some [.nilf,.nilf,.nilf,.nilf,.nilf,.nilf,.nilf,.nilf,.nilf,.nilf,.nilf,.nilf,.nilf,.nilf,.nilf,.nilf,.nilf,.nilf,.nilf,.nilf,.nilf,.nilf,.nilf,.nilf],some [.nilf],some [.nilf],some [.nilf],some [.nilf],some [.nilf],some [.nilf],some [.val (.int .u32)],some [.val (.arr 8 (.int .u32))],some [.val (.arr 8 (.int .u32))],some [.nilf],some [.nilf],some [.nilf],some [.nilf],some [.nilf],some [.nilf],none,some [.nilf],some [.nilf],some [.nilf],some [.nilf],some [.nilf],some [.val yI,.val yI,.val yI,.val .bool,.val yI,.val yI],some [.val yI,.val yI,.val yI,.val .bool,.val yI,.val yI],some [.nilf],some [.nilp],some [.nils,.nils,.nils],some [.nils,.nils,.nils],some [.nilf],some [.nilf],some [.nilf],some [.nilf],some [.nilf],some [.nilf],some [.nilf],some [.nilp],some [.val (.arr 64 (.int .u32))],some [.nilf],some [.nilf],some [.nils],some [.val (.arr 32 (.int .u8))],some [.nilm],some [.nilm],some [.nilf],some [.val yI,.val yI,.nils,.nils,.nils],some [.val yI,.val yI,.nils,.nils,.nils],some [.nilf],some [.nilf],some [.nilp],some [.nilf],some [.val (.arr 24 yI)],some [.val (.arr 24 (.sl yI))],some [.nils,.nils,.nils,.val (.arr 24 yI),.val (.arr 24 yI),.val (.arr 24 (.sl yI)),.val (.arr 24 (.sl yI))],some [.nils,.nils,.nils,.val (.arr 24 yI),.val (.arr 24 yI),.val (.arr 24 (.sl yI)),.val (.arr 24 (.sl yI))],some [.nilf],some [.nilf],some [.nilf],some [.nilf],some [.nilf],some [.nilf],some [.nilf],some [.nilf],some [.nilp],some [.val yI,.val yI,.val .bool],some [.val yI,.val yI,.val .bool],some [.nilf],some [.nilf],some [.nilm],none,some [.nilf],some [.val (.arr 9 yI)],some [.val (.arr 9 yI)],some [.val (.arr 24 (.arr 9 yI))],some [.nilf],some [.nilf],some [.nilf],none,some [.nilf],some [.nils],some [.nilf],some [.nilm],some [.val yI,.val .bool,.val (.arr 9 yI),.nils,.nils,.nilm],some [.val yI,.val .bool,.val (.arr 9 yI),.nils,.nils,.nilm],some [.nilf],some [.nilf],some [.nilf],some [.val yI,.val yI,.val yI,.val .bool,.val yI,.val yI,.val yI,.val yI,.val yI],some [.val yI,.val yI,.val yI,.val .bool,.val yI,.val yI,.val yI,.val yI,.val yI],some [.nilf],some [.nilf,.nilf,.nilf],none,some [.nilf],some [.nils],some [.val yI,.nils,.nils],some [.val yI,.nils,.nils],none,some [.nilf],some [.val yI,.val yI,.val yI,.val .bool,.val yI,.val yI,.val yI,.nils],some [.val yI,.val yI,.val yI,.val .bool,.val yI,.val yI,.val yI,.nils],some [.nilf],none,some [.nilf],some [.nilf],some [.nilf],some [.nilf],some [.nilf],some [.nilp],some [.nils],none,some [.nilf],some [.nilf],some [.nils],some [.nils,.nils,.nils,.nils],some [.nils,.nils,.nils,.nils],some [.val yI,.val yI,.val yI,.val yI],some [.val yI,.val yI,.val yI,.val yI],some [.nilf],some [.val (.int .u32)],some [.val (.int .u32),.val yI],some [.val (.int .u32),.val yI],some [.nilf],some [.nilf],some [.nilf],some [.nilf],some [.nils],some [.nilf],some [.nilf],none,some [.nilf],none,some [.nilf],some [.nilp],some [.nilf],some [.nils],some [.nilf],some [.nilf],some [.nilf],some [.val (.arr 3 yI)],some [.val (.arr 24 (.sl yD))],some [.nilm],some [.val (.arr 24 (.arr 3 yI))],some [.val (.arr 24 (.sl yD)),.nilm,.val (.arr 24 (.arr 3 yI))],some [.val (.arr 24 (.sl yD)),.nilm,.val (.arr 24 (.arr 3 yI))],some [.nilm],some [.nilm],none,some [.nilf],some [.nilf],some [.nilf],some [.nilf],some [.nilf],some [.nilf],some [.nilf],some [.nilf],some [.val (.arr 24 (.int .u32))],some [.val (.arr 24 (.int .u32))],some [.nilf],some [.nilf],some [.nilf],some [.val (.arr 7 yI)],some [.nilf],some [.nilf],some [.val (.arr 24 .bool)],some [.val (.arr 24 .bool)],some [.val (.arr 24 (.arr 24 .bool))],none,some [.nilf],some [.nilf],some [.nilf],some [.val (.arr 24 yI)],some [.nilf],some [.nilf],some [.nilf],some [.val (.arr 4 yI)],none,some [.nilp],none,some [.nilf],some [.nilf],some [.nilp],some [.nils,.nils,.nils,.nils,.val (.arr 24 yI),.nils],some [.nils,.nils,.nils,.nils,.val (.arr 24 yI),.nils],some [.nilf],some [.nilf],some [],some [.nilf],some [.nilp],some [.nilp],some [.val (.arr 5 yI)],some [.val (.arr 5 yI)],some [.nilf],some [.nilf],some [.nilp],some [.nilf],some [.nilf],none,some [.nilf],some [.nilf],none,some [.nilf],none,some [.nilf],some [.nilf],none,some [.nilf],none,some [.nilf],some [.nilf],some [.nilf],some [.nilf],some [.nils],some [.nilf],some [.nilm],none,some [.nilf],some [.nilm],some [.nilf],some [.nilf],some [.val (.arr 49 yI)],some [.val (.arr 25 (.arr 49 yI))],some [.val (.arr 25 (.arr 49 yI)),.val (.arr 25 (.arr 49 yI)),.nils,.nils],some [.val (.arr 25 (.arr 49 yI)),.val (.arr 25 (.arr 49 yI)),.nils,.nils],some [.nilm],some [.nils],some [.nilf],some [.nilp],some [.nilf],some [.nilf],some [.nils],some [.nils,.nils,.nils,.nils,.nils],some [.nils,.nils,.nils,.nils,.nils],some [.nilf],some [.nilf],some [.nilf],some [.nilf],some [.nilf],some [.nilf],some [.nilf],some [.nilf],some [.nilf],some [.nilf],some [.nilf],some [.nilf],none,some [.nilf],none,some [.nilf],some [.nilf],some [.nilf],some [.nilf],some [.val yI],none,some [.nilf],some [.nilf],some [.nilf],some [.nilf],some [.nilf],some [.nilf],some [.nilf],some [.nilf],some [.nilf],some [.nilf],some [.nilf],some [.nilf],some [.nilf],some [.nilf],some [.nilf],some [.nilf],some [.nilf],some [.nilf],some [.val (.int .u64)],some [.nilf],some [.nilf],some [.nilf],some [.nilp],some [.nilf],some [.nilf],some [.nilf],some [.nilp],some [.nils,.nils,.nils,.nils,.nils],some [.nils,.nils,.nils,.nils,.nils],some [.nilf],some [.nilf],some [.nilp],some [.nilf],some [.nilf],some [.nilf],some [.nilf],some [.nilp,.nilp,.nilp,.val .str],some [.nilp,.nilp,.nilp,.val .str],some [],some [],some [],some [.nilf],some [.val (.int .u8)],some [.val (.int .u8)],some [.nilf],some [.val (.int .i32)],some [.val (.int .i32)],some [.val (.int .u64),.val (.int .u64),.val (.int .u32),.val (.int .u8),.val (.int .u8),.val (.int .u8),.val (.int .u8),.nilf,.nilp,.val (.int .i32),.val (.int .i32)],some [.val (.int .u64),.val (.int .u64),.val (.int .u32),.val (.int .u8),.val (.int .u8),.val (.int .u8),.val (.int .u8),.nilf,.nilp,.val (.int .i32),.val (.int .i32)]]
def cfg:Cfg where
 unders:=[.tup,.fn,.int .i64,.int .i64,.bool,.int .u8,.int .u8,.st [(0,2),(1,3),(2,4),(3,6)],.st [(0,2),(1,3),(2,4),(3,6)],.str,.str,.str,.int .u64,.st [(0,9),(1,12)],.st [(0,9),(1,12)],.ptr 462,.ptr 465,.ptr 473,.st [(0,17)],.st [(0,17)],.iface,.int .i32,.sl 82,.sl 3,.fn,.sl 52,.st [(0,25)],.st [(0,25)],.int .i64,.tup,.fn,.sl 50,.arr 8 31,.st [(0,32)],.st [(0,32)],.fn,.tup,.fn,.tup,.fn,.fn,.sl 5,.fn,.sl 9,.fn,.tup,.fn,.fn,.fn,.st [(0,3),(1,23)],.st [(0,3),(1,23)],.st [(0,3),(1,3),(2,4),(3,23),(4,4),(5,23)],.st [(0,3),(1,3),(2,4),(3,23),(4,4),(5,23)],.tup,.fn,.fn,.fn,.arr 8 9,.tup,.fn,.fn,.st [(0,3),(1,3)],.st [(0,3),(1,3)],.sl 62,.sl 196,.st [(0,63),(1,64),(2,23)],.st [(0,63),(1,64),(2,23)],.fn,.fn,.fn,.fn,.fn,.fn,.fn,.arr 2 3,.arr 2 3,.st [(0,4),(1,23)],.st [(0,4),(1,23)],.fn,.fn,.fn,.fn,.arr 4 3,.fn,.fn,.fn,.fn,.fn,.fn,.ptr 28,.ptr 92,.st [(0,9),(1,3)],.st [(0,9),(1,3)],.fn,.fn,.tup,.fn,.tup,.fn,.fn,.fn,.tup,.fn,.map 75 52,.fn,.fn,.tup,.fn,.sl 141,.tup,.fn,.fn,.sl 31,.tup,.fn,.fn,.fn,.fn,.fn,.fn,.fn,.fn,.fn,.fn,.fn,.fn,.ptr 128,.st [(0,126),(1,41)],.st [(0,126),(1,41)],.fn,.iface,.iface,.tup,.fn,.st [],.st [],.tup,.int .u64,.fn,.fn,.st [(0,3),(1,9)],.st [(0,3),(1,9)],.fn,.ptr 171,.fn,.fn,.fn,.fn,.st [(0,145),(1,146),(2,147)],.st [(0,145),(1,146),(2,147)],.tup,.fn,.fn,.fn,.fn,.fn,.fn,.fn,.fn,.fn,.fn,.int .u64,.ptr 5,.fn,.fn,.fn,.fn,.fn,.fn,.fn,.arr 128 9,.arr 128 9,.fn,.arr 8 149,.fn,.fn,.fn,.fn,.fn,.fn,.int .u32,.arr 8 180,.arr 8 180,.fn,.fn,.fn,.fn,.fn,.fn,.oth,.fn,.fn,.fn,.fn,.fn,.st [(0,3),(1,3),(2,3),(3,4),(4,3),(5,3)],.st [(0,3),(1,3),(2,3),(3,4),(4,3),(5,3)],.fn,.ptr 200,.st [(0,66)],.st [(0,66)],.fn,.fn,.fn,.fn,.fn,.fn,.fn,.ptr 182,.arr 64 180,.fn,.fn,.sl 180,.arr 32 5,.map 3 23,.map 3 23,.fn,.st [(0,62),(2,23),(3,64),(4,31)],.st [(0,62),(2,23),(3,64),(4,31)],.fn,.fn,.ptr 226,.fn,.arr 24 3,.arr 24 23,.st [(0,66),(3,223),(27,223),(51,224),(75,224)],.st [(0,66),(3,223),(27,223),(51,224),(75,224)],.fn,.fn,.fn,.fn,.fn,.fn,.fn,.fn,.ptr 237,.st [(0,3),(1,3),(2,4)],.st [(0,3),(1,3),(2,4)],.fn,.fn,.map 3 346,.tup,.fn,.arr 9 3,.arr 9 3,.arr 24 244,.fn,.fn,.fn,.tup,.fn,.sl 260,.fn,.map 3 244,.st [(0,3),(1,4),(2,244),(11,251),(12,251),(13,253)],.st [(0,3),(1,4),(2,244),(11,251),(12,251),(13,253)],.fn,.fn,.fn,.st [(0,196),(6,3),(7,3),(8,3)],.st [(0,196),(6,3),(7,3),(8,3)],.fn,.arr 3 261,.tup,.fn,.sl 271,.st [(0,3),(1,23),(2,265)],.st [(0,3),(1,23),(2,265)],.tup,.fn,.st [(0,196),(6,3),(7,23)],.st [(0,196),(6,3),(7,23)],.fn,.tup,.fn,.fn,.fn,.fn,.fn,.ptr 286,.sl 288,.tup,.fn,.fn,.sl 292,.st [(0,23),(1,280),(2,23),(3,284)],.st [(0,23),(1,280),(2,23),(3,284)],.st [(0,3),(1,3),(2,3),(3,3)],.st [(0,3),(1,3),(2,3),(3,3)],.fn,.int .u32,.st [(0,290),(1,3)],.st [(0,290),(1,3)],.fn,.fn,.fn,.fn,.sl 3,.fn,.fn,.tup,.fn,.tup,.fn,.ptr 315,.fn,.sl 23,.fn,.fn,.fn,.arr 3 3,.arr 24 64,.map 3 4,.arr 24 310,.st [(0,311),(24,312),(25,313)],.st [(0,311),(24,312),(25,313)],.map 3 310,.map 3 310,.tup,.fn,.fn,.fn,.fn,.fn,.fn,.fn,.fn,.arr 24 180,.arr 24 180,.fn,.fn,.fn,.arr 7 3,.fn,.fn,.arr 24 4,.arr 24 4,.arr 24 336,.tup,.fn,.fn,.fn,.arr 24 3,.fn,.fn,.fn,.arr 4 3,.tup,.ptr 244,.tup,.fn,.fn,.ptr 354,.st [(0,66),(3,64),(4,223),(28,64)],.st [(0,66),(3,64),(4,223),(28,64)],.fn,.fn,.st [],.fn,.ptr 335,.ptr 267,.arr 5 3,.arr 5 3,.fn,.fn,.ptr 394,.fn,.fn,.tup,.fn,.fn,.tup,.fn,.tup,.fn,.fn,.tup,.fn,.tup,.fn,.fn,.fn,.fn,.sl 342,.fn,.map 3 362,.tup,.fn,.map 3 74,.fn,.fn,.arr 49 3,.arr 25 391,.st [(0,392),(1225,392),(2450,23),(2451,23)],.st [(0,392),(1225,392),(2450,23),(2451,23)],.map 3 3,.sl 4,.fn,.ptr 403,.fn,.fn,.sl 290,.st [(0,23),(1,401),(2,396),(3,396),(4,23)],.st [(0,23),(1,401),(2,396),(3,396),(4,23)],.fn,.fn,.fn,.fn,.fn,.fn,.fn,.fn,.fn,.fn,.fn,.fn,.tup,.fn,.tup,.fn,.fn,.fn,.fn,.int .i64,.tup,.fn,.fn,.fn,.fn,.fn,.fn,.fn,.fn,.fn,.fn,.fn,.fn,.fn,.fn,.fn,.fn,.fn,.fn,.int .u64,.fn,.fn,.fn,.ptr 3,.fn,.fn,.fn,.ptr 453,.st [(0,306),(1,23),(2,23),(3,23),(4,396)],.st [(0,306),(1,23),(2,23),(3,23),(4,396)],.fn,.fn,.ptr 443,.fn,.fn,.fn,.fn,.st [(0,17),(1,17),(2,17),(3,9)],.st [(0,17),(1,17),(2,17),(3,9)],.arr 0 16,.st [(0,463)],.st [(0,463)],.fn,.int .u8,.int .u8,.fn,.int .i32,.int .i32,.st [(0,12),(1,12),(2,180),(3,467),(4,5),(5,5),(6,468),(7,469),(8,162),(9,470),(10,471)],.st [(0,12),(1,12),(2,180),(3,467),(4,5),(5,5),(6,468),(7,469),(8,162),(9,470),(10,471)]]
 sizes:=[1,1,1,1,1,1,1,4,4,1,1,1,1,2,2,1,1,1,1,1,1,1,1,1,1,1,1,1,1,1,1,1,8,8,8,1,1,1,1,1,1,1,1,1,1,1,1,1,1,2,2,6,6,1,1,1,1,8,1,1,1,2,2,1,1,3,3,1,1,1,1,1,1,1,2,2,2,2,1,1,1,1,4,1,1,1,1,1,1,1,1,2,2,1,1,1,1,1,1,1,1,1,1,1,1,1,1,1,1,1,1,1,1,1,1,1,1,1,1,1,1,1,1,1,1,1,1,2,2,1,1,1,1,1,0,0,1,1,1,1,2,2,1,1,1,1,1,1,3,3,1,1,1,1,1,1,1,1,1,1,1,1,1,1,1,1,1,1,1,1,128,128,1,24,1,1,1,1,1,1,1,8,8,1,1,1,1,1,1,1,1,1,1,1,1,6,6,1,1,3,3,1,1,1,1,1,1,1,1,64,1,1,1,32,1,1,1,5,5,1,1,1,1,24,24,99,99,1,1,1,1,1,1,1,1,1,3,3,1,1,1,1,1,9,9,216,1,1,1,1,1,1,1,1,14,14,1,1,1,9,9,1,3,1,1,1,3,3,1,1,8,8,1,1,1,1,1,1,1,1,1,1,1,1,1,4,4,4,4,1,1,2,2,1,1,1,1,1,1,1,1,1,1,1,1,1,1,1,1,1,3,24,1,72,97,97,1,1,1,1,1,1,1,1,1,1,1,24,24,1,1,1,7,1,1,24,24,576,1,1,1,1,24,1,1,1,4,1,1,1,1,1,1,29,29,1,1,0,1,1,1,5,5,1,1,1,1,1,1,1,1,1,1,1,1,1,1,1,1,1,1,1,1,1,1,1,1,1,1,1,1,49,1225,2452,2452,1,1,1,1,1,1,1,5,5,1,1,1,1,1,1,1,1,1,1,1,1,1,1,1,1,1,1,1,1,1,1,1,1,1,1,1,1,1,1,1,1,1,1,1,1,1,1,1,1,1,1,1,1,1,1,1,1,5,5,1,1,1,1,1,1,1,4,4,0,0,0,1,1,1,1,1,1,11,11]
 tys:=[none,none,some yI,some yI,some .bool,some (.int .u8),some (.int .u8),some (.pair yI (.pair yI (.pair .bool (.pair (.int .u8) .unit)))),some (.pair yI (.pair yI (.pair .bool (.pair (.int .u8) .unit)))),some .str,some .str,some .str,some (.int .u64),some (.pair .str (.pair (.int .u64) .unit)),some (.pair .str (.pair (.int .u64) .unit)),none,none,none,none,none,none,some (.int .i32),some (.sl (.arr 4 yI)),some (.sl yI),none,some (.sl yR),some (.pair (.sl yR) .unit),some (.pair (.sl yR) .unit),some yI,none,none,some (.sl yN),some (.arr 8 (.sl yN)),some yC,some yC,none,none,none,none,none,none,some (.sl (.int .u8)),none,some (.sl .str),none,none,none,none,none,some yN,some yN,some yR,some yR,none,none,none,none,some (.arr 8 .str),none,none,none,some yV,some yV,some (.sl yV),some (.sl yD),some yG,some yG,none,none,none,none,none,none,none,some (.arr 2 yI),some (.arr 2 yI),some (.pair .bool (.pair (.sl yI) .unit)),some (.pair .bool (.pair (.sl yI) .unit)),none,none,none,none,some (.arr 4 yI),none,none,none,none,none,none,none,none,some (.pair .str (.pair yI .unit)),some (.pair .str (.pair yI .unit)),none,none,none,none,none,none,none,none,none,none,none,none,none,none,none,some (.sl yE),none,none,none,some (.sl (.sl yN)),none,none,none,none,none,none,none,none,none,none,none,none,none,none,none,none,none,none,none,none,none,some .unit,some .unit,none,some (.int .u64),none,none,some yE,some yE,none,none,none,none,none,none,none,none,none,none,none,none,none,none,none,none,none,none,none,some (.int .u64),none,none,none,none,none,none,none,none,some (.arr 128 .str),some (.arr 128 .str),none,none,none,none,none,none,none,none,some (.int .u32),some (.arr 8 (.int .u32)),some (.arr 8 (.int .u32)),none,none,none,none,none,none,none,none,none,none,none,none,some yD,some yD,none,none,some (.pair yG .unit),some (.pair yG .unit),none,none,none,none,none,none,none,none,some (.arr 64 (.int .u32)),none,none,some (.sl (.int .u32)),some (.arr 32 (.int .u8)),none,none,none,some (.pair yV (.pair (.sl yI) (.pair (.sl yD) (.pair (.sl yN) .unit)))),some (.pair yV (.pair (.sl yI) (.pair (.sl yD) (.pair (.sl yN) .unit)))),none,none,none,none,some (.arr 24 yI),some (.arr 24 (.sl yI)),some (.pair yG (.pair (.arr 24 yI) (.pair (.arr 24 yI) (.pair (.arr 24 (.sl yI)) (.pair (.arr 24 (.sl yI)) .unit))))),some (.pair yG (.pair (.arr 24 yI) (.pair (.arr 24 yI) (.pair (.arr 24 (.sl yI)) (.pair (.arr 24 (.sl yI)) .unit))))),none,none,none,none,none,none,none,none,none,some (.pair yI (.pair yI (.pair .bool .unit))),some (.pair yI (.pair yI (.pair .bool .unit))),none,none,none,none,none,some (.arr 9 yI),some (.arr 9 yI),some (.arr 24 (.arr 9 yI)),none,none,none,none,none,some (.sl (.pair yD (.pair yI yV))),none,none,none,none,none,none,none,some (.pair yD (.pair yI yV)),some (.pair yD (.pair yI yV)),none,none,none,none,some (.sl (.pair yD yN)),some (.pair yI (.pair (.sl yI) (.pair (.sl (.pair yD yN)) .unit))),some (.pair yI (.pair (.sl yI) (.pair (.sl (.pair yD yN)) .unit))),none,none,some (.pair yD yN),some (.pair yD yN),none,none,none,none,none,none,none,none,some (.sl (.pair yI (.pair yI yV))),none,none,none,some (.sl (.pair (.int .u32) (.pair yI .unit))),some (.pair (.sl yI) (.pair (.sl (.pair yI (.pair yI yV))) (.pair (.sl yI) (.pair (.sl (.pair (.int .u32) (.pair yI .unit))) .unit)))),some (.pair (.sl yI) (.pair (.sl (.pair yI (.pair yI yV))) (.pair (.sl yI) (.pair (.sl (.pair (.int .u32) (.pair yI .unit))) .unit)))),some (.pair yI (.pair yI yV)),some (.pair yI (.pair yI yV)),none,some (.int .u32),some (.pair (.int .u32) (.pair yI .unit)),some (.pair (.int .u32) (.pair yI .unit)),none,none,none,none,some (.sl yI),none,none,none,none,none,none,none,none,some (.sl (.sl yI)),none,none,none,some (.arr 3 yI),some (.arr 24 (.sl yD)),none,some (.arr 24 (.arr 3 yI)),none,none,none,none,none,none,none,none,none,none,none,none,none,some (.arr 24 (.int .u32)),some (.arr 24 (.int .u32)),none,none,none,some (.arr 7 yI),none,none,some (.arr 24 .bool),some (.arr 24 .bool),some (.arr 24 (.arr 24 .bool)),none,none,none,none,some (.arr 24 yI),none,none,none,some (.arr 4 yI),none,none,none,none,none,none,some (.pair yG (.pair (.sl yD) (.pair (.arr 24 yI) (.pair (.sl yD) .unit)))),some (.pair yG (.pair (.sl yD) (.pair (.arr 24 yI) (.pair (.sl yD) .unit)))),none,none,some .unit,none,none,none,some (.arr 5 yI),some (.arr 5 yI),none,none,none,none,none,none,none,none,none,none,none,none,none,none,none,none,none,none,none,none,some (.sl (.arr 24 yI)),none,none,none,none,none,none,none,some (.arr 49 yI),some (.arr 25 (.arr 49 yI)),some (.pair (.arr 25 (.arr 49 yI)) (.pair (.arr 25 (.arr 49 yI)) (.pair (.sl yI) (.pair (.sl yI) .unit)))),some (.pair (.arr 25 (.arr 49 yI)) (.pair (.arr 25 (.arr 49 yI)) (.pair (.sl yI) (.pair (.sl yI) .unit)))),none,some (.sl .bool),none,none,none,none,some (.sl (.int .u32)),some (.pair (.sl yI) (.pair (.sl (.int .u32)) (.pair (.sl .bool) (.pair (.sl .bool) (.pair (.sl yI) .unit))))),some (.pair (.sl yI) (.pair (.sl (.int .u32)) (.pair (.sl .bool) (.pair (.sl .bool) (.pair (.sl yI) .unit))))),none,none,none,none,none,none,none,none,none,none,none,none,none,none,none,none,none,none,none,some yI,none,none,none,none,none,none,none,none,none,none,none,none,none,none,none,none,none,none,none,some (.int .u64),none,none,none,none,none,none,none,none,some (.pair (.sl (.sl yI)) (.pair (.sl yI) (.pair (.sl yI) (.pair (.sl yI) (.pair (.sl .bool) .unit))))),some (.pair (.sl (.sl yI)) (.pair (.sl yI) (.pair (.sl yI) (.pair (.sl yI) (.pair (.sl .bool) .unit))))),none,none,none,none,none,none,none,none,none,none,none,none,none,some (.int .u8),some (.int .u8),none,some (.int .i32),some (.int .i32),none,none]
 bytes:=[0,8,8,8,1,1,1,24,24,16,16,16,8,24,24,8,8,8,8,8,16,4,24,24,8,24,24,24,8,0,8,24,192,192,192,8,0,8,0,8,8,24,8,24,8,0,8,8,8,32,32,80,80,0,8,8,8,128,0,8,8,16,16,24,24,72,72,8,8,8,8,8,8,8,16,16,32,32,8,8,8,8,32,8,8,8,8,8,8,8,8,24,24,8,8,0,8,0,8,8,8,0,8,8,8,8,0,8,24,0,8,8,24,0,8,8,8,8,8,8,8,8,8,8,8,8,8,32,32,8,16,16,0,8,0,0,0,8,8,8,24,24,8,8,8,8,8,8,24,24,0,8,8,8,8,8,8,8,8,8,8,8,8,8,8,8,8,8,8,8,2048,2048,8,192,8,8,8,8,8,8,4,32,32,8,8,8,8,8,8,8,8,8,8,8,8,48,48,8,8,72,72,8,8,8,8,8,8,8,8,256,8,8,24,32,8,8,8,88,88,8,8,8,8,192,576,1608,1608,8,8,8,8,8,8,8,8,8,24,24,8,8,8,0,8,72,72,1728,8,8,8,0,8,24,8,8,144,144,8,8,8,72,72,8,24,0,8,24,56,56,0,8,80,80,8,0,8,8,8,8,8,8,24,0,8,8,24,96,96,32,32,8,4,16,16,8,8,8,8,24,8,8,0,8,0,8,8,8,24,8,8,8,24,576,8,576,1160,1160,8,8,0,8,8,8,8,8,8,8,8,96,96,8,8,8,56,8,8,24,24,576,0,8,8,8,192,8,8,8,32,0,8,0,8,8,8,312,312,8,8,0,8,8,8,40,40,8,8,8,8,8,0,8,8,0,8,0,8,8,0,8,0,8,8,8,8,24,8,8,0,8,8,8,8,392,9800,19648,19648,8,24,8,8,8,8,24,120,120,8,8,8,8,8,8,8,8,8,8,8,8,0,8,0,8,8,8,8,8,0,8,8,8,8,8,8,8,8,8,8,8,8,8,8,8,8,8,8,8,8,8,8,8,8,8,8,8,120,120,8,8,8,8,8,8,8,40,40,0,0,0,8,1,1,8,4,4,48,48]
 zeros:=cfgZ.map (Option.map (List.map ZG.av))
 glob:=fun n=>bif Nat.beq n 0 then some (.eptr [.val (.arr 64 (.int .u32)) zbn]) else none
 eqs:=[196]
 eqa:=[74,75,223,244,310,328]
theorem zcv {p:Nat→Bool} {a b c:Nat} (h:(List.range' a b).all p = true) (k:(List.range' (a + b) c).all p = true):(List.range' a (b + c)).all p = true:=by
 rw [← List.range'_append_1,List.all_append,h,k]; rfl
theorem chk0:(List.range' 0 60).all (za4 cfg cfgZ Go.Proofs.Tryz.prog) = true:=by kernel_rfl
theorem chk60:(List.range' 60 60).all (za4 cfg cfgZ Go.Proofs.Tryz.prog) = true:=by kernel_rfl
theorem zo6:(List.range' 120 60).all (za4 cfg cfgZ Go.Proofs.Tryz.prog) = true:=by kernel_rfl
theorem zo7:(List.range' 180 60).all (za4 cfg cfgZ Go.Proofs.Tryz.prog) = true:=by kernel_rfl
theorem zo8:(List.range' 240 60).all (za4 cfg cfgZ Go.Proofs.Tryz.prog) = true:=by kernel_rfl
theorem zo9:(List.range' 300 60).all (za4 cfg cfgZ Go.Proofs.Tryz.prog) = true:=by kernel_rfl
theorem zpa:(List.range' 360 60).all (za4 cfg cfgZ Go.Proofs.Tryz.prog) = true:=by kernel_rfl
theorem zpb:(List.range' 420 54).all (za4 cfg cfgZ Go.Proofs.Tryz.prog) = true:=by kernel_rfl
end Go.V
namespace Go.V
theorem zpc:(List.range' 0 120).all (za4 cfg cfgZ Go.Proofs.Tryz.prog) = true:=zcv (a:=0) (b:=60) (c:=60) chk0 chk60
theorem zpd:(List.range' 0 180).all (za4 cfg cfgZ Go.Proofs.Tryz.prog) = true:=zcv (a:=0) (b:=120) (c:=60) zpc zo6
theorem zpe:(List.range' 0 240).all (za4 cfg cfgZ Go.Proofs.Tryz.prog) = true:=zcv (a:=0) (b:=180) (c:=60) zpd zo7
theorem zpf:(List.range' 0 300).all (za4 cfg cfgZ Go.Proofs.Tryz.prog) = true:=zcv (a:=0) (b:=240) (c:=60) zpe zo8
theorem zpg:(List.range' 0 360).all (za4 cfg cfgZ Go.Proofs.Tryz.prog) = true:=zcv (a:=0) (b:=300) (c:=60) zpf zo9
theorem zph:(List.range' 0 420).all (za4 cfg cfgZ Go.Proofs.Tryz.prog) = true:=zcv (a:=0) (b:=360) (c:=60) zpg zpa
theorem zpi:(List.range' 0 474).all (za4 cfg cfgZ Go.Proofs.Tryz.prog) = true:=zcv (a:=0) (b:=420) (c:=54) zph zpb
theorem zce:CfgOK cfg Go.Proofs.Tryz.prog:=znz cfgZ 474 (by kernel_rfl) rfl (Nat.le_of_ble_eq_true (by kernel_rfl)) (Nat.le_of_ble_eq_true (by kernel_rfl)) (Nat.le_of_ble_eq_true (by kernel_rfl)) (Nat.le_of_ble_eq_true (by kernel_rfl)) (by rw [List.range_eq_range']; exact zpi) (by kernel_rfl)
end Go.V
namespace Go.V
theorem zK {P : Program} {f : Nat} {fn : Func} {t : List Nat} (h : P.funcs[f]? = some fn) (k : funOk t fn = true := by kernel_rfl) : P.funcs[f]? = some fn ∧ funOk t fn = true := ⟨h, k⟩
abbrev zQ (f : Nat) : Prop := zaA Go.Proofs.Tryz.prog f
theorem zN {f : Nat} {fn : Func} (h : Go.Proofs.Tryz.prog.funcs[f]? = some fn) (k : entOk fn = true := by kernel_rfl) : zQ f := zez h k
abbrev zU (f : Nat) (s : PSpec) : Prop := zbh Go.Proofs.Tryz.prog cfg f s
theorem zP {E : Env0} (e : EnvOK Go.Proofs.Tryz.prog E) {f : Nat} (fn : Func) (c : Code) {s : PSpec} (r : ∀ x, runF E f fn c s.args s.res x = s.fn x) (hf : find E.F f = some fn := by rfl) (hb : fn.body = some c := by rfl) : zbh Go.Proofs.Tryz.prog E.C f s := zaX e hf hb s fun x y h => (r x).trans h
abbrev zE (E : Env0) : Prop := EnvOK Go.Proofs.Tryz.prog E
theorem zO {E : Env0} (h1 : CfgOK E.C Go.Proofs.Tryz.prog) (h2 : zhL Go.Proofs.Tryz.prog E.C E.P) (h5 : zhM Go.Proofs.Tryz.prog E.C E.S) (h3 : zkt E Go.Proofs.Tryz.prog E.F) (h4 : zhK E E.L) (h6 : zey Go.Proofs.Tryz.prog E.C E.R := by trivial) (h7 : zhO Go.Proofs.Tryz.prog E.C E.I := by trivial) (h8 : zku Go.Proofs.Tryz.prog E.C E.M := by trivial) : EnvOK Go.Proofs.Tryz.prog E := znB cds (by kernel_rfl) h1 h2 h5 h3 h4 h6 h7 h8
abbrev zR (E : Env0) (f : Nat) (fn : Func) (c : Code) (s : PSpec) : Prop := ∀ x : tysDen s.args, runF E f fn c s.args s.res x = s.fn x
end Go.V
namespace Go.V.K
abbrev Nm:=Int × (List Int × Unit)
abbrev Ct:=List (List Nm) × Unit
abbrev Rl:=Int × (Int × (Bool × (List Int × (Bool × (List Int × Unit)))))
abbrev Lb:=Bool × List Int
def lkp (l:List Nm) (i:Int):Lb :=
 match l.find? (fun n=>decide (n.1 = i)) with
 | some n=>(true,n.2.1)
 | none=>(false,[])
def la (c:Ct) (k i:Int):Lb:=lkp (c.1.getD k.toNat []) i
def ids:List Int:=(List.range 24).map Int.ofNat
def kinds:List Int:=(List.range' 1 7).map Int.ofNat
def keys:List (Int × Int):=kinds.flatMap fun k=>ids.map fun i=>(k,i)
def lt2 (a b:Int × Int):Prop:=a.1 < b.1 ∨ (a.1 = b.1∧a.2 < b.2)
def kOf (r:Rl):Int × Int:=(r.1,r.2.1)
def bf (r:Rl):Lb:=(r.2.2.1,r.2.2.2.1)
def af (r:Rl):Lb:=(r.2.2.2.2.1,r.2.2.2.2.2.1)
def mkR (k:Int × Int) (a b:Lb):Rl:=(k.1,k.2,a.1,a.2,b.1,b.2,())
theorem zn0 (k:Int × Int) (a b:Lb):bf (mkR k a b) = a:=rfl
theorem zn1 (k:Int × Int) (a b:Lb):af (mkR k a b) = b:=rfl
def okL (l:List Int):Prop:=l.length≤64∧∀ n∈l,-1152921504606846976≤n∧n≤1152921504606846976
def okM (m:Lb):Prop:=okL m.2∧(m.1 = false→m.2 = [])
def okR (r:Rl):Prop:=kOf r∈keys∧okM (bf r)∧okM (af r)∧bf r ≠ af r
def okD (d:List Rl):Prop:=(∀ r∈d,okR r)∧d.Pairwise (fun a b=>lt2 (kOf a) (kOf b))
def okRow (l:List Nm):Prop:=(∀ n∈l,n.1∈ids∧okL n.2.1)∧l.Pairwise (fun a b=>a.1 < b.1)
def okC (c:Ct):Prop:=c.1.length = 8∧c.1.getD 0 [] = []∧∀ k∈kinds,okRow (c.1.getD k.toNat [])
theorem zhP {α β:Type} {f g:α→Option β}:∀ {l:List α},(∀ x∈l,f x = g x)→l.filterMap f = l.filterMap g
 | [],_=>rfl
 | a :: l,h=>by
  rw [List.filterMap_cons,List.filterMap_cons,h a (by simp),zhP fun x hx=>h x (by simp [hx])]
theorem pick_eq {α κ:Type} [DecidableEq κ] {lt:κ→κ→Prop} (irr:∀ a,¬ lt a a) (tr:∀ a b c,lt a b→lt b c→lt a c) (key:α→κ) :
  ∀ (ks:List κ) (l:List α),ks.Pairwise lt→l.Pairwise (fun a b=>lt (key a) (key b))→(∀ x∈l,key x∈ks) →
   ks.filterMap (fun k=>l.find? (fun x=>decide (key x = k))) = l
 | [],l,_,_,h=>by
  cases l with
  | nil=>rfl
  | cons x l=>exact absurd (h x (by simp)) (by simp)
 | k :: ks,[],_,_,_=>by
  simp
 | k :: ks,x :: l,hk,hl,h=>by
  have hk1:=List.pairwise_cons.1 hk
  have hl1:=List.pairwise_cons.1 hl
  by_cases e:key x = k
  ·have h1:(x :: l).find? (fun y=>decide (key y = k)) = some x:=by simp [e]
   rw [List.filterMap_cons,h1]
   show x :: ks.filterMap (fun k=>(x :: l).find? (fun x=>decide (key x = k))) = x :: l
   congr 1
   have hin:∀ y∈l,key y∈ks:=by
    intro y hy
    have h2:=h y (by simp [hy])
    rcases List.mem_cons.1 h2 with h3 | h3
    ·exact absurd (hl1.1 y hy) (by rw [e,h3]; exact irr k)
    ·exact h3
   have h3:=pick_eq irr tr key ks l hk1.2 hl1.2 hin
   refine Eq.trans (show ks.filterMap (fun k=>(x :: l).find? (fun x=>decide (key x = k))) = ks.filterMap (fun k=>l.find? (fun x=>decide (key x = k))) from zhP fun k' hk'=>?_) h3
   have hne:¬ key x = k':=by
    intro e2
    exact irr k (by have:=hk1.1 k' hk'; rw [← e2,e] at this; exact this)
   simp [hne]
  ·have hx:key x∈ks:=by
    rcases List.mem_cons.1 (h x (by simp)) with h3 | h3
    ·exact absurd h3 e
    ·exact h3
   have hlt:lt k (key x):=hk1.1 _ hx
   have h1:(x :: l).find? (fun y=>decide (key y = k)) = none:=by
    rw [List.find?_eq_none]
    intro y hy
    simp only [decide_eq_true_eq]
    intro e2
    rcases List.mem_cons.1 hy with h3 | h3
    ·subst h3; exact e e2
    ·have:=tr _ _ _ hlt (hl1.1 y h3)
     rw [e2] at this
     exact irr _ this
   rw [List.filterMap_cons,h1]
   refine pick_eq irr tr key ks (x :: l) hk1.2 hl fun y hy=>?_
   rcases List.mem_cons.1 hy with h3 | h3
   ·subst h3; exact hx
   ·rcases List.mem_cons.1 (h y hy) with h4 | h4
    ·exact absurd (tr _ _ _ hlt (hl1.1 y h3)) (by rw [h4]; exact irr k)
    ·exact h4
theorem zjH (a:Int × Int):¬ lt2 a a:=by unfold lt2; omega
theorem zn2 (a b c:Int × Int) (h:lt2 a b) (k:lt2 b c):lt2 a c:=by unfold lt2 at *; omega
theorem zf5 {i:Int}:i∈ids ↔ 0≤i∧i < 24:=by
 unfold ids
 simp only [List.mem_map,List.mem_range]
 constructor
 ·rintro ⟨n,h,rfl⟩
  exact ⟨Int.natCast_nonneg n,by simp only [Int.ofNat_eq_natCast]; omega⟩
 ·rintro ⟨h1,h2⟩
  exact ⟨i.toNat,by omega,by simp only [Int.ofNat_eq_natCast]; omega⟩
theorem zcP {i:Int}:i∈kinds ↔ 1≤i∧i≤7:=by
 unfold kinds
 simp only [List.mem_map,List.mem_range'_1]
 constructor
 ·rintro ⟨n,h,rfl⟩
  simp only [Int.ofNat_eq_natCast]
  omega
 ·rintro ⟨h1,h2⟩
  exact ⟨i.toNat,by omega,by simp only [Int.ofNat_eq_natCast]; omega⟩
theorem zda {k:Int × Int}:k∈keys ↔ (1≤k.1∧k.1≤7)∧(0≤k.2∧k.2 < 24):=by
 unfold keys
 simp only [List.mem_flatMap,List.mem_map]
 constructor
 ·rintro ⟨a,ha,b,hb,rfl⟩
  exact ⟨zcP.1 ha,zf5.1 hb⟩
 ·rintro ⟨h1,h2⟩
  exact ⟨k.1,zcP.2 h1,k.2,zf5.2 h2,rfl⟩
theorem zeX:∀ (n s:Nat),((List.range' s n).map Int.ofNat).Pairwise (· < ·)
 | 0,_=>by simp
 | n + 1,s=>by
  rw [List.range'_succ,List.map_cons,List.pairwise_cons]
  refine ⟨fun x hx=>?_,zeX n (s + 1)⟩
  obtain ⟨y,hy,rfl⟩:=List.mem_map.1 hx
  have:=(List.mem_range'_1.1 hy).1
  simp only [Int.ofNat_eq_natCast]
  omega
theorem zmv:ids.Pairwise (· < ·):=by
 unfold ids
 rw [List.range_eq_range']
 exact zeX 24 0
theorem zmw:kinds.Pairwise (· < ·):=zeX 7 1
theorem zky:keys.Pairwise lt2:=by
 unfold keys
 have main:∀ (l:List Int),l.Pairwise (· < ·)→(l.flatMap fun k=>ids.map fun i=>(k,i)).Pairwise lt2:=by
  intro l
  induction l with
  | nil=>intro _; simp
  | cons a l ih =>
   intro h
   have h1:=List.pairwise_cons.1 h
   rw [List.flatMap_cons,List.pairwise_append]
   refine ⟨?_,ih h1.2,?_⟩
   ·rw [List.pairwise_map]
    exact zmv.imp fun h=>.inr ⟨rfl,h⟩
   ·intro x hx y hy
    obtain ⟨i,_,rfl⟩:=List.mem_map.1 hx
    obtain ⟨b,hb,hy2⟩:=List.mem_flatMap.1 hy
    obtain ⟨j,_,rfl⟩:=List.mem_map.1 hy2
    exact .inl (h1.1 b hb)
 exact main kinds zmw
theorem zpj {l:List Nm} (h:okRow l):(ids.filterMap fun i=>if (lkp l i).1 then some (i,(lkp l i).2,()) else none) = l:=by
 refine Eq.trans (zhP fun i _=>?_) (pick_eq (lt:=(· < ·)) (fun a=>Int.lt_irrefl a) (fun a b c=>Int.lt_trans) (fun n:Nm=>n.1) ids l zmv h.2 (fun x hx=>(h.1 x hx).1))
 unfold lkp
 cases e:l.find? (fun n=>decide (n.1 = i)) with
 | none=>simp
 | some n =>
  have:=List.find?_some e
  simp only [decide_eq_true_eq] at this
  simp [← this]
theorem zpk {l:List Nm} (h:okRow l) (i:Int):okM (lkp l i):=by
 unfold lkp
 cases e:l.find? (fun n=>decide (n.1 = i)) with
 | none=>exact ⟨⟨by simp,by simp⟩,fun _=>rfl⟩
 | some n=>exact ⟨(h.1 n (List.mem_of_find?_eq_some e)).2,by simp⟩
theorem la_ok {c:Ct} (h:okC c) {k i:Int} (hk:(k,i)∈keys):okM (la c k i):=zpk (h.2.2 k (zcP.2 (zda.1 hk).1)) i
def fd (d:List Rl) (k:Int × Int):Option Rl:=d.find? (fun r=>decide (kOf r = k))
def dif (A B:Int→Int→Lb):List Rl:=keys.filterMap fun k=>if A k.1 k.2 = B k.1 k.2 then none else some (mkR k (A k.1 k.2) (B k.1 k.2))
def inv (r:Rl):Rl:=mkR (kOf r) (af r) (bf r)
theorem zf6 {d:List Rl} {k:Int × Int} {r:Rl} (h:fd d k = some r):r∈d∧kOf r = k:=by
 refine ⟨List.mem_of_find?_eq_some h,?_⟩
 have:=List.find?_some h
 simpa using this
theorem zoH {F:Int × Int→Option Rl} (hF:∀ k x,F k = some x→kOf x = k):(keys.filterMap F).Pairwise (fun a b=>lt2 (kOf a) (kOf b)):=by
 rw [List.pairwise_filterMap]
 refine zky.imp fun {a b} hab x hx y hy=>?_
 rw [hF _ _ hx,hF _ _ hy]
 exact hab
theorem zoI {A B:Int→Int→Lb} (hA:∀ k i,(k,i)∈keys→okM (A k i)) (hB:∀ k i,(k,i)∈keys→okM (B k i)):okD (dif A B):=by
 refine ⟨fun r hr=>?_,zoH fun k x hx=>by
  split at hx
  ·cases hx
  ·cases hx; rfl⟩
 obtain ⟨k,hk,e⟩:=List.mem_filterMap.1 hr
 split at e
 ·cases e
 ·rename_i hne
  cases e
  exact ⟨hk,hA _ _ hk,hB _ _ hk,hne⟩
theorem zoJ {d:List Rl} (h:okD d):keys.filterMap (fd d) = d :=
 pick_eq zjH zn2 kOf keys d zky h.2 (fun x hx=>(h.1 x hx).1)
def cmp1 (x y:Option Rl) (k:Int × Int):Option Rl :=
 match x,y with
 | none,none=>none
 | some x,none=>some x
 | none,some y=>some y
 | some x,some y=>if bf x = af y then none else some (mkR k (bf x) (af y))
def zdu (x y:Option Rl):Bool :=
 match x,y with
 | some x,some y=>!decide (af x = bf y)
 | _,_=>false
def clash (d e:List Rl):Bool:=keys.any fun k=>zdu (fd d k) (fd e k)
def comp (d e:List Rl):List Rl:=keys.filterMap fun k=>cmp1 (fd d k) (fd e k) k
def putS (id:Int) (next:List Int):List Nm→Bool→List Nm
 | [],d=>if d then [] else [(id,next,())]
 | n :: l,d =>
  if id < n.1∧d = false then (id,next,()) :: (if n.1 = id then putS id next l true else n :: putS id next l true)
  else (if n.1 = id then putS id next l d else n :: putS id next l d)
theorem zjI {id:Int} {next:List Int}:∀ {l:List Nm},(∀ n∈l,id < n.1)→putS id next l true = l
 | [],_=>rfl
 | n :: l,h=>by
  have h1:=h n (by simp)
  have h2:¬ n.1 = id:=by omega
  simp only [putS,h2,if_false,Bool.true_eq_false,and_false]
  rw [zjI fun m hm=>h m (by simp [hm])]
theorem zjJ {id:Int} {next:List Int}:∀ {l:List Nm} (d:Bool),l.Pairwise (fun a b=>a.1 < b.1) →
  putS id next l d = l.filter (fun n=>decide (n.1 < id))++((if d then [] else [(id,next,())])++l.filter (fun n=>decide (id < n.1)))
 | [],d,_=>by cases d <;> rfl
 | n :: l,d,h=>by
  have h1:=List.pairwise_cons.1 h
  rcases Int.lt_trichotomy n.1 id with e | e | e
  ·have e1:¬ id < n.1:=by omega
   have e2:¬ n.1 = id:=by omega
   simp only [putS,e1,e2,false_and,if_false,List.filter_cons,e,decide_true,if_true,decide_false,Bool.false_eq_true,List.cons_append]
   rw [zjJ d h1.2]
  ·have e1:¬ id < n.1:=by omega
   have e2:¬ n.1 < id:=by omega
   simp only [putS,e1,e,false_and,if_false,if_true,List.filter_cons,decide_false,Bool.false_eq_true,Int.lt_irrefl]
   rw [zjJ d h1.2]
  ·have e2:¬ n.1 < id:=by omega
   have e3:¬ n.1 = id:=by omega
   have hl:∀ m∈l,id < m.1:=fun m hm=>Int.lt_trans e (h1.1 m hm)
   have f1:l.filter (fun n=>decide (n.1 < id)) = []:=by
    rw [List.filter_eq_nil_iff]
    intro m hm
    have:=hl m hm
    simp only [decide_eq_true_eq]
    omega
   have f2:l.filter (fun n=>decide (id < n.1)) = l:=by
    rw [List.filter_eq_self]
    intro m hm
    simpa using hl m hm
   cases d with
   | true=>simp only [putS,e,e3,Bool.true_eq_false,and_false,if_false,List.filter_cons,e2,decide_false,Bool.false_eq_true,decide_true,if_true,f1,f2,List.nil_append,zjI hl]
   | false=>simp only [putS,e,e3,and_self,if_false,List.filter_cons,e2,decide_false,Bool.false_eq_true,decide_true,if_true,f1,f2,List.nil_append,zjI hl,List.cons_append]
theorem zmx {l:List Nm} (h:okRow l) {id:Int} (hid:id∈ids) {next:List Int} (hn:okL next) (d:Bool):okRow (putS id next l d):=by
 rw [zjJ d h.2]
 constructor
 ·intro n hm
  simp only [List.mem_append,List.mem_filter] at hm
  rcases hm with hm | hm | hm
  ·exact h.1 n hm.1
  ·cases d
   ·simp only [Bool.false_eq_true,if_false,List.mem_singleton] at hm
    subst hm
    exact ⟨hid,hn⟩
   ·simp at hm
  ·exact h.1 n hm.1
 ·rw [List.pairwise_append,List.pairwise_append]
  refine ⟨h.2.filter _,⟨by cases d <;> simp,h.2.filter _,?_⟩,?_⟩
  ·intro a ha b hb
   have hb2:=(List.mem_filter.1 hb).2
   simp only [decide_eq_true_eq] at hb2
   cases d
   ·simp only [Bool.false_eq_true,if_false,List.mem_singleton] at ha
    subst ha
    exact hb2
   ·simp at ha
  ·intro a ha b hb
   have ha2:=(List.mem_filter.1 ha).2
   simp only [decide_eq_true_eq] at ha2
   rcases List.mem_append.1 hb with hb | hb
   ·cases d
    ·simp only [Bool.false_eq_true,if_false,List.mem_singleton] at hb
     subst hb
     exact ha2
    ·simp at hb
   ·have hb2:=(List.mem_filter.1 hb).2
    simp only [decide_eq_true_eq] at hb2
    omega
end Go.V.K
namespace Go.V.G
open Go.Proofs
open Go.V.K
theorem wrap_i64 (n:Int) (h0:-9223372036854775808≤n) (h1:n < 9223372036854775808):IntKind.wrap .i64 n = n:=by
 simp [IntKind.wrap,IntKind.bits,IntKind.signed]
 omega
theorem atN (T:Ty) (l:List T.den) (j:Nat) (h:j < l.length):at_ T l (j:Int) = l[j]:=by
 unfold at_
 rw [Int.toNat_natCast,List.getD_eq_getElem?_getD,List.getElem?_eq_getElem h]
 rfl
theorem inRN (j n:Nat):inR (j:Int) n = decide (j < n):=by
 unfold inR
 by_cases h:j < n <;> simp [h]
theorem wS (n:Nat) (h:n < 9223372036854775807):IntKind.wrap .i64 ((n:Int) + 1) = ((n + 1:Nat):Int):=by rw [wrap_i64 _ (by omega) (by omega)]; omega
theorem wP (n:Nat) (h0:0 < n) (h:n < 9223372036854775807):IntKind.wrap .i64 ((n:Int) - 1) = ((n - 1:Nat):Int):=by rw [wrap_i64 _ (by omega) (by omega)]; omega
theorem zaa {A B:Type} {o:Option A} {a:A} {f:A→Option B} {r:Option B} (h:o = some a) (h2:f a = r):o.bind f = r:=by subst h; exact h2
section
variable {A R:Type}
def rounds (step:Nat→A→A ⊕ R) (fin:A→R):Nat→Nat→A→R
 | 0,_,acc=>fin acc
 | m + 1,j,acc=>match step j acc with
  | .inl acc=>rounds step fin m (j + 1) acc
  | .inr r=>r
theorem zaM (n:Nat) (I:Nat→A→Prop) (step:Nat→A→A ⊕ R) (fin:A→R) (F:Nat→Int→A→Option R)
  (hF:∀ k (j:Nat) acc,j≤n→I j acc→F (k + 1) (j:Int) acc = if j < n then (match step j acc with | .inl a=>F k ((j + 1:Nat):Int) a | .inr r=>some r) else some (fin acc))
  (hI:∀ j acc a,j < n→I j acc→step j acc = .inl a→I (j + 1) a) :
  ∀ (m k j:Nat) acc,n - j = m→j≤n→m < k→I j acc→F k (j:Int) acc = some (rounds step fin m j acc):=by
 intro m
 induction m with
 | zero =>
  intro k j acc h1 h2 h3 h4
  obtain ⟨k,rfl⟩:∃ q,k = q + 1:=⟨k - 1,by omega⟩
  rw [hF k j acc h2 h4,if_neg (by omega)]
  rfl
 | succ m ih =>
  intro k j acc h1 h2 h3 h4
  obtain ⟨k,rfl⟩:∃ q,k = q + 1:=⟨k - 1,by omega⟩
  rw [hF k j acc h2 h4,if_pos (by omega)]
  simp only [rounds]
  cases h:step j acc with
  | inl a=>exact ih k (j + 1) a (by omega) (by omega) (by omega) (hI j acc a (by omega) h4 h)
  | inr r=>rfl
def looksAt (ok:Nat→Bool) (no:R) (j:Nat) (u:Unit):Unit ⊕ R:=if ok j = true then .inl () else .inr no
theorem ze9 (ok:Nat→Bool) (yes no:R):∀ (m j:Nat),rounds (looksAt ok no) (fun _=>yes) m j () = if (List.range' j m).all ok then yes else no
 | 0,j=>rfl
 | m + 1,j=>by
  simp only [rounds,looksAt,List.range'_succ,List.all_cons]
  cases h:ok j with
  | true=>simp only [if_true,Bool.true_and]; exact ze9 ok yes no m (j + 1)
  | false=>simp
theorem zb1 (n:Nat) (ok:Nat→Bool) (F:Nat→Int→Option R) (yes no:R)
  (hF:∀ k (j:Nat),j≤n→F (k + 1) (j:Int) = if j < n then (if ok j = true then F k ((j + 1:Nat):Int) else some no) else some yes)
  (k:Nat) (hk:n < k):F k 0 = some (if (List.range n).all ok then yes else no):=by
 have:=zaM n (fun _ _=>True) (looksAt ok no) (fun _=>yes) (fun k j _=>F k j) (fun k j _ h _=>by
  rw [hF k j h]
  unfold looksAt
  cases ok j <;> rfl) (fun _ _ _ _ _ _=>trivial) n k 0 () (by omega) (by omega) hk trivial
 rw [ze9] at this
 rw [List.range_eq_range']
 exact this
theorem zg0 {B:Type} (g:Nat→List B) (fin:List B→R):∀ (m j:Nat) (acc:List B),rounds (fun j acc=>.inl (acc++g j)) fin m j acc = fin (acc++(List.range' j m).flatMap g)
 | 0,j,acc=>by simp [rounds]
 | m + 1,j,acc=>by
  simp only [rounds,List.range'_succ,List.flatMap_cons]
  rw [zg0 g fin m (j + 1)]
  simp
theorem zhQ {B:Type} (n:Nat) (I:Nat→List B→Prop) (g:Nat→List B) (fin:List B→R) (F:Nat→Int→List B→Option R)
  (hF:∀ k (j:Nat) acc,j≤n→I j acc→F (k + 1) (j:Int) acc = if j < n then F k ((j + 1:Nat):Int) (acc++g j) else some (fin acc))
  (hI:∀ j acc,j < n→I j acc→I (j + 1) (acc++g j)) (k j:Nat) (acc:List B) (hj:j≤n) (hk:n - j < k) (h:I j acc) :
  F k (j:Int) acc = some (fin (acc++(List.range' j (n - j)).flatMap g)):=by
 have:=zaM n I (fun j acc=>.inl (acc++g j)) fin F (fun k j acc h h2=>hF k j acc h h2) (fun j acc a h1 h2 e=>by cases e; exact hI j acc h1 h2) (n - j) k j acc rfl hj hk h
 rw [zg0] at this
 exact this
end
theorem all_range_eq {α:Type} [DecidableEq α] (a b:List α) (h:a.length = b.length) (ok:Nat→Bool) (hok:∀ j (h1:j < a.length),ok j = decide (a[j] = b[j])):(List.range a.length).all ok = decide (a = b):=by
 rw [Bool.eq_iff_iff]
 simp only [List.all_eq_true,List.mem_range,decide_eq_true_eq]
 constructor
 ·intro h1
  refine List.ext_getElem h fun i h2 h3=>?_
  have:=h1 i h2
  rw [hok i h2] at this
  simpa using this
 ·rintro rfl i h2
  rw [hok i h2]
  simp
theorem zf7 {α β:Type} (f:α→Option β):∀ (l:List α),l.flatMap (fun x=>(f x).toList) = l.filterMap f
 | []=>rfl
 | x :: l=>by
  rw [List.flatMap_cons,zf7 f l,List.filterMap_cons]
  cases f x <;> rfl
end Go.V.G
namespace Go.V
def cfgF:Cfg:={ cfg with frz:=[23] }
theorem zaf:CfgOK cfgF Go.Proofs.Tryz.prog:={ zce with }
def certZ:List ZG:=[.nils,.nils,.nils,.nils,.nils,.nils,.nils,.nils]
def cfgX:Cfg:={ cfg with zeros:=cfg.zeros.set 34 (some (certZ.map ZG.av)),frz:=[23] }
theorem zoK:(match Go.Proofs.Tryz.prog.info? 34 with
  | some i=>chkI cfg 34 i && (match i.zero with | some z=>chkZ certZ z.cells.toList | none=>false)
  | none=>false) = true:=by kernel_rfl
theorem zmy:cfgX.zero 34 = some (certZ.map ZG.av):=by kernel_rfl
theorem zoL:CfgOK cfgX Go.Proofs.Tryz.prog:={ zce with
 zero:=fun t gs h=>by
  by_cases e:t = 34
  ·subst e
   rw [zmy] at h
   obtain rfl:=Option.some.inj h
   have h2:=zoK
   split at h2
   ·rename_i i hi
    simp only [Bool.and_eq_true] at h2
    obtain ⟨h3,h4⟩:=h2
    split at h4
    ·rename_i z hz
     exact ⟨i,z,hi,(zf3 h3).1,(zf3 h3).2,hz,fun g=>zds h4⟩
    ·cases h4
   ·cases h2
  ·refine zce.zero t gs ?_
   unfold Cfg.zero at h ⊢
   have e2:cfgX.zeros = cfg.zeros.set 34 (some (certZ.map ZG.av)):=rfl
   rw [e2,List.getD_eq_getElem?_getD,List.getElem?_set_ne (fun h=>e h.symm),← List.getD_eq_getElem?_getD] at h
   exact h }
noncomputable abbrev gI {R:Type} (x y:Int) (r:Option R):Option R:=zbF (.val yI x) (.val yI y) r
end Go.V
namespace Go.V.G
open Go.Proofs
noncomputable section
def f90_l5h:Ann:={ env:=[(0,.ty .str),(1,YI),(7,.ty (.int .u64)),(19,YI)] }
def f90_l5o:List (Ex × Ann):=[((.exit 0),{ env:=[] }),(.ret,{ env:=[(4,YI),(5,YI),(6,YI)] })]
def f90_l5 (t0:ByteArray) (t1:Int):Nat→Int→Int→Option (outDen f90_l5o)
 | 0,_,_=>none
 | k + 1,t7,t19 =>
 bif (decide (t19 < (9:Int))) then
 let v1:Bool:=(decide ((IntKind.wrap .i64 (t1 + t19)) ≥ (t0.size:Int)))
 bif v1 then
 some (.inl ((),(),()))
 else
 bif (inR (IntKind.wrap .i64 (t1 + t19)) t0.size) then
 let v2:Int:=(byteAt t0 (IntKind.wrap .i64 (t1 + t19)))
 let v3:Int:=(IntKind.wrap .u64 (andV .u8 v2 (127:Int)))
 bif (decide (0≤(IntKind.wrap .i64 ((7:Int) * t19)))) then
 let v4:Int:=(shlV .u64 v3 (IntKind.wrap .i64 ((7:Int) * t19)))
 bif (decide (v2 ≥ (128:Int))) then
 f90_l5 t0 t1 k (orV .u64 t7 v4) (IntKind.wrap .i64 (t19 + 1))
 else
 let v5:Int:=(IntKind.wrap .i64 (shrV .u64 (orV .u64 t7 v4) (1:Int)))
 let v6:Int:=(IntKind.wrap .i64 (andV .u64 (orV .u64 t7 v4) (1:Int)))
 let v7:Int:=(xorV .i64 v5 (IntKind.wrap .i64 (0 - v6)))
 bif (decide (v2 = (0:Int))) then
 bif (decide (t19 > (0:Int))) then
 some (.inl ((),(),()))
 else
 let v8:Bool:=(decide (v7 < (-4611686018427387903:Int)))
 bif v8 then
 some (.inl ((),(),()))
 else
 let v9:Int:=(IntKind.wrap .i64 ((IntKind.wrap .i64 (t1 + t19)) + 1))
 some (.inr ((v7,v9,(0:Int),()),(),()))
 else
 let v10:Bool:=(decide (v7 < (-4611686018427387903:Int)))
 bif v10 then
 some (.inl ((),(),()))
 else
 let v11:Int:=(IntKind.wrap .i64 ((IntKind.wrap .i64 (t1 + t19)) + 1))
 some (.inr ((v7,v11,(0:Int),()),(),()))
 else none
 else none
 else
 some (.inl ((),(),()))
def f90_l5_n (n:Nat) (x:f90_l5h.den):=f90_l5 x.1.1 x.1.2.1 n x.1.2.2.1 x.1.2.2.2.1
def f90_l5s:LSpec:={ head:=f90_l5h,outs:=f90_l5o,fn:=fun x=>f90_l5_n (((9:Int) - x.1.2.2.2.1).toNat + 1) x }
def f90 (a0:ByteArray) (a1:Int):Option (Int × Int × Int × Unit) :=
 bif (decide (a1 < (0:Int))) then
 some ((0:Int),(0:Int),(2:Int),())
 else
 bif (decide (a1 > (a0.size:Int))) then
 some ((0:Int),(0:Int),(2:Int),())
 else
 (f90_l5 a0 a1 (((9:Int) - (0:Int)).toNat + 1) (0:Int) (0:Int)).bind fun o12 =>
 Sum.elim (fun o13 =>
 some ((0:Int),(0:Int),(10:Int),())) (fun o14 =>
 let u15:Int:=o14.1.1
 let u16:Int:=o14.1.2.1
 let u17:Int:=o14.1.2.2.1
 some (u15,u16,u17,())) o12
def f90s:PSpec:={ args:=[.str,yI],res:=[yI,yI,yI],fn:=fun x=>f90 x.1 x.2.1 }
noncomputable def f90c:Code:=Tryz.f85.body.getD .skip
noncomputable def f90e:Env0:={ C:=cfgF,P:=[],L:=[(⟨12,0,85,5⟩,f90_l5s)],F:=[(85,Tryz.f85)] }
theorem f90_l5y:zan f90e 12 85 0 (zao f90c 5) f90_l5s :=
 zae (by kernel_rfl) f90_l5_n (fun x o h=>⟨_,h⟩) (fun x=>by kernel_rfl) (fun n x=>by kernel_rfl)
theorem f90r:zR f90e 85 Tryz.f85 f90c f90s:=by intro x; kernel_rfl
theorem f90n:zQ 85:=zN Tryz.func85
theorem f90k:zE f90e:=zO zaf trivial trivial ⟨zK Tryz.func85,trivial⟩ ⟨⟨Tryz.f85,f90c,rfl,rfl,f90_l5y⟩,trivial⟩
theorem f90p:zU 85 f90s:=zP f90k Tryz.f85 f90c f90r
def f103 (a0:Ye):Option (Bool × Unit) :=
 let v1:Bool:=(decide ((a0.2.1.size:Int) = (0:Int)))
 bif v1 then
 some (true,())
 else
 let v2:Bool:=(decide ((a0.2.1.size:Int) > (65536:Int)))
 some (v2,())
def f103s:PSpec:={ args:=[yE],res:=[.bool],fn:=fun x=>f103 x.1 }
noncomputable def f103c:Code:=Tryz.f102.body.getD .skip
noncomputable def f103e:Env0:={ C:=cfgF,P:=[],L:=[],F:=[(102,Tryz.f102)] }
theorem f103r:zR f103e 102 Tryz.f102 f103c f103s:=by intro x; kernel_rfl
theorem f103n:zQ 102:=zN Tryz.func102
theorem f103k:zE f103e:=zO zaf trivial trivial ⟨zK Tryz.func102,trivial⟩ trivial
theorem f103p:zU 102 f103s:=zP f103k Tryz.f102 f103c f103r
def f104_l2h:Ann:={ env:=[(0,.ty (.sl yI)),(5,.ty (.sl yI)),(6,YI),(7,YI)] }
def f104_l2o:List (Ex × Ann):=[((.exit 0),{ env:=[] }),(.ret,{ env:=[(2,.ty .bool)] })]
def f104_l2 (t0:(List Int)) (t5:(List Int)) (t6:Int):Nat→Int→Option (outDen f104_l2o)
 | 0,_=>none
 | k + 1,t7 =>
 bif (decide (t7 < t6)) then
 bif (inR t7 t5.length) then
 let v1:Bool:=(decide ((at_ yI t5 t7) < (0:Int)))
 bif v1 then
 some (.inr ((false,()),(),()))
 else
 let v2:Bool:=(decide ((at_ yI t5 t7) ≥ (64:Int)))
 bif v2 then
 some (.inr ((false,()),(),()))
 else
 bif (decide (t7 > (0:Int))) then
 bif (inR (IntKind.wrap .i64 (t7 - (1:Int))) t0.length) then
 let v3:Int:=(at_ yI t0 (IntKind.wrap .i64 (t7 - (1:Int))))
 bif (decide ((at_ yI t5 t7)≤v3)) then
 some (.inr ((false,()),(),()))
 else
 f104_l2 t0 t5 t6 k (IntKind.wrap .i64 (t7 + 1))
 else none
 else
 f104_l2 t0 t5 t6 k (IntKind.wrap .i64 (t7 + 1))
 else none
 else
 some (.inl ((),(),()))
def f104_l2_n (n:Nat) (x:f104_l2h.den):=f104_l2 x.1.1 x.1.2.1 x.1.2.2.1 n x.1.2.2.2.1
def f104_l2s:LSpec:={ head:=f104_l2h,outs:=f104_l2o,fn:=fun x=>f104_l2_n ((x.1.2.2.1 - x.1.2.2.2.1).toNat + 1) x }
def f104 (a0:(List Int)):Option (Bool × Unit) :=
 (f104_l2 a0 a0 (a0.length:Int) (((a0.length:Int) - (0:Int)).toNat + 1) (0:Int)).bind fun o4 =>
 Sum.elim (fun o5 =>
 some (true,())) (fun o6 =>
 let u7:Bool:=o6.1.1
 some (u7,())) o4
def f104s:PSpec:={ args:=[(.sl yI)],res:=[.bool],fn:=fun x=>f104 x.1 }
noncomputable def f104c:Code:=Tryz.f103.body.getD .skip
noncomputable def f104e:Env0:={ C:=cfgF,P:=[],L:=[(⟨12,0,103,2⟩,f104_l2s)],F:=[(103,Tryz.f103)] }
theorem f104_l2y:zan f104e 12 103 0 (zao f104c 2) f104_l2s :=
 zae (by kernel_rfl) f104_l2_n (fun x o h=>⟨_,h⟩) (fun x=>by kernel_rfl) (fun n x=>by kernel_rfl)
theorem f104r:zR f104e 103 Tryz.f103 f104c f104s:=by intro x; kernel_rfl
theorem f104n:zQ 103:=zN Tryz.func103
theorem f104k:zE f104e:=zO zaf trivial trivial ⟨zK Tryz.func103,trivial⟩ ⟨⟨Tryz.f103,f104c,rfl,rfl,f104_l2y⟩,trivial⟩
theorem f104p:zU 103 f104s:=zP f104k Tryz.f103 f104c f104r
def f106 (a0:Ye):Option (Int × Unit) :=
 some (a0.1,())
def f106s:PSpec:={ args:=[yE],res:=[yI],fn:=fun x=>f106 x.1 }
noncomputable def f106c:Code:=Tryz.f105.body.getD .skip
noncomputable def f106e:Env0:={ C:=cfgF,P:=[],L:=[],F:=[(105,Tryz.f105)] }
theorem f106r:zR f106e 105 Tryz.f105 f106c f106s:=by intro x; kernel_rfl
theorem f106n:zQ 105:=zN Tryz.func105
theorem f106k:zE f106e:=zO zaf trivial trivial ⟨zK Tryz.func105,trivial⟩ trivial
theorem f106p:zU 105 f106s:=zP f106k Tryz.f105 f106c f106r
def f105_l3_b5000_head:Ann:={ env:=[(1,.cst (.fn 105 [])),(5,.cst (.row 5019 .whole)),(8,.ty (.sl yE)),(9,YI),(10,YI)],stk:=[[(0,.ty (.sl yE)),(2,.ty .bool),(3,.cst (.fn 102 []))]],bxs:=[(5019,.row yI false)] }
def f105_l3_b5000_outs:List (Ex × Ann):=[((.exit 0),{ env:=[(5,.cst (.row 5019 .whole))],stk:=[[(0,.ty (.sl yE)),(2,.ty .bool),(3,.cst (.fn 102 []))]],bxs:=[(5019,.row yI false)] })]
def f105_l3_b5000 (t8:(List Ye)) (t9:Int) (k0t0:(List Ye)) (k0t2:Bool):Nat→Int→(List Int)→Option (outDen f105_l3_b5000_outs)
 | 0,_,_=>none
 | k + 1,t10,r5019 =>
 bif (decide (t10 < t9)) then
 bif (inR t10 t8.length) then
 (f106 (at_ yE t8 t10)).bind fun y1 =>
 bif (decide (r5019.length + ([y1.1]:List Int).length≤zac)) then f105_l3_b5000 t8 t9 k0t0 k0t2 k (IntKind.wrap .i64 (t10 + 1)) (r5019++([y1.1]:List Int)) else none
 else none
 else
 some ((),((k0t0,k0t2,()),()),(r5019,()))
def f105_l3_b5000_n (n:Nat) (x:f105_l3_b5000_head.den):=f105_l3_b5000 x.1.1 x.1.2.1 x.2.1.1.1 x.2.1.1.2.1 n x.1.2.2.1 x.2.2.1
def f105_l3_b5000_spec:LSpec:={ thaws:=[.slot 5 5019 yI],head:=f105_l3_b5000_head,outs:=f105_l3_b5000_outs,fn:=fun x=>f105_l3_b5000_n ((x.1.2.1 - x.1.2.2.1).toNat + 1) x }
def f121_l2xh:Ann:={ env:=[(0,.ty (.sl yE)),(1,.cst (.fn 102 [])),(7,YI),(8,YI)],stk:=[[(4,.ty .bool)],[(2,.ty .bool),(7,.ty .bool)]] }
def f121_l2xo:List (Ex × Ann):=[((.exit 0),{ env:=[],stk:=[[(4,.ty .bool)],[(2,.ty .bool),(7,.ty .bool)]] }),(.ret,{ env:=[(4,YI)],stk:=[[(4,.ty .bool)],[(2,.ty .bool),(7,.ty .bool)]] })]
def f121_l2x (t0:(List Ye)) (t7:Int) (k0t4:Bool) (k1t2:Bool) (k1t7:Bool):Nat→Int→Option (outDen f121_l2xo)
 | 0,_=>none
 | k + 1,t8 =>
 bif (decide (t8 < t7)) then
 bif (inR t8 t0.length) then
 (f103 (at_ yE t0 t8)).bind fun y7 =>
 bif y7.1 then
 some (.inr ((t8,()),((k0t4,()),(k1t2,k1t7,()),()),()))
 else
 f121_l2x t0 t7 k0t4 k1t2 k1t7 k (IntKind.wrap .i64 (t8 + 1))
 else none
 else
 some (.inl ((),((k0t4,()),(k1t2,k1t7,()),()),()))
def f121_l2x_n (n:Nat) (x:f121_l2xh.den):=f121_l2x x.1.1 x.1.2.1 x.2.1.1.1 x.2.1.2.1.1 x.2.1.2.1.2.1 n x.1.2.2.1
def f121_l2xs:LSpec:={ head:=f121_l2xh,outs:=f121_l2xo,fn:=fun x=>f121_l2x_n ((x.1.2.1 - x.1.2.2.1).toNat + 1) x }
def f91 (a0:(List Ye)):Option (Bool × Unit) :=
 (f105_l3_b5000 a0 (a0.length:Int) a0 false (((a0.length:Int) - (0:Int)).toNat + 1) (0:Int) []).bind fun o2 =>
 let u3:(List Ye):=o2.2.1.1.1
 let u4:Bool:=o2.2.1.1.2.1
 let u5:(List Int):=o2.2.2.1
 (f104 u5).bind fun y6 =>
 bif y6.1 then
 (f121_l2x u3 (u3.length:Int) false u4 true (((u3.length:Int) - (0:Int)).toNat + 1) (0:Int)).bind fun o8 =>
 Sum.elim (fun o9 =>
 let u13:Bool:=o9.2.1.2.1.2.1
 bif u13 then
 some (true,())
 else
 some (false,())) (fun o10 =>
 let u14:Int:=o10.1.1
 let u17:Bool:=o10.2.1.2.1.2.1
 bif u17 then
 some ((!(decide (u14 ≥ (0:Int)))),())
 else
 some (false,())) o8
 else
 some (false,())
def f91s:PSpec:={ args:=[(.sl yE)],res:=[.bool],fn:=fun x=>f91 x.1 }
noncomputable def f91c:Code:=Tryz.f88.body.getD .skip
noncomputable def f91_code_104:Code:=Tryz.f104.body.getD .skip
noncomputable def f91_code_121:Code:=Tryz.f121.body.getD .skip
noncomputable def f91e:Env0:={ C:=cfgF,P:=[(102,f103s),(103,f104s),(105,f106s)],L:=[(⟨11,5000,104,3⟩,f105_l3_b5000_spec),(⟨10,10007000,121,2⟩,f121_l2xs)],F:=[(88,Tryz.f88),(104,Tryz.f104),(106,Tryz.f106),(121,Tryz.f121)] }
theorem f105_l3_b5000_ok:zan f91e 11 104 5000 (zao f91_code_104 3) f105_l3_b5000_spec :=
 zae (by kernel_rfl) f105_l3_b5000_n (fun x o h=>⟨_,h⟩) (fun x=>by kernel_rfl) (fun n x=>by kernel_rfl)
theorem f121_l2xy:zan f91e 10 121 10007000 (zao f91_code_121 2) f121_l2xs :=
 zae (by kernel_rfl) f121_l2x_n (fun x o h=>⟨_,h⟩) (fun x=>by kernel_rfl) (fun n x=>by kernel_rfl)
theorem f91r:zR f91e 88 Tryz.f88 f91c f91s:=by intro x; kernel_rfl
theorem f91n:zQ 88:=zN Tryz.func88
theorem f91k:zE f91e:=zO zaf ⟨⟨f103p,f103n⟩,⟨f104p,f104n⟩,⟨f106p,f106n⟩,trivial⟩ trivial ⟨zK Tryz.func88,zK Tryz.func104,zK Tryz.func106,zK Tryz.func121,trivial⟩ ⟨⟨Tryz.f104,f91_code_104,rfl,rfl,f105_l3_b5000_ok⟩,⟨Tryz.f121,f91_code_121,rfl,rfl,f121_l2xy⟩,trivial⟩
theorem f91p:zU 88 f91s:=zP f91k Tryz.f88 f91c f91r
def f108 :Option (ByteArray × Unit) :=
 bif (decide (0≤(32:Int)) && decide ((32:Int)≤(32:Int)) && decide ((32:Int)≤(zac:Int))) then
 let v1:ByteArray:=(ofBytes (List.replicate (Int.toNat (32:Int)) (0:Int)))
 some (v1,())
 else none
def f108s:PSpec:={ args:=[],res:=[.str],fn:=fun x=>f108  }
noncomputable def f108c:Code:=Tryz.f107.body.getD .skip
noncomputable def f108e:Env0:={ C:=cfgF,P:=[],L:=[],F:=[(107,Tryz.f107)] }
theorem f108r:zR f108e 107 Tryz.f107 f108c f108s:=by intro x; kernel_rfl
theorem f108n:zQ 107:=zN Tryz.func107
theorem f108k:zE f108e:=zO zaf trivial trivial ⟨zK Tryz.func107,trivial⟩ trivial
theorem f108p:zU 107 f108s:=zP f108k Tryz.f107 f108c f108r
def f119_l0xh:Ann:={ env:=[(0,.cst (.yld 905)),(1,cP 20001)],stk:=[[(0,.cst (.yld 905))],[(2,.ty .str),(3,YI),(4,cP 4)]],bxs:=[(905,.loop false 79 5 [(4,cP 4)]),(20001,.var [.ty (.int .u64)]),(4,.var [.cst (.row 905011030 .whole)]),(905011030,.row (.int .u8) false)] }
def f119_l0xo:List (Ex × Ann):=[(.ret,{ env:=[],stk:=[[(0,.cst (.yld 905))],[(2,.ty .str),(3,YI),(4,cP 4)]],bxs:=[(905,.loop false 79 5 [(4,cP 4)]),(4,.var [.cst (.row 905011030 .whole)]),(905011030,.row (.int .u8) false)] })]
def f119_l0x (k1t2:ByteArray) (k1t3:Int):Nat→Int→(List Int)→Option (outDen f119_l0xo)
 | 0,_,_=>none
 | k + 1,b20001g0,r905011030 =>
 let v5:Int:=(IntKind.wrap .u8 (andV .u64 b20001g0 (127:Int)))
 bif (!(decide (b20001g0 < (128:Int)))) then
 bif (decide (r905011030.length + ([(orV .u8 v5 (128:Int))]:List Int).length≤zac)) then
 bif (decide (b20001g0 < (128:Int))) then
 some ((),((),(k1t2,k1t3,()),()),((),(),(r905011030++([(orV .u8 v5 (128:Int))]:List Int)),()))
 else
 f119_l0x k1t2 k1t3 k (shrV .u64 b20001g0 (7:Int)) (r905011030++([(orV .u8 v5 (128:Int))]:List Int))
 else none
 else
 bif (decide (r905011030.length + ([v5]:List Int).length≤zac)) then
 bif (decide (b20001g0 < (128:Int))) then
 some ((),((),(k1t2,k1t3,()),()),((),(),(r905011030++([v5]:List Int)),()))
 else
 f119_l0x k1t2 k1t3 k (shrV .u64 b20001g0 (7:Int)) (r905011030++([v5]:List Int))
 else none
def f119_l0x_n (n:Nat) (x:f119_l0xh.den):=f119_l0x x.2.1.2.1.1 x.2.1.2.1.2.1 n x.2.2.2.1.1 x.2.2.2.2.2.1
def f119_l0xs:LSpec:={ thaws:=[.cell 4 0 905011030 (.int .u8)],head:=f119_l0xh,outs:=f119_l0xo,fn:=fun x=>f119_l0x_n ((10:Nat)) x }
def f87 (a0:Int):Option (ByteArray × Int × Unit) :=
 let v1:Bool:=(decide (a0 < (-4611686018427387903:Int)))
 bif v1 then
 some ((⟨#[]⟩:ByteArray),(10:Int),())
 else
 let v2:Bool:=(decide (a0 > (4611686018427387903:Int)))
 bif v2 then
 some ((⟨#[]⟩:ByteArray),(10:Int),())
 else
 let v3:Int:=(shlV .u64 (IntKind.wrap .u64 a0) (1:Int))
 let v4:Int:=(IntKind.wrap .u64 (shrV .i64 a0 (63:Int)))
 (f119_l0x (⟨#[]⟩:ByteArray) (0:Int) ((10:Nat)) (xorV .u64 v3 v4) []).bind fun o6 =>
 let u9:(List Int):=o6.2.2.2.2.1
 some ((ofBytes u9),(0:Int),())
def f87s:PSpec:={ args:=[yI],res:=[.str,yI],fn:=fun x=>f87 x.1 }
noncomputable def f87c:Code:=Tryz.f79.body.getD .skip
noncomputable def f87_code_119:Code:=Tryz.f119.body.getD .skip
noncomputable def f87e:Env0:={ C:=cfgF,P:=[],L:=[(⟨11,905000,119,0⟩,f119_l0xs)],F:=[(79,Tryz.f79),(97,Tryz.f97),(119,Tryz.f119)] }
theorem f119_l0xy:zan f87e 11 119 905000 (zao f87_code_119 0) f119_l0xs :=
 zae (by kernel_rfl) f119_l0x_n (fun x o h=>⟨_,h⟩) (fun x=>by kernel_rfl) (fun n x=>by kernel_rfl)
theorem f87r:zR f87e 79 Tryz.f79 f87c f87s:=by intro x; kernel_rfl
theorem f87n:zQ 79:=zN Tryz.func79
theorem f87k:zE f87e:=zO zaf trivial trivial ⟨zK Tryz.func79,zK Tryz.func97,zK Tryz.func119,trivial⟩ ⟨⟨Tryz.f119,f87_code_119,rfl,rfl,f119_l0xy⟩,trivial⟩
theorem f87p:zU 79 f87s:=zP f87k Tryz.f79 f87c f87r
def f233 (a0:Int) (a1:Int):Option (Int × Unit) :=
 let v1:Int:=(andV .u64 (IntKind.wrap .u64 a1) (31:Int))
 bif (decide (0≤v1)) then
 bif (decide (0≤(IntKind.wrap .u64 ((32:Int) - v1)))) then
 let v2:Int:=(shrV .u32 a0 (IntKind.wrap .u64 ((32:Int) - v1)))
 some ((orV .u32 (shlV .u32 a0 v1) v2),())
 else none
 else none
def f233s:PSpec:={ args:=[(.int .u32),yI],res:=[(.int .u32)],fn:=fun x=>f233 x.1 x.2.1 }
noncomputable def f233c:Code:=Tryz.f233.body.getD .skip
noncomputable def f233e:Env0:={ C:=cfgF,P:=[],L:=[],F:=[(233,Tryz.f233)] }
theorem f233r:zR f233e 233 Tryz.f233 f233c f233s:=by intro x; kernel_rfl
theorem f233n:zQ 233:=zN Tryz.func233
theorem f233k:zE f233e:=zO zaf trivial trivial ⟨zK Tryz.func233,trivial⟩ trivial
theorem f233p:zU 233 f233s:=zP f233k Tryz.f233 f233c f233r
def f162_l3h:Ann:={ env:=[(0,.ty (.int .u32)),(5,.ty (.int .u32)),(8,.ty (.sl yI)),(9,YI),(10,YI)] }
def f162_l3o:List (Ex × Ann):=[((.exit 0),{ env:=[(5,.ty (.int .u32))] })]
def f162_l3 (t0:Int) (t8:(List Int)) (t9:Int):Nat→Int→Int→Option (outDen f162_l3o)
 | 0,_,_=>none
 | k + 1,t5,t10 =>
 bif (decide (t10 < t9)) then
 bif (inR t10 t8.length) then
 let v1:Int:=(IntKind.wrap .i64 (0 - (at_ yI t8 t10)))
 (f233 t0 v1).bind fun y2 =>
 f162_l3 t0 t8 t9 k (xorV .u32 t5 y2.1) (IntKind.wrap .i64 (t10 + 1))
 else none
 else
 some ((t5,()),(),())
def f162_l3_n (n:Nat) (x:f162_l3h.den):=f162_l3 x.1.1 x.1.2.2.1 x.1.2.2.2.1 n x.1.2.1 x.1.2.2.2.2.1
def f162_l3s:LSpec:={ head:=f162_l3h,outs:=f162_l3o,fn:=fun x=>f162_l3_n ((x.1.2.2.2.1 - x.1.2.2.2.2.1).toNat + 1) x }
def f162 (a0:Int) (a1:(List Int)):Option (Int × Unit) :=
 (f162_l3 a0 a1 (a1.length:Int) (((a1.length:Int) - (0:Int)).toNat + 1) (0:Int) (0:Int)).bind fun o3 =>
 let u4:Int:=o3.1.1
 some (u4,())
def f162s:PSpec:={ args:=[(.int .u32),(.sl yI)],res:=[(.int .u32)],fn:=fun x=>f162 x.1 x.2.1 }
noncomputable def f162c:Code:=Tryz.f162.body.getD .skip
noncomputable def f162e:Env0:={ C:=cfgF,P:=[(233,f233s)],L:=[(⟨12,0,162,3⟩,f162_l3s)],F:=[(162,Tryz.f162)] }
theorem f162_l3y:zan f162e 12 162 0 (zao f162c 3) f162_l3s :=
 zae (by kernel_rfl) f162_l3_n (fun x o h=>⟨_,h⟩) (fun x=>by kernel_rfl) (fun n x=>by kernel_rfl)
theorem f162r:zR f162e 162 Tryz.f162 f162c f162s:=by intro x; kernel_rfl
theorem f162n:zQ 162:=zN Tryz.func162
theorem f162k:zE f162e:=zO zaf ⟨⟨f233p,f233n⟩,trivial⟩ trivial ⟨zK Tryz.func162,trivial⟩ ⟨⟨Tryz.f162,f162c,rfl,rfl,f162_l3y⟩,trivial⟩
theorem f162p:zU 162 f162s:=zP f162k Tryz.f162 f162c f162r
def f161_l2h:Ann:={ env:=[(0,.ty (.sl (.int .u8))),(2,cP 2),(7,YI)],bxs:=[(2,.var [.ty (.arr 64 (.int .u32))])] }
def f161_l2o:List (Ex × Ann):=[((.exit 0),{ env:=[(2,cP 2)],bxs:=[(2,.var [.ty (.arr 64 (.int .u32))])] })]
def f161_l2 (t0:(List Int)):Nat→Int→(List Int)→Option (outDen f161_l2o)
 | 0,_,_=>none
 | k + 1,t7,b2g0 =>
 bif (decide (t7 < (16:Int))) then
 bif (inR (IntKind.wrap .i64 ((4:Int) * t7)) t0.length) then
 let v1:Int:=(at_ (.int .u8) t0 (IntKind.wrap .i64 ((4:Int) * t7)))
 let v2:Int:=(shlV .u32 (IntKind.wrap .u32 v1) (24:Int))
 let v3:Int:=(IntKind.wrap .i64 ((IntKind.wrap .i64 ((4:Int) * t7)) + 1))
 bif (inR v3 t0.length) then
 let v4:Int:=(IntKind.wrap .u32 (at_ (.int .u8) t0 v3))
 let v5:Int:=(IntKind.wrap .i64 ((IntKind.wrap .i64 ((4:Int) * t7)) + (2:Int)))
 bif (inR v5 t0.length) then
 let v6:Int:=(IntKind.wrap .u32 (at_ (.int .u8) t0 v5))
 let v7:Int:=(orV .u32 (orV .u32 v2 (shlV .u32 v4 (16:Int))) (shlV .u32 v6 (8:Int)))
 let v8:Int:=(IntKind.wrap .i64 ((IntKind.wrap .i64 ((4:Int) * t7)) + (3:Int)))
 bif (inR v8 t0.length) then
 let v9:Int:=(IntKind.wrap .u32 (at_ (.int .u8) t0 v8))
 bif (inR t7 64) then f161_l2 t0 k (IntKind.wrap .i64 (t7 + 1)) (b2g0.set (Int.toNat t7) (orV .u32 v7 v9)) else none
 else none
 else none
 else none
 else none
 else
 some ((),(),((b2g0,()),()))
def f161_l2_n (n:Nat) (x:f161_l2h.den):=f161_l2 x.1.1 n x.1.2.1 x.2.2.1.1
def f161_l2s:LSpec:={ head:=f161_l2h,outs:=f161_l2o,fn:=fun x=>f161_l2_n (((16:Int) - x.1.2.1).toNat + 1) x }
def f161_l7h:Ann:={ env:=[(2,cP 2),(4,YI)],bxs:=[(2,.var [.ty (.arr 64 (.int .u32))])] }
def f161_l7o:List (Ex × Ann):=[((.exit 2),{ env:=[(2,cP 2)],bxs:=[(2,.var [.ty (.arr 64 (.int .u32))])] })]
def f161_l7:Nat→Int→(List Int)→Option (outDen f161_l7o)
 | 0,_,_=>none
 | k + 1,t4,b2g0 =>
 bif (decide (t4 < (64:Int))) then
 bif (inR (IntKind.wrap .i64 (t4 - (15:Int))) 64) then
 let v12:Int:=(at_ (.int .u32) b2g0 (IntKind.wrap .i64 (t4 - (15:Int))))
 bif (inR (IntKind.wrap .i64 (t4 - (2:Int))) 64) then
 let v13:Int:=(at_ (.int .u32) b2g0 (IntKind.wrap .i64 (t4 - (2:Int))))
 bif (inR (IntKind.wrap .i64 (t4 - (16:Int))) 64) then
 let v14:Int:=(at_ (.int .u32) b2g0 (IntKind.wrap .i64 (t4 - (16:Int))))
 (f162 v12 ([(7:Int),(18:Int)]:List Int)).bind fun y15 =>
 let v16:Int:=(xorV .u32 y15.1 (shrV .u32 v12 (3:Int)))
 bif (inR (IntKind.wrap .i64 (t4 - (7:Int))) 64) then
 let v17:Int:=(at_ (.int .u32) b2g0 (IntKind.wrap .i64 (t4 - (7:Int))))
 let v18:Int:=(IntKind.wrap .u32 ((IntKind.wrap .u32 (v14 + v16)) + v17))
 (f162 v13 ([(17:Int),(19:Int)]:List Int)).bind fun y19 =>
 let v20:Int:=(xorV .u32 y19.1 (shrV .u32 v13 (10:Int)))
 bif (inR t4 64) then f161_l7 k (IntKind.wrap .i64 (t4 + 1)) (b2g0.set (Int.toNat t4) (IntKind.wrap .u32 (v18 + v20))) else none
 else none
 else none
 else none
 else none
 else
 some ((),(),((b2g0,()),()))
def f161_l7_n (n:Nat) (x:f161_l7h.den):=f161_l7 n x.1.1 x.2.2.1.1
def f161_l7s:LSpec:={ head:=f161_l7h,outs:=f161_l7o,fn:=fun x=>f161_l7_n (((64:Int) - x.1.1).toNat + 1) x }
def f161 (a0:(List Int)):Option ((List Int) × Unit) :=
 (f161_l2 a0 (((16:Int) - (0:Int)).toNat + 1) (0:Int) (List.replicate 64 (0:Int))).bind fun o10 =>
 let u11:(List Int):=o10.2.2.1.1
 (f161_l7 (((64:Int) - (16:Int)).toNat + 1) (16:Int) u11).bind fun o21 =>
 let u22:(List Int):=o21.2.2.1.1
 some (u22,())
def f161s:PSpec:={ args:=[(.sl (.int .u8))],res:=[(.arr 64 (.int .u32))],fn:=fun x=>f161 x.1 }
noncomputable def f161c:Code:=Tryz.f161.body.getD .skip
noncomputable def f161e:Env0:={ C:=cfgF,P:=[(162,f162s)],L:=[(⟨12,0,161,2⟩,f161_l2s),(⟨12,0,161,7⟩,f161_l7s)],F:=[(161,Tryz.f161)] }
theorem f161_l2y:zan f161e 12 161 0 (zao f161c 2) f161_l2s :=
 zae (by kernel_rfl) f161_l2_n (fun x o h=>⟨_,h⟩) (fun x=>by kernel_rfl) (fun n x=>by kernel_rfl)
theorem f161_l7y:zan f161e 12 161 0 (zao f161c 7) f161_l7s :=
 zae (by kernel_rfl) f161_l7_n (fun x o h=>⟨_,h⟩) (fun x=>by kernel_rfl) (fun n x=>by kernel_rfl)
theorem f161r:zR f161e 161 Tryz.f161 f161c f161s:=by intro x; kernel_rfl
theorem f161n:zQ 161:=zN Tryz.func161
theorem f161k:zE f161e:=zO zaf ⟨⟨f162p,f162n⟩,trivial⟩ trivial ⟨zK Tryz.func161,trivial⟩ ⟨⟨Tryz.f161,f161c,rfl,rfl,f161_l2y⟩,⟨Tryz.f161,f161c,rfl,rfl,f161_l7y⟩,trivial⟩
theorem f161p:zU 161 f161s:=zP f161k Tryz.f161 f161c f161r
def f116_l3h:Ann:={ env:=[(0,cP 3),(4,cP 4),(5,cP 5),(18,.ty (.arr 64 (.int .u32))),(19,YI)],stk:=[[(0,cP 3)]],bxs:=[(3,.var [.ty (.arr 8 (.int .u32))]),(4,.var [.ty (.arr 64 (.int .u32))]),(5,.var [.ty (.arr 8 (.int .u32))])] }
def f116_l3o:List (Ex × Ann):=[((.exit 0),{ env:=[(0,cP 3),(5,cP 5)],stk:=[[(0,cP 3)]],bxs:=[(3,.var [.ty (.arr 8 (.int .u32))]),(5,.var [.ty (.arr 8 (.int .u32))])] })]
def f116_l3 (t18:(List Int)) (b3g0:(List Int)) (b4g0:(List Int)):Nat→Int→(List Int)→Option (outDen f116_l3o)
 | 0,_,_=>none
 | k + 1,t19,b5g0 =>
 bif (decide (t19 < (64:Int))) then
 bif (inR t19 64) then
 bif (inR (0:Int) 8) then
 bif (inR (4:Int) 8) then
 bif (inR (7:Int) 8) then
 (f162 (at_ (.int .u32) b5g0 (4:Int)) ([(6:Int),(11:Int),(25:Int)]:List Int)).bind fun y2 =>
 let v3:Int:=(IntKind.wrap .u32 ((at_ (.int .u32) b5g0 (7:Int)) + y2.1))
 bif (inR (5:Int) 8) then
 let v4:Int:=(andV .u32 (at_ (.int .u32) b5g0 (4:Int)) (at_ (.int .u32) b5g0 (5:Int)))
 let v5:Int:=(xorV .u32 (if IntKind.signed .u32 then -1 else IntKind.max .u32) (at_ (.int .u32) b5g0 (4:Int)))
 bif (inR (6:Int) 8) then
 let v6:Int:=(andV .u32 v5 (at_ (.int .u32) b5g0 (6:Int)))
 let v7:Int:=(IntKind.wrap .u32 (v3 + (xorV .u32 v4 v6)))
 let v8:Int:=(IntKind.wrap .u32 (v7 + (at_ (.int .u32) t18 t19)))
 bif (inR t19 64) then
 let v9:Int:=(IntKind.wrap .u32 (v8 + (at_ (.int .u32) b4g0 t19)))
 (f162 (at_ (.int .u32) b5g0 (0:Int)) ([(2:Int),(13:Int),(22:Int)]:List Int)).bind fun y10 =>
 bif (inR (1:Int) 8) then
 let v11:Int:=(andV .u32 (at_ (.int .u32) b5g0 (0:Int)) (at_ (.int .u32) b5g0 (1:Int)))
 bif (inR (2:Int) 8) then
 let v12:Int:=(andV .u32 (at_ (.int .u32) b5g0 (0:Int)) (at_ (.int .u32) b5g0 (2:Int)))
 bif (inR (1:Int) 8) then
 bif (inR (2:Int) 8) then
 let v13:Int:=(andV .u32 (at_ (.int .u32) b5g0 (1:Int)) (at_ (.int .u32) b5g0 (2:Int)))
 let v14:Int:=(IntKind.wrap .u32 (y10.1 + (xorV .u32 (xorV .u32 v11 v12) v13)))
 bif (cutOk 8 (some (1:Int)) none) then
 bif (cutOk 8 none (some (7:Int))) then
 let v15:Int:=(((((b5g0.drop 0).take (zah 8 none (some (7:Int)))).take (zah 8 (some (1:Int)) none)).length:Nat):Int)
 bif (inR (4:Int) 8) then
 let v16:Int:=(at_ (.int .u32) (zaB b5g0 (Int.toNat (1:Int)) (((b5g0.drop 0).take (zah 8 none (some (7:Int)))).take (zah 8 (some (1:Int)) none))) (4:Int))
 bif (inR (0:Int) 8) then bif (inR (4:Int) 8) then f116_l3 t18 b3g0 b4g0 k (IntKind.wrap .i64 (t19 + 1)) (((zaB b5g0 (Int.toNat (1:Int)) (((b5g0.drop 0).take (zah 8 none (some (7:Int)))).take (zah 8 (some (1:Int)) none))).set (Int.toNat (0:Int)) (IntKind.wrap .u32 (v9 + v14))).set (Int.toNat (4:Int)) (IntKind.wrap .u32 (v16 + v9))) else none else none
 else none
 else none
 else none
 else none
 else none
 else none
 else none
 else none
 else none
 else none
 else none
 else none
 else none
 else none
 else
 some ((),((),()),((b3g0,()),(b5g0,()),()))
def f116_l3_n (n:Nat) (x:f116_l3h.den):=f116_l3 x.1.1 x.2.2.1.1 x.2.2.2.1.1 n x.1.2.1 x.2.2.2.2.1.1
def f116_l3s:LSpec:={ head:=f116_l3h,outs:=f116_l3o,fn:=fun x=>f116_l3_n (((64:Int) - x.1.2.1).toNat + 1) x }
def f116_l12h:Ann:={ env:=[(0,cP 3),(5,cP 5),(82,YI)],stk:=[[(0,cP 3)]],bxs:=[(3,.var [.ty (.arr 8 (.int .u32))]),(5,.var [.ty (.arr 8 (.int .u32))])] }
def f116_l12o:List (Ex × Ann):=[((.exit 2),{ env:=[],stk:=[[(0,cP 3)]],bxs:=[(3,.var [.ty (.arr 8 (.int .u32))])] })]
def f116_l12 (b5g0:(List Int)):Nat→Int→(List Int)→Option (outDen f116_l12o)
 | 0,_,_=>none
 | k + 1,t82,b3g0 =>
 bif (decide (t82 < (8:Int))) then
 bif (inR t82 8) then
 bif (inR t82 8) then
 let v20:Int:=(IntKind.wrap .u32 ((at_ (.int .u32) b3g0 t82) + (at_ (.int .u32) b5g0 t82)))
 bif (inR t82 8) then f116_l12 b5g0 k (IntKind.wrap .i64 (t82 + 1)) (b3g0.set (Int.toNat t82) v20) else none
 else none
 else none
 else
 some ((),((),()),((b3g0,()),()))
def f116_l12_n (n:Nat) (x:f116_l12h.den):=f116_l12 x.2.2.2.1.1 n x.1.1 x.2.2.1.1
def f116_l12s:LSpec:={ head:=f116_l12h,outs:=f116_l12o,fn:=fun x=>f116_l12_n (((8:Int) - x.1.1).toNat + 1) x }
abbrev f116_res:List Sh:=[]
abbrev f116o:List (Nat × BSh):=[(3,.var [.ty (.arr 8 (.int .u32))])]
def f116 (t1:(List Int)) (b3g0:(List Int)):Option (shDen f116_res × bxsDen f116o) :=
 (f161 t1).bind fun y1 =>
 (f116_l3 zbn b3g0 y1.1 (((64:Int) - (0:Int)).toNat + 1) (0:Int) b3g0).bind fun o17 =>
 let u18:(List Int):=o17.2.2.1.1
 let u19:(List Int):=o17.2.2.2.1.1
 (f116_l12 u19 (((8:Int) - (0:Int)).toNat + 1) (0:Int) u18).bind fun o21 =>
 let u22:(List Int):=o21.2.2.1.1
 some ((),((u22,()),()))
def f116s:CSpec:={ args:=[(0,cP 3),(1,.ty (.sl (.int .u8)))],ins:=[(3,.var [.ty (.arr 8 (.int .u32))])],res:=f116_res,outs:=f116o,fn:=fun x=>f116 x.1.1 x.2.1.1 }
noncomputable def f116c:Code:=Tryz.f115.body.getD .skip
noncomputable def f116e:Env0:={ C:=cfgF,P:=[(161,f161s),(162,f162s)],L:=[(⟨12,0,115,3⟩,f116_l3s),(⟨12,0,115,12⟩,f116_l12s)],F:=[(115,Tryz.f115)] }
theorem f116_l3y:zan f116e 12 115 0 (zao f116c 3) f116_l3s :=
 zae (by kernel_rfl) f116_l3_n (fun x o h=>⟨_,h⟩) (fun x=>by kernel_rfl) (fun n x=>by kernel_rfl)
theorem f116_l12y:zan f116e 12 115 0 (zao f116c 12) f116_l12s :=
 zae (by kernel_rfl) f116_l12_n (fun x o h=>⟨_,h⟩) (fun x=>by kernel_rfl) (fun n x=>by kernel_rfl)
theorem f116r (x:envDen (f116s).args × bxsDen (f116s).ins):runS f116e 115 Tryz.f115 f116c (f116s) x = (f116s).fn x:=by kernel_rfl
theorem f116n:zQ 115:=zN Tryz.func115
theorem f116k:zE f116e:=zO zaf ⟨⟨f161p,f161n⟩,⟨f162p,f162n⟩,trivial⟩ trivial ⟨zK Tryz.func115,trivial⟩ ⟨⟨Tryz.f115,f116c,rfl,rfl,f116_l3y⟩,⟨Tryz.f115,f116c,rfl,rfl,f116_l12y⟩,trivial⟩
theorem f116_call:zgM Tryz.prog cfg 115 f116s:=zjF f116k (fn:=Tryz.f115) (c:=f116c) rfl rfl f116s (by kernel_rfl) (fun x _ h=>(f116r x).trans h)
def f117_l6h:Ann:={ env:=[(3,cP 3),(4,YI),(5,.ty (.int .u32)),(7,.ty (.arr 8 (.int .u32))),(8,YI),(12,YI)],bxs:=[(3,.var [.ty (.arr 32 (.int .u8))])] }
def f117_l6o:List (Ex × Ann):=[((.exit 2),{ env:=[(3,cP 3),(7,.ty (.arr 8 (.int .u32))),(8,YI)],bxs:=[(3,.var [.ty (.arr 32 (.int .u8))])] })]
def f117_l6 (t4:Int) (t5:Int) (t7:(List Int)) (t8:Int):Nat→Int→(List Int)→Option (outDen f117_l6o)
 | 0,_,_=>none
 | k + 1,t12,b3g0 =>
 bif (decide (t12 < (4:Int))) then
 let v1:Int:=(IntKind.wrap .i64 ((IntKind.wrap .i64 ((4:Int) * t4)) + t12))
 let v2:Int:=(IntKind.wrap .i64 ((24:Int) - (IntKind.wrap .i64 ((8:Int) * t12))))
 bif (decide (0≤v2)) then bif (inR v1 32) then f117_l6 t4 t5 t7 t8 k (IntKind.wrap .i64 (t12 + 1)) (b3g0.set (Int.toNat v1) (IntKind.wrap .u8 (shrV .u32 t5 v2))) else none else none
 else
 some ((t7,t8,()),(),((b3g0,()),()))
def f117_l6_n (n:Nat) (x:f117_l6h.den):=f117_l6 x.1.1 x.1.2.1 x.1.2.2.1 x.1.2.2.2.1 n x.1.2.2.2.2.1 x.2.2.1.1
def f117_l6s:LSpec:={ head:=f117_l6h,outs:=f117_l6o,fn:=fun x=>f117_l6_n (((4:Int) - x.1.2.2.2.2.1).toNat + 1) x }
def f117_l3h:Ann:={ env:=[(3,cP 3),(7,.ty (.arr 8 (.int .u32))),(8,YI)],bxs:=[(3,.var [.ty (.arr 32 (.int .u8))])] }
def f117_l3o:List (Ex × Ann):=[((.exit 0),{ env:=[(3,cP 3)],bxs:=[(3,.var [.ty (.arr 32 (.int .u8))])] })]
def f117_l3:Nat→(List Int)→Int→(List Int)→Option (outDen f117_l3o)
 | 0,_,_,_=>none
 | k + 1,t7,t8,b3g0 =>
 bif (decide (t8 < (8:Int))) then
 bif (inR t8 8) then
 (f117_l6 t8 (at_ (.int .u32) t7 t8) t7 t8 (((4:Int) - (0:Int)).toNat + 1) (0:Int) b3g0).bind fun o3 =>
 let u4:(List Int):=o3.1.1
 let u5:Int:=o3.1.2.1
 let u6:(List Int):=o3.2.2.1.1
 f117_l3 k u4 (IntKind.wrap .i64 (u5 + 1)) u6
 else none
 else
 some ((),(),((b3g0,()),()))
def f117_l3_n (n:Nat) (x:f117_l3h.den):=f117_l3 n x.1.1 x.1.2.1 x.2.2.1.1
def f117_l3s:LSpec:={ head:=f117_l3h,outs:=f117_l3o,fn:=fun x=>f117_l3_n (((8:Int) - x.1.2.1).toNat + 1) x }
def f117 (a0:(List Int)):Option (ByteArray × Unit) :=
 (f117_l3 (((8:Int) - (0:Int)).toNat + 1) a0 (0:Int) (List.replicate 32 (0:Int))).bind fun o7 =>
 let u8:(List Int):=o7.2.2.1.1
 let v9:ByteArray:=(ofBytes ((u8.drop 0).take (zah 32 none none)))
 some (v9,())
def f117s:PSpec:={ args:=[(.arr 8 (.int .u32))],res:=[.str],fn:=fun x=>f117 x.1 }
noncomputable def f117c:Code:=Tryz.f116.body.getD .skip
noncomputable def f117e:Env0:={ C:=cfgF,P:=[],L:=[(⟨12,0,116,6⟩,f117_l6s),(⟨12,0,116,3⟩,f117_l3s)],F:=[(116,Tryz.f116)] }
theorem f117_l6y:zan f117e 12 116 0 (zao f117c 6) f117_l6s :=
 zae (by kernel_rfl) f117_l6_n (fun x o h=>⟨_,h⟩) (fun x=>by kernel_rfl) (fun n x=>by kernel_rfl)
theorem f117_l3y:zan f117e 12 116 0 (zao f117c 3) f117_l3s :=
 zae (by kernel_rfl) f117_l3_n (fun x o h=>⟨_,h⟩) (fun x=>by kernel_rfl) (fun n x=>by kernel_rfl)
theorem f117r:zR f117e 116 Tryz.f116 f117c f117s:=by intro x; kernel_rfl
theorem f117n:zQ 116:=zN Tryz.func116
theorem f117k:zE f117e:=zO zaf trivial trivial ⟨zK Tryz.func116,trivial⟩ ⟨⟨Tryz.f116,f117c,rfl,rfl,f117_l6y⟩,⟨Tryz.f116,f117c,rfl,rfl,f117_l3y⟩,trivial⟩
theorem f117p:zU 116 f117s:=zP f117k Tryz.f116 f117c f117r
def f97_l3h:Ann:={ env:=[(0,.ty .str),(3,cP 3),(4,.cst (.row 9 .whole))],bxs:=[(3,.var [.ty (.arr 8 (.int .u32))]),(9,.row (.int .u8) false)] }
def f97_l3o:List (Ex × Ann):=[((.exit 0),{ env:=[(0,.ty .str),(3,cP 3),(4,.cst (.row 9 .whole))],bxs:=[(3,.var [.ty (.arr 8 (.int .u32))]),(9,.row (.int .u8) false)] })]
def f97_l3 (t0:ByteArray) (b3g0:(List Int)):Nat→(List Int)→Option (outDen f97_l3o)
 | 0,_=>none
 | k + 1,r9 =>
 let v1:Bool:=(decide ((Int.tmod (r9.length:Int) (64:Int)) ≠ (56:Int)))
 bif v1 then
 bif (decide (r9.length + ([(0:Int)]:List Int).length≤zac)) then f97_l3 t0 b3g0 k (r9++([(0:Int)]:List Int)) else none
 else
 some ((t0,()),(),((b3g0,()),r9,()))
def f97_l3_n (n:Nat) (x:f97_l3h.den):=f97_l3 x.1.1 x.2.2.1.1 n x.2.2.2.1
def f97_l3s:LSpec:={ head:=f97_l3h,outs:=f97_l3o,fn:=fun x=>f97_l3_n ((64:Nat)) x }
def f97_l6h:Ann:={ env:=[(0,.ty .str),(3,cP 3),(4,.cst (.row 9 .whole)),(5,YI)],bxs:=[(3,.var [.ty (.arr 8 (.int .u32))]),(9,.row (.int .u8) false)] }
def f97_l6o:List (Ex × Ann):=[((.exit 2),{ env:=[(3,cP 3),(4,.cst (.row 9 .whole))],bxs:=[(3,.var [.ty (.arr 8 (.int .u32))]),(9,.row (.int .u8) false)] })]
def f97_l6 (t0:ByteArray) (b3g0:(List Int)):Nat→Int→(List Int)→Option (outDen f97_l6o)
 | 0,_,_=>none
 | k + 1,t5,r9 =>
 bif (decide (t5 ≥ (0:Int))) then
 let v6:Int:=(IntKind.wrap .i64 ((8:Int) * (t0.size:Int)))
 bif (decide (0≤(IntKind.wrap .i64 ((8:Int) * t5)))) then
 let v7:Int:=(shrV .i64 v6 (IntKind.wrap .i64 ((8:Int) * t5)))
 bif (decide (r9.length + ([(IntKind.wrap .u8 v7)]:List Int).length≤zac)) then f97_l6 t0 b3g0 k (IntKind.wrap .i64 (t5 - (1:Int))) (r9++([(IntKind.wrap .u8 v7)]:List Int)) else none
 else none
 else
 some ((),(),((b3g0,()),r9,()))
def f97_l6_n (n:Nat) (x:f97_l6h.den):=f97_l6 x.1.1 x.2.2.1.1 n x.1.2.1 x.2.2.2.1
def f97_l6s:LSpec:={ head:=f97_l6h,outs:=f97_l6o,fn:=fun x=>f97_l6_n ((x.1.2.1 + 1).toNat + 1) x }
def f160_l1xh:Ann:={ env:=[(0,.cst (.yld 910)),(1,cP 34002),(2,cP 34003),(4,YI)],stk:=[[(0,.cst (.yld 910))],[(3,cP 3)]],bxs:=[(910,.loop false 94 10 [(3,cP 3)]),(34002,.var [.ty (.sl (.int .u8))]),(34003,.var [YI]),(3,.var [.ty (.arr 8 (.int .u32))])] }
def f160_l1xo:List (Ex × Ann):=[((.exit 0),{ env:=[],stk:=[[(0,.cst (.yld 910))],[(3,cP 3)]],bxs:=[(910,.loop false 94 10 [(3,cP 3)]),(3,.var [.ty (.arr 8 (.int .u32))])] })]
def f160_l1x (b34002g0:(List Int)) (b34003g0:Int):Nat→Int→(List Int)→Option (outDen f160_l1xo)
 | 0,_,_=>none
 | k + 1,t4,b3g0 =>
 bif (decide (t4 < (b34002g0.length:Int))) then
 bif (cutOk b34002g0.length (some t4) none) then
 let v11:Int:=((b34002g0.drop (Int.toNat t4)).length:Int)
 let v12:Int:=(if v11 < b34003g0 then v11 else b34003g0)
 bif ((cutOk b34002g0.length (some t4) (some (IntKind.wrap .i64 (t4 + v12)))) && decide ((IntKind.wrap .i64 (t4 + v12)) = (IntKind.wrap .i64 (t4 + v12)))) then
 (f116 ((b34002g0.take (Int.toNat (IntKind.wrap .i64 (t4 + v12)))).drop (Int.toNat t4)) b3g0).bind fun y13 =>
 let u14:(List Int):=y13.2.1.1
 f160_l1x b34002g0 b34003g0 k (IntKind.wrap .i64 (t4 + b34003g0)) u14
 else none
 else none
 else
 some ((),((),(),()),((),(b3g0,()),()))
def f160_l1x_n (n:Nat) (x:f160_l1xh.den):=f160_l1x x.2.2.2.1.1 x.2.2.2.2.1.1 n x.1.1 x.2.2.2.2.2.1.1
def f160_l1xs:LSpec:={ head:=f160_l1xh,outs:=f160_l1xo,fn:=fun x=>f160_l1x_n (((x.2.2.2.1.1.length:Int) - x.1.1).toNat + 1) x }
def f97 (a0:ByteArray):Option (ByteArray × Unit) :=
 bif (decide ((zau a0).length + ([(128:Int)]:List Int).length≤zac)) then
 (f97_l3 a0 ([(1779033703:Int),(3144134277:Int),(1013904242:Int),(2773480762:Int),(1359893119:Int),(2600822924:Int),(528734635:Int),(1541459225:Int)]:List Int) ((64:Nat)) ((zau a0)++([(128:Int)]:List Int))).bind fun o2 =>
 let u3:ByteArray:=o2.1.1
 let u4:(List Int):=o2.2.2.1.1
 let u5:(List Int):=o2.2.2.2.1
 (f97_l6 u3 u4 (((7:Int) + 1).toNat + 1) (7:Int) u5).bind fun o8 =>
 let u9:(List Int):=o8.2.2.1.1
 let u10:(List Int):=o8.2.2.2.1
 (f160_l1x u10 (64:Int) (((u10.length:Int) - (0:Int)).toNat + 1) (0:Int) u9).bind fun o15 =>
 let u16:(List Int):=o15.2.2.2.1.1
 (f117 u16).bind fun y17 =>
 some (y17.1,())
 else none
def f97s:PSpec:={ args:=[.str],res:=[.str],fn:=fun x=>f97 x.1 }
noncomputable def f97c:Code:=Tryz.f94.body.getD .skip
noncomputable def f97_code_160:Code:=Tryz.f160.body.getD .skip
noncomputable def f97e:Env0:={ C:=cfgF,P:=[(116,f117s)],L:=[(⟨12,0,94,3⟩,f97_l3s),(⟨12,0,94,6⟩,f97_l6s),(⟨11,910000,160,1⟩,f160_l1xs)],F:=[(94,Tryz.f94),(114,Tryz.f114),(160,Tryz.f160)],S:=[(115,f116s)] }
theorem f97_l3y:zan f97e 12 94 0 (zao f97c 3) f97_l3s :=
 zae (by kernel_rfl) f97_l3_n (fun x o h=>⟨_,h⟩) (fun x=>by kernel_rfl) (fun n x=>by kernel_rfl)
theorem f97_l6y:zan f97e 12 94 0 (zao f97c 6) f97_l6s :=
 zae (by kernel_rfl) f97_l6_n (fun x o h=>⟨_,h⟩) (fun x=>by kernel_rfl) (fun n x=>by kernel_rfl)
theorem f160_l1xy:zan f97e 11 160 910000 (zao f97_code_160 1) f160_l1xs :=
 zae (by kernel_rfl) f160_l1x_n (fun x o h=>⟨_,h⟩) (fun x=>by kernel_rfl) (fun n x=>by kernel_rfl)
theorem f97r:zR f97e 94 Tryz.f94 f97c f97s:=by intro x; kernel_rfl
theorem f97n:zQ 94:=zN Tryz.func94
theorem f97k:zE f97e:=zO zaf ⟨⟨f117p,f117n⟩,trivial⟩ ⟨⟨f116_call,by kernel_rfl,f116n⟩,trivial⟩ ⟨zK Tryz.func94,zK Tryz.func114,zK Tryz.func160,trivial⟩ ⟨⟨Tryz.f94,f97c,rfl,rfl,f97_l3y⟩,⟨Tryz.f94,f97c,rfl,rfl,f97_l6y⟩,⟨Tryz.f160,f97_code_160,rfl,rfl,f160_l1xy⟩,trivial⟩
theorem f97p:zU 94 f97s:=zP f97k Tryz.f94 f97c f97r
def f109 (a0:Int) (a1:ByteArray):Option (ByteArray × Unit) :=
 bif (decide (a1 = (⟨#[]⟩:ByteArray))) then
 (f108 ).bind fun y1 =>
 some (y1.1,())
 else
 (f87 a0).bind fun y2 =>
 bif (catOk (⟨#[8]⟩:ByteArray) y2.1) then
 bif (catOk ((⟨#[8]⟩:ByteArray)++y2.1) a1) then
 (f97 (((⟨#[8]⟩:ByteArray)++y2.1)++a1)).bind fun y3 =>
 some (y3.1,())
 else none
 else none
def f109s:PSpec:={ args:=[yI,.str],res:=[.str],fn:=fun x=>f109 x.1 x.2.1 }
noncomputable def f109c:Code:=Tryz.f108.body.getD .skip
noncomputable def f109e:Env0:={ C:=cfgF,P:=[(79,f87s),(94,f97s),(107,f108s)],L:=[],F:=[(108,Tryz.f108)] }
theorem f109r:zR f109e 108 Tryz.f108 f109c f109s:=by intro x; kernel_rfl
theorem f109n:zQ 108:=zN Tryz.func108
theorem f109k:zE f109e:=zO zaf ⟨⟨f87p,f87n⟩,⟨f97p,f97n⟩,⟨f108p,f108n⟩,trivial⟩ trivial ⟨zK Tryz.func108,trivial⟩ trivial
theorem f109p:zU 108 f109s:=zP f109k Tryz.f108 f109c f109r
def f110 (a0:ByteArray) (a1:ByteArray):Option (ByteArray × Unit) :=
 (f108 ).bind fun y1 =>
 bif (decide (a0 = y1.1)) then
 (f108 ).bind fun y2 =>
 bif (decide (a1 = y2.1)) then
 (f108 ).bind fun y3 =>
 some (y3.1,())
 else
 bif (catOk (⟨#[9]⟩:ByteArray) a0) then
 bif (catOk ((⟨#[9]⟩:ByteArray)++a0) a1) then
 (f97 (((⟨#[9]⟩:ByteArray)++a0)++a1)).bind fun y4 =>
 some (y4.1,())
 else none
 else none
 else
 bif (catOk (⟨#[9]⟩:ByteArray) a0) then
 bif (catOk ((⟨#[9]⟩:ByteArray)++a0) a1) then
 (f97 (((⟨#[9]⟩:ByteArray)++a0)++a1)).bind fun y5 =>
 some (y5.1,())
 else none
 else none
def f110s:PSpec:={ args:=[.str,.str],res:=[.str],fn:=fun x=>f110 x.1 x.2.1 }
noncomputable def f110c:Code:=Tryz.f109.body.getD .skip
noncomputable def f110e:Env0:={ C:=cfgF,P:=[(94,f97s),(107,f108s)],L:=[],F:=[(109,Tryz.f109)] }
theorem f110r:zR f110e 109 Tryz.f109 f110c f110s:=by intro x; kernel_rfl
theorem f110n:zQ 109:=zN Tryz.func109
theorem f110k:zE f110e:=zO zaf ⟨⟨f97p,f97n⟩,⟨f108p,f108n⟩,trivial⟩ trivial ⟨zK Tryz.func109,trivial⟩ trivial
theorem f110p:zU 109 f110s:=zP f110k Tryz.f109 f110c f110r
def f92_l3_b8000_head:Ann:={ env:=[(0,.ty (.sl yE)),(3,cP 8009),(10,YI)],stk:=[[(2,.ty .str),(3,YI)]],bxs:=[(8009,.var [.ty (.arr 128 .str)])] }
def f92_l3_b8000_outs:List (Ex × Ann):=[((.exit 0),{ env:=[(0,.ty (.sl yE)),(3,cP 8009)],stk:=[[(2,.ty .str),(3,YI)]],bxs:=[(8009,.var [.ty (.arr 128 .str)])] })]
def f92_l3_b8000 (t0:(List Ye)) (k0t2:ByteArray) (k0t3:Int):Nat→Int→(List ByteArray)→Option (outDen f92_l3_b8000_outs)
 | 0,_,_=>none
 | k + 1,t10,b8009g0 =>
 bif (decide (t10 < (64:Int))) then
 (f108 ).bind fun y2 =>
 bif (inR (IntKind.wrap .i64 ((64:Int) + t10)) 128) then f92_l3_b8000 t0 k0t2 k0t3 k (IntKind.wrap .i64 (t10 + 1)) (b8009g0.set (Int.toNat (IntKind.wrap .i64 ((64:Int) + t10))) y2.1) else none
 else
 some ((t0,()),((k0t2,k0t3,()),()),((b8009g0,()),()))
def f92_l3_b8000_n (n:Nat) (x:f92_l3_b8000_head.den):=f92_l3_b8000 x.1.1 x.2.1.1.1 x.2.1.1.2.1 n x.1.2.1 x.2.2.1.1
def f92_l3_b8000_spec:LSpec:={ head:=f92_l3_b8000_head,outs:=f92_l3_b8000_outs,fn:=fun x=>f92_l3_b8000_n (((64:Int) - x.1.2.1).toNat + 1) x }
def f92_l8_b8000_head:Ann:={ env:=[(3,cP 8009),(20,.ty (.sl yE)),(21,YI),(22,YI)],stk:=[[(2,.ty .str),(3,YI)]],bxs:=[(8009,.var [.ty (.arr 128 .str)])] }
def f92_l8_b8000_outs:List (Ex × Ann):=[((.exit 2),{ env:=[(3,cP 8009)],stk:=[[(2,.ty .str),(3,YI)]],bxs:=[(8009,.var [.ty (.arr 128 .str)])] })]
def f92_l8_b8000 (t20:(List Ye)) (t21:Int) (k0t2:ByteArray) (k0t3:Int):Nat→Int→(List ByteArray)→Option (outDen f92_l8_b8000_outs)
 | 0,_,_=>none
 | k + 1,t22,b8009g0 =>
 bif (decide (t22 < t21)) then
 bif (inR t22 t20.length) then
 let v8:Int:=(at_ yE t20 t22).1
 let v9:Int:=(at_ yE t20 t22).1
 let v10:ByteArray:=(at_ yE t20 t22).2.1
 (f109 v9 v10).bind fun y11 =>
 bif (inR (IntKind.wrap .i64 ((64:Int) + v8)) 128) then f92_l8_b8000 t20 t21 k0t2 k0t3 k (IntKind.wrap .i64 (t22 + 1)) (b8009g0.set (Int.toNat (IntKind.wrap .i64 ((64:Int) + v8))) y11.1) else none
 else none
 else
 some ((),((k0t2,k0t3,()),()),((b8009g0,()),()))
def f92_l8_b8000_n (n:Nat) (x:f92_l8_b8000_head.den):=f92_l8_b8000 x.1.1 x.1.2.1 x.2.1.1.1 x.2.1.1.2.1 n x.1.2.2.1 x.2.2.1.1
def f92_l8_b8000_spec:LSpec:={ head:=f92_l8_b8000_head,outs:=f92_l8_b8000_outs,fn:=fun x=>f92_l8_b8000_n ((x.1.2.1 - x.1.2.2.1).toNat + 1) x }
def f92_l13_b8000_head:Ann:={ env:=[(3,cP 8009),(7,YI)],stk:=[[(2,.ty .str),(3,YI)]],bxs:=[(8009,.var [.ty (.arr 128 .str)])] }
def f92_l13_b8000_outs:List (Ex × Ann):=[((.exit 4),{ env:=[(3,cP 8009)],stk:=[[(2,.ty .str),(3,YI)]],bxs:=[(8009,.var [.ty (.arr 128 .str)])] })]
def f92_l13_b8000 (k0t2:ByteArray) (k0t3:Int):Nat→Int→(List ByteArray)→Option (outDen f92_l13_b8000_outs)
 | 0,_,_=>none
 | k + 1,t7,b8009g0 =>
 bif (decide (t7 > (0:Int))) then
 bif (inR (IntKind.wrap .i64 ((2:Int) * t7)) 128) then
 let v16:ByteArray:=(at_ .str b8009g0 (IntKind.wrap .i64 ((2:Int) * t7)))
 let v17:Int:=(IntKind.wrap .i64 ((IntKind.wrap .i64 ((2:Int) * t7)) + 1))
 bif (inR v17 128) then
 (f110 v16 (at_ .str b8009g0 v17)).bind fun y18 =>
 bif (inR t7 128) then f92_l13_b8000 k0t2 k0t3 k (IntKind.wrap .i64 (t7 - (1:Int))) (b8009g0.set (Int.toNat t7) y18.1) else none
 else none
 else none
 else
 some ((),((k0t2,k0t3,()),()),((b8009g0,()),()))
def f92_l13_b8000_n (n:Nat) (x:f92_l13_b8000_head.den):=f92_l13_b8000 x.2.1.1.1 x.2.1.1.2.1 n x.1.1 x.2.2.1.1
def f92_l13_b8000_spec:LSpec:={ head:=f92_l13_b8000_head,outs:=f92_l13_b8000_outs,fn:=fun x=>f92_l13_b8000_n (x.1.1.toNat + 1) x }
def f74 (a0:(List Ye)):Option (ByteArray × Int × Unit) :=
 (f91 a0).bind fun y1 =>
 bif (!y1.1) then
 some ((⟨#[]⟩:ByteArray),(40:Int),())
 else
 (f92_l3_b8000 a0 (⟨#[]⟩:ByteArray) (0:Int) (((64:Int) - (0:Int)).toNat + 1) (0:Int) (List.replicate 128 (⟨#[]⟩:ByteArray))).bind fun o3 =>
 let u4:(List Ye):=o3.1.1
 let u5:ByteArray:=o3.2.1.1.1
 let u6:Int:=o3.2.1.1.2.1
 let u7:(List ByteArray):=o3.2.2.1.1
 (f92_l8_b8000 u4 (u4.length:Int) u5 u6 (((u4.length:Int) - (0:Int)).toNat + 1) (0:Int) u7).bind fun o12 =>
 let u13:ByteArray:=o12.2.1.1.1
 let u14:Int:=o12.2.1.1.2.1
 let u15:(List ByteArray):=o12.2.2.1.1
 (f92_l13_b8000 u13 u14 ((63:Int).toNat + 1) (63:Int) u15).bind fun o19 =>
 let u22:(List ByteArray):=o19.2.2.1.1
 bif (inR (1:Int) 128) then some ((at_ .str u22 (1:Int)),(0:Int),()) else none
def f74s:PSpec:={ args:=[(.sl yE)],res:=[.str,yI],fn:=fun x=>f74 x.1 }
noncomputable def f74c:Code:=Tryz.f65.body.getD .skip
noncomputable def f74_code_89:Code:=Tryz.f89.body.getD .skip
noncomputable def f74e:Env0:={ C:=cfgF,P:=[(88,f91s),(107,f108s),(108,f109s),(109,f110s)],L:=[(⟨11,8000,89,3⟩,f92_l3_b8000_spec),(⟨11,8000,89,8⟩,f92_l8_b8000_spec),(⟨11,8000,89,13⟩,f92_l13_b8000_spec)],F:=[(65,Tryz.f65),(89,Tryz.f89)] }
theorem f92_l3_b8000_ok:zan f74e 11 89 8000 (zao f74_code_89 3) f92_l3_b8000_spec :=
 zae (by kernel_rfl) f92_l3_b8000_n (fun x o h=>⟨_,h⟩) (fun x=>by kernel_rfl) (fun n x=>by kernel_rfl)
theorem f92_l8_b8000_ok:zan f74e 11 89 8000 (zao f74_code_89 8) f92_l8_b8000_spec :=
 zae (by kernel_rfl) f92_l8_b8000_n (fun x o h=>⟨_,h⟩) (fun x=>by kernel_rfl) (fun n x=>by kernel_rfl)
theorem f92_l13_b8000_ok:zan f74e 11 89 8000 (zao f74_code_89 13) f92_l13_b8000_spec :=
 zae (by kernel_rfl) f92_l13_b8000_n (fun x o h=>⟨_,h⟩) (fun x=>by kernel_rfl) (fun n x=>by kernel_rfl)
theorem f74r:zR f74e 65 Tryz.f65 f74c f74s:=by intro x; kernel_rfl
theorem f74n:zQ 65:=zN Tryz.func65
theorem f74k:zE f74e:=zO zaf ⟨⟨f91p,f91n⟩,⟨f108p,f108n⟩,⟨f109p,f109n⟩,⟨f110p,f110n⟩,trivial⟩ trivial ⟨zK Tryz.func65,zK Tryz.func89,trivial⟩ ⟨⟨Tryz.f89,f74_code_89,rfl,rfl,f92_l3_b8000_ok⟩,⟨Tryz.f89,f74_code_89,rfl,rfl,f92_l8_b8000_ok⟩,⟨Tryz.f89,f74_code_89,rfl,rfl,f92_l13_b8000_ok⟩,trivial⟩
theorem f74p:zU 65 f74s:=zP f74k Tryz.f65 f74c f74r
end
end Go.V.G
namespace Go.V.G
open Go.Proofs
noncomputable section
def f100_l2xh:Ann:={ env:=[(0,.ty (.sl yI)),(1,.cst (.fn 86 [])),(7,YI),(8,YI)],stk:=[[(4,.ty .bool)],[(2,.ty .bool),(7,.ty .bool)]] }
def f100_l2xo:List (Ex × Ann):=[((.exit 0),{ env:=[],stk:=[[(4,.ty .bool)],[(2,.ty .bool),(7,.ty .bool)]] }),(.ret,{ env:=[(4,YI)],stk:=[[(4,.ty .bool)],[(2,.ty .bool),(7,.ty .bool)]] })]
def f100_l2x (t0:(List Int)) (t7:Int) (k0t4:Bool) (k1t2:Bool) (k1t7:Bool):Nat→Int→Option (outDen f100_l2xo)
 | 0,_=>none
 | k + 1,t8 =>
 bif (decide (t8 < t7)) then
 bif (inR t8 t0.length) then
 let v2:Bool:=(decide ((at_ yI t0 t8) < (-1152921504606846976:Int)))
 bif v2 then
 some (.inr ((t8,()),((k0t4,()),(k1t2,k1t7,()),()),()))
 else
 let v3:Bool:=(decide ((at_ yI t0 t8) > (1152921504606846976:Int)))
 bif v3 then
 some (.inr ((t8,()),((k0t4,()),(k1t2,k1t7,()),()),()))
 else
 f100_l2x t0 t7 k0t4 k1t2 k1t7 k (IntKind.wrap .i64 (t8 + 1))
 else none
 else
 some (.inl ((),((k0t4,()),(k1t2,k1t7,()),()),()))
def f100_l2x_n (n:Nat) (x:f100_l2xh.den):=f100_l2x x.1.1 x.1.2.1 x.2.1.1.1 x.2.1.2.1.1 x.2.1.2.1.2.1 n x.1.2.2.1
def f100_l2xs:LSpec:={ head:=f100_l2xh,outs:=f100_l2xo,fn:=fun x=>f100_l2x_n ((x.1.2.1 - x.1.2.2.1).toNat + 1) x }
def f65 (a0:(List Int)):Option (Bool × Unit) :=
 let v1:Bool:=(decide ((a0.length:Int)≤(64:Int)))
 bif v1 then
 (f100_l2x a0 (a0.length:Int) false false true (((a0.length:Int) - (0:Int)).toNat + 1) (0:Int)).bind fun o4 =>
 Sum.elim (fun o5 =>
 let u9:Bool:=o5.2.1.2.1.2.1
 bif u9 then
 some (true,())
 else
 some (false,())) (fun o6 =>
 let u10:Int:=o6.1.1
 let u13:Bool:=o6.2.1.2.1.2.1
 bif u13 then
 some ((!(decide (u10 ≥ (0:Int)))),())
 else
 some (false,())) o4
 else
 some (false,())
def f65s:PSpec:={ args:=[(.sl yI)],res:=[.bool],fn:=fun x=>f65 x.1 }
noncomputable def f65c:Code:=Tryz.f52.body.getD .skip
noncomputable def f65_code_101:Code:=Tryz.f101.body.getD .skip
noncomputable def f65e:Env0:={ C:=cfgF,P:=[],L:=[(⟨10,10007000,101,2⟩,f100_l2xs)],F:=[(52,Tryz.f52),(86,Tryz.f86),(87,Tryz.f87),(101,Tryz.f101)] }
theorem f100_l2xy:zan f65e 10 101 10007000 (zao f65_code_101 2) f100_l2xs :=
 zae (by kernel_rfl) f100_l2x_n (fun x o h=>⟨_,h⟩) (fun x=>by kernel_rfl) (fun n x=>by kernel_rfl)
theorem f65r:zR f65e 52 Tryz.f52 f65c f65s:=by intro x; kernel_rfl
theorem f65n:zQ 52:=zN Tryz.func52
theorem f65k:zE f65e:=zO zaf trivial trivial ⟨zK Tryz.func52,zK Tryz.func86,zK Tryz.func87,zK Tryz.func101,trivial⟩ ⟨⟨Tryz.f101,f65_code_101,rfl,rfl,f100_l2xy⟩,trivial⟩
theorem f65p:zU 52 f65s:=zP f65k Tryz.f52 f65c f65r
def f35_l5h:Ann:={ env:=[(1,cP 1),(4,.ty (.sl yN)),(8,.cst (.vsl 1 0 8 (Int.toNat (1:Int)) (zah 8 (some (1:Int)) none))),(9,YI),(10,YI),(14,.ty (.sl yN)),(15,YI),(16,YI)],bxs:=[(1,.var [.ty (.arr 8 (.sl yN))])] }
def f35_l5o:List (Ex × Ann):=[((.exit 2),{ env:=[(1,cP 1),(8,.cst (.vsl 1 0 8 (Int.toNat (1:Int)) (zah 8 (some (1:Int)) none))),(9,YI),(10,YI)],bxs:=[(1,.var [.ty (.arr 8 (.sl yN))])] }),(.ret,{ env:=[(2,.ty .bool)] })]
def f35_l5 (t4:(List Yn)) (t9:Int) (t10:Int) (t14:(List Yn)) (t15:Int) (b1g0:(List (List Yn))):Nat→Int→Option (outDen f35_l5o)
 | 0,_=>none
 | k + 1,t16 =>
 bif (decide (t16 < t15)) then
 bif (inR t16 t14.length) then
 let v3:Int:=(at_ yN t14 t16).1
 bif (decide (v3 < (0:Int))) then
 some (.inr ((false,()),(),()))
 else
 let v4:Int:=(at_ yN t14 t16).1
 bif (decide (v4 ≥ (24:Int))) then
 some (.inr ((false,()),(),()))
 else
 bif (decide (t16 > (0:Int))) then
 bif (inR (IntKind.wrap .i64 (t16 - (1:Int))) t4.length) then
 let v5:Int:=(at_ yN t4 (IntKind.wrap .i64 (t16 - (1:Int)))).1
 let v6:Int:=(at_ yN t14 t16).1
 bif (decide (v5 ≥ v6)) then
 some (.inr ((false,()),(),()))
 else
 let v7:(List Int):=(at_ yN t14 t16).2.1
 (f65 v7).bind fun y8 =>
 bif (!y8.1) then
 some (.inr ((false,()),(),()))
 else
 f35_l5 t4 t9 t10 t14 t15 b1g0 k (IntKind.wrap .i64 (t16 + 1))
 else none
 else
 let v9:(List Int):=(at_ yN t14 t16).2.1
 (f65 v9).bind fun y10 =>
 bif (!y10.1) then
 some (.inr ((false,()),(),()))
 else
 f35_l5 t4 t9 t10 t14 t15 b1g0 k (IntKind.wrap .i64 (t16 + 1))
 else none
 else
 some (.inl ((t9,t10,()),(),((b1g0,()),())))
def f35_l5_n (n:Nat) (x:f35_l5h.den):=f35_l5 x.1.1 x.1.2.1 x.1.2.2.1 x.1.2.2.2.1 x.1.2.2.2.2.1 x.2.2.1.1 n x.1.2.2.2.2.2.1
def f35_l5s:LSpec:={ head:=f35_l5h,outs:=f35_l5o,fn:=fun x=>f35_l5_n ((x.1.2.2.2.2.1 - x.1.2.2.2.2.2.1).toNat + 1) x }
def f35_l2h:Ann:={ env:=[(1,cP 1),(8,.cst (.vsl 1 0 8 (Int.toNat (1:Int)) (zah 8 (some (1:Int)) none))),(9,YI),(10,YI)],bxs:=[(1,.var [.ty (.arr 8 (.sl yN))])] }
def f35_l2o:List (Ex × Ann):=[((.exit 0),{ env:=[(1,cP 1)],bxs:=[(1,.var [.ty (.arr 8 (.sl yN))])] }),(.ret,{ env:=[(2,.ty .bool)] })]
def f35_l2:Nat→Int→Int→(List (List Yn))→Option (outDen f35_l2o)
 | 0,_,_,_=>none
 | k + 1,t9,t10,b1g0 =>
 bif (decide (t10 < t9)) then
 bif (inR t10 (zah 8 (some (1:Int)) none)) then
 let v2:(List Yn):=(at_ (.sl yN) b1g0 ((Int.toNat (1:Int)) + t10))
 (f35_l5 v2 t9 t10 v2 (v2.length:Int) b1g0 (((v2.length:Int) - (0:Int)).toNat + 1) (0:Int)).bind fun o11 =>
 Sum.elim (fun o12 =>
 let u14:Int:=o12.1.1
 let u15:Int:=o12.1.2.1
 let u16:(List (List Yn)):=o12.2.2.1.1
 f35_l2 k u14 (IntKind.wrap .i64 (u15 + 1)) u16) (fun o13 =>
 let u17:Bool:=o13.1.1
 some (.inr ((u17,()),(),()))) o11
 else none
 else
 some (.inl ((),(),((b1g0,()),())))
def f35_l2_n (n:Nat) (x:f35_l2h.den):=f35_l2 n x.1.1 x.1.2.1 x.2.2.1.1
def f35_l2s:LSpec:={ head:=f35_l2h,outs:=f35_l2o,fn:=fun x=>f35_l2_n ((x.1.1 - x.1.2.1).toNat + 1) x }
def f35 (a0:Yc):Option (Bool × Unit) :=
 bif (cutOk 8 (some (1:Int)) none) then
 let v1:Int:=(((zah 8 (some (1:Int)) none):Nat):Int)
 (f35_l2 ((v1 - (0:Int)).toNat + 1) v1 (0:Int) a0.1).bind fun o18 =>
 Sum.elim (fun o19 =>
 let u21:(List (List Yn)):=o19.2.2.1.1
 bif (inR (0:Int) 8) then
 let v22:(List Yn):=(at_ (.sl yN) u21 (0:Int))
 let v23:Bool:=(decide ((v22.length:Int) = (0:Int)))
 some (v23,())
 else none) (fun o20 =>
 let u24:Bool:=o20.1.1
 some (u24,())) o18
 else none
def f35s:PSpec:={ args:=[yC],res:=[.bool],fn:=fun x=>f35 x.1 }
noncomputable def f35c:Code:=Tryz.f27.body.getD .skip
noncomputable def f35e:Env0:={ C:=cfgF,P:=[(52,f65s)],L:=[(⟨12,0,27,5⟩,f35_l5s),(⟨12,0,27,2⟩,f35_l2s)],F:=[(27,Tryz.f27)] }
theorem f35_l5y:zan f35e 12 27 0 (zao f35c 5) f35_l5s :=
 zae (by kernel_rfl) f35_l5_n (fun x o h=>⟨_,h⟩) (fun x=>by kernel_rfl) (fun n x=>by kernel_rfl)
theorem f35_l2y:zan f35e 12 27 0 (zao f35c 2) f35_l2s :=
 zae (by kernel_rfl) f35_l2_n (fun x o h=>⟨_,h⟩) (fun x=>by kernel_rfl) (fun n x=>by kernel_rfl)
theorem f35r:zR f35e 27 Tryz.f27 f35c f35s:=by intro x; kernel_rfl
theorem f35n:zQ 27:=zN Tryz.func27
theorem f35k:zE f35e:=zO zaf ⟨⟨f65p,f65n⟩,trivial⟩ trivial ⟨zK Tryz.func27,trivial⟩ ⟨⟨Tryz.f27,f35c,rfl,rfl,f35_l5y⟩,⟨Tryz.f27,f35c,rfl,rfl,f35_l2y⟩,trivial⟩
theorem f35p:zU 27 f35s:=zP f35k Tryz.f27 f35c f35r
def f82_l2xh:Ann:={ env:=[(0,.ty (.sl yN)),(1,.cst (.fn 78 [(.ptr 3 0 [])])),(7,YI),(8,YI)],stk:=[[(2,cP 2),(3,cP 3),(4,cP 4)]],bxs:=[(3,.var [.ty (.arr 2 yI)]),(2,.var [.ty (.arr 8 (.sl yN))]),(4,.var [.ty .bool,.cst .nils])] }
def f82_l2xo:List (Ex × Ann):=[((.exit 0),{ env:=[],stk:=[[(2,cP 2),(3,cP 3),(4,cP 4)]],bxs:=[(2,.var [.ty (.arr 8 (.sl yN))]),(3,.var [.ty (.arr 2 yI)]),(4,.var [.ty .bool,.cst .nils])] }),(.ret,{ env:=[(4,YI)],stk:=[[(2,cP 2),(3,cP 3),(4,cP 4)]],bxs:=[(2,.var [.ty (.arr 8 (.sl yN))]),(3,.var [.ty (.arr 2 yI)]),(4,.var [.ty .bool,.cst .nils])] })]
def f82_l2x (t0:(List Yn)) (t7:Int) (b3g0:(List Int)) (b2g0:(List (List Yn))) (b4g0:Bool):Nat→Int→Option (outDen f82_l2xo)
 | 0,_=>none
 | k + 1,t8 =>
 bif (decide (t8 < t7)) then
 bif (inR t8 t0.length) then
 let v2:Int:=(at_ yN t0 t8).1
 bif (inR (1:Int) 2) then
 let v3:Bool:=(decide (v2 = (at_ yI b3g0 (1:Int))))
 bif v3 then
 some (.inr ((t8,()),((),()),((b2g0,()),(b3g0,()),(b4g0,()),())))
 else
 f82_l2x t0 t7 b3g0 b2g0 b4g0 k (IntKind.wrap .i64 (t8 + 1))
 else none
 else none
 else
 some (.inl ((),((),()),((b2g0,()),(b3g0,()),(b4g0,()),())))
def f82_l2x_n (n:Nat) (x:f82_l2xh.den):=f82_l2x x.1.1 x.1.2.1 x.2.2.1.1 x.2.2.2.1.1 x.2.2.2.2.1.1 n x.1.2.2.1
def f82_l2xs:LSpec:={ head:=f82_l2xh,outs:=f82_l2xo,fn:=fun x=>f82_l2x_n ((x.1.2.1 - x.1.2.2.1).toNat + 1) x }
def f43 (a0:Yc) (a1:(List Int)):Option ((Bool × ((List Int) × Unit)) × Unit) :=
 bif (inR (0:Int) 2) then
 bif (inR (at_ yI a1 (0:Int)) 8) then
 let v1:(List Yn):=(at_ (.sl yN) a0.1 (at_ yI a1 (0:Int)))
 (f82_l2x v1 (v1.length:Int) a1 a0.1 false (((v1.length:Int) - (0:Int)).toNat + 1) (0:Int)).bind fun o4 =>
 Sum.elim (fun o5 =>
 some ((false,([],())),())) (fun o6 =>
 let u10:Int:=o6.1.1
 let u11:(List (List Yn)):=o6.2.2.1.1
 let u12:(List Int):=o6.2.2.2.1.1
 bif (decide (u10 ≥ (0:Int))) then
 bif (inR (0:Int) 2) then
 bif (inR (at_ yI u12 (0:Int)) 8) then
 let v14:(List Yn):=(at_ (.sl yN) u11 (at_ yI u12 (0:Int)))
 bif (inR u10 v14.length) then
 let v15:(List Int):=(at_ yN v14 u10).2.1
 some ((true,(v15,())),())
 else none
 else none
 else none
 else
 some ((false,([],())),())) o4
 else none
 else none
def f43s:PSpec:={ args:=[yC,(.arr 2 yI)],res:=[(.pair .bool (.pair (.sl yI) .unit))],fn:=fun x=>f43 x.1 x.2.1 }
noncomputable def f43c:Code:=Tryz.f33.body.getD .skip
noncomputable def f43_code_77:Code:=Tryz.f77.body.getD .skip
noncomputable def f43e:Env0:={ C:=cfgF,P:=[],L:=[(⟨11,12000,77,2⟩,f82_l2xs)],F:=[(33,Tryz.f33),(77,Tryz.f77),(78,Tryz.f78)] }
theorem f82_l2xy:zan f43e 11 77 12000 (zao f43_code_77 2) f82_l2xs :=
 zae (by kernel_rfl) f82_l2x_n (fun x o h=>⟨_,h⟩) (fun x=>by kernel_rfl) (fun n x=>by kernel_rfl)
theorem f43r:zR f43e 33 Tryz.f33 f43c f43s:=by intro x; kernel_rfl
theorem f43n:zQ 33:=zN Tryz.func33
theorem f43k:zE f43e:=zO zaf trivial trivial ⟨zK Tryz.func33,zK Tryz.func77,zK Tryz.func78,trivial⟩ ⟨⟨Tryz.f77,f43_code_77,rfl,rfl,f82_l2xy⟩,trivial⟩
theorem f43p:zU 33 f43s:=zP f43k Tryz.f33 f43c f43r
def f80_l4h:Ann:={ env:=[(0,.ty (.sl yI)),(1,.ty (.sl yI)),(12,YI),(13,YI)] }
def f80_l4o:List (Ex × Ann):=[((.exit 0),{ env:=[] }),(.ret,{ env:=[(4,.ty .bool)] })]
def f80_l4 (t0:(List Int)) (t1:(List Int)) (t12:Int):Nat→Int→Option (outDen f80_l4o)
 | 0,_=>none
 | k + 1,t13 =>
 bif (decide (t13 < t12)) then
 bif (inR t13 t0.length) then
 bif (inR t13 t1.length) then
 let v2:Bool:=(decide ((at_ yI t0 t13) ≠ (at_ yI t1 t13)))
 bif v2 then
 some (.inr ((false,()),(),()))
 else
 f80_l4 t0 t1 t12 k (IntKind.wrap .i64 (t13 + 1))
 else none
 else none
 else
 some (.inl ((),(),()))
def f80_l4_n (n:Nat) (x:f80_l4h.den):=f80_l4 x.1.1 x.1.2.1 x.1.2.2.1 n x.1.2.2.2.1
def f80_l4s:LSpec:={ head:=f80_l4h,outs:=f80_l4o,fn:=fun x=>f80_l4_n ((x.1.2.2.1 - x.1.2.2.2.1).toNat + 1) x }
def f80 (a0:(List Int)) (a1:(List Int)):Option (Bool × Unit) :=
 let v1:Bool:=(decide ((a0.length:Int) ≠ (a1.length:Int)))
 bif v1 then
 some (false,())
 else
 (f80_l4 a0 a1 (a0.length:Int) (((a0.length:Int) - (0:Int)).toNat + 1) (0:Int)).bind fun o3 =>
 Sum.elim (fun o4 =>
 some (true,())) (fun o5 =>
 let u6:Bool:=o5.1.1
 some (u6,())) o3
def f80s:PSpec:={ args:=[(.sl yI),(.sl yI)],res:=[.bool],fn:=fun x=>f80 x.1 x.2.1 }
noncomputable def f80c:Code:=Tryz.f74.body.getD .skip
noncomputable def f80e:Env0:={ C:=cfgF,P:=[],L:=[(⟨12,0,74,4⟩,f80_l4s)],F:=[(74,Tryz.f74)] }
theorem f80_l4y:zan f80e 12 74 0 (zao f80c 4) f80_l4s :=
 zae (by kernel_rfl) f80_l4_n (fun x o h=>⟨_,h⟩) (fun x=>by kernel_rfl) (fun n x=>by kernel_rfl)
theorem f80r:zR f80e 74 Tryz.f74 f80c f80s:=by intro x; kernel_rfl
theorem f80n:zQ 74:=zN Tryz.func74
theorem f80k:zE f80e:=zO zaf trivial trivial ⟨zK Tryz.func74,trivial⟩ ⟨⟨Tryz.f74,f80c,rfl,rfl,f80_l4y⟩,trivial⟩
theorem f80p:zU 74 f80s:=zP f80k Tryz.f74 f80c f80r
def f44 (a0:(Bool × ((List Int) × Unit))) (a1:(Bool × ((List Int) × Unit))):Option (Bool × Unit) :=
 bif (decide (a0.1 = a1.1)) then
 (f80 a0.2.1 a1.2.1).bind fun y1 =>
 some (y1.1,())
 else
 some (false,())
def f44s:PSpec:={ args:=[(.pair .bool (.pair (.sl yI) .unit)),(.pair .bool (.pair (.sl yI) .unit))],res:=[.bool],fn:=fun x=>f44 x.1 x.2.1 }
noncomputable def f44c:Code:=Tryz.f34.body.getD .skip
noncomputable def f44e:Env0:={ C:=cfgF,P:=[(74,f80s)],L:=[],F:=[(34,Tryz.f34)] }
theorem f44r:zR f44e 34 Tryz.f34 f44c f44s:=by intro x; kernel_rfl
theorem f44n:zQ 34:=zN Tryz.func34
theorem f44k:zE f44e:=zO zaf ⟨⟨f80p,f80n⟩,trivial⟩ trivial ⟨zK Tryz.func34,trivial⟩ trivial
theorem f44p:zU 34 f44s:=zP f44k Tryz.f34 f44c f44r
def f54 (a0:(List Int)):Option ((List Int) × Unit) :=
 bif decide (a0.length≤zac) then some (a0,()) else none
def f54s:PSpec:={ args:=[(.sl yI)],res:=[(.sl yI)],fn:=fun x=>f54 x.1 }
noncomputable def f54c:Code:=Tryz.f61.body.getD .skip
noncomputable def f54e:Env0:={ C:=cfg,P:=[],L:=[],F:=[(61,Tryz.f61)] }
theorem f54_run0 (x:tysDen []):runV f54e 61 Tryz.f61 f54c (.nils :: tysAV [] x) [(.sl yI)] = f54s.fn ([],x):=by kernel_rfl
theorem f54_run1 (l:(List Int)) (x:tysDen []):runV f54e 61 Tryz.f61 f54c (.nn yI l :: tysAV [] x) [(.sl yI)] = f54s.fn (l,x):=by kernel_rfl
theorem f54n:zQ 61:=zN Tryz.func61
theorem f54k:zE f54e:=zO zce trivial trivial ⟨zK Tryz.func61,trivial⟩ trivial
theorem f54p:zbh Tryz.prog cfg 61 f54s:=zny f54k (fn:=Tryz.f61) (c:=f54c) rfl rfl yI [] [(.sl yI)] f54s.fn (fun x y h=>(f54_run0 x).trans h) (fun l x y h=>(f54_run1 l x).trans h)
def f45 (a0:(List Int)) (a1:(Bool × ((List Int) × Unit))) (a2:(Bool × ((List Int) × Unit))):Option (Yr × Unit) :=
 bif (inR (0:Int) 2) then
 bif (inR (1:Int) 2) then
 (f54 a1.2.1).bind fun y1 =>
 (f54 a2.2.1).bind fun y2 =>
 some (((at_ yI a0 (0:Int)),((at_ yI a0 (1:Int)),(a1.1,(y1.1,(a2.1,(y2.1,())))))),())
 else none
 else none
def f45s:PSpec:={ args:=[(.arr 2 yI),(.pair .bool (.pair (.sl yI) .unit)),(.pair .bool (.pair (.sl yI) .unit))],res:=[yR],fn:=fun x=>f45 x.1 x.2.1 x.2.2.1 }
noncomputable def f45c:Code:=Tryz.f35.body.getD .skip
noncomputable def f45e:Env0:={ C:=cfgF,P:=[(61,f54s)],L:=[],F:=[(35,Tryz.f35)] }
theorem f45r:zR f45e 35 Tryz.f35 f45c f45s:=by intro x; kernel_rfl
theorem f45n:zQ 35:=zN Tryz.func35
theorem f45k:zE f45e:=zO zaf ⟨⟨f54p,f54n⟩,trivial⟩ trivial ⟨zK Tryz.func35,trivial⟩ trivial
theorem f45p:zU 35 f45s:=zP f45k Tryz.f35 f45c f45r
def f41_l4xh:Ann:={ env:=[(0,.cst (.fn 32 [(.ptr 2 0 []),(.ptr 3 0 []),(.ptr 6 0 [])])),(2,YI),(8,YI)],stk:=[[(4,cP 4),(5,YI),(6,cP 6)]],bxs:=[(2,.var [.ty (.arr 8 (.sl yN))]),(3,.var [.ty (.arr 8 (.sl yN))]),(6,.var [.cst (.row 17015024 .whole)]),(4,.var [.cst .nils]),(17015024,.row yR false)] }
def f41_l4xo:List (Ex × Ann):=[((.exit 2),{ env:=[(0,.cst (.fn 32 [(.ptr 2 0 []),(.ptr 3 0 []),(.ptr 6 0 [])])),(2,YI)],stk:=[[(4,cP 4),(5,YI),(6,cP 6)]],bxs:=[(2,.var [.ty (.arr 8 (.sl yN))]),(3,.var [.ty (.arr 8 (.sl yN))]),(6,.var [.cst (.row 17015024 .whole)]),(4,.var [.cst .nils]),(17015024,.row yR false)] })]
def f41_l4x (t2:Int) (k0t5:Int) (b2g0:(List (List Yn))) (b3g0:(List (List Yn))):Nat→Int→(List Yr)→Option (outDen f41_l4xo)
 | 0,_,_=>none
 | k + 1,t8,r17015024 =>
 bif (decide (t8 < (24:Int))) then
 (f43 (b2g0,()) ([t2,t8]:List Int)).bind fun y3 =>
 (f43 (b3g0,()) ([t2,t8]:List Int)).bind fun y4 =>
 (f44 y3.1 y4.1).bind fun y5 =>
 bif (!y5.1) then
 (f45 ([t2,t8]:List Int) y3.1 y4.1).bind fun y6 =>
 bif (decide (r17015024.length + ([y6.1]:List Yr).length≤zac)) then f41_l4x t2 k0t5 b2g0 b3g0 k (IntKind.wrap .i64 (t8 + 1)) (r17015024++([y6.1]:List Yr)) else none
 else
 f41_l4x t2 k0t5 b2g0 b3g0 k (IntKind.wrap .i64 (t8 + 1)) r17015024
 else
 some ((t2,()),((k0t5,()),()),((b2g0,()),(b3g0,()),(),(),r17015024,()))
def f41_l4x_n (n:Nat) (x:f41_l4xh.den):=f41_l4x x.1.1 x.2.1.1.1 x.2.2.1.1 x.2.2.2.1.1 n x.1.2.1 x.2.2.2.2.2.2.1
def f41_l4xs:LSpec:={ head:=f41_l4xh,outs:=f41_l4xo,fn:=fun x=>f41_l4x_n (((24:Int) - x.1.2.1).toNat + 1) x }
def f41_l1xh:Ann:={ env:=[(0,.cst (.fn 32 [(.ptr 2 0 []),(.ptr 3 0 []),(.ptr 6 0 [])])),(2,YI)],stk:=[[(4,cP 4),(5,YI),(6,cP 6)]],bxs:=[(2,.var [.ty (.arr 8 (.sl yN))]),(3,.var [.ty (.arr 8 (.sl yN))]),(6,.var [.cst (.row 17015024 .whole)]),(4,.var [.cst .nils]),(17015024,.row yR false)] }
def f41_l1xo:List (Ex × Ann):=[((.exit 0),{ env:=[],stk:=[[(4,cP 4),(5,YI),(6,cP 6)]],bxs:=[(4,.var [.cst .nils]),(6,.var [.cst (.row 17015024 .whole)]),(17015024,.row yR false)] })]
def f41_l1x:Nat→Int→Int→(List (List Yn))→(List (List Yn))→(List Yr)→Option (outDen f41_l1xo)
 | 0,_,_,_,_,_=>none
 | k + 1,t2,k0t5,b2g0,b3g0,r17015024 =>
 bif (decide (t2≤(7:Int))) then
 (f41_l4x t2 k0t5 b2g0 b3g0 (((24:Int) - (0:Int)).toNat + 1) (0:Int) r17015024).bind fun o7 =>
 let u8:Int:=o7.1.1
 let u9:Int:=o7.2.1.1.1
 let u10:(List (List Yn)):=o7.2.2.1.1
 let u11:(List (List Yn)):=o7.2.2.2.1.1
 let u12:(List Yr):=o7.2.2.2.2.2.2.1
 f41_l1x k (IntKind.wrap .i64 (u8 + 1)) u9 u10 u11 u12
 else
 some ((),((k0t5,()),()),((),(),r17015024,()))
def f41_l1x_n (n:Nat) (x:f41_l1xh.den):=f41_l1x n x.1.1 x.2.1.1.1 x.2.2.1.1 x.2.2.2.1.1 x.2.2.2.2.2.2.1
def f41_l1xs:LSpec:={ thaws:=[.cell 6 0 17015024 yR],head:=f41_l1xh,outs:=f41_l1xo,fn:=fun x=>f41_l1x_n (((8:Int) - x.1.1).toNat + 1) x }
def f12 (a0:Yc) (a1:Yc):Option (((List Yr) × Unit) × Int × Unit) :=
 (f35 a0).bind fun y1 =>
 bif (!y1.1) then
 some (([],()),(160:Int),())
 else
 (f35 a1).bind fun y2 =>
 bif (!y2.1) then
 some (([],()),(160:Int),())
 else
 (f41_l1x (((8:Int) - (1:Int)).toNat + 1) (1:Int) (0:Int) a0.1 a1.1 []).bind fun o13 =>
 let u15:(List Yr):=o13.2.2.2.2.1
 some ((u15,()),(0:Int),())
def f12s:PSpec:={ args:=[yC,yC],res:=[(.pair (.sl yR) .unit),yI],fn:=fun x=>f12 x.1 x.2.1 }
noncomputable def f12c:Code:=Tryz.f5.body.getD .skip
noncomputable def f12_code_31:Code:=Tryz.f31.body.getD .skip
noncomputable def f12e:Env0:={ C:=cfgF,P:=[(27,f35s),(33,f43s),(34,f44s),(35,f45s)],L:=[(⟨11,17000,31,4⟩,f41_l4xs),(⟨11,17000,31,1⟩,f41_l1xs)],F:=[(5,Tryz.f5),(31,Tryz.f31),(32,Tryz.f32)] }
theorem f41_l4xy:zan f12e 11 31 17000 (zao f12_code_31 4) f41_l4xs :=
 zae (by kernel_rfl) f41_l4x_n (fun x o h=>⟨_,h⟩) (fun x=>by kernel_rfl) (fun n x=>by kernel_rfl)
theorem f41_l1xy:zan f12e 11 31 17000 (zao f12_code_31 1) f41_l1xs :=
 zae (by kernel_rfl) f41_l1x_n (fun x o h=>⟨_,h⟩) (fun x=>by kernel_rfl) (fun n x=>by kernel_rfl)
theorem f12r:zR f12e 5 Tryz.f5 f12c f12s:=by intro x; kernel_rfl
theorem f12n:zQ 5:=zN Tryz.func5
theorem f12k:zE f12e:=zO zaf ⟨⟨f35p,f35n⟩,⟨f43p,f43n⟩,⟨f44p,f44n⟩,⟨f45p,f45n⟩,trivial⟩ trivial ⟨zK Tryz.func5,zK Tryz.func31,zK Tryz.func32,trivial⟩ ⟨⟨Tryz.f31,f12_code_31,rfl,rfl,f41_l4xy⟩,⟨Tryz.f31,f12_code_31,rfl,rfl,f41_l1xy⟩,trivial⟩
theorem f12p:zU 5 f12s:=zP f12k Tryz.f5 f12c f12r
def f37 (a0:Int) (a1:Int):Option (Int × Unit) :=
 bif (decide (a0 < (0:Int))) then
 let v1:Int:=(IntKind.wrap .i64 (0 - (IntKind.wrap .i64 (a0 + 1))))
 bif (decide (a1 ≠ 0)) then some ((Int.tmod v1 a1),()) else none
 else
 bif (decide (a1 ≠ 0)) then some ((Int.tmod a0 a1),()) else none
def f37s:PSpec:={ args:=[yI,yI],res:=[yI],fn:=fun x=>f37 x.1 x.2.1 }
noncomputable def f37c:Code:=Tryz.f36.body.getD .skip
noncomputable def f37e:Env0:={ C:=cfgF,P:=[],L:=[],F:=[(36,Tryz.f36)] }
theorem f37r:zR f37e 36 Tryz.f36 f37c f37s:=by intro x; kernel_rfl
theorem f37n:zQ 36:=zN Tryz.func36
theorem f37k:zE f37e:=zO zaf trivial trivial ⟨zK Tryz.func36,trivial⟩ trivial
theorem f37p:zU 36 f37s:=zP f37k Tryz.f36 f37c f37r
def f38_l4h:Ann:={ env:=[(0,.ty (.sl yN)),(1,YI),(3,.ty (.sl yI)),(9,.cst (.row 38 .whole)),(10,.ty .bool),(11,YI)],bxs:=[(38,.row yN false)] }
def f38_l4o:List (Ex × Ann):=[((.exit 0),{ env:=[(1,YI),(3,.ty (.sl yI)),(9,.cst (.row 38 .whole)),(10,.ty .bool)],bxs:=[(38,.row yN false)] })]
def f38_l4 (t0:(List Yn)) (t1:Int) (t3:(List Int)):Nat→Bool→Int→(List Yn)→Option (outDen f38_l4o)
 | 0,_,_,_=>none
 | k + 1,t10,t11,r38 =>
 bif (decide (t11 < (t0.length:Int))) then
 bif (inR t11 t0.length) then
 let v1:Int:=(at_ yN t0 t11).1
 bif (decide (v1 > t1)) then
 bif (!t10) then
 bif (decide (t3.length≤zac)) then
 bif (decide (r38.length + ([(t1,(t3,()))]:List Yn).length≤zac)) then
 bif (inR t11 t0.length) then
 let v2:Int:=(at_ yN t0 t11).1
 bif (decide (v2 ≠ t1)) then
 bif (inR t11 t0.length) then
 let v3:Int:=(at_ yN t0 t11).1
 bif (inR t11 t0.length) then
 let v4:(List Int):=(at_ yN t0 t11).2.1
 bif (decide (v4.length≤zac)) then bif (decide ((r38++([(t1,(t3,()))]:List Yn)).length + ([(v3,(v4,()))]:List Yn).length≤zac)) then f38_l4 t0 t1 t3 k true (IntKind.wrap .i64 (t11 + 1)) ((r38++([(t1,(t3,()))]:List Yn))++([(v3,(v4,()))]:List Yn)) else none else none
 else none
 else none
 else
 f38_l4 t0 t1 t3 k true (IntKind.wrap .i64 (t11 + 1)) (r38++([(t1,(t3,()))]:List Yn))
 else none
 else none
 else none
 else
 bif (inR t11 t0.length) then
 let v5:Int:=(at_ yN t0 t11).1
 bif (decide (v5 ≠ t1)) then
 bif (inR t11 t0.length) then
 let v6:Int:=(at_ yN t0 t11).1
 bif (inR t11 t0.length) then
 let v7:(List Int):=(at_ yN t0 t11).2.1
 bif (decide (v7.length≤zac)) then bif (decide (r38.length + ([(v6,(v7,()))]:List Yn).length≤zac)) then f38_l4 t0 t1 t3 k t10 (IntKind.wrap .i64 (t11 + 1)) (r38++([(v6,(v7,()))]:List Yn)) else none else none
 else none
 else none
 else
 f38_l4 t0 t1 t3 k t10 (IntKind.wrap .i64 (t11 + 1)) r38
 else none
 else
 bif (inR t11 t0.length) then
 let v8:Int:=(at_ yN t0 t11).1
 bif (decide (v8 ≠ t1)) then
 bif (inR t11 t0.length) then
 let v9:Int:=(at_ yN t0 t11).1
 bif (inR t11 t0.length) then
 let v10:(List Int):=(at_ yN t0 t11).2.1
 bif (decide (v10.length≤zac)) then bif (decide (r38.length + ([(v9,(v10,()))]:List Yn).length≤zac)) then f38_l4 t0 t1 t3 k t10 (IntKind.wrap .i64 (t11 + 1)) (r38++([(v9,(v10,()))]:List Yn)) else none else none
 else none
 else none
 else
 f38_l4 t0 t1 t3 k t10 (IntKind.wrap .i64 (t11 + 1)) r38
 else none
 else none
 else
 some ((t1,t3,t10,()),(),(r38,()))
def f38_l4_n (n:Nat) (x:f38_l4h.den):=f38_l4 x.1.1 x.1.2.1 x.1.2.2.1 n x.1.2.2.2.1 x.1.2.2.2.2.1 x.2.2.1
def f38_l4s:LSpec:={ thaws:=[.slot 9 38 yN],head:=f38_l4h,outs:=f38_l4o,fn:=fun x=>f38_l4_n (((x.1.1.length:Int) - x.1.2.2.2.2.1).toNat + 1) x }
def f38 (a0:(List Yn)) (a1:Int) (a2:Bool) (a3:(List Int)):Option ((List Yn) × Unit) :=
 (f38_l4 a0 a1 a3 (((a0.length:Int) - (0:Int)).toNat + 1) (!a2) (0:Int) []).bind fun o11 =>
 let u12:Int:=o11.1.1
 let u13:(List Int):=o11.1.2.1
 let u14:Bool:=o11.1.2.2.1
 let u15:(List Yn):=o11.2.2.1
 bif (!u14) then
 bif (decide (u13.length≤zac)) then bif (decide (u15.length + ([(u12,(u13,()))]:List Yn).length≤zac)) then some ((u15++([(u12,(u13,()))]:List Yn)),()) else none else none
 else
 some (u15,())
def f38s:PSpec:={ args:=[(.sl yN),yI,.bool,(.sl yI)],res:=[(.sl yN)],fn:=fun x=>f38 x.1 x.2.1 x.2.2.1 x.2.2.2.1 }
noncomputable def f38c:Code:=Tryz.f37.body.getD .skip
noncomputable def f38e:Env0:={ C:=cfgF,P:=[],L:=[(⟨12,0,37,4⟩,f38_l4s)],F:=[(37,Tryz.f37)] }
theorem f38_l4y:zan f38e 12 37 0 (zao f38c 4) f38_l4s :=
 zae (by kernel_rfl) f38_l4_n (fun x o h=>⟨_,h⟩) (fun x=>by kernel_rfl) (fun n x=>by kernel_rfl)
theorem f38r:zR f38e 37 Tryz.f37 f38c f38s:=by intro x; kernel_rfl
theorem f38n:zQ 37:=zN Tryz.func37
theorem f38k:zE f38e:=zO zaf trivial trivial ⟨zK Tryz.func37,trivial⟩ ⟨⟨Tryz.f37,f38c,rfl,rfl,f38_l4y⟩,trivial⟩
theorem f38p:zU 37 f38s:=zP f38k Tryz.f37 f38c f38r
def f8_l7h:Ann:={ env:=[(0,.ty (.sl (.arr 4 yI))),(2,cP 2),(3,cP 3),(4,YI),(5,.cst (.row 40 .whole)),(6,YI)],bxs:=[(2,.var [.ty (.arr 8 (.sl yN))]),(3,.var [.ty (.arr 8 (.sl yN))]),(40,.row yI false)] }
def f8_l7o:List (Ex × Ann):=[((.exit 2),{ env:=[(0,.ty (.sl (.arr 4 yI))),(2,cP 2),(3,cP 3),(4,YI),(5,.ty (.sl yI))],bxs:=[(2,.var [.ty (.arr 8 (.sl yN))]),(3,.var [.ty (.arr 8 (.sl yN))])] })]
def f8_l7 (t0:(List (List Int))) (t4:Int) (b2g0:(List (List Yn))) (b3g0:(List (List Yn))):Nat→Int→(List Int)→Option (outDen f8_l7o)
 | 0,_,_=>none
 | k + 1,t6,r40 =>
 bif (inR t4 t0.length) then
 bif (inR (2:Int) 4) then
 let v1:Int:=(at_ yI (at_ (.arr 4 yI) t0 t4) (2:Int))
 (f37 v1 (4:Int)).bind fun y2 =>
 bif (decide (t6 < y2.1)) then
 bif (inR t4 t0.length) then
 bif (inR (3:Int) 4) then
 let v3:Int:=(at_ yI (at_ (.arr 4 yI) t0 t4) (3:Int))
 bif (decide ((IntKind.wrap .i64 ((1:Int) + t6)) ≠ 0)) then
 let v4:Int:=(IntKind.wrap .i64 (Int.tdiv v3 (IntKind.wrap .i64 ((1:Int) + t6))))
 (f37 v4 (5:Int)).bind fun y5 =>
 bif (decide (r40.length + ([(IntKind.wrap .i64 (y5.1 - (1:Int)))]:List Int).length≤zac)) then f8_l7 t0 t4 b2g0 b3g0 k (IntKind.wrap .i64 (t6 + 1)) (r40++([(IntKind.wrap .i64 (y5.1 - (1:Int)))]:List Int)) else none
 else none
 else none
 else none
 else
 some ((t0,t4,r40,()),(),((b2g0,()),(b3g0,()),()))
 else none
 else none
def f8_l7_n (n:Nat) (x:f8_l7h.den):=f8_l7 x.1.1 x.1.2.1 x.2.2.1.1 x.2.2.2.1.1 n x.1.2.2.1 x.2.2.2.2.1
def f8_l7s:LSpec:={ thaws:=[.slot 5 40 yI],head:=f8_l7h,outs:=f8_l7o,fn:=fun x=>f8_l7_n ((5:Nat)) x }
def f8_l3h:Ann:={ env:=[(0,.ty (.sl (.arr 4 yI))),(2,cP 2),(3,cP 3),(4,YI)],bxs:=[(2,.var [.ty (.arr 8 (.sl yN))]),(3,.var [.ty (.arr 8 (.sl yN))])] }
def f8_l3o:List (Ex × Ann):=[((.exit 0),{ env:=[(2,cP 2),(3,cP 3)],bxs:=[(2,.var [.ty (.arr 8 (.sl yN))]),(3,.var [.ty (.arr 8 (.sl yN))])] })]
def f8_l3:Nat→(List (List Int))→Int→(List (List Yn))→(List (List Yn))→Option (outDen f8_l3o)
 | 0,_,_,_,_=>none
 | k + 1,t0,t4,b2g0,b3g0 =>
 bif (decide (t4 < (t0.length:Int))) then
 bif (decide (t4 < (20:Int))) then
 (f8_l7 t0 t4 b2g0 b3g0 ((5:Nat)) (0:Int) []).bind fun o6 =>
 let u7:(List (List Int)):=o6.1.1
 let u8:Int:=o6.1.2.1
 let u9:(List Int):=o6.1.2.2.1
 let u10:(List (List Yn)):=o6.2.2.1.1
 let u11:(List (List Yn)):=o6.2.2.2.1.1
 bif (inR u8 u7.length) then
 bif (inR (0:Int) 4) then
 let v12:Int:=(at_ yI (at_ (.arr 4 yI) u7 u8) (0:Int))
 (f37 v12 (7:Int)).bind fun y13 =>
 bif (inR (IntKind.wrap .i64 ((1:Int) + y13.1)) 8) then
 let v14:(List Yn):=(at_ (.sl yN) u11 (IntKind.wrap .i64 ((1:Int) + y13.1)))
 bif (inR u8 u7.length) then
 bif (inR (1:Int) 4) then
 let v15:Int:=(at_ yI (at_ (.arr 4 yI) u7 u8) (1:Int))
 (f37 v15 (6:Int)).bind fun y16 =>
 (f38 v14 y16.1 true u9).bind fun y17 =>
 bif (inR (IntKind.wrap .i64 ((1:Int) + y13.1)) 8) then f8_l3 k u7 (IntKind.wrap .i64 (u8 + 1)) u10 (u11.set (Int.toNat (IntKind.wrap .i64 ((1:Int) + y13.1))) y17.1) else none
 else none
 else none
 else none
 else none
 else none
 else
 some ((),(),((b2g0,()),(b3g0,()),()))
 else
 some ((),(),((b2g0,()),(b3g0,()),()))
def f8_l3_n (n:Nat) (x:f8_l3h.den):=f8_l3 n x.1.1 x.1.2.1 x.2.2.1.1 x.2.2.2.1.1
def f8_l3s:LSpec:={ head:=f8_l3h,outs:=f8_l3o,fn:=fun x=>f8_l3_n (((x.1.1.length:Int) - x.1.2.1).toNat + 1) x }
def f8 (a0:(List (List Int))):Option (Yc × Unit) :=
 (f8_l3 (((a0.length:Int) - (0:Int)).toNat + 1) a0 (0:Int) (List.replicate 8 []) (List.replicate 8 [])).bind fun o18 =>
 let u20:(List (List Yn)):=o18.2.2.2.1.1
 some ((u20,()),())
def f8s:PSpec:={ args:=[(.sl (.arr 4 yI))],res:=[yC],fn:=fun x=>f8 x.1 }
noncomputable def f8c:Code:=Tryz.f6.body.getD .skip
noncomputable def f8e:Env0:={ C:=cfgF,P:=[(36,f37s),(37,f38s)],L:=[(⟨12,0,6,7⟩,f8_l7s),(⟨12,0,6,3⟩,f8_l3s)],F:=[(6,Tryz.f6)] }
theorem f8_l7y:zan f8e 12 6 0 (zao f8c 7) f8_l7s :=
 zae (by kernel_rfl) f8_l7_n (fun x o h=>⟨_,h⟩) (fun x=>by kernel_rfl) (fun n x=>by kernel_rfl)
theorem f8_l3y:zan f8e 12 6 0 (zao f8c 3) f8_l3s :=
 zae (by kernel_rfl) f8_l3_n (fun x o h=>⟨_,h⟩) (fun x=>by kernel_rfl) (fun n x=>by kernel_rfl)
theorem f8r:zR f8e 6 Tryz.f6 f8c f8s:=by intro x; kernel_rfl
theorem f8n:zQ 6:=zN Tryz.func6
theorem f8k:zE f8e:=zO zaf ⟨⟨f37p,f37n⟩,⟨f38p,f38n⟩,trivial⟩ trivial ⟨zK Tryz.func6,trivial⟩ ⟨⟨Tryz.f6,f8c,rfl,rfl,f8_l7y⟩,⟨Tryz.f6,f8c,rfl,rfl,f8_l3y⟩,trivial⟩
theorem f8p:zU 6 f8s:=zP f8k Tryz.f6 f8c f8r
def f52 (a0:Yr):Option ((Bool × ((List Int) × Unit)) × Unit) :=
 some ((a0.2.2.1,(a0.2.2.2.1,())),())
def f52s:PSpec:={ args:=[yR],res:=[(.pair .bool (.pair (.sl yI) .unit))],fn:=fun x=>f52 x.1 }
noncomputable def f52c:Code:=Tryz.f39.body.getD .skip
noncomputable def f52e:Env0:={ C:=cfgF,P:=[],L:=[],F:=[(39,Tryz.f39)] }
theorem f52r:zR f52e 39 Tryz.f39 f52c f52s:=by intro x; kernel_rfl
theorem f52n:zQ 39:=zN Tryz.func39
theorem f52k:zE f52e:=zO zaf trivial trivial ⟨zK Tryz.func39,trivial⟩ trivial
theorem f52p:zU 39 f52s:=zP f52k Tryz.f39 f52c f52r
def f53 (a0:Yr):Option ((Bool × ((List Int) × Unit)) × Unit) :=
 some (a0.2.2.2.2,())
def f53s:PSpec:={ args:=[yR],res:=[(.pair .bool (.pair (.sl yI) .unit))],fn:=fun x=>f53 x.1 }
noncomputable def f53c:Code:=Tryz.f41.body.getD .skip
noncomputable def f53e:Env0:={ C:=cfgF,P:=[],L:=[],F:=[(41,Tryz.f41)] }
theorem f53r:zR f53e 41 Tryz.f41 f53c f53s:=by intro x; kernel_rfl
theorem f53n:zQ 41:=zN Tryz.func41
theorem f53k:zE f53e:=zO zaf trivial trivial ⟨zK Tryz.func41,trivial⟩ trivial
theorem f53p:zU 41 f53s:=zP f53k Tryz.f41 f53c f53r
def f56 (a0:Yr):Option (Bool × Unit) :=
 bif (decide (a0.1 ≥ (1:Int))) then
 bif (decide (a0.1≤(7:Int))) then
 bif (decide (a0.2.1 ≥ (0:Int))) then
 bif a0.2.2.1 then
 bif a0.2.2.2.2.1 then
 bif (decide (a0.2.1 < (24:Int))) then
 (f65 a0.2.2.2.1).bind fun y1 =>
 bif y1.1 then
 (f65 a0.2.2.2.2.2.1).bind fun y2 =>
 bif y2.1 then
 (f52 a0).bind fun y3 =>
 (f53 a0).bind fun y4 =>
 (f44 y3.1 y4.1).bind fun y5 =>
 some ((!y5.1),())
 else
 some (false,())
 else
 some (false,())
 else
 some (false,())
 else
 let v6:Bool:=(decide ((a0.2.2.2.2.2.1.length:Int) = (0:Int)))
 bif (decide (a0.2.1 < (24:Int))) then
 bif v6 then
 (f65 a0.2.2.2.1).bind fun y7 =>
 bif y7.1 then
 (f65 a0.2.2.2.2.2.1).bind fun y8 =>
 bif y8.1 then
 (f52 a0).bind fun y9 =>
 (f53 a0).bind fun y10 =>
 (f44 y9.1 y10.1).bind fun y11 =>
 some ((!y11.1),())
 else
 some (false,())
 else
 some (false,())
 else
 some (false,())
 else
 some (false,())
 else
 let v12:Bool:=(decide ((a0.2.2.2.1.length:Int) = (0:Int)))
 bif v12 then
 bif a0.2.2.2.2.1 then
 bif (decide (a0.2.1 < (24:Int))) then
 (f65 a0.2.2.2.1).bind fun y13 =>
 bif y13.1 then
 (f65 a0.2.2.2.2.2.1).bind fun y14 =>
 bif y14.1 then
 (f52 a0).bind fun y15 =>
 (f53 a0).bind fun y16 =>
 (f44 y15.1 y16.1).bind fun y17 =>
 some ((!y17.1),())
 else
 some (false,())
 else
 some (false,())
 else
 some (false,())
 else
 let v18:Bool:=(decide ((a0.2.2.2.2.2.1.length:Int) = (0:Int)))
 bif (decide (a0.2.1 < (24:Int))) then
 bif v18 then
 (f65 a0.2.2.2.1).bind fun y19 =>
 bif y19.1 then
 (f65 a0.2.2.2.2.2.1).bind fun y20 =>
 bif y20.1 then
 (f52 a0).bind fun y21 =>
 (f53 a0).bind fun y22 =>
 (f44 y21.1 y22.1).bind fun y23 =>
 some ((!y23.1),())
 else
 some (false,())
 else
 some (false,())
 else
 some (false,())
 else
 some (false,())
 else
 bif (decide (a0.2.1 < (24:Int))) then
 some (false,())
 else
 some (false,())
 else
 bif a0.2.2.1 then
 bif a0.2.2.2.2.1 then
 some (false,())
 else
 let v24:Bool:=(decide ((a0.2.2.2.2.2.1.length:Int) = (0:Int)))
 some (false,())
 else
 let v25:Bool:=(decide ((a0.2.2.2.1.length:Int) = (0:Int)))
 bif v25 then
 bif a0.2.2.2.2.1 then
 some (false,())
 else
 let v26:Bool:=(decide ((a0.2.2.2.2.2.1.length:Int) = (0:Int)))
 some (false,())
 else
 some (false,())
 else
 bif a0.2.2.1 then
 bif a0.2.2.2.2.1 then
 some (false,())
 else
 let v27:Bool:=(decide ((a0.2.2.2.2.2.1.length:Int) = (0:Int)))
 some (false,())
 else
 let v28:Bool:=(decide ((a0.2.2.2.1.length:Int) = (0:Int)))
 bif v28 then
 bif a0.2.2.2.2.1 then
 some (false,())
 else
 let v29:Bool:=(decide ((a0.2.2.2.2.2.1.length:Int) = (0:Int)))
 some (false,())
 else
 some (false,())
 else
 bif a0.2.2.1 then
 bif a0.2.2.2.2.1 then
 some (false,())
 else
 let v30:Bool:=(decide ((a0.2.2.2.2.2.1.length:Int) = (0:Int)))
 some (false,())
 else
 let v31:Bool:=(decide ((a0.2.2.2.1.length:Int) = (0:Int)))
 bif v31 then
 bif a0.2.2.2.2.1 then
 some (false,())
 else
 let v32:Bool:=(decide ((a0.2.2.2.2.2.1.length:Int) = (0:Int)))
 some (false,())
 else
 some (false,())
def f56s:PSpec:={ args:=[yR],res:=[.bool],fn:=fun x=>f56 x.1 }
noncomputable def f56c:Code:=Tryz.f70.body.getD .skip
noncomputable def f56e:Env0:={ C:=cfgF,P:=[(34,f44s),(39,f52s),(41,f53s),(52,f65s)],L:=[],F:=[(70,Tryz.f70)] }
theorem f56r:zR f56e 70 Tryz.f70 f56c f56s:=by intro x; kernel_rfl
theorem f56n:zQ 70:=zN Tryz.func70
theorem f56k:zE f56e:=zO zaf ⟨⟨f44p,f44n⟩,⟨f52p,f52n⟩,⟨f53p,f53n⟩,⟨f65p,f65n⟩,trivial⟩ trivial ⟨zK Tryz.func70,trivial⟩ trivial
theorem f56p:zU 70 f56s:=zP f56k Tryz.f70 f56c f56r
def f99 (a0:Int):Option (Bool × Unit) :=
 some ((decide (a0 ≠ a0)),())
def f99s:PSpec:={ args:=[yI],res:=[.bool],fn:=fun x=>f99 x.1 }
noncomputable def f99c:Code:=Tryz.f118.body.getD .skip
noncomputable def f99e:Env0:={ C:=cfgF,P:=[],L:=[],F:=[(118,Tryz.f118)] }
theorem f99r:zR f99e 118 Tryz.f118 f99c f99s:=by intro x; kernel_rfl
theorem f99n:zQ 118:=zN Tryz.func118
theorem f99k:zE f99e:=zO zaf trivial trivial ⟨zK Tryz.func118,trivial⟩ trivial
theorem f99p:zU 118 f99s:=zP f99k Tryz.f118 f99c f99r
def f84 (a0:Int) (a1:Int):Option (Int × Unit) :=
 (f99 a0).bind fun y1 =>
 (f99 a1).bind fun y2 =>
 bif y1.1 then
 bif y2.1 then
 some ((0:Int),())
 else
 some ((-1:Int),())
 else
 bif y2.1 then
 some ((1:Int),())
 else
 bif (decide (a0 < a1)) then
 some ((-1:Int),())
 else
 bif (decide (a0 > a1)) then
 some ((1:Int),())
 else
 some ((0:Int),())
def f84s:PSpec:={ args:=[yI,yI],res:=[yI],fn:=fun x=>f84 x.1 x.2.1 }
noncomputable def f84c:Code:=Tryz.f96.body.getD .skip
noncomputable def f84e:Env0:={ C:=cfgF,P:=[(118,f99s)],L:=[],F:=[(96,Tryz.f96)] }
theorem f84r:zR f84e 96 Tryz.f96 f84c f84s:=by intro x; kernel_rfl
theorem f84n:zQ 96:=zN Tryz.func96
theorem f84k:zE f84e:=zO zaf ⟨⟨f99p,f99n⟩,trivial⟩ trivial ⟨zK Tryz.func96,trivial⟩ trivial
theorem f84p:zU 96 f84s:=zP f84k Tryz.f96 f84c f84r
end
end Go.V.G
