/- Part of the proof. -/
import Derived.KernelRfl
import Derived.Test.YtmhokhkmopghjaaGreatDoorA8
set_option linter.all false
set_option linter.unusedVariables false
set_option linter.unusedSectionVars false
set_option linter.unusedSimpArgs false
namespace Go.V.G
open Go.Proofs
noncomputable section
def f41_l4ch:Ann:={ env:=[(0,.cst (.fn 63 [(.ptr 6 0 []),(.ptr 7 0 []),(.ptr 4 0 [])])),(2,YI),(8,YI)],stk:=[[(4,cP 4),(5,cP 5)],[(0,.cst (.tup [(.fn 46 []),(.ptr 5 0 [])]))],[(0,.cst (.tup [(.fn 62 [(.ptr 5 0 []),(.ptr 4 0 [])])]))]],bxs:=[(6,.var [.cst (.mp 18)]),(7,.var [.cst (.mp 21)]),(4,.var [.cst (.row 23015066 .whole)]),(5,.var [YI]),(18,.map (.arr 2 yI) yR),(21,.map (.arr 2 yI) yR),(23015066,.row yR false)] }
def f41_l4co:List (Ex × Ann):=[((.exit 2),{ env:=[(0,.cst (.fn 63 [(.ptr 6 0 []),(.ptr 7 0 []),(.ptr 4 0 [])])),(2,YI)],stk:=[[(4,cP 4),(5,cP 5)],[(0,.cst (.tup [(.fn 46 []),(.ptr 5 0 [])]))],[(0,.cst (.tup [(.fn 62 [(.ptr 5 0 []),(.ptr 4 0 [])])]))]],bxs:=[(6,.var [.cst (.mp 18)]),(7,.var [.cst (.mp 21)]),(4,.var [.cst (.row 23015066 .whole)]),(5,.var [YI]),(18,.map (.arr 2 yI) yR),(21,.map (.arr 2 yI) yR),(23015066,.row yR false)] }),((.pan ⟨135,.emp⟩),{ env:=[],stk:=[[(4,cP 4),(5,cP 5)],[(0,.cst (.tup [(.fn 46 []),(.ptr 5 0 [])]))],[(0,.cst (.tup [(.fn 62 [(.ptr 5 0 []),(.ptr 4 0 [])])]))]],bxs:=[(4,.var [.cst (.row 23015066 .whole)]),(5,.var [YI]),(23015066,.row yR false)] })]
def f41_l4c (t2:Int) (b5g0:Int) (m18:(List ((List Int) × Yr))) (m21:(List ((List Int) × Yr))):Nat→Int→(List Yr)→Option (outDen f41_l4co)
 | 0,_,_=>none
 | k + 1,t8,r23015066 =>
 bif (decide (t8 < (24:Int))) then
 let v5:Bool:=(zaY (.arr 2 yI) yR m18 ([t2,t8]:List Int))
 let v6:Bool:=(zaY (.arr 2 yI) yR m21 ([t2,t8]:List Int))
 bif (!v5) then
 let w11:Option (outDen f41_l4co):=(
 bif (!v5) then
 bif (!v6) then
 f41_l4c t2 b5g0 m18 m21 k (IntKind.wrap .i64 (t8 + 1)) r23015066
 else
 (f52 (zai (.arr 2 yI) yR m18 ([t2,t8]:List Int))).bind fun y7 =>
 (f53 (zai (.arr 2 yI) yR m21 ([t2,t8]:List Int))).bind fun y8 =>
 bif (!v5) then
 (f52 (zai (.arr 2 yI) yR m21 ([t2,t8]:List Int))).bind fun y9 =>
 bif (!v6) then
 (f53 (zai (.arr 2 yI) yR m18 ([t2,t8]:List Int))).bind fun y10 =>
 (f44 y9.1 y10.1).bind fun y11 =>
 bif (!y11.1) then
 (f45 ([t2,t8]:List Int) y9.1 y10.1).bind fun y12 =>
 bif (decide (r23015066.length + ([y12.1]:List Yr).length≤zac)) then f41_l4c t2 b5g0 m18 m21 k (IntKind.wrap .i64 (t8 + 1)) (r23015066++([y12.1]:List Yr)) else none
 else
 f41_l4c t2 b5g0 m18 m21 k (IntKind.wrap .i64 (t8 + 1)) r23015066
 else
 (f44 y9.1 y8.1).bind fun y13 =>
 bif (!y13.1) then
 (f45 ([t2,t8]:List Int) y9.1 y8.1).bind fun y14 =>
 bif (decide (r23015066.length + ([y14.1]:List Yr).length≤zac)) then f41_l4c t2 b5g0 m18 m21 k (IntKind.wrap .i64 (t8 + 1)) (r23015066++([y14.1]:List Yr)) else none
 else
 f41_l4c t2 b5g0 m18 m21 k (IntKind.wrap .i64 (t8 + 1)) r23015066
 else
 bif (!v6) then
 (f53 (zai (.arr 2 yI) yR m18 ([t2,t8]:List Int))).bind fun y15 =>
 (f44 y7.1 y15.1).bind fun y16 =>
 bif (!y16.1) then
 (f45 ([t2,t8]:List Int) y7.1 y15.1).bind fun y17 =>
 bif (decide (r23015066.length + ([y17.1]:List Yr).length≤zac)) then f41_l4c t2 b5g0 m18 m21 k (IntKind.wrap .i64 (t8 + 1)) (r23015066++([y17.1]:List Yr)) else none
 else
 f41_l4c t2 b5g0 m18 m21 k (IntKind.wrap .i64 (t8 + 1)) r23015066
 else
 (f44 y7.1 y8.1).bind fun y18 =>
 bif (!y18.1) then
 (f45 ([t2,t8]:List Int) y7.1 y8.1).bind fun y19 =>
 bif (decide (r23015066.length + ([y19.1]:List Yr).length≤zac)) then f41_l4c t2 b5g0 m18 m21 k (IntKind.wrap .i64 (t8 + 1)) (r23015066++([y19.1]:List Yr)) else none
 else
 f41_l4c t2 b5g0 m18 m21 k (IntKind.wrap .i64 (t8 + 1)) r23015066
 else
 (f52 (zai (.arr 2 yI) yR m18 ([t2,t8]:List Int))).bind fun y20 =>
 (f53 (zai (.arr 2 yI) yR m21 ([t2,t8]:List Int))).bind fun y21 =>
 bif (!v5) then
 (f52 (zai (.arr 2 yI) yR m21 ([t2,t8]:List Int))).bind fun y22 =>
 bif (!v6) then
 (f53 (zai (.arr 2 yI) yR m18 ([t2,t8]:List Int))).bind fun y23 =>
 (f44 y22.1 y23.1).bind fun y24 =>
 bif (!y24.1) then
 (f45 ([t2,t8]:List Int) y22.1 y23.1).bind fun y25 =>
 bif (decide (r23015066.length + ([y25.1]:List Yr).length≤zac)) then f41_l4c t2 b5g0 m18 m21 k (IntKind.wrap .i64 (t8 + 1)) (r23015066++([y25.1]:List Yr)) else none
 else
 f41_l4c t2 b5g0 m18 m21 k (IntKind.wrap .i64 (t8 + 1)) r23015066
 else
 (f44 y22.1 y21.1).bind fun y26 =>
 bif (!y26.1) then
 (f45 ([t2,t8]:List Int) y22.1 y21.1).bind fun y27 =>
 bif (decide (r23015066.length + ([y27.1]:List Yr).length≤zac)) then f41_l4c t2 b5g0 m18 m21 k (IntKind.wrap .i64 (t8 + 1)) (r23015066++([y27.1]:List Yr)) else none
 else
 f41_l4c t2 b5g0 m18 m21 k (IntKind.wrap .i64 (t8 + 1)) r23015066
 else
 bif (!v6) then
 (f53 (zai (.arr 2 yI) yR m18 ([t2,t8]:List Int))).bind fun y28 =>
 (f44 y20.1 y28.1).bind fun y29 =>
 bif (!y29.1) then
 (f45 ([t2,t8]:List Int) y20.1 y28.1).bind fun y30 =>
 bif (decide (r23015066.length + ([y30.1]:List Yr).length≤zac)) then f41_l4c t2 b5g0 m18 m21 k (IntKind.wrap .i64 (t8 + 1)) (r23015066++([y30.1]:List Yr)) else none
 else
 f41_l4c t2 b5g0 m18 m21 k (IntKind.wrap .i64 (t8 + 1)) r23015066
 else
 (f44 y20.1 y21.1).bind fun y31 =>
 bif (!y31.1) then
 (f45 ([t2,t8]:List Int) y20.1 y21.1).bind fun y32 =>
 bif (decide (r23015066.length + ([y32.1]:List Yr).length≤zac)) then f41_l4c t2 b5g0 m18 m21 k (IntKind.wrap .i64 (t8 + 1)) (r23015066++([y32.1]:List Yr)) else none
 else
 f41_l4c t2 b5g0 m18 m21 k (IntKind.wrap .i64 (t8 + 1)) r23015066)
 same (same w11 w11) w11
 else
 same (
 bif (!v6) then
 let w12:Option (outDen f41_l4co):=(
 bif (!v5) then
 bif (!v6) then
 f41_l4c t2 b5g0 m18 m21 k (IntKind.wrap .i64 (t8 + 1)) r23015066
 else
 (f52 (zai (.arr 2 yI) yR m18 ([t2,t8]:List Int))).bind fun y85 =>
 (f53 (zai (.arr 2 yI) yR m21 ([t2,t8]:List Int))).bind fun y86 =>
 bif (!v5) then
 (f52 (zai (.arr 2 yI) yR m21 ([t2,t8]:List Int))).bind fun y87 =>
 bif (!v6) then
 (f53 (zai (.arr 2 yI) yR m18 ([t2,t8]:List Int))).bind fun y88 =>
 (f44 y87.1 y88.1).bind fun y89 =>
 bif (!y89.1) then
 (f45 ([t2,t8]:List Int) y87.1 y88.1).bind fun y90 =>
 bif (decide (r23015066.length + ([y90.1]:List Yr).length≤zac)) then f41_l4c t2 b5g0 m18 m21 k (IntKind.wrap .i64 (t8 + 1)) (r23015066++([y90.1]:List Yr)) else none
 else
 f41_l4c t2 b5g0 m18 m21 k (IntKind.wrap .i64 (t8 + 1)) r23015066
 else
 (f44 y87.1 y86.1).bind fun y91 =>
 bif (!y91.1) then
 (f45 ([t2,t8]:List Int) y87.1 y86.1).bind fun y92 =>
 bif (decide (r23015066.length + ([y92.1]:List Yr).length≤zac)) then f41_l4c t2 b5g0 m18 m21 k (IntKind.wrap .i64 (t8 + 1)) (r23015066++([y92.1]:List Yr)) else none
 else
 f41_l4c t2 b5g0 m18 m21 k (IntKind.wrap .i64 (t8 + 1)) r23015066
 else
 bif (!v6) then
 (f53 (zai (.arr 2 yI) yR m18 ([t2,t8]:List Int))).bind fun y93 =>
 (f44 y85.1 y93.1).bind fun y94 =>
 bif (!y94.1) then
 (f45 ([t2,t8]:List Int) y85.1 y93.1).bind fun y95 =>
 bif (decide (r23015066.length + ([y95.1]:List Yr).length≤zac)) then f41_l4c t2 b5g0 m18 m21 k (IntKind.wrap .i64 (t8 + 1)) (r23015066++([y95.1]:List Yr)) else none
 else
 f41_l4c t2 b5g0 m18 m21 k (IntKind.wrap .i64 (t8 + 1)) r23015066
 else
 (f44 y85.1 y86.1).bind fun y96 =>
 bif (!y96.1) then
 (f45 ([t2,t8]:List Int) y85.1 y86.1).bind fun y97 =>
 bif (decide (r23015066.length + ([y97.1]:List Yr).length≤zac)) then f41_l4c t2 b5g0 m18 m21 k (IntKind.wrap .i64 (t8 + 1)) (r23015066++([y97.1]:List Yr)) else none
 else
 f41_l4c t2 b5g0 m18 m21 k (IntKind.wrap .i64 (t8 + 1)) r23015066
 else
 (f52 (zai (.arr 2 yI) yR m18 ([t2,t8]:List Int))).bind fun y98 =>
 (f53 (zai (.arr 2 yI) yR m21 ([t2,t8]:List Int))).bind fun y99 =>
 bif (!v5) then
 (f52 (zai (.arr 2 yI) yR m21 ([t2,t8]:List Int))).bind fun y100 =>
 bif (!v6) then
 (f53 (zai (.arr 2 yI) yR m18 ([t2,t8]:List Int))).bind fun y101 =>
 (f44 y100.1 y101.1).bind fun y102 =>
 bif (!y102.1) then
 (f45 ([t2,t8]:List Int) y100.1 y101.1).bind fun y103 =>
 bif (decide (r23015066.length + ([y103.1]:List Yr).length≤zac)) then f41_l4c t2 b5g0 m18 m21 k (IntKind.wrap .i64 (t8 + 1)) (r23015066++([y103.1]:List Yr)) else none
 else
 f41_l4c t2 b5g0 m18 m21 k (IntKind.wrap .i64 (t8 + 1)) r23015066
 else
 (f44 y100.1 y99.1).bind fun y104 =>
 bif (!y104.1) then
 (f45 ([t2,t8]:List Int) y100.1 y99.1).bind fun y105 =>
 bif (decide (r23015066.length + ([y105.1]:List Yr).length≤zac)) then f41_l4c t2 b5g0 m18 m21 k (IntKind.wrap .i64 (t8 + 1)) (r23015066++([y105.1]:List Yr)) else none
 else
 f41_l4c t2 b5g0 m18 m21 k (IntKind.wrap .i64 (t8 + 1)) r23015066
 else
 bif (!v6) then
 (f53 (zai (.arr 2 yI) yR m18 ([t2,t8]:List Int))).bind fun y106 =>
 (f44 y98.1 y106.1).bind fun y107 =>
 bif (!y107.1) then
 (f45 ([t2,t8]:List Int) y98.1 y106.1).bind fun y108 =>
 bif (decide (r23015066.length + ([y108.1]:List Yr).length≤zac)) then f41_l4c t2 b5g0 m18 m21 k (IntKind.wrap .i64 (t8 + 1)) (r23015066++([y108.1]:List Yr)) else none
 else
 f41_l4c t2 b5g0 m18 m21 k (IntKind.wrap .i64 (t8 + 1)) r23015066
 else
 (f44 y98.1 y99.1).bind fun y109 =>
 bif (!y109.1) then
 (f45 ([t2,t8]:List Int) y98.1 y99.1).bind fun y110 =>
 bif (decide (r23015066.length + ([y110.1]:List Yr).length≤zac)) then f41_l4c t2 b5g0 m18 m21 k (IntKind.wrap .i64 (t8 + 1)) (r23015066++([y110.1]:List Yr)) else none
 else
 f41_l4c t2 b5g0 m18 m21 k (IntKind.wrap .i64 (t8 + 1)) r23015066)
 same w12 w12
 else
 let w13:Option (outDen f41_l4co):=(
 (f53 (zai (.arr 2 yI) yR m18 ([t2,t8]:List Int))).bind fun y137 =>
 (f52 (zai (.arr 2 yI) yR m21 ([t2,t8]:List Int))).bind fun y138 =>
 (f44 y137.1 y138.1).bind fun y139 =>
 bif (!y139.1) then
 some (.inr ((),((),(),(),()),((),(b5g0,()),r23015066,())))
 else
 bif (!v5) then
 bif (!v6) then
 f41_l4c t2 b5g0 m18 m21 k (IntKind.wrap .i64 (t8 + 1)) r23015066
 else
 (f52 (zai (.arr 2 yI) yR m18 ([t2,t8]:List Int))).bind fun y140 =>
 (f53 (zai (.arr 2 yI) yR m21 ([t2,t8]:List Int))).bind fun y141 =>
 bif (!v5) then
 (f52 (zai (.arr 2 yI) yR m21 ([t2,t8]:List Int))).bind fun y142 =>
 bif (!v6) then
 (f53 (zai (.arr 2 yI) yR m18 ([t2,t8]:List Int))).bind fun y143 =>
 (f44 y142.1 y143.1).bind fun y144 =>
 bif (!y144.1) then
 (f45 ([t2,t8]:List Int) y142.1 y143.1).bind fun y145 =>
 bif (decide (r23015066.length + ([y145.1]:List Yr).length≤zac)) then f41_l4c t2 b5g0 m18 m21 k (IntKind.wrap .i64 (t8 + 1)) (r23015066++([y145.1]:List Yr)) else none
 else
 f41_l4c t2 b5g0 m18 m21 k (IntKind.wrap .i64 (t8 + 1)) r23015066
 else
 (f44 y142.1 y141.1).bind fun y146 =>
 bif (!y146.1) then
 (f45 ([t2,t8]:List Int) y142.1 y141.1).bind fun y147 =>
 bif (decide (r23015066.length + ([y147.1]:List Yr).length≤zac)) then f41_l4c t2 b5g0 m18 m21 k (IntKind.wrap .i64 (t8 + 1)) (r23015066++([y147.1]:List Yr)) else none
 else
 f41_l4c t2 b5g0 m18 m21 k (IntKind.wrap .i64 (t8 + 1)) r23015066
 else
 bif (!v6) then
 (f53 (zai (.arr 2 yI) yR m18 ([t2,t8]:List Int))).bind fun y148 =>
 (f44 y140.1 y148.1).bind fun y149 =>
 bif (!y149.1) then
 (f45 ([t2,t8]:List Int) y140.1 y148.1).bind fun y150 =>
 bif (decide (r23015066.length + ([y150.1]:List Yr).length≤zac)) then f41_l4c t2 b5g0 m18 m21 k (IntKind.wrap .i64 (t8 + 1)) (r23015066++([y150.1]:List Yr)) else none
 else
 f41_l4c t2 b5g0 m18 m21 k (IntKind.wrap .i64 (t8 + 1)) r23015066
 else
 (f44 y140.1 y141.1).bind fun y151 =>
 bif (!y151.1) then
 (f45 ([t2,t8]:List Int) y140.1 y141.1).bind fun y152 =>
 bif (decide (r23015066.length + ([y152.1]:List Yr).length≤zac)) then f41_l4c t2 b5g0 m18 m21 k (IntKind.wrap .i64 (t8 + 1)) (r23015066++([y152.1]:List Yr)) else none
 else
 f41_l4c t2 b5g0 m18 m21 k (IntKind.wrap .i64 (t8 + 1)) r23015066
 else
 (f52 (zai (.arr 2 yI) yR m18 ([t2,t8]:List Int))).bind fun y153 =>
 (f53 (zai (.arr 2 yI) yR m21 ([t2,t8]:List Int))).bind fun y154 =>
 bif (!v5) then
 (f52 (zai (.arr 2 yI) yR m21 ([t2,t8]:List Int))).bind fun y155 =>
 bif (!v6) then
 (f53 (zai (.arr 2 yI) yR m18 ([t2,t8]:List Int))).bind fun y156 =>
 (f44 y155.1 y156.1).bind fun y157 =>
 bif (!y157.1) then
 (f45 ([t2,t8]:List Int) y155.1 y156.1).bind fun y158 =>
 bif (decide (r23015066.length + ([y158.1]:List Yr).length≤zac)) then f41_l4c t2 b5g0 m18 m21 k (IntKind.wrap .i64 (t8 + 1)) (r23015066++([y158.1]:List Yr)) else none
 else
 f41_l4c t2 b5g0 m18 m21 k (IntKind.wrap .i64 (t8 + 1)) r23015066
 else
 (f44 y155.1 y154.1).bind fun y159 =>
 bif (!y159.1) then
 (f45 ([t2,t8]:List Int) y155.1 y154.1).bind fun y160 =>
 bif (decide (r23015066.length + ([y160.1]:List Yr).length≤zac)) then f41_l4c t2 b5g0 m18 m21 k (IntKind.wrap .i64 (t8 + 1)) (r23015066++([y160.1]:List Yr)) else none
 else
 f41_l4c t2 b5g0 m18 m21 k (IntKind.wrap .i64 (t8 + 1)) r23015066
 else
 bif (!v6) then
 (f53 (zai (.arr 2 yI) yR m18 ([t2,t8]:List Int))).bind fun y161 =>
 (f44 y153.1 y161.1).bind fun y162 =>
 bif (!y162.1) then
 (f45 ([t2,t8]:List Int) y153.1 y161.1).bind fun y163 =>
 bif (decide (r23015066.length + ([y163.1]:List Yr).length≤zac)) then f41_l4c t2 b5g0 m18 m21 k (IntKind.wrap .i64 (t8 + 1)) (r23015066++([y163.1]:List Yr)) else none
 else
 f41_l4c t2 b5g0 m18 m21 k (IntKind.wrap .i64 (t8 + 1)) r23015066
 else
 (f44 y153.1 y154.1).bind fun y164 =>
 bif (!y164.1) then
 (f45 ([t2,t8]:List Int) y153.1 y154.1).bind fun y165 =>
 bif (decide (r23015066.length + ([y165.1]:List Yr).length≤zac)) then f41_l4c t2 b5g0 m18 m21 k (IntKind.wrap .i64 (t8 + 1)) (r23015066++([y165.1]:List Yr)) else none
 else
 f41_l4c t2 b5g0 m18 m21 k (IntKind.wrap .i64 (t8 + 1)) r23015066)
 same w13 w13) (
 bif (!v6) then
 bif (!v5) then
 bif (!v6) then
 f41_l4c t2 b5g0 m18 m21 k (IntKind.wrap .i64 (t8 + 1)) r23015066
 else
 (f52 (zai (.arr 2 yI) yR m18 ([t2,t8]:List Int))).bind fun y195 =>
 (f53 (zai (.arr 2 yI) yR m21 ([t2,t8]:List Int))).bind fun y196 =>
 bif (!v5) then
 (f52 (zai (.arr 2 yI) yR m21 ([t2,t8]:List Int))).bind fun y197 =>
 bif (!v6) then
 (f53 (zai (.arr 2 yI) yR m18 ([t2,t8]:List Int))).bind fun y198 =>
 (f44 y197.1 y198.1).bind fun y199 =>
 bif (!y199.1) then
 (f45 ([t2,t8]:List Int) y197.1 y198.1).bind fun y200 =>
 bif (decide (r23015066.length + ([y200.1]:List Yr).length≤zac)) then f41_l4c t2 b5g0 m18 m21 k (IntKind.wrap .i64 (t8 + 1)) (r23015066++([y200.1]:List Yr)) else none
 else
 f41_l4c t2 b5g0 m18 m21 k (IntKind.wrap .i64 (t8 + 1)) r23015066
 else
 (f44 y197.1 y196.1).bind fun y201 =>
 bif (!y201.1) then
 (f45 ([t2,t8]:List Int) y197.1 y196.1).bind fun y202 =>
 bif (decide (r23015066.length + ([y202.1]:List Yr).length≤zac)) then f41_l4c t2 b5g0 m18 m21 k (IntKind.wrap .i64 (t8 + 1)) (r23015066++([y202.1]:List Yr)) else none
 else
 f41_l4c t2 b5g0 m18 m21 k (IntKind.wrap .i64 (t8 + 1)) r23015066
 else
 bif (!v6) then
 (f53 (zai (.arr 2 yI) yR m18 ([t2,t8]:List Int))).bind fun y203 =>
 (f44 y195.1 y203.1).bind fun y204 =>
 bif (!y204.1) then
 (f45 ([t2,t8]:List Int) y195.1 y203.1).bind fun y205 =>
 bif (decide (r23015066.length + ([y205.1]:List Yr).length≤zac)) then f41_l4c t2 b5g0 m18 m21 k (IntKind.wrap .i64 (t8 + 1)) (r23015066++([y205.1]:List Yr)) else none
 else
 f41_l4c t2 b5g0 m18 m21 k (IntKind.wrap .i64 (t8 + 1)) r23015066
 else
 (f44 y195.1 y196.1).bind fun y206 =>
 bif (!y206.1) then
 (f45 ([t2,t8]:List Int) y195.1 y196.1).bind fun y207 =>
 bif (decide (r23015066.length + ([y207.1]:List Yr).length≤zac)) then f41_l4c t2 b5g0 m18 m21 k (IntKind.wrap .i64 (t8 + 1)) (r23015066++([y207.1]:List Yr)) else none
 else
 f41_l4c t2 b5g0 m18 m21 k (IntKind.wrap .i64 (t8 + 1)) r23015066
 else
 (f52 (zai (.arr 2 yI) yR m18 ([t2,t8]:List Int))).bind fun y208 =>
 (f53 (zai (.arr 2 yI) yR m21 ([t2,t8]:List Int))).bind fun y209 =>
 bif (!v5) then
 (f52 (zai (.arr 2 yI) yR m21 ([t2,t8]:List Int))).bind fun y210 =>
 bif (!v6) then
 (f53 (zai (.arr 2 yI) yR m18 ([t2,t8]:List Int))).bind fun y211 =>
 (f44 y210.1 y211.1).bind fun y212 =>
 bif (!y212.1) then
 (f45 ([t2,t8]:List Int) y210.1 y211.1).bind fun y213 =>
 bif (decide (r23015066.length + ([y213.1]:List Yr).length≤zac)) then f41_l4c t2 b5g0 m18 m21 k (IntKind.wrap .i64 (t8 + 1)) (r23015066++([y213.1]:List Yr)) else none
 else
 f41_l4c t2 b5g0 m18 m21 k (IntKind.wrap .i64 (t8 + 1)) r23015066
 else
 (f44 y210.1 y209.1).bind fun y214 =>
 bif (!y214.1) then
 (f45 ([t2,t8]:List Int) y210.1 y209.1).bind fun y215 =>
 bif (decide (r23015066.length + ([y215.1]:List Yr).length≤zac)) then f41_l4c t2 b5g0 m18 m21 k (IntKind.wrap .i64 (t8 + 1)) (r23015066++([y215.1]:List Yr)) else none
 else
 f41_l4c t2 b5g0 m18 m21 k (IntKind.wrap .i64 (t8 + 1)) r23015066
 else
 bif (!v6) then
 (f53 (zai (.arr 2 yI) yR m18 ([t2,t8]:List Int))).bind fun y216 =>
 (f44 y208.1 y216.1).bind fun y217 =>
 bif (!y217.1) then
 (f45 ([t2,t8]:List Int) y208.1 y216.1).bind fun y218 =>
 bif (decide (r23015066.length + ([y218.1]:List Yr).length≤zac)) then f41_l4c t2 b5g0 m18 m21 k (IntKind.wrap .i64 (t8 + 1)) (r23015066++([y218.1]:List Yr)) else none
 else
 f41_l4c t2 b5g0 m18 m21 k (IntKind.wrap .i64 (t8 + 1)) r23015066
 else
 (f44 y208.1 y209.1).bind fun y219 =>
 bif (!y219.1) then
 (f45 ([t2,t8]:List Int) y208.1 y209.1).bind fun y220 =>
 bif (decide (r23015066.length + ([y220.1]:List Yr).length≤zac)) then f41_l4c t2 b5g0 m18 m21 k (IntKind.wrap .i64 (t8 + 1)) (r23015066++([y220.1]:List Yr)) else none
 else
 f41_l4c t2 b5g0 m18 m21 k (IntKind.wrap .i64 (t8 + 1)) r23015066
 else
 (f53 (zai (.arr 2 yI) yR m18 ([t2,t8]:List Int))).bind fun y221 =>
 (f52 (zai (.arr 2 yI) yR m21 ([t2,t8]:List Int))).bind fun y222 =>
 (f44 y221.1 y222.1).bind fun y223 =>
 bif (!y223.1) then
 some (.inr ((),((),(),(),()),((),(b5g0,()),r23015066,())))
 else
 bif (!v5) then
 bif (!v6) then
 f41_l4c t2 b5g0 m18 m21 k (IntKind.wrap .i64 (t8 + 1)) r23015066
 else
 (f52 (zai (.arr 2 yI) yR m18 ([t2,t8]:List Int))).bind fun y224 =>
 (f53 (zai (.arr 2 yI) yR m21 ([t2,t8]:List Int))).bind fun y225 =>
 bif (!v5) then
 (f52 (zai (.arr 2 yI) yR m21 ([t2,t8]:List Int))).bind fun y226 =>
 bif (!v6) then
 (f53 (zai (.arr 2 yI) yR m18 ([t2,t8]:List Int))).bind fun y227 =>
 (f44 y226.1 y227.1).bind fun y228 =>
 bif (!y228.1) then
 (f45 ([t2,t8]:List Int) y226.1 y227.1).bind fun y229 =>
 bif (decide (r23015066.length + ([y229.1]:List Yr).length≤zac)) then f41_l4c t2 b5g0 m18 m21 k (IntKind.wrap .i64 (t8 + 1)) (r23015066++([y229.1]:List Yr)) else none
 else
 f41_l4c t2 b5g0 m18 m21 k (IntKind.wrap .i64 (t8 + 1)) r23015066
 else
 (f44 y226.1 y225.1).bind fun y230 =>
 bif (!y230.1) then
 (f45 ([t2,t8]:List Int) y226.1 y225.1).bind fun y231 =>
 bif (decide (r23015066.length + ([y231.1]:List Yr).length≤zac)) then f41_l4c t2 b5g0 m18 m21 k (IntKind.wrap .i64 (t8 + 1)) (r23015066++([y231.1]:List Yr)) else none
 else
 f41_l4c t2 b5g0 m18 m21 k (IntKind.wrap .i64 (t8 + 1)) r23015066
 else
 bif (!v6) then
 (f53 (zai (.arr 2 yI) yR m18 ([t2,t8]:List Int))).bind fun y232 =>
 (f44 y224.1 y232.1).bind fun y233 =>
 bif (!y233.1) then
 (f45 ([t2,t8]:List Int) y224.1 y232.1).bind fun y234 =>
 bif (decide (r23015066.length + ([y234.1]:List Yr).length≤zac)) then f41_l4c t2 b5g0 m18 m21 k (IntKind.wrap .i64 (t8 + 1)) (r23015066++([y234.1]:List Yr)) else none
 else
 f41_l4c t2 b5g0 m18 m21 k (IntKind.wrap .i64 (t8 + 1)) r23015066
 else
 (f44 y224.1 y225.1).bind fun y235 =>
 bif (!y235.1) then
 (f45 ([t2,t8]:List Int) y224.1 y225.1).bind fun y236 =>
 bif (decide (r23015066.length + ([y236.1]:List Yr).length≤zac)) then f41_l4c t2 b5g0 m18 m21 k (IntKind.wrap .i64 (t8 + 1)) (r23015066++([y236.1]:List Yr)) else none
 else
 f41_l4c t2 b5g0 m18 m21 k (IntKind.wrap .i64 (t8 + 1)) r23015066
 else
 (f52 (zai (.arr 2 yI) yR m18 ([t2,t8]:List Int))).bind fun y237 =>
 (f53 (zai (.arr 2 yI) yR m21 ([t2,t8]:List Int))).bind fun y238 =>
 bif (!v5) then
 (f52 (zai (.arr 2 yI) yR m21 ([t2,t8]:List Int))).bind fun y239 =>
 bif (!v6) then
 (f53 (zai (.arr 2 yI) yR m18 ([t2,t8]:List Int))).bind fun y240 =>
 (f44 y239.1 y240.1).bind fun y241 =>
 bif (!y241.1) then
 (f45 ([t2,t8]:List Int) y239.1 y240.1).bind fun y242 =>
 bif (decide (r23015066.length + ([y242.1]:List Yr).length≤zac)) then f41_l4c t2 b5g0 m18 m21 k (IntKind.wrap .i64 (t8 + 1)) (r23015066++([y242.1]:List Yr)) else none
 else
 f41_l4c t2 b5g0 m18 m21 k (IntKind.wrap .i64 (t8 + 1)) r23015066
 else
 (f44 y239.1 y238.1).bind fun y243 =>
 bif (!y243.1) then
 (f45 ([t2,t8]:List Int) y239.1 y238.1).bind fun y244 =>
 bif (decide (r23015066.length + ([y244.1]:List Yr).length≤zac)) then f41_l4c t2 b5g0 m18 m21 k (IntKind.wrap .i64 (t8 + 1)) (r23015066++([y244.1]:List Yr)) else none
 else
 f41_l4c t2 b5g0 m18 m21 k (IntKind.wrap .i64 (t8 + 1)) r23015066
 else
 bif (!v6) then
 (f53 (zai (.arr 2 yI) yR m18 ([t2,t8]:List Int))).bind fun y245 =>
 (f44 y237.1 y245.1).bind fun y246 =>
 bif (!y246.1) then
 (f45 ([t2,t8]:List Int) y237.1 y245.1).bind fun y247 =>
 bif (decide (r23015066.length + ([y247.1]:List Yr).length≤zac)) then f41_l4c t2 b5g0 m18 m21 k (IntKind.wrap .i64 (t8 + 1)) (r23015066++([y247.1]:List Yr)) else none
 else
 f41_l4c t2 b5g0 m18 m21 k (IntKind.wrap .i64 (t8 + 1)) r23015066
 else
 (f44 y237.1 y238.1).bind fun y248 =>
 bif (!y248.1) then
 (f45 ([t2,t8]:List Int) y237.1 y238.1).bind fun y249 =>
 bif (decide (r23015066.length + ([y249.1]:List Yr).length≤zac)) then f41_l4c t2 b5g0 m18 m21 k (IntKind.wrap .i64 (t8 + 1)) (r23015066++([y249.1]:List Yr)) else none
 else
 f41_l4c t2 b5g0 m18 m21 k (IntKind.wrap .i64 (t8 + 1)) r23015066)
 else
 some (.inl ((t2,()),((),(),(),()),((),(),(),(b5g0,()),m18,m21,r23015066,())))
def f41_l4c_n (n:Nat) (x:f41_l4ch.den):=f41_l4c x.1.1 x.2.2.2.2.2.1.1 x.2.2.2.2.2.2.1 x.2.2.2.2.2.2.2.1 n x.1.2.1 x.2.2.2.2.2.2.2.2.1
def f41_l4cs:LSpec:={ head:=f41_l4ch,outs:=f41_l4co,fn:=fun x=>f41_l4c_n (((24:Int) - x.1.2.1).toNat + 1) x }
def f41_l1yh:Ann:={ env:=[(0,.cst (.fn 63 [(.ptr 6 0 []),(.ptr 7 0 []),(.ptr 4 0 [])])),(2,YI)],stk:=[[(4,cP 4),(5,cP 5)],[(0,.cst (.tup [(.fn 46 []),(.ptr 5 0 [])]))],[(0,.cst (.tup [(.fn 62 [(.ptr 5 0 []),(.ptr 4 0 [])])]))]],bxs:=[(6,.var [.cst (.mp 18)]),(7,.var [.cst (.mp 21)]),(4,.var [.cst (.row 23015066 .whole)]),(5,.var [YI]),(18,.map (.arr 2 yI) yR),(21,.map (.arr 2 yI) yR),(23015066,.row yR false)] }
def f41_l1yo:List (Ex × Ann):=[((.exit 0),{ env:=[],stk:=[[(4,cP 4),(5,cP 5)],[(0,.cst (.tup [(.fn 46 []),(.ptr 5 0 [])]))],[(0,.cst (.tup [(.fn 62 [(.ptr 5 0 []),(.ptr 4 0 [])])]))]],bxs:=[(4,.var [.cst (.row 23015066 .whole)]),(5,.var [YI]),(23015066,.row yR false)] }),((.pan ⟨135,.emp⟩),{ env:=[],stk:=[[(4,cP 4),(5,cP 5)],[(0,.cst (.tup [(.fn 46 []),(.ptr 5 0 [])]))],[(0,.cst (.tup [(.fn 62 [(.ptr 5 0 []),(.ptr 4 0 [])])]))]],bxs:=[(4,.var [.cst (.row 23015066 .whole)]),(5,.var [YI]),(23015066,.row yR false)] })]
def f41_l1y:Nat→Int→Int→(List ((List Int) × Yr))→(List ((List Int) × Yr))→(List Yr)→Option (outDen f41_l1yo)
 | 0,_,_,_,_,_=>none
 | k + 1,t2,b5g0,m18,m21,r23015066 =>
 bif (decide (t2≤(7:Int))) then
 (f41_l4c t2 b5g0 m18 m21 (((24:Int) - (0:Int)).toNat + 1) (0:Int) r23015066).bind fun o250 =>
 Sum.elim (fun o251 =>
 let u253:Int:=o251.1.1
 let u254:Int:=o251.2.2.2.2.2.1.1
 let u255:(List ((List Int) × Yr)):=o251.2.2.2.2.2.2.1
 let u256:(List ((List Int) × Yr)):=o251.2.2.2.2.2.2.2.1
 let u257:(List Yr):=o251.2.2.2.2.2.2.2.2.1
 f41_l1y k (IntKind.wrap .i64 (u253 + 1)) u254 u255 u256 u257) (fun o252 =>
 let u258:Int:=o252.2.2.2.1.1
 let u259:(List Yr):=o252.2.2.2.2.1
 some (.inr ((),((),(),(),()),((),(u258,()),u259,())))) o250
 else
 some (.inl ((),((),(),(),()),((),(b5g0,()),r23015066,())))
def f41_l1y_n (n:Nat) (x:f41_l1yh.den):=f41_l1y n x.1.1 x.2.2.2.2.2.1.1 x.2.2.2.2.2.2.1 x.2.2.2.2.2.2.2.1 x.2.2.2.2.2.2.2.2.1
def f41_l1ys:LSpec:={ thaws:=[.cell 4 0 23015066 yR],head:=f41_l1yh,outs:=f41_l1yo,fn:=fun x=>f41_l1y_n (((8:Int) - x.1.1).toNat + 1) x }
def f22 (a0:((List Yr) × Unit)) (a1:((List Yr) × Unit)):Option (((List Yr) × Unit) × Int × Unit) :=
 (f19 a0).bind fun y1 =>
 bif y1.1 then
 (f19 a1).bind fun y2 =>
 bif (!y2.1) then
 some (([],()),(160:Int),())
 else
 let w36:Option (((List Yr) × Unit) × Int × Unit):=(
 (f49 a0.1).bind fun y3159 =>
 let w17:Option (((List Yr) × Unit) × Int × Unit):=(
 (f49 a1.1).bind fun y3685 =>
 (f41_l1y (((8:Int) - (1:Int)).toNat + 1) (1:Int) 0 y3159 y3685 []).bind fun o3941 =>
 Sum.elim (fun o3942 =>
 let u3945:(List Yr):=o3942.2.2.2.2.1
 some ((u3945,()),(0:Int),())) (fun o3943 =>
 some (([],()),(160:Int),())) o3941)
 same (
 (f49 a1.1).bind fun y3160 =>
 let w16:Option (((List Yr) × Unit) × Int × Unit):=(
 (f41_l1y (((8:Int) - (1:Int)).toNat + 1) (1:Int) 0 y3159 y3160 []).bind fun o3416 =>
 Sum.elim (fun o3417 =>
 let u3420:(List Yr):=o3417.2.2.2.2.1
 some ((u3420,()),(0:Int),())) (fun o3418 =>
 some (([],()),(160:Int),())) o3416)
 same w16 w16) (same (same w17 w17) (same w17 w17)))
 let w37:Option (((List Yr) × Unit) × Int × Unit):=(
 (f49 a0.1).bind fun y4737 =>
 let w18:Option (((List Yr) × Unit) × Int × Unit):=(
 (f49 a1.1).bind fun y4738 =>
 (f41_l1y (((8:Int) - (1:Int)).toNat + 1) (1:Int) 0 y4737 y4738 []).bind fun o4994 =>
 Sum.elim (fun o4995 =>
 let u4998:(List Yr):=o4995.2.2.2.2.1
 some ((u4998,()),(0:Int),())) (fun o4996 =>
 some (([],()),(160:Int),())) o4994)
 same w18 w18)
 let w38:Option (((List Yr) × Unit) × Int × Unit):=(
 (f49 a0.1).bind fun y5264 =>
 (f49 a1.1).bind fun y5265 =>
 (f41_l1y (((8:Int) - (1:Int)).toNat + 1) (1:Int) 0 y5264 y5265 []).bind fun o5521 =>
 Sum.elim (fun o5522 =>
 let u5525:(List Yr):=o5522.2.2.2.2.1
 some ((u5525,()),(0:Int),())) (fun o5523 =>
 some (([],()),(160:Int),())) o5521)
 let w39:Option (((List Yr) × Unit) × Int × Unit):=(
 (f49 a0.1).bind fun y6319 =>
 let w20:Option (((List Yr) × Unit) × Int × Unit):=(
 (f49 a1.1).bind fun y6320 =>
 (f41_l1y (((8:Int) - (1:Int)).toNat + 1) (1:Int) 0 y6319 y6320 []).bind fun o6576 =>
 Sum.elim (fun o6577 =>
 let u6580:(List Yr):=o6577.2.2.2.2.1
 some ((u6580,()),(0:Int),())) (fun o6578 =>
 some (([],()),(160:Int),())) o6576)
 same (same w20 w20) w20)
 same (same (
 (f49 a0.1).bind fun y3 =>
 let w15:Option (((List Yr) × Unit) × Int × Unit):=(
 (f49 a1.1).bind fun y529 =>
 (f41_l1y (((8:Int) - (1:Int)).toNat + 1) (1:Int) 0 y3 y529 []).bind fun o785 =>
 Sum.elim (fun o786 =>
 let u789:(List Yr):=o786.2.2.2.2.1
 some ((u789,()),(0:Int),())) (fun o787 =>
 some (([],()),(160:Int),())) o785)
 same (same (
 (f49 a1.1).bind fun y4 =>
 let w14:Option (((List Yr) × Unit) × Int × Unit):=(
 (f41_l1y (((8:Int) - (1:Int)).toNat + 1) (1:Int) 0 y3 y4 []).bind fun o260 =>
 Sum.elim (fun o261 =>
 let u264:(List Yr):=o261.2.2.2.2.1
 some ((u264,()),(0:Int),())) (fun o262 =>
 some (([],()),(160:Int),())) o260)
 same w14 w14) (same (same w15 w15) (same w15 w15))) (same (same (same w15 w15) w15) (same (same w15 w15) w15))) (same (same w36 (same (same w37 w38) (same w37 w38))) (same (same w39 (same (same w37 w38) (same w38 w38))) (same w39 (same (same w37 w38) (same w38 w38)))))) (same (same (same w36 (same (same w37 w38) (same w37 w38))) (same (same (same w37 w38) w38) (same (same w37 w38) w38))) (same (same (same w39 (same (same w37 w38) (same w38 w38))) (same (same (same w37 w38) w38) (same (same w38 w38) w38))) (same (same w39 (same (same w37 w38) (same w38 w38))) (same (same (same w37 w38) w38) (same (same w38 w38) w38)))))
 else
 some (([],()),(160:Int),())
def f22s:PSpec:={ args:=[(.pair (.sl yR) .unit),(.pair (.sl yR) .unit)],res:=[(.pair (.sl yR) .unit),yI],fn:=fun x=>f22 x.1 x.2.1 }
noncomputable def f22c:Code:=Tryz.f20.body.getD .skip
noncomputable def f22_code_31:Code:=Tryz.f31.body.getD .skip
noncomputable def f22e:Env0:={ C:=cfgF,P:=[(28,f19s),(34,f44s),(35,f45s),(39,f52s),(41,f53s)],L:=[(⟨11,23000,31,4⟩,f41_l4cs),(⟨11,23000,31,1⟩,f41_l1ys)],F:=[(20,Tryz.f20),(31,Tryz.f31),(46,Tryz.f46),(49,Tryz.f49),(62,Tryz.f62),(63,Tryz.f63)],I:=[],M:=[(58,f49s)],tot:=[(20,[4]),(63,[3])],sym:=true }
theorem f41_l4cy:zan f22e 11 31 23000 (zao f22_code_31 4) f41_l4cs :=
 zae (by kernel_rfl) f41_l4c_n (fun x o h=>⟨_,h⟩) (fun x=>by kernel_rfl) (fun n x=>by kernel_rfl)
theorem f41_l1yy:zan f22e 11 31 23000 (zao f22_code_31 1) f41_l1ys :=
 zae (by kernel_rfl) f41_l1y_n (fun x o h=>⟨_,h⟩) (fun x=>by kernel_rfl) (fun n x=>by kernel_rfl)
theorem f22r:zR f22e 20 Tryz.f20 f22c f22s:=by intro x; kernel_rfl
theorem f22n:zQ 20:=zN Tryz.func20
theorem f22k:zE f22e:=zO zaf ⟨⟨f19p,f19n⟩,⟨f44p,f44n⟩,⟨f45p,f45n⟩,⟨f52p,f52n⟩,⟨f53p,f53n⟩,trivial⟩ trivial ⟨zK Tryz.func20,zK Tryz.func31,zK Tryz.func46,zK Tryz.func49,zK Tryz.func62,zK Tryz.func63,trivial⟩ ⟨⟨Tryz.f31,f22_code_31,rfl,rfl,f41_l4cy⟩,⟨Tryz.f31,f22_code_31,rfl,rfl,f41_l1yy⟩,trivial⟩ trivial trivial ⟨⟨f49_map,f49n⟩,trivial⟩
theorem f22p:zU 20 f22s:=zP f22k Tryz.f20 f22c f22r
def f34 :Option (ByteArray × Unit) :=
 bif (decide (0≤(32:Int)) && decide ((32:Int)≤(32:Int)) && decide ((32:Int)≤(zac:Int))) then
 let v1:ByteArray:=(ofBytes (List.replicate (Int.toNat (32:Int)) (0:Int)))
 some (v1,())
 else none
def f34s:PSpec:={ args:=[],res:=[.str],fn:=fun x=>f34  }
noncomputable def f34c:Code:=Tryz.f24.body.getD .skip
noncomputable def f34e:Env0:={ C:=cfgF,P:=[],L:=[],F:=[(24,Tryz.f24)] }
theorem f34r:zR f34e 24 Tryz.f24 f34c f34s:=by intro x; kernel_rfl
theorem f34n:zQ 24:=zN Tryz.func24
theorem f34k:zE f34e:=zO zaf trivial trivial ⟨zK Tryz.func24,trivial⟩ trivial
theorem f34p:zU 24 f34s:=zP f34k Tryz.f24 f34c f34r
end
end Go.V.G
namespace Go.V.G
open Go.Proofs
noncomputable section
def f55_l4h:Ann:={ env:=[(0,.ty (.sl yN)),(1,.ty (.sl yN)),(5,YI)] }
def f55_l4o:List (Ex × Ann):=[((.exit 0),{ env:=[] }),(.ret,{ env:=[(4,.ty .bool)] })]
def f55_l4 (t0:(List Yn)) (t1:(List Yn)):Nat→Int→Option (outDen f55_l4o)
 | 0,_=>none
 | k + 1,t5 =>
 bif (decide (t5 < (t0.length:Int))) then
 bif (inR t5 t0.length) then
 let v2:Int:=(at_ yN t0 t5).1
 bif (inR t5 t1.length) then
 let v3:Int:=(at_ yN t1 t5).1
 bif (decide (v2 ≠ v3)) then
 some (.inr ((false,()),(),()))
 else
 bif (inR t5 t0.length) then
 let v4:(List Int):=(at_ yN t0 t5).2.1
 bif (inR t5 t1.length) then
 let v5:(List Int):=(at_ yN t1 t5).2.1
 (f26 v4 v5).bind fun y6 =>
 bif (!y6.1) then
 some (.inr ((false,()),(),()))
 else
 f55_l4 t0 t1 k (IntKind.wrap .i64 (t5 + 1))
 else none
 else none
 else none
 else none
 else
 some (.inl ((),(),()))
def f55_l4_n (n:Nat) (x:f55_l4h.den):=f55_l4 x.1.1 x.1.2.1 n x.1.2.2.1
def f55_l4s:LSpec:={ head:=f55_l4h,outs:=f55_l4o,fn:=fun x=>f55_l4_n (((x.1.1.length:Int) - x.1.2.2.1).toNat + 1) x }
def f55 (a0:(List Yn)) (a1:(List Yn)):Option (Bool × Unit) :=
 let v1:Bool:=(decide ((a0.length:Int) ≠ (a1.length:Int)))
 bif v1 then
 some (false,())
 else
 (f55_l4 a0 a1 (((a0.length:Int) - (0:Int)).toNat + 1) (0:Int)).bind fun o7 =>
 Sum.elim (fun o8 =>
 some (true,())) (fun o9 =>
 let u10:Bool:=o9.1.1
 some (u10,())) o7
def f55s:PSpec:={ args:=[(.sl yN),(.sl yN)],res:=[.bool],fn:=fun x=>f55 x.1 x.2.1 }
noncomputable def f55c:Code:=Tryz.f69.body.getD .skip
noncomputable def f55e:Env0:={ C:=cfgF,P:=[(17,f26s)],L:=[(⟨12,0,69,4⟩,f55_l4s)],F:=[(69,Tryz.f69)] }
theorem f55_l4y:zan f55e 12 69 0 (zao f55c 4) f55_l4s :=
 zae (by kernel_rfl) f55_l4_n (fun x o h=>⟨_,h⟩) (fun x=>by kernel_rfl) (fun n x=>by kernel_rfl)
theorem f55r:zR f55e 69 Tryz.f69 f55c f55s:=by intro x; kernel_rfl
theorem f55n:zQ 69:=zN Tryz.func69
theorem f55k:zE f55e:=zO zaf ⟨⟨f26p,f26n⟩,trivial⟩ trivial ⟨zK Tryz.func69,trivial⟩ ⟨⟨Tryz.f69,f55c,rfl,rfl,f55_l4y⟩,trivial⟩
theorem f55p:zU 69 f55s:=zP f55k Tryz.f69 f55c f55r
def f16_l2h:Ann:={ env:=[(2,cP 2),(3,cP 3),(5,YI)],bxs:=[(2,.var [.ty (.arr 8 (.sl yN))]),(3,.var [.ty (.arr 8 (.sl yN))])] }
def f16_l2o:List (Ex × Ann):=[((.exit 0),{ env:=[] }),(.ret,{ env:=[(4,.ty .bool)] })]
def f16_l2 (b2g0:(List (List Yn))) (b3g0:(List (List Yn))):Nat→Int→Option (outDen f16_l2o)
 | 0,_=>none
 | k + 1,t5 =>
 bif (decide (t5 < (8:Int))) then
 bif (inR t5 8) then
 let v1:(List Yn):=(at_ (.sl yN) b2g0 t5)
 bif (inR t5 8) then
 let v2:(List Yn):=(at_ (.sl yN) b3g0 t5)
 (f55 v1 v2).bind fun y3 =>
 bif (!y3.1) then
 some (.inr ((false,()),(),()))
 else
 f16_l2 b2g0 b3g0 k (IntKind.wrap .i64 (t5 + 1))
 else none
 else none
 else
 some (.inl ((),(),()))
def f16_l2_n (n:Nat) (x:f16_l2h.den):=f16_l2 x.2.2.1.1 x.2.2.2.1.1 n x.1.1
def f16_l2s:LSpec:={ head:=f16_l2h,outs:=f16_l2o,fn:=fun x=>f16_l2_n (((8:Int) - x.1.1).toNat + 1) x }
def f16 (a0:Yc) (a1:Yc):Option (Bool × Unit) :=
 (f16_l2 a0.1 a1.1 (((8:Int) - (0:Int)).toNat + 1) (0:Int)).bind fun o4 =>
 Sum.elim (fun o5 =>
 some (true,())) (fun o6 =>
 let u7:Bool:=o6.1.1
 some (u7,())) o4
def f16s:PSpec:={ args:=[yC,yC],res:=[.bool],fn:=fun x=>f16 x.1 x.2.1 }
noncomputable def f16c:Code:=Tryz.f25.body.getD .skip
noncomputable def f16e:Env0:={ C:=cfgF,P:=[(69,f55s)],L:=[(⟨12,0,25,2⟩,f16_l2s)],F:=[(25,Tryz.f25)] }
theorem f16_l2y:zan f16e 12 25 0 (zao f16c 2) f16_l2s :=
 zae (by kernel_rfl) f16_l2_n (fun x o h=>⟨_,h⟩) (fun x=>by kernel_rfl) (fun n x=>by kernel_rfl)
theorem f16r:zR f16e 25 Tryz.f25 f16c f16s:=by intro x; kernel_rfl
theorem f16n:zQ 25:=zN Tryz.func25
theorem f16k:zE f16e:=zO zaf ⟨⟨f55p,f55n⟩,trivial⟩ trivial ⟨zK Tryz.func25,trivial⟩ ⟨⟨Tryz.f25,f16c,rfl,rfl,f16_l2y⟩,trivial⟩
theorem f16p:zU 25 f16s:=zP f16k Tryz.f25 f16c f16r
def f21 (a0:((List Yr) × Unit)):Option (Int × Unit) :=
 some ((a0.1.length:Int),())
def f21s:PSpec:={ args:=[(.pair (.sl yR) .unit)],res:=[yI],fn:=fun x=>f21 x.1 }
noncomputable def f21c:Code:=Tryz.f26.body.getD .skip
noncomputable def f21e:Env0:={ C:=cfgF,P:=[],L:=[],F:=[(26,Tryz.f26)] }
theorem f21r:zR f21e 26 Tryz.f26 f21c f21s:=by intro x; kernel_rfl
theorem f21n:zQ 26:=zN Tryz.func26
theorem f21k:zE f21e:=zO zaf trivial trivial ⟨zK Tryz.func26,trivial⟩ trivial
theorem f21p:zU 26 f21s:=zP f21k Tryz.f26 f21c f21r
def f78_l4xh:Ann:={ env:=[(1,.ty (.sl yN)),(2,.cst (.fn 73 [])),(15,.ty (.sl yN)),(16,YI),(17,YI)],stk:=[[(3,cP 3),(8,.ty (.arr 8 (.sl yN))),(9,YI)]],bxs:=[(3,.var [.ty (.arr 8 (.sl yN))])] }
def f78_l4xo:List (Ex × Ann):=[((.exit 0),{ env:=[],stk:=[[(3,cP 3),(8,.ty (.arr 8 (.sl yN))),(9,YI)]],bxs:=[(3,.var [.ty (.arr 8 (.sl yN))])] }),(.ret,{ env:=[(6,.ty .bool)],stk:=[[(3,cP 3),(8,.ty (.arr 8 (.sl yN))),(9,YI)]],bxs:=[(3,.var [.ty (.arr 8 (.sl yN))])] })]
def f78_l4x (t1:(List Yn)) (t15:(List Yn)) (t16:Int) (k0t8:(List (List Yn))) (k0t9:Int) (b3g0:(List (List Yn))):Nat→Int→Option (outDen f78_l4xo)
 | 0,_=>none
 | k + 1,t17 =>
 bif (decide (t17 < t16)) then
 bif (inR t17 t15.length) then
 bif (inR t17 t1.length) then
 let v4:Int:=(at_ yN t15 t17).1
 let v5:Int:=(at_ yN t1 t17).1
 bif (decide (v4 = v5)) then
 let v6:(List Int):=(at_ yN t15 t17).2.1
 let v7:(List Int):=(at_ yN t1 t17).2.1
 (f80 v6 v7).bind fun y8 =>
 bif (!y8.1) then
 some (.inr ((false,()),((k0t8,k0t9,()),()),((b3g0,()),())))
 else
 f78_l4x t1 t15 t16 k0t8 k0t9 b3g0 k (IntKind.wrap .i64 (t17 + 1))
 else
 some (.inr ((false,()),((k0t8,k0t9,()),()),((b3g0,()),())))
 else none
 else none
 else
 some (.inl ((),((k0t8,k0t9,()),()),((b3g0,()),())))
def f78_l4x_n (n:Nat) (x:f78_l4xh.den):=f78_l4x x.1.1 x.1.2.1 x.1.2.2.1 x.2.1.1.1 x.2.1.1.2.1 x.2.2.1.1 n x.1.2.2.2.1
def f78_l4xs:LSpec:={ head:=f78_l4xh,outs:=f78_l4xo,fn:=fun x=>f78_l4x_n ((x.1.2.2.1 - x.1.2.2.2.1).toNat + 1) x }
def f36_l2h:Ann:={ env:=[(3,cP 3),(8,.ty (.arr 8 (.sl yN))),(9,YI)],bxs:=[(3,.var [.ty (.arr 8 (.sl yN))])] }
def f36_l2o:List (Ex × Ann):=[((.exit 0),{ env:=[] }),(.ret,{ env:=[(4,.ty .bool)] })]
def f36_l2:Nat→(List (List Yn))→Int→(List (List Yn))→Option (outDen f36_l2o)
 | 0,_,_,_=>none
 | k + 1,t8,t9,b3g0 =>
 bif (decide (t9 < (8:Int))) then
 bif (inR t9 8) then
 let v1:(List Yn):=(at_ (.sl yN) t8 t9)
 bif (inR t9 8) then
 let v2:(List Yn):=(at_ (.sl yN) b3g0 t9)
 let v3:Bool:=(decide ((v1.length:Int) ≠ (v2.length:Int)))
 bif v3 then
 some (.inr ((false,()),(),()))
 else
 (f78_l4x v2 v1 (v1.length:Int) t8 t9 b3g0 (((v1.length:Int) - (0:Int)).toNat + 1) (0:Int)).bind fun o9 =>
 Sum.elim (fun o10 =>
 let u12:(List (List Yn)):=o10.2.1.1.1
 let u13:Int:=o10.2.1.1.2.1
 let u14:(List (List Yn)):=o10.2.2.1.1
 f36_l2 k u12 (IntKind.wrap .i64 (u13 + 1)) u14) (fun o11 =>
 let u15:Bool:=o11.1.1
 let u16:(List (List Yn)):=o11.2.1.1.1
 let u17:Int:=o11.2.1.1.2.1
 let u18:(List (List Yn)):=o11.2.2.1.1
 bif (!u15) then
 some (.inr ((false,()),(),()))
 else
 f36_l2 k u16 (IntKind.wrap .i64 (u17 + 1)) u18) o9
 else none
 else none
 else
 some (.inl ((),(),()))
def f36_l2_n (n:Nat) (x:f36_l2h.den):=f36_l2 n x.1.1 x.1.2.1 x.2.2.1.1
def f36_l2s:LSpec:={ head:=f36_l2h,outs:=f36_l2o,fn:=fun x=>f36_l2_n (((8:Int) - x.1.2.1).toNat + 1) x }
def f36 (a0:Yc) (a1:Yc):Option (Bool × Unit) :=
 (f36_l2 (((8:Int) - (0:Int)).toNat + 1) a0.1 (0:Int) a1.1).bind fun o19 =>
 Sum.elim (fun o20 =>
 some (true,())) (fun o21 =>
 let u22:Bool:=o21.1.1
 some (u22,())) o19
def f36s:PSpec:={ args:=[yC,yC],res:=[.bool],fn:=fun x=>f36 x.1 x.2.1 }
noncomputable def f36c:Code:=Tryz.f29.body.getD .skip
noncomputable def f36_code_72:Code:=Tryz.f72.body.getD .skip
noncomputable def f36e:Env0:={ C:=cfgF,P:=[(74,f80s)],L:=[(⟨11,18000,72,4⟩,f78_l4xs),(⟨12,0,29,2⟩,f36_l2s)],F:=[(29,Tryz.f29),(72,Tryz.f72),(73,Tryz.f73)] }
theorem f78_l4xy:zan f36e 11 72 18000 (zao f36_code_72 4) f78_l4xs :=
 zae (by kernel_rfl) f78_l4x_n (fun x o h=>⟨_,h⟩) (fun x=>by kernel_rfl) (fun n x=>by kernel_rfl)
theorem f36_l2y:zan f36e 12 29 0 (zao f36c 2) f36_l2s :=
 zae (by kernel_rfl) f36_l2_n (fun x o h=>⟨_,h⟩) (fun x=>by kernel_rfl) (fun n x=>by kernel_rfl)
theorem f36r:zR f36e 29 Tryz.f29 f36c f36s:=by intro x; kernel_rfl
theorem f36n:zQ 29:=zN Tryz.func29
theorem f36k:zE f36e:=zO zaf ⟨⟨f80p,f80n⟩,trivial⟩ trivial ⟨zK Tryz.func29,zK Tryz.func72,zK Tryz.func73,trivial⟩ ⟨⟨Tryz.f72,f36_code_72,rfl,rfl,f78_l4xy⟩,⟨Tryz.f29,f36c,rfl,rfl,f36_l2y⟩,trivial⟩
theorem f36p:zU 29 f36s:=zP f36k Tryz.f29 f36c f36r
def f63_l4_b9000_head:Ann:={ env:=[(1,.ty (.sl yR)),(2,.cst (.fn 76 [])),(15,.ty (.sl yR)),(16,YI),(17,YI)],stk:=[[(4,.ty .bool)]] }
def f63_l4_b9000_outs:List (Ex × Ann):=[((.exit 0),{ env:=[],stk:=[[(4,.ty .bool)]] }),(.ret,{ env:=[(6,.ty .bool)],stk:=[[(4,.ty .bool)]] })]
def f63_l4_b9000 (t1:(List Yr)) (t15:(List Yr)) (t16:Int) (k0t4:Bool):Nat→Int→Option (outDen f63_l4_b9000_outs)
 | 0,_=>none
 | k + 1,t17 =>
 bif (decide (t17 < t16)) then
 bif (inR t17 t15.length) then
 bif (inR t17 t1.length) then
 let v2:Int:=(at_ yR t15 t17).1
 let v3:Int:=(at_ yR t1 t17).1
 bif (decide (v2 = v3)) then
 let v4:Int:=(at_ yR t15 t17).2.1
 let v5:Int:=(at_ yR t1 t17).2.1
 bif (decide (v4 = v5)) then
 (f52 (at_ yR t15 t17)).bind fun y6 =>
 (f52 (at_ yR t1 t17)).bind fun y7 =>
 (f44 y6.1 y7.1).bind fun y8 =>
 bif y8.1 then
 (f53 (at_ yR t15 t17)).bind fun y9 =>
 (f53 (at_ yR t1 t17)).bind fun y10 =>
 (f44 y9.1 y10.1).bind fun y11 =>
 bif (!y11.1) then
 some (.inr ((false,()),((k0t4,()),()),()))
 else
 f63_l4_b9000 t1 t15 t16 k0t4 k (IntKind.wrap .i64 (t17 + 1))
 else
 some (.inr ((false,()),((k0t4,()),()),()))
 else
 some (.inr ((false,()),((k0t4,()),()),()))
 else
 some (.inr ((false,()),((k0t4,()),()),()))
 else none
 else none
 else
 some (.inl ((),((k0t4,()),()),()))
def f63_l4_b9000_n (n:Nat) (x:f63_l4_b9000_head.den):=f63_l4_b9000 x.1.1 x.1.2.1 x.1.2.2.1 x.2.1.1.1 n x.1.2.2.2.1
def f63_l4_b9000_spec:LSpec:={ head:=f63_l4_b9000_head,outs:=f63_l4_b9000_outs,fn:=fun x=>f63_l4_b9000_n ((x.1.2.2.1 - x.1.2.2.2.1).toNat + 1) x }
def f24 (a0:((List Yr) × Unit)) (a1:((List Yr) × Unit)):Option (Bool × Unit) :=
 let v1:Bool:=(decide ((a0.1.length:Int) ≠ (a1.1.length:Int)))
 bif v1 then
 some (false,())
 else
 (f63_l4_b9000 a1.1 a0.1 (a0.1.length:Int) false (((a0.1.length:Int) - (0:Int)).toNat + 1) (0:Int)).bind fun o12 =>
 Sum.elim (fun o13 =>
 some (true,())) (fun o14 =>
 let u16:Bool:=o14.1.1
 some (u16,())) o12
def f24s:PSpec:={ args:=[(.pair (.sl yR) .unit),(.pair (.sl yR) .unit)],res:=[.bool],fn:=fun x=>f24 x.1 x.2.1 }
noncomputable def f24c:Code:=Tryz.f30.body.getD .skip
noncomputable def f24_code_75:Code:=Tryz.f75.body.getD .skip
noncomputable def f24e:Env0:={ C:=cfgF,P:=[(34,f44s),(39,f52s),(41,f53s)],L:=[(⟨11,9000,75,4⟩,f63_l4_b9000_spec)],F:=[(30,Tryz.f30),(75,Tryz.f75),(76,Tryz.f76)] }
theorem f63_l4_b9000_ok:zan f24e 11 75 9000 (zao f24_code_75 4) f63_l4_b9000_spec :=
 zae (by kernel_rfl) f63_l4_b9000_n (fun x o h=>⟨_,h⟩) (fun x=>by kernel_rfl) (fun n x=>by kernel_rfl)
theorem f24r:zR f24e 30 Tryz.f30 f24c f24s:=by intro x; kernel_rfl
theorem f24n:zQ 30:=zN Tryz.func30
theorem f24k:zE f24e:=zO zaf ⟨⟨f44p,f44n⟩,⟨f52p,f52n⟩,⟨f53p,f53n⟩,trivial⟩ trivial ⟨zK Tryz.func30,zK Tryz.func75,zK Tryz.func76,trivial⟩ ⟨⟨Tryz.f75,f24_code_75,rfl,rfl,f63_l4_b9000_ok⟩,trivial⟩
theorem f24p:zU 30 f24s:=zP f24k Tryz.f30 f24c f24r
end
end Go.V.G

namespace Go.V.G
open Go.Proofs
open Go.V.K
theorem f26_eq (a b:List Int) (ha:a.length≤1000000):f26 a b = some (decide (a = b),()):=by
 unfold f26
 by_cases hl:a.length = b.length
 ·have e:decide ((a.length:Int) ≠ (b.length:Int)) = false:=by simp [hl]
  simp only [e,cond_false]
  have h:=zb1 a.length (fun j=>decide (at_ yI a j = at_ yI b j)) (f26_l4 a b) (.inl ((),(),())) (.inr ((false,()),(),())) (by
   intro k j hj
   conv=>lhs; unfold f26_l4
   by_cases h:j < a.length
   ·simp only [Int.ofNat_lt,inRN,h,show j < b.length by omega,decide_true,cond_true,if_true,wS j (by omega)]
    by_cases e:at_ yI a j = at_ yI b j <;> simp [e]
   ·simp only [Int.ofNat_lt,h,decide_false,cond_false,if_false]) (((a.length:Int) - 0).toNat + 1) (by omega)
  refine zaa h ?_
  rw [all_range_eq a b hl _ (fun j h1=>by rw [atN _ _ _ h1,atN _ _ _ (hl ▸ h1)])]
  by_cases e:a = b <;> simp [e]
 ·have e:decide ((a.length:Int) ≠ (b.length:Int)) = true:=by simp; omega
  simp only [e,cond_true]
  have:¬ a = b:=fun h=>hl (by rw [h])
  simp [this]
theorem f80_eq (a b:List Int) (ha:a.length≤1000000):f80 a b = some (decide (a = b),()):=by
 unfold f80
 by_cases hl:a.length = b.length
 ·have e:decide ((a.length:Int) ≠ (b.length:Int)) = false:=by simp [hl]
  simp only [e,cond_false]
  have h:=zb1 a.length (fun j=>decide (at_ yI a j = at_ yI b j)) (f80_l4 a b (a.length:Int)) (.inl ((),(),())) (.inr ((false,()),(),())) (by
   intro k j hj
   conv=>lhs; unfold f80_l4
   by_cases h:j < a.length
   ·simp only [Int.ofNat_lt,inRN,h,show j < b.length by omega,decide_true,cond_true,if_true,wS j (by omega)]
    by_cases e:at_ yI a j = at_ yI b j <;> simp [e]
   ·simp only [Int.ofNat_lt,h,decide_false,cond_false,if_false]) (((a.length:Int) - 0).toNat + 1) (by omega)
  refine zaa h ?_
  rw [all_range_eq a b hl _ (fun j h1=>by rw [atN _ _ _ h1,atN _ _ _ (hl ▸ h1)])]
  by_cases e:a = b <;> simp [e]
 ·have e:decide ((a.length:Int) ≠ (b.length:Int)) = true:=by simp; omega
  simp only [e,cond_true]
  have:¬ a = b:=fun h=>hl (by rw [h])
  simp [this]
theorem f40_eq (h:Bool) (a:List Int) (h':Bool) (b:List Int) (ha:a.length≤1000000):f40 h a h' b = some (decide ((h,a) = (h',b)),()):=by
 unfold f40
 by_cases e:h = h'
 ·simp only [e,decide_true,cond_true]
  refine zaa (f26_eq a b ha) ?_
  simp
 ·simp [e]
theorem f44_eq (x y:Bool × (List Int × Unit)) (ha:x.2.1.length≤1000000):f44 x y = some (decide ((x.1,x.2.1) = (y.1,y.2.1)),()):=by
 unfold f44
 by_cases e:x.1 = y.1
 ·simp only [e,decide_true,cond_true]
  refine zaa (f80_eq _ _ ha) ?_
  simp
 ·simp [e]
def okLb (l:List Int):Bool:=decide (l.length≤64) && l.all fun n=>decide (-1152921504606846976≤n) && decide (n≤1152921504606846976)
theorem zb2 {l:List Int}:okLb l = true ↔ okL l:=by
 unfold okLb okL
 simp only [Bool.and_eq_true,decide_eq_true_eq,List.all_eq_true]
theorem zmz {α:Type} [Inhabited α] (l:List α) (p:α→Bool) (ok:Nat→Bool) (hok:∀ j (h:j < l.length),ok j = p l[j]):(List.range l.length).all ok = l.all p:=by
 rw [Bool.eq_iff_iff,List.all_eq_true,List.all_eq_true]
 constructor
 ·intro h x hx
  obtain ⟨i,hi,rfl⟩:=List.mem_iff_getElem.1 hx
  rw [← hok i hi]
  exact h i (List.mem_range.2 hi)
 ·intro h i hi
  rw [hok i (List.mem_range.1 hi)]
  exact h _ (List.getElem_mem _)
def inNum (n:Int):Bool:=decide (-1152921504606846976≤n) && decide (n≤1152921504606846976)
theorem zkz {n:Int} (h:n < -1152921504606846976):inNum n = false:=by
 unfold inNum
 have:¬ -1152921504606846976≤n:=by omega
 simp [this]
theorem zkA {n:Int} (h:n > 1152921504606846976):inNum n = false:=by
 unfold inNum
 have:¬ n≤1152921504606846976:=by omega
 simp [this]
theorem ziN {n:Int} (h:¬ n < -1152921504606846976) (h2:¬ n > 1152921504606846976):inNum n = true:=by
 unfold inNum
 have h3:-1152921504606846976≤n:=by omega
 have h4:n≤1152921504606846976:=by omega
 simp [h3,h4]
theorem dle (n:Nat):decide ((n:Int)≤64) = decide (n≤64):=by
 rw [decide_eq_decide]
 omega
theorem f81_eq (l:List Int) (ha:l.length≤1000000):f81 l = some (okLb l,()):=by
 unfold f81
 have h:=zb1 l.length (fun j=>inNum (at_ yI l j)) (f81_l2 l) (.inl ((l,()),(),())) (.inr ((false,()),(),())) (by
  intro k j hj
  conv=>lhs; unfold f81_l2
  by_cases h:j < l.length
  ·simp only [Int.ofNat_lt,inRN,h,decide_true,cond_true,if_true,wS j (by omega)]
   by_cases e1:at_ yI l j < -1152921504606846976
   ·simp only [e1,decide_true,cond_true,zkz e1,Bool.false_eq_true,if_false]
   ·by_cases e2:at_ yI l j > 1152921504606846976
    ·simp only [e1,e2,decide_true,decide_false,cond_true,cond_false,zkA e2,Bool.false_eq_true,if_false]
    ·simp only [e1,e2,decide_false,cond_false,ziN e1 e2,if_true]
  ·simp only [Int.ofNat_lt,h,decide_false,cond_false,if_false]) (((l.length:Int) - 0).toNat + 1) (by omega)
 refine zaa h ?_
 rw [zmz l inNum _ (fun j h1=>by rw [atN _ _ _ h1])]
 unfold okLb
 show _ = some ((decide (l.length≤64) && l.all inNum),())
 cases e:l.all inNum with
 | true =>
  show some (decide ((l.length:Int)≤64),()) = _
  rw [dle,Bool.and_true]
 | false=>simp
theorem f65_eq (l:List Int) (ha:l.length≤1000000):f65 l = some (okLb l,()):=by
 unfold f65
 by_cases hl:l.length≤64
 ·have e:decide ((l.length:Int)≤64) = true:=by rw [dle]; exact zT hl
  simp only [e,cond_true]
  have h:=zaM l.length (fun _ _=>True) (fun j (_:Unit)=>if inNum (at_ yI l j) = true then (.inl ():Unit ⊕ _) else .inr (.inr (((j:Int),()),((false,()),(false,true,()),()),()))) (fun _=>.inl ((),((false,()),(false,true,()),()),())) (fun k j _=>f100_l2x l (l.length:Int) false false true k j) (by
   intro k j _ hj _
   conv=>lhs; unfold f100_l2x
   by_cases h:j < l.length
   ·simp only [Int.ofNat_lt,inRN,h,decide_true,cond_true,if_true,wS j (by omega)]
    by_cases e1:at_ yI l j < -1152921504606846976
    ·simp only [e1,decide_true,cond_true,zkz e1,Bool.false_eq_true,if_false]
    ·by_cases e2:at_ yI l j > 1152921504606846976
     ·simp only [e1,e2,decide_true,decide_false,cond_true,cond_false,zkA e2,Bool.false_eq_true,if_false]
     ·simp only [e1,e2,decide_false,cond_false,ziN e1 e2,if_true]
   ·simp only [Int.ofNat_lt,h,decide_false,cond_false,if_false]) (fun _ _ _ _ _ _=>trivial) l.length (((l.length:Int) - 0).toNat + 1) 0 () (by omega) (by omega) (by omega) trivial
  refine zaa h ?_
  have key:∀ (m j:Nat),j + m = l.length→((l.drop j).all inNum = true∧rounds (fun j (_:Unit)=>if inNum (at_ yI l j) = true then (.inl ():Unit ⊕ outDen f100_l2xo) else .inr (.inr (((j:Int),()),((false,()),(false,true,()),()),()))) (fun _=>.inl ((),((false,()),(false,true,()),()),())) m j () = .inl ((),((false,()),(false,true,()),()),())) ∨
    ((l.drop j).all inNum = false∧∃ i:Nat,rounds (fun j (_:Unit)=>if inNum (at_ yI l j) = true then (.inl ():Unit ⊕ outDen f100_l2xo) else .inr (.inr (((j:Int),()),((false,()),(false,true,()),()),()))) (fun _=>.inl ((),((false,()),(false,true,()),()),())) m j () = .inr (((i:Int),()),((false,()),(false,true,()),()),())):=by
   intro m
   induction m with
   | zero=>intro j hj; exact .inl ⟨by rw [List.drop_of_length_le (by omega)]; rfl,rfl⟩
   | succ m ih =>
    intro j hj
    rw [List.drop_eq_getElem_cons (show j < l.length by omega),List.all_cons,← atN yI l j (by omega)]
    simp only [rounds]
    cases e:inNum (at_ yI l j) with
    | true =>
     simp only [if_true,Bool.true_and]
     exact ih (j + 1) (by omega)
    | false=>exact .inr ⟨by simp,j,rfl⟩
  unfold okLb
  show _ = some ((decide (l.length≤64) && l.all inNum),())
  rcases key l.length 0 (by omega) with ⟨h1,h2⟩ | ⟨h1,i,h2⟩
  ·rw [h2]
   rw [List.drop_zero] at h1
   simp [h1,hl]
  ·rw [h2]
   rw [List.drop_zero] at h1
   simp [h1]
 ·have e:decide ((l.length:Int)≤64) = false:=by rw [dle]; exact zF hl
  simp only [e,cond_false]
  unfold okLb
  simp [hl]
end Go.V.G
namespace Go.V.G
open Go.Proofs
open Go.V.K
theorem zmA {a b:Int} (h:¬ a < b):b≤a:=by omega
theorem zmB {a b:Int} (h:a < b):¬ b≤a:=by omega
theorem ziO {a b:Int} (h:¬ a ≥ b):a < b:=by omega
theorem ziP {a b:Int} (h:a ≥ b):¬ a < b:=by omega
abbrev tN:Ty:=.pair yI (.pair (.sl yI) .unit)
abbrev tR:Ty:=.pair yI (.pair yI (.pair .bool (.pair (.sl yI) (.pair .bool (.pair (.sl yI) .unit)))))
def rowOk (l:List Nm) (j:Nat):Bool :=
 decide (0≤(at_ tN l j).1) && (decide ((at_ tN l j).1 < 24) && ((decide (j = 0) || decide ((at_ tN l ((j - 1:Nat):Int)).1 < (at_ tN l j).1)) && okLb (at_ tN l j).2.1))
def zfa (l:List Nm):Bool:=(List.range l.length).all (rowOk l)
theorem zoM {l:List Nm} (h:∀ j (h:j < l.length),0 < j→(l[j - 1]'(by omega)).1 < l[j].1):l.Pairwise (fun a b=>a.1 < b.1):=by
 rw [List.pairwise_iff_getElem]
 intro i j hi hj hij
 induction j with
 | zero=>omega
 | succ j ih =>
  have h1:=h (j + 1) hj (by omega)
  by_cases e:i = j
  ·subst e; exact h1
  ·exact Int.lt_trans (ih (by omega) (by omega)) h1
theorem zg1 {l:List Nm}:zfa l = true ↔ okRow l:=by
 unfold zfa okRow
 rw [List.all_eq_true]
 constructor
 ·intro h
  have h':∀ j (hj:j < l.length),rowOk l j = true:=fun j hj=>h j (List.mem_range.2 hj)
  constructor
  ·intro n hn
   obtain ⟨j,hj,rfl⟩:=List.mem_iff_getElem.1 hn
   have:=h' j hj
   simp only [rowOk,Bool.and_eq_true,decide_eq_true_eq,atN tN l j hj] at this
   exact ⟨zf5.2 ⟨this.1,this.2.1⟩,zb2.1 this.2.2.2⟩
  ·refine zoM fun j hj h0=>?_
   have:=h' j hj
   simp only [rowOk,Bool.and_eq_true,decide_eq_true_eq,atN tN l j hj,atN tN l (j - 1) (by omega),Bool.or_eq_true] at this
   rcases this.2.2.1 with h1 | h1
   ·omega
   ·exact h1
 ·rintro ⟨h1,h2⟩ j hj
  have hj:=List.mem_range.1 hj
  have h3:=h1 _ (List.getElem_mem hj)
  have h4:=zf5.1 h3.1
  simp only [rowOk,Bool.and_eq_true,decide_eq_true_eq,atN tN l j hj,Bool.or_eq_true]
  refine ⟨h4.1,h4.2,?_,zb2.2 h3.2⟩
  by_cases h0:j = 0
  ·exact .inl h0
  ·rw [atN tN l (j - 1) (by omega)]
   exact .inr (List.pairwise_iff_getElem.1 h2 (j - 1) j (by omega) hj (by omega))
def smR (l:List Nm):Prop:=l.length≤1000000∧∀ n∈l,n.2.1.length≤1000000
def smC (c:Ct):Prop:=c.1.length = 8∧∀ l∈c.1,smR l
def zcQ (c:Ct):Bool:=decide (c.1.getD 0 [] = []) && kinds.all fun k=>zfa (c.1.getD k.toNat [])
theorem zk7 {c:Ct} (h:c.1.length = 8):zcQ c = true ↔ okC c:=by
 unfold zcQ okC
 simp only [Bool.and_eq_true,decide_eq_true_eq,List.all_eq_true]
 constructor
 ·rintro ⟨h1,h2⟩
  exact ⟨h,h1,fun k hk=>zg1.1 (h2 k hk)⟩
 ·rintro ⟨_,h1,h2⟩
  exact ⟨h1,fun k hk=>zg1.2 (h2 k hk)⟩
theorem zmC {l:List Nm} (h:smR l) (j:Nat) (hj:j < l.length):(at_ tN l j).2.1.length≤1000000:=by
 rw [atN tN l j hj]
 exact h.2 _ (List.getElem_mem hj)
theorem zf8 {c:Ct} (h:c.1.length = 8) (j:Nat) (hj:j < 8):at_ (.sl tN) c.1 (j:Int) = c.1.getD j []:=by
 unfold at_
 rw [Int.toNat_natCast]
 rfl
theorem zkB {c:Ct} (h:smC c) (j:Nat):smR (c.1.getD j []):=by
 rw [List.getD_eq_getElem?_getD]
 by_cases e:j < c.1.length
 ·rw [List.getElem?_eq_getElem e]
  exact h.2 _ (List.getElem_mem e)
 ·rw [List.getElem?_eq_none (by omega)]
  exact ⟨by simp,by simp⟩
theorem f35_l5_eq (l:List Nm) (t9 t10:Int) (b:List (List Nm)) (h:smR l) (k:Nat) (hk:l.length < k) :
  f35_l5 l t9 t10 l (l.length:Int) b k 0 = some (if zfa l then .inl ((t9,t10,()),(),((b,()),())) else .inr ((false,()),(),())):=by
 refine zb1 l.length (rowOk l) (f35_l5 l t9 t10 l (l.length:Int) b) _ _ (fun k j hj=>?_) k hk
 conv=>lhs; unfold f35_l5
 have h1:=h.1
 by_cases h:j < l.length
 ·have hlab:=f65_eq _ (zmC ‹smR l› j h)
  simp only [Int.ofNat_lt,inRN,h,decide_true,cond_true,if_true,wS j (by omega),rowOk]
  by_cases e1:(at_ tN l j).1 < 0
  ·have:¬ 0≤(at_ tN l j).1:=zmB e1
   simp [e1,this]
  ·have e1':0≤(at_ tN l j).1:=zmA e1
   simp only [e1,decide_false,cond_false,e1',decide_true,Bool.true_and]
   by_cases e2:(at_ tN l j).1 ≥ 24
   ·have:¬ (at_ tN l j).1 < 24:=ziP e2
    simp [e2,this]
   ·have e2':(at_ tN l j).1 < 24:=ziO e2
    simp only [e2,decide_false,cond_false,e2',decide_true,Bool.true_and]
    by_cases e3:j = 0
    ·subst e3
     have:decide (((0:Nat):Int) > 0) = false:=by decide
     simp only [this,cond_false,decide_true,Bool.true_or,Bool.true_and,hlab,Option.bind_some]
     cases okLb (at_ tN l ((0:Nat):Int)).2.1 <;> simp
    ·have e4:decide ((j:Int) > 0) = true:=by simp; omega
     simp only [e4,cond_true,wP j (by omega) (by omega),inRN,show j - 1 < l.length by omega,decide_true,e3,decide_false,Bool.false_or]
     by_cases e5:(at_ tN l ((j - 1:Nat):Int)).1 ≥ (at_ tN l j).1
     ·have:¬ (at_ tN l ((j - 1:Nat):Int)).1 < (at_ tN l j).1:=ziP e5
      simp [e5,this]
     ·have e5':(at_ tN l ((j - 1:Nat):Int)).1 < (at_ tN l j).1:=ziO e5
      simp only [e5,decide_false,cond_false,e5',decide_true,Bool.true_and,hlab,Option.bind_some]
      cases okLb (at_ tN l (j:Int)).2.1 <;> simp
 ·simp only [Int.ofNat_lt,h,decide_false,cond_false,if_false]
theorem f35_eq (c:Ct) (h:smC c):f35 c = some (zcQ c,()):=by
 unfold f35
 have e7:(zah 8 (some (1:Int)) none) = 7:=by decide
 have eo:cutOk 8 (some (1:Int)) none = true:=by decide
 simp only [e7,eo,cond_true]
 have hl:=zb1 7 (fun k=>zfa (c.1.getD (k + 1) [])) (fun k j=>f35_l2 k 7 j c.1) (.inl ((),(),((c.1,()),()))) (.inr ((false,()),(),())) (by
  intro k j hj
  conv=>lhs; unfold f35_l2
  by_cases e:j < 7
  ·have e1:decide ((j:Int) < 7) = true:=by simp; omega
   have hs:=zkB h (j + 1)
   have e2:((Int.toNat (1:Int):Nat):Int) + (j:Int) = ((j + 1:Nat):Int):=by simp; omega
   simp only [e1,cond_true,e7,inRN,e,decide_true,if_true,e2,zf8 h.1 (j + 1) (by omega)]
   rw [f35_l5_eq _ 7 (j:Int) c.1 hs _ (by omega)]
   simp only [Option.bind_some]
   cases zfa (c.1.getD (j + 1) []) with
   | true =>
    show f35_l2 k 7 (IntKind.wrap .i64 ((j:Int) + 1)) c.1 = f35_l2 k 7 ((j + 1:Nat):Int) c.1
    rw [wS j (by omega)]
   | false=>rfl
  ·have e1:decide ((j:Int) < 7) = false:=by simp; omega
   simp only [e1,cond_false,e,if_false]) ((((7:Nat):Int) - 0).toNat + 1) (by decide)
 refine zaa hl ?_
 have hv:zcQ c = (decide (c.1.getD 0 [] = []) && (List.range 7).all fun k=>zfa (c.1.getD (k + 1) [])):=rfl
 rw [hv]
 cases (List.range 7).all fun k=>zfa (c.1.getD (k + 1) []) with
 | true =>
  have e0:at_ (.sl tN) c.1 (0:Int) = c.1.getD 0 []:=zf8 h.1 0 (by decide)
  show some (decide (((at_ (.sl tN) c.1 (0:Int)).length:Int) = 0),()) = some (decide (c.1.getD 0 [] = []) && true,())
  rw [e0]
  cases c.1.getD 0 [] with
  | nil=>rfl
  | cons x l =>
   have h1:¬ (((x :: l).length:Nat):Int) = 0:=by rw [List.length_cons]; omega
   have h2:¬ (x :: l:List Nm) = []:=by simp
   rw [zF h1,zF h2]
   rfl
 | false =>
  show some (false,()) = some (decide (c.1.getD 0 [] = []) && false,())
  rw [Bool.and_false]
theorem ziQ {A B R:Type} {f:A→R} {g:B→R} {x y:A ⊕ B} {r:R} (h:x = y) (h2:Sum.elim f g y = r):Sum.elim f g x = r:=by subst h; exact h2
theorem zaV {n:Nat} (h:n≤1000000):decide (n≤zac) = true:=zT (Nat.le_trans h (by decide))
section
variable {R:Type}
theorem zf9 (T:Ty) (l:List T.den) (p:T.den→Bool) (yes:Nat→R) (no:R):∀ (m j:Nat),j + m = l.length →
  ((l.drop j).find? p = none∧rounds (fun j (_:Unit)=>if p (at_ T l (j:Int)) = true then (.inr (yes j):Unit ⊕ R) else .inl ()) (fun _=>no) m j () = no) ∨
  (∃ (i:Nat) (h:i < l.length),(l.drop j).find? p = some l[i]∧rounds (fun j (_:Unit)=>if p (at_ T l (j:Int)) = true then (.inr (yes j):Unit ⊕ R) else .inl ()) (fun _=>no) m j () = yes i)
 | 0,j,h=>.inl ⟨by rw [List.drop_of_length_le (by omega)]; rfl,rfl⟩
 | m + 1,j,h=>by
  have hj:j < l.length:=by omega
  rw [List.drop_eq_getElem_cons hj,List.find?_cons]
  simp only [rounds,atN T l j hj]
  cases e:p l[j] with
  | true=>exact .inr ⟨j,hj,by simp,by simp⟩
  | false =>
   simp only [Bool.false_eq_true,if_false]
   exact zf9 T l p yes no m (j + 1) (by omega)
end
theorem zkC {l:List Nm} {i:Int} {n:Nm} (h:l.find? (fun n=>decide (n.1 = i)) = some n):lkp l i = (true,n.2.1):=by unfold lkp; rw [h]
theorem zn3 {l:List Nm} {i:Int} (h:l.find? (fun n=>decide (n.1 = i)) = none):lkp l i = (false,[]):=by unfold lkp; rw [h]
theorem f43_eq (c:Ct) (h:smC c) (q:Nat) (hq:q < 8) (i:Int):f43 c [(q:Int),i] = some (((la c q i).1,((la c q i).2,())),()):=by
 unfold f43
 have hs:=zkB h q
 have h1:=hs.1
 have e0:at_ yI [(q:Int),i] (0:Int) = (q:Int):=rfl
 have e1:at_ yI [(q:Int),i] (1:Int) = i:=rfl
 have ei:inR (0:Int) 2 = true:=by decide
 have ei1:inR (1:Int) 2 = true:=by decide
 simp only [e0,ei,cond_true,inRN,hq,decide_true,zf8 h.1 q hq]
 have hl:=zaM (c.1.getD q []).length (fun _ _=>True) (fun j (_:Unit)=>if decide ((at_ tN (c.1.getD q []) (j:Int)).1 = i) = true then (.inr (.inr (((j:Int),()),((),()),((c.1,()),([(q:Int),i],()),(false,()),()))):Unit ⊕ outDen f82_l2xo) else .inl ()) (fun _=>.inl ((),((),()),((c.1,()),([(q:Int),i],()),(false,()),()))) (fun k j _=>f82_l2x (c.1.getD q []) ((c.1.getD q []).length:Int) [(q:Int),i] c.1 false k j) (by
  intro k j _ hj _
  conv=>lhs; unfold f82_l2x
  by_cases e:j < (c.1.getD q []).length
  ·simp only [Int.ofNat_lt,inRN,e,decide_true,cond_true,if_true,wS j (by omega),ei1,e1]
   by_cases e2:(at_ tN (c.1.getD q []) (j:Int)).1 = i
   ·simp only [e2,decide_true,cond_true,if_true]
   ·simp only [e2,decide_false,cond_false,Bool.false_eq_true,if_false]
  ·simp only [Int.ofNat_lt,e,decide_false,cond_false,if_false]) (fun _ _ _ _ _ _=>trivial) (c.1.getD q []).length ((((c.1.getD q []).length:Int) - 0).toNat + 1) 0 () (by omega) (by omega) (by omega) trivial
 refine zaa hl ?_
 rcases zf9 tN (c.1.getD q []) (fun n=>decide (n.1 = i)) (fun j=>(.inr (((j:Int),()),((),()),((c.1,()),([(q:Int),i],()),(false,()),())):outDen f82_l2xo)) (.inl ((),((),()),((c.1,()),([(q:Int),i],()),(false,()),()))) (c.1.getD q []).length 0 (by omega) with ⟨k1,k2⟩ | ⟨j,hj,k1,k2⟩
 ·refine ziQ k2 ?_
  have:la c q i = (false,[]):=zn3 (by rw [Int.toNat_natCast]; exact k1)
  rw [this]
  rfl
 ·refine ziQ k2 ?_
  have:la c q i = (true,(c.1.getD q [])[j].2.1):=zkC (by rw [Int.toNat_natCast]; exact k1)
  rw [this,← atN tN _ j hj]
  have e3:decide ((j:Int) ≥ 0) = true:=by simp
  simp only [Sum.elim_inr,e3,cond_true,ei,e0,inRN,hq,decide_true,zf8 h.1 q hq,hj]
end Go.V.G
namespace Go.V.G
open Go.Proofs
open Go.V.K
theorem zpl {l:List Nm} (h:smR l) (i:Int):(lkp l i).2.length≤1000000:=by
 cases e:l.find? (fun n=>decide (n.1 = i)) with
 | none=>rw [zn3 e]; simp
 | some n=>rw [zkC e]; exact h.2 n (List.mem_of_find?_eq_some e)
theorem la_sm {c:Ct} (h:smC c) (k i:Int):(la c k i).2.length≤1000000:=zpl (zkB h _) i
theorem zn4 {β:Type} (F:Int→Option β):(List.range' 0 24).flatMap (fun j=>(F ((j:Nat):Int)).toList) = ids.filterMap F:=by
 rw [zf7 (fun j:Nat=>F (j:Int))]
 unfold ids
 rw [List.filterMap_map,List.range_eq_range']
 rfl
theorem zmD {β:Type} (F:Int × Int→Option β):(List.range' 1 7).flatMap (fun q=>ids.filterMap fun i=>F (((q:Nat):Int),i)) = keys.filterMap F:=by
 unfold keys kinds
 rw [List.filterMap_flatMap,List.flatMap_map]
 simp only [List.filterMap_map]
 rfl
theorem zmE {β:Type} (F:Int→Option β):(ids.filterMap F).length≤24:=Nat.le_trans (List.length_filterMap_le _ _) (by decide)
theorem zmF {β:Type} (o:Option β):o.toList.length≤1:=by cases o <;> simp
abbrev dF (A B:Int→Int→Lb) (k:Int × Int):Option Rl:=if A k.1 k.2 = B k.1 k.2 then none else some (mkR k (A k.1 k.2) (B k.1 k.2))
theorem f45_eq (k i:Int) (h:Bool) (l:List Int) (h':Bool) (l':List Int) (hl:l.length≤1000000) (hl':l'.length≤1000000) :
  f45 [k,i] (h,(l,())) (h',(l',())) = some (mkR (k,i) (h,l) (h',l'),()):=by
 unfold f45 f54
 have e1:decide (l.length≤zac) = true:=by unfold zac; simp; omega
 have e2:decide (l'.length≤zac) = true:=by unfold zac; simp; omega
 simp only [e1,e2,cond_true,Option.bind_some]
 rfl
theorem f44_mk (h:Bool) (l:List Int) (h':Bool) (l':List Int) (hl:l.length≤1000000):f44 (h,(l,())) (h',(l',())) = some (decide ((h,l) = (h',l')),()):=f44_eq _ _ hl
theorem f41_l4_eq (a b:Ct) (ha:smC a) (hb:smC b) (z:Int) (q:Nat) (hq:q < 8) (k:Nat) (hk:24 < k) (r:List Rl) (hr:r.length≤1000) :
  f41_l4x (q:Int) z a.1 b.1 k 0 r = some (((q:Int),()),((z,()),()),((a.1,()),(b.1,()),(),(),r++ids.filterMap (fun i=>dF (la a) (la b) ((q:Int),i)),())):=by
 have h:=zhQ 24 (fun j acc=>acc.length≤1000 + j) (fun j=>(dF (la a) (la b) ((q:Int),((j:Nat):Int))).toList) (fun r=>((((q:Int),()),((z,()),()),((a.1,()),(b.1,()),(),(),r,())):outDen f41_l4xo)) (f41_l4x (q:Int) z a.1 b.1) (by
  intro k j acc hj hacc
  conv=>lhs; unfold f41_l4x
  by_cases e:j < 24
  ·have e1:decide ((j:Int) < 24) = true:=by simp; omega
   have e3:f43 (a.1,()) [(q:Int),(j:Int)] = some (((la a q j).1,((la a q j).2,())),()):=f43_eq a ha q hq j
   have e4:f43 (b.1,()) [(q:Int),(j:Int)] = some (((la b q j).1,((la b q j).2,())),()):=f43_eq b hb q hq j
   simp only [e1,cond_true,e3,e4,Option.bind_some,f44_mk _ _ _ _ (la_sm ha q j),e,if_true,wS j (by omega),f45_eq _ _ _ _ _ _ (la_sm ha q j) (la_sm hb q j)]
   by_cases e5:la a q j = la b q j
   ·simp [e5,dF]
    rfl
   ·have e6:((la a q j).1,(la a q j).2) ≠ ((la b q j).1,(la b q j).2):=e5
    have e7:decide (acc.length + 1≤zac) = true:=by unfold zac; simp; omega
    simp only [e6,decide_false,Bool.not_false,cond_true,List.length_singleton,e7,dF,e5,if_false,Option.toList_some]
    rfl
  ·have e1:decide ((j:Int) < 24) = false:=by simp; omega
   simp only [e1,cond_false]
   exact (if_neg e).symm) (fun j acc _ h=>by
    have:=zmF (dF (la a) (la b) ((q:Int),((j:Nat):Int)))
    rw [List.length_append]
    omega) k 0 r (by omega) (by omega) (by omega)
 rw [zn4 (fun i=>dF (la a) (la b) ((q:Int),i))] at h
 exact h
theorem f41_l1_eq (a b:Ct) (ha:smC a) (hb:smC b) (z:Int) (k:Nat) (hk:8≤k):f41_l1x k 1 z a.1 b.1 [] = some ((),((z,()),()),((),(),dif (la a) (la b),())):=by
 have h:=zhQ 8 (fun j acc=>acc.length≤24 * j) (fun q=>ids.filterMap (fun i=>dF (la a) (la b) (((q:Nat):Int),i))) (fun r=>(((),((z,()),()),((),(),r,())):outDen f41_l1xo)) (fun k j r=>f41_l1x k j z a.1 b.1 r) (by
  intro k j acc hj hacc
  conv=>lhs; unfold f41_l1x
  by_cases e:j < 8
  ·have e1:decide ((j:Int)≤7) = true:=by simp; omega
   simp only [e1,cond_true]
   refine Eq.trans (zaa (f41_l4_eq a b ha hb z j e (((24:Int) - 0).toNat + 1) (by decide) acc (by omega)) ?_) (if_pos e).symm
   show f41_l1x k (IntKind.wrap .i64 ((j:Int) + 1)) _ _ _ _ = _
   rw [wS j (by omega)]
  ·have e1:decide ((j:Int)≤7) = false:=by simp; omega
   simp only [e1,cond_false]
   exact (if_neg e).symm) (fun j acc _ h=>by
    have:=zmE (fun i=>dF (la a) (la b) (((j:Nat):Int),i))
    rw [List.length_append]
    omega) k 1 [] (by omega) (by omega) (by simp)
 rw [zmD (dF (la a) (la b))] at h
 exact h
theorem f12_eq (a b:Ct) (ha:smC a) (hb:smC b):f12 a b = if zcQ a && zcQ b then some ((dif (la a) (la b),()),(0:Int),()) else some (([],()),(160:Int),()):=by
 unfold f12
 refine (zaa (f35_eq a ha) ?_)
 cases h1:zcQ a with
 | false=>rfl
 | true =>
  simp only [Bool.not_true,cond_false,Bool.true_and]
  refine (zaa (f35_eq b hb) ?_)
  cases h2:zcQ b with
  | false=>rfl
  | true =>
   simp only [Bool.not_true,cond_false,if_true]
   refine zaa (f41_l1_eq a b ha hb 0 _ (by decide)) rfl
end Go.V.G
namespace Go.V.G
open Go.Proofs
open Go.V.K
def smRl (r:Rl):Prop:=(bf r).2.length≤1000000∧(af r).2.length≤1000000
def smD (d:List Rl):Prop:=d.length≤1000000∧∀ r∈d,smRl r
def okRb (r:Rl):Bool :=
 decide (r.1 ≥ 1) && (decide (r.1≤7) && (decide (r.2.1 ≥ 0) && (decide (r.2.1 < 24) && ((r.2.2.1 || decide ((r.2.2.2.1.length:Int) = 0)) && ((r.2.2.2.2.1 || decide ((r.2.2.2.2.2.1.length:Int) = 0)) &&
  (okLb r.2.2.2.1 && (okLb r.2.2.2.2.2.1 && !decide ((r.2.2.1,r.2.2.2.1) = (r.2.2.2.2.1,r.2.2.2.2.2.1)))))))))
theorem len0 {α:Type} {l:List α}:(l.length:Int) = 0 ↔ l = []:=by
 cases l with
 | nil=>simp
 | cons x l=>simp only [List.length_cons]; constructor <;> intro h <;> first | (cases h; done) | omega
theorem zkD {r:Rl}:okRb r = true ↔ okR r:=by
 obtain ⟨k,i,h,o,h',n,u⟩:=r
 simp only [okRb,okR,okM,bf,af,kOf,zda,Bool.and_eq_true,Bool.or_eq_true,Bool.not_eq_true',decide_eq_true_eq,decide_eq_false_iff_not,zb2,len0,ge_iff_le]
 constructor
 ·rintro ⟨h1,h2,h3,h4,h5,h6,h7,h8,h9⟩
  refine ⟨⟨⟨h1,h2⟩,h3,h4⟩,⟨h7,fun e=>?_⟩,⟨h8,fun e=>?_⟩,h9⟩
  ·rcases h5 with h5 | h5
   ·rw [h5] at e; cases e
   ·exact h5
  ·rcases h6 with h6 | h6
   ·rw [h6] at e; cases e
   ·exact h6
 ·rintro ⟨⟨⟨h1,h2⟩,h3,h4⟩,⟨h7,h5⟩,⟨h8,h6⟩,h9⟩
  refine ⟨h1,h2,h3,h4,?_,?_,h7,h8,h9⟩
  ·cases h with
   | true=>exact .inl rfl
   | false=>exact .inr (h5 rfl)
  ·cases h' with
   | true=>exact .inl rfl
   | false=>exact .inr (h6 rfl)
theorem f56_eq (r:Rl) (hs:smRl r):f56 r = some (okRb r,()):=by
 obtain ⟨k,i,h,o,h',n,u⟩:=r
 obtain ⟨s1,s2⟩:=hs
 have e1:f65 o = some (okLb o,()):=f65_eq o s1
 have e2:f65 n = some (okLb n,()):=f65_eq n s2
 have e3:f44 (h,(o,())) (h',(n,())) = some (decide ((h,o) = (h',n)),()):=f44_mk h o h' n s1
 unfold f56 okRb f52 f53
 simp only [e1,e2,e3,Option.bind_some]
 generalize decide (k ≥ 1) = b1
 generalize decide (k≤7) = b2
 generalize decide (i ≥ 0) = b3
 generalize decide (i < 24) = b4
 generalize decide ((o.length:Int) = 0) = b5
 generalize decide ((n.length:Int) = 0) = b6
 generalize okLb o = b7
 generalize okLb n = b8
 generalize hb:decide ((h,o) = (h',n)) = b9
 clear hb e1 e2 e3 s1 s2
 cases b1 <;> cases b2 <;> cases b3 <;> cases b4 <;> cases h <;> cases h' <;> cases b5 <;> cases b6 <;> cases b7 <;> cases b8 <;> rfl
theorem f58_eq (r:Rl) (hs:smRl r):f58 r = some (okRb r,()):=by
 obtain ⟨k,i,h,o,h',n,u⟩:=r
 obtain ⟨s1,s2⟩:=hs
 have e1:f81 o = some (okLb o,()):=f81_eq o s1
 have e2:f81 n = some (okLb n,()):=f81_eq n s2
 have e3:f40 h o h' n = some (decide ((h,o) = (h',n)),()):=f40_eq h o h' n s1
 have g1:decide (k < 1) = !decide (k ≥ 1):=by by_cases e:k < 1 <;> simp [e] <;> omega
 have g2:decide (k > 7) = !decide (k≤7):=by by_cases e:k≤7 <;> simp [e] <;> omega
 have g3:decide (i < 0) = !decide (i ≥ 0):=by by_cases e:i < 0 <;> simp [e] <;> omega
 have g4:decide (i ≥ 24) = !decide (i < 24):=by by_cases e:i < 24 <;> simp [e] <;> omega
 have hx:h = false→h' = false→decide ((o.length:Int) = 0) = true→decide ((n.length:Int) = 0) = true→decide ((h,o) = (h',n)) = true:=by
  intro q1 q2 q3 q4
  rw [decide_eq_true_eq,len0] at q3 q4
  simp [q1,q2,q3,q4]
 unfold f58 okRb
 simp only [e1,e2,e3,Option.bind_some,g1,g2,g3,g4]
 generalize decide (k ≥ 1) = b1
 generalize decide (k≤7) = b2
 generalize decide (i ≥ 0) = b3
 generalize decide (i < 24) = b4
 generalize decide ((o.length:Int) = 0) = b5 at hx ⊢
 generalize decide ((n.length:Int) = 0) = b6 at hx ⊢
 generalize okLb o = b7
 generalize okLb n = b8
 generalize decide ((h,o) = (h',n)) = b9 at hx ⊢
 clear e1 e2 e3 s1 s2 g1 g2 g3 g4
 cases b1 <;> cases b2 <;> cases b3 <;> cases b4 <;> cases h <;> cases h' <;> cases b5 <;> cases b6 <;> cases b7 <;> cases b8 <;> first | rfl | (have:=hx rfl rfl rfl rfl; subst this; rfl)
def ltb (a b:Rl):Bool:=decide (a.1 < b.1) || (decide (a.1 = b.1) && decide (a.2.1 < b.2.1))
theorem zmG {a b:Rl}:ltb a b = true ↔ lt2 (kOf a) (kOf b):=by
 unfold ltb lt2 kOf
 simp
def dOk (d:List Rl) (j:Nat):Bool:=okRb (at_ tR d (j:Int)) && (decide (j = 0) || ltb (at_ tR d ((j - 1:Nat):Int)) (at_ tR d (j:Int)))
def validD (d:List Rl):Bool:=(List.range d.length).all (dOk d)
theorem znD {d:List Rl} (h:∀ j (h:j < d.length),0 < j→lt2 (kOf (d[j - 1]'(by omega))) (kOf d[j])):d.Pairwise (fun a b=>lt2 (kOf a) (kOf b)):=by
 rw [List.pairwise_iff_getElem]
 intro i j hi hj hij
 induction j with
 | zero=>omega
 | succ j ih =>
  have h1:=h (j + 1) hj (by omega)
  by_cases e:i = j
  ·subst e; exact h1
  ·exact zn2 _ _ _ (ih (by omega) (by omega)) h1
theorem zbf {d:List Rl}:validD d = true ↔ okD d:=by
 unfold validD okD
 rw [List.all_eq_true]
 constructor
 ·intro h
  have h':∀ j (hj:j < d.length),dOk d j = true:=fun j hj=>h j (List.mem_range.2 hj)
  constructor
  ·intro r hr
   obtain ⟨j,hj,rfl⟩:=List.mem_iff_getElem.1 hr
   have:=h' j hj
   rw [dOk,Bool.and_eq_true,atN tR d j hj] at this
   exact zkD.1 this.1
  ·refine znD fun j hj h0=>?_
   have:=h' j hj
   rw [dOk,Bool.and_eq_true,Bool.or_eq_true,atN tR d j hj,atN tR d (j - 1) (by omega),decide_eq_true_eq] at this
   rcases this.2 with h1 | h1
   ·omega
   ·exact zmG.1 h1
 ·rintro ⟨h1,h2⟩ j hj
  have hj:=List.mem_range.1 hj
  rw [dOk,Bool.and_eq_true,Bool.or_eq_true,atN tR d j hj,decide_eq_true_eq]
  refine ⟨zkD.2 (h1 _ (List.getElem_mem hj)),?_⟩
  by_cases h0:j = 0
  ·exact .inl h0
  ·rw [atN tR d (j - 1) (by omega)]
   exact .inr (zmG.2 (List.pairwise_iff_getElem.1 h2 (j - 1) j (by omega) hj (by omega)))
theorem zkE {d:List Rl} (h:smD d) (j:Nat) (hj:j < d.length):smRl (at_ tR d (j:Int)):=by
 rw [atN tR d j hj]
 exact h.2 _ (List.getElem_mem hj)
theorem f59_eq (a b:Rl):f59 a b = some (ltb a b,()):=by
 unfold f59 ltb
 by_cases e1:a.1 < b.1
 ·simp [e1]
 ·by_cases e2:a.1 = b.1
  ·simp [e1,e2]
  ·simp [e1,e2]
theorem f20_eq (d:List Rl) (h:smD d):f20 (d,()) = some (validD d,()):=by
 unfold f20
 have hl:=zb1 d.length (dOk d) (f20_l2 d) (.inl ((),(),())) (.inr ((false,()),(),())) (by
  intro k j hj
  conv=>lhs; unfold f20_l2
  have h1:=h.1
  by_cases e:j < d.length
  ·simp only [Int.ofNat_lt,inRN,e,decide_true,cond_true,f58_eq _ (zkE h j e),Option.bind_some,wS j (by omega)]
   refine Eq.trans ?_ (if_pos trivial).symm
   unfold dOk
   cases okRb (at_ tR d (j:Int)) with
   | false=>rfl
   | true =>
    simp only [Bool.not_true,cond_false,Bool.true_and]
    by_cases e3:j = 0
    ·subst e3
     rfl
    ·have e4:decide ((j:Int) > 0) = true:=by simp; omega
     simp only [e4,cond_true,wP j (by omega) (by omega),inRN,show j - 1 < d.length by omega,decide_true,f59_eq,Option.bind_some,e3,decide_false,Bool.false_or]
     cases ltb (at_ tR d ((j - 1:Nat):Int)) (at_ tR d (j:Int)) <;> rfl
  ·simp only [Int.ofNat_lt,e,decide_false,cond_false]
   exact (if_neg not_false).symm) (((d.length:Int) - 0).toNat + 1) (by omega)
 refine zaa hl ?_
 show Sum.elim _ _ (if validD d = true then _ else _) = _
 cases validD d <;> rfl
theorem zkF {α β:Type} (g:α→β):∀ (l:List α),l.flatMap (fun x=>[g x]) = l.map g
 | []=>rfl
 | x :: l=>by rw [List.flatMap_cons,zkF g l]; rfl
theorem znE {α β:Type} (T:Ty) (l:List T.den) (f:T.den→β):(List.range' 0 l.length).flatMap (fun j:Nat=>[f (at_ T l (j:Int))]) = l.map f:=by
 rw [← List.range_eq_range']
 rw [zkF (fun j:Nat=>f (at_ T l (j:Int)))]
 apply List.ext_getElem
 ·simp
 ·intro i h1 h2
  simp only [List.length_map] at h2
  simp only [List.getElem_map,List.getElem_range,atN T l i h2]
end Go.V.G
namespace Go.V.G
open Go.Proofs
open Go.V.K
section
variable {R B:Type}
def zaR (P:Nat→Option (List B)) (bad:List B→R) (j:Nat) (acc:List B):List B ⊕ R :=
 match P j with
 | some x=>.inl (acc++x)
 | none=>.inr (bad acc)
theorem zbA (P:Nat→Option (List B)) (good bad:List B→R):∀ (m j:Nat) (acc:List B),
  ((List.range' j m).all (fun j=>(P j).isSome) = true∧rounds (zaR P bad) good m j acc = good (acc++(List.range' j m).flatMap (fun j=>(P j).getD []))) ∨
  ((List.range' j m).all (fun j=>(P j).isSome) = false∧∃ acc',rounds (zaR P bad) good m j acc = bad acc')
 | 0,j,acc=>.inl ⟨rfl,by simp [rounds]⟩
 | m + 1,j,acc=>by
  simp only [rounds,zaR,List.range'_succ,List.all_cons,List.flatMap_cons]
  cases h:P j with
  | none=>exact .inr ⟨by simp,acc,rfl⟩
  | some x =>
   simp only [Option.isSome_some,Bool.true_and,Option.getD_some]
   rcases zbA P good bad m (j + 1) (acc++x) with ⟨h1,h2⟩ | ⟨h1,h2⟩
   ·exact .inl ⟨h1,by rw [h2,List.append_assoc]⟩
   ·exact .inr ⟨h1,h2⟩
end
abbrev tK:Ty:=.arr 2 yI
def kv (r:Rl):List Int × Rl:=([r.1,r.2.1],r)
theorem zn5 (a b:Int × Int):keyEq tK [a.1,a.2] [b.1,b.2] = decide (b = a):=by
 show decide (([a.1,a.2]:List Int) = [b.1,b.2]) = _
 rw [decide_eq_decide]
 simp only [List.cons.injEq,and_true]
 constructor
 ·rintro ⟨h1,h2⟩; exact Prod.ext h1.symm h2.symm
 ·rintro rfl; exact ⟨rfl,rfl⟩
theorem zcE (k:Int × Int):∀ (d:List Rl),zaY tK tR (d.map kv) [k.1,k.2] = (fd d k).isSome∧∀ r,fd d k = some r→zai tK tR (d.map kv) [k.1,k.2] = r
 | []=>⟨rfl,fun r h=>by cases h⟩
 | x :: d=>by
  have e:keyEq tK [k.1,k.2] [x.1,x.2.1] = decide (kOf x = k):=zn5 k (kOf x)
  have ih:=zcE k d
  simp only [List.map_cons,kv,zaY,zai,e]
  unfold fd
  rw [List.find?_cons]
  cases hx:decide (kOf x = k) with
  | true=>exact ⟨rfl,fun r h=>by simp at h; exact h⟩
  | false=>exact ih
theorem map_set:∀ (d:List Rl) (r:Rl),(∀ x∈d,kOf x ≠ kOf r)→zbr tK tR (d.map kv) [r.1,r.2.1] r = (d++[r]).map kv
 | [],r,_=>rfl
 | x :: d,r,h=>by
  have e:keyEq tK [r.1,r.2.1] [x.1,x.2.1] = false:=by
   have:=zn5 (kOf r) (kOf x)
   rw [zF (show ¬ kOf x = kOf r from h x (by simp))] at this
   exact this
  simp only [List.map_cons,kv,zbr,e,cond_false,List.cons_append]
  exact congrArg _ (map_set d r fun y hy=>h y (by simp [hy]))
theorem f50_eq (r:Rl):f50 r = some ([r.1,r.2.1],()):=rfl
theorem f49_l3_eq (d:List Rl) (hd:okD d) (hl:d.length≤1000000) (b:List (List Nm)) (z:Int) (k:Nat) (hk:d.length < k) :
  f49_l3x d (d.length:Int) b z k 0 [] = some ((),((),(),(),()),(d.map kv,(b,()),(),(z,()),())):=by
 have h:=zaM d.length (fun j m=>m = (d.take j).map kv) (fun j m=>(.inl ((d.take (j + 1)).map kv):List (List Int × Rl) ⊕ outDen f49_l3xo)) (fun m=>((),((),(),(),()),(m,(b,()),(),(z,()),()))) (f49_l3x d (d.length:Int) b z) (by
  intro k j m hj hm
  conv=>lhs; unfold f49_l3x
  by_cases e:j < d.length
  ·simp only [Int.ofNat_lt,inRN,e,decide_true,cond_true,zaI,f50_eq,Option.bind_some,wS j (by omega),if_true]
   rw [atN tR d j e,hm]
   have hset:=map_set (d.take j) d[j] (fun x hx=>by
    obtain ⟨i,hi,rfl⟩:=List.mem_iff_getElem.1 hx
    rw [List.length_take] at hi
    have h1:lt2 (kOf d[i]) (kOf d[j]):=List.pairwise_iff_getElem.1 hd.2 i j (by omega) e (by omega)
    rw [List.getElem_take]
    intro e2
    rw [e2] at h1
    exact zjH _ h1)
   rw [hset,← List.take_succ_eq_append_getElem e]
  ·simp only [Int.ofNat_lt,e,decide_false,cond_false,if_false]) (fun j m m' _ _ e=>by cases e; rfl) d.length k 0 [] (by omega) (by omega) hk (by simp)
 refine h.trans ?_
 have key:∀ (n j:Nat) (m:List (List Int × Rl)),j + n = d.length→m = (d.take j).map kv→rounds (fun j m=>(.inl ((d.take (j + 1)).map kv):List (List Int × Rl) ⊕ outDen f49_l3xo)) (fun m=>((),((),(),(),()),(m,(b,()),(),(z,()),()))) n j m = ((),((),(),(),()),(d.map kv,(b,()),(),(z,()),())):=by
  intro n
  induction n with
  | zero =>
   intro j m h1 h2
   subst h2
   rw [List.take_of_length_le (by omega)]
   rfl
  | succ n ih =>
   intro j m h1 h2
   exact ih (j + 1) _ (by omega) rfl
 exact congrArg some (key d.length 0 [] (by omega) rfl)
def zfb (A:Int→Int→Lb) (d:List Rl) (k i:Int):Option Lb :=
 match fd d (k,i) with
 | some r=>if A k i = bf r then some (af r) else none
 | none=>some (A k i)
def cell (i:Int) (m:Lb):List Nm:=if m.1 then [(i,m.2,())] else []
def zaN (A:Int→Int→Lb) (d:List Rl) (k:Int) (j:Nat):Option (List Nm):=(zfb A d k j).map (cell j)
def zbp (A:Int→Int→Lb) (d:List Rl) (k:Int):Bool:=(List.range' 0 24).all fun j=>(zaN A d k j).isSome
def za7 (A:Int→Int→Lb) (d:List Rl) (k:Int):List Nm:=(List.range' 0 24).flatMap fun j=>(zaN A d k j).getD []
theorem fd_sm {d:List Rl} (h:smD d) {k:Int × Int} {r:Rl} (hr:fd d k = some r):smRl r:=h.2 r (zf6 hr).1
theorem row1 (a:Ct) (ha:smC a) (d:List Rl) (hs:smD d) (z:Int)  (k:Nat) (hk:24 < k) :
  (zbp (la a) d 1 = true∧f41_l4b a.1 z (d.map kv) k 0 [] = some ((fun acc:List Nm=>((.inl ((),((),(),(),()),((a.1,()),(),(),(z,()),d.map kv,acc,()))):outDen f41_l4bo)) (za7 (la a) d 1))) ∨
  (zbp (la a) d 1 = false∧∃ acc:List Nm,f41_l4b a.1 z (d.map kv) k 0 [] = some ((.inr ((),((),(),(),()),((),(z,()),acc,()))):outDen f41_l4bo)):=by
 have h:=zaM 24 (fun j (acc:List Nm)=>acc.length≤j) (zaR (zaN (la a) d 1) (fun acc=>((.inr ((),((),(),(),()),((),(z,()),acc,()))):outDen f41_l4bo))) (fun acc=>(.inl ((),((),(),(),()),((a.1,()),(),(),(z,()),d.map kv,acc,())))) (f41_l4b a.1 z (d.map kv)) (by
  intro k j acc hj hacc
  conv=>lhs; unfold f41_l4b
  by_cases e:j < 24
  ·have e1:decide ((j:Int) < 24) = true:=by simp; omega
   have e3:f43 (a.1,()) [(1:Int),(j:Int)] = some (((la a 1 j).1,((la a 1 j).2,())),()):=f43_eq a ha 1 (by decide) j
   obtain ⟨m1,m2⟩:=zcE ((1:Int),(j:Int)) d
   have i0:inR (0:Int) 2 = true:=by decide
   have i1:inR (1:Int) 2 = true:=by decide
   have i2:inR (1:Int) 8 = true:=by decide
   simp only [e1,cond_true,e3,Option.bind_some,zaI,zat,i0,i1,i2,m1]
   refine Eq.trans ?_ (if_pos e).symm
   have ea:decide (acc.length + 1≤zac) = true:=zaV (by omega)
   unfold zaR zaN zfb cell
   cases hf:fd d ((1:Int),(j:Int)) with
   | none =>
    have eb:decide ((la a 1 j).2.length≤zac) = true:=zaV (la_sm ha _ _)
    simp only [Option.isSome_none,cond_false,Option.map_some,wS j (by omega),f54,eb,cond_true,Option.bind_some,List.length_singleton,ea]
    cases (la a 1 j).1 with
    | true=>rfl
    | false =>
     simp only [Bool.false_eq_true,if_false,cond_false,List.append_nil]
     rfl
   | some r =>
    have hr:=fd_sm hs hf
    simp only [Option.isSome_some,cond_true,m2 r hf,wS j (by omega)]
    simp only [f52,f53,Option.bind_some]
    rw [f44_mk _ _ _ _ (la_sm ha 1 j)]
    by_cases hb:la a 1 j = bf r
    ·have hb2:((la a 1 j).1,(la a 1 j).2) = (r.2.2.1,r.2.2.2.1):=hb
     have eb:decide (r.2.2.2.2.2.1.length≤zac) = true:=zaV hr.2
     simp only [hb2,decide_true,Option.bind_some,Bool.not_true,cond_false,f54,eb,cond_true,List.length_singleton,ea]
     rw [if_pos hb]
     show (bif r.2.2.2.2.1 then _ else _) = _
     simp only [Option.map_some,af]
     cases r.2.2.2.2.1 with
     | true=>rfl
     | false =>
      simp only [Bool.false_eq_true,if_false,cond_false,List.append_nil]
      rfl
    ·have hb2:((la a 1 j).1,(la a 1 j).2) ≠ (r.2.2.1,r.2.2.2.1):=hb
     simp only [hb2,decide_false,Option.bind_some,Bool.not_false,cond_true]
     rw [if_neg hb]
     rfl
  ·have e1:decide ((j:Int) < 24) = false:=by simp; omega
   simp only [e1,cond_false]
   exact (if_neg e).symm) (fun j acc acc' _ h1 h2=>by
    unfold zaR at h2
    cases hp:zaN (la a) d 1 j with
    | none=>simp [hp] at h2
    | some x =>
     simp only [hp,Sum.inl.injEq] at h2
     subst h2
     have:x.length≤1:=by
      unfold zaN at hp
      obtain ⟨m,_,rfl⟩:=Option.map_eq_some_iff.1 hp
      unfold cell
      split <;> simp
     rw [List.length_append]
     omega) 24 k 0 [] (by omega) (by omega) hk (by simp)
 rcases zbA (zaN (la a) d 1) (fun acc=>((.inl ((),((),(),(),()),((a.1,()),(),(),(z,()),d.map kv,acc,()))):outDen f41_l4bo)) (fun acc=>((.inr ((),((),(),(),()),((),(z,()),acc,()))):outDen f41_l4bo)) 24 0 [] with ⟨h1,h2⟩ | ⟨h1,acc,h2⟩
 ·exact .inl ⟨h1,h.trans (congrArg some h2)⟩
 ·exact .inr ⟨h1,acc,h.trans (congrArg some h2)⟩
theorem row2 (a:Ct) (ha:smC a) (d:List Rl) (hs:smD d) (z:Int) (p1:List Nm) (k:Nat) (hk:24 < k) :
  (zbp (la a) d 2 = true∧f41_l4a a.1 z (d.map kv) p1 k 0 [] = some ((fun acc:List Nm=>((.inl ((),((),(),(),()),((a.1,()),(),(),(z,()),d.map kv,p1,acc,()))):outDen f41_l4ao)) (za7 (la a) d 2))) ∨
  (zbp (la a) d 2 = false∧∃ acc:List Nm,f41_l4a a.1 z (d.map kv) p1 k 0 [] = some ((.inr ((),((),(),(),()),((),(z,()),p1,acc,()))):outDen f41_l4ao)):=by
 have h:=zaM 24 (fun j (acc:List Nm)=>acc.length≤j) (zaR (zaN (la a) d 2) (fun acc=>((.inr ((),((),(),(),()),((),(z,()),p1,acc,()))):outDen f41_l4ao))) (fun acc=>(.inl ((),((),(),(),()),((a.1,()),(),(),(z,()),d.map kv,p1,acc,())))) (f41_l4a a.1 z (d.map kv) p1) (by
  intro k j acc hj hacc
  conv=>lhs; unfold f41_l4a
  by_cases e:j < 24
  ·have e1:decide ((j:Int) < 24) = true:=by simp; omega
   have e3:f43 (a.1,()) [(2:Int),(j:Int)] = some (((la a 2 j).1,((la a 2 j).2,())),()):=f43_eq a ha 2 (by decide) j
   obtain ⟨m1,m2⟩:=zcE ((2:Int),(j:Int)) d
   have i0:inR (0:Int) 2 = true:=by decide
   have i1:inR (1:Int) 2 = true:=by decide
   have i2:inR (2:Int) 8 = true:=by decide
   simp only [e1,cond_true,e3,Option.bind_some,zaI,zat,i0,i1,i2,m1]
   refine Eq.trans ?_ (if_pos e).symm
   have ea:decide (acc.length + 1≤zac) = true:=zaV (by omega)
   unfold zaR zaN zfb cell
   cases hf:fd d ((2:Int),(j:Int)) with
   | none =>
    have eb:decide ((la a 2 j).2.length≤zac) = true:=zaV (la_sm ha _ _)
    simp only [Option.isSome_none,cond_false,Option.map_some,wS j (by omega),f54,eb,cond_true,Option.bind_some,List.length_singleton,ea]
    cases (la a 2 j).1 with
    | true=>rfl
    | false =>
     simp only [Bool.false_eq_true,if_false,cond_false,List.append_nil]
     rfl
   | some r =>
    have hr:=fd_sm hs hf
    simp only [Option.isSome_some,cond_true,m2 r hf,wS j (by omega)]
    simp only [f52,f53,Option.bind_some]
    rw [f44_mk _ _ _ _ (la_sm ha 2 j)]
    by_cases hb:la a 2 j = bf r
    ·have hb2:((la a 2 j).1,(la a 2 j).2) = (r.2.2.1,r.2.2.2.1):=hb
     have eb:decide (r.2.2.2.2.2.1.length≤zac) = true:=zaV hr.2
     simp only [hb2,decide_true,Option.bind_some,Bool.not_true,cond_false,f54,eb,cond_true,List.length_singleton,ea]
     rw [if_pos hb]
     show (bif r.2.2.2.2.1 then _ else _) = _
     simp only [Option.map_some,af]
     cases r.2.2.2.2.1 with
     | true=>rfl
     | false =>
      simp only [Bool.false_eq_true,if_false,cond_false,List.append_nil]
      rfl
    ·have hb2:((la a 2 j).1,(la a 2 j).2) ≠ (r.2.2.1,r.2.2.2.1):=hb
     simp only [hb2,decide_false,Option.bind_some,Bool.not_false,cond_true]
     rw [if_neg hb]
     rfl
  ·have e1:decide ((j:Int) < 24) = false:=by simp; omega
   simp only [e1,cond_false]
   exact (if_neg e).symm) (fun j acc acc' _ h1 h2=>by
    unfold zaR at h2
    cases hp:zaN (la a) d 2 j with
    | none=>simp [hp] at h2
    | some x =>
     simp only [hp,Sum.inl.injEq] at h2
     subst h2
     have:x.length≤1:=by
      unfold zaN at hp
      obtain ⟨m,_,rfl⟩:=Option.map_eq_some_iff.1 hp
      unfold cell
      split <;> simp
     rw [List.length_append]
     omega) 24 k 0 [] (by omega) (by omega) hk (by simp)
 rcases zbA (zaN (la a) d 2) (fun acc=>((.inl ((),((),(),(),()),((a.1,()),(),(),(z,()),d.map kv,p1,acc,()))):outDen f41_l4ao)) (fun acc=>((.inr ((),((),(),(),()),((),(z,()),p1,acc,()))):outDen f41_l4ao)) 24 0 [] with ⟨h1,h2⟩ | ⟨h1,acc,h2⟩
 ·exact .inl ⟨h1,h.trans (congrArg some h2)⟩
 ·exact .inr ⟨h1,acc,h.trans (congrArg some h2)⟩
theorem row3 (a:Ct) (ha:smC a) (d:List Rl) (hs:smD d) (z:Int) (p1:List Nm) (p2:List Nm) (k:Nat) (hk:24 < k) :
  (zbp (la a) d 3 = true∧f41_l4u a.1 z (d.map kv) p1 p2 k 0 [] = some ((fun acc:List Nm=>((.inl ((),((),(),(),()),((a.1,()),(),(),(z,()),d.map kv,p1,p2,acc,()))):outDen f41_l4uo)) (za7 (la a) d 3))) ∨
  (zbp (la a) d 3 = false∧∃ acc:List Nm,f41_l4u a.1 z (d.map kv) p1 p2 k 0 [] = some ((.inr ((),((),(),(),()),((),(z,()),p1,p2,acc,()))):outDen f41_l4uo)):=by
 have h:=zaM 24 (fun j (acc:List Nm)=>acc.length≤j) (zaR (zaN (la a) d 3) (fun acc=>((.inr ((),((),(),(),()),((),(z,()),p1,p2,acc,()))):outDen f41_l4uo))) (fun acc=>(.inl ((),((),(),(),()),((a.1,()),(),(),(z,()),d.map kv,p1,p2,acc,())))) (f41_l4u a.1 z (d.map kv) p1 p2) (by
  intro k j acc hj hacc
  conv=>lhs; unfold f41_l4u
  by_cases e:j < 24
  ·have e1:decide ((j:Int) < 24) = true:=by simp; omega
   have e3:f43 (a.1,()) [(3:Int),(j:Int)] = some (((la a 3 j).1,((la a 3 j).2,())),()):=f43_eq a ha 3 (by decide) j
   obtain ⟨m1,m2⟩:=zcE ((3:Int),(j:Int)) d
   have i0:inR (0:Int) 2 = true:=by decide
   have i1:inR (1:Int) 2 = true:=by decide
   have i2:inR (3:Int) 8 = true:=by decide
   simp only [e1,cond_true,e3,Option.bind_some,zaI,zat,i0,i1,i2,m1]
   refine Eq.trans ?_ (if_pos e).symm
   have ea:decide (acc.length + 1≤zac) = true:=zaV (by omega)
   unfold zaR zaN zfb cell
   cases hf:fd d ((3:Int),(j:Int)) with
   | none =>
    have eb:decide ((la a 3 j).2.length≤zac) = true:=zaV (la_sm ha _ _)
    simp only [Option.isSome_none,cond_false,Option.map_some,wS j (by omega),f54,eb,cond_true,Option.bind_some,List.length_singleton,ea]
    cases (la a 3 j).1 with
    | true=>rfl
    | false =>
     simp only [Bool.false_eq_true,if_false,cond_false,List.append_nil]
     rfl
   | some r =>
    have hr:=fd_sm hs hf
    simp only [Option.isSome_some,cond_true,m2 r hf,wS j (by omega)]
    simp only [f52,f53,Option.bind_some]
    rw [f44_mk _ _ _ _ (la_sm ha 3 j)]
    by_cases hb:la a 3 j = bf r
    ·have hb2:((la a 3 j).1,(la a 3 j).2) = (r.2.2.1,r.2.2.2.1):=hb
     have eb:decide (r.2.2.2.2.2.1.length≤zac) = true:=zaV hr.2
     simp only [hb2,decide_true,Option.bind_some,Bool.not_true,cond_false,f54,eb,cond_true,List.length_singleton,ea]
     rw [if_pos hb]
     show (bif r.2.2.2.2.1 then _ else _) = _
     simp only [Option.map_some,af]
     cases r.2.2.2.2.1 with
     | true=>rfl
     | false =>
      simp only [Bool.false_eq_true,if_false,cond_false,List.append_nil]
      rfl
    ·have hb2:((la a 3 j).1,(la a 3 j).2) ≠ (r.2.2.1,r.2.2.2.1):=hb
     simp only [hb2,decide_false,Option.bind_some,Bool.not_false,cond_true]
     rw [if_neg hb]
     rfl
  ·have e1:decide ((j:Int) < 24) = false:=by simp; omega
   simp only [e1,cond_false]
   exact (if_neg e).symm) (fun j acc acc' _ h1 h2=>by
    unfold zaR at h2
    cases hp:zaN (la a) d 3 j with
    | none=>simp [hp] at h2
    | some x =>
     simp only [hp,Sum.inl.injEq] at h2
     subst h2
     have:x.length≤1:=by
      unfold zaN at hp
      obtain ⟨m,_,rfl⟩:=Option.map_eq_some_iff.1 hp
      unfold cell
      split <;> simp
     rw [List.length_append]
     omega) 24 k 0 [] (by omega) (by omega) hk (by simp)
 rcases zbA (zaN (la a) d 3) (fun acc=>((.inl ((),((),(),(),()),((a.1,()),(),(),(z,()),d.map kv,p1,p2,acc,()))):outDen f41_l4uo)) (fun acc=>((.inr ((),((),(),(),()),((),(z,()),p1,p2,acc,()))):outDen f41_l4uo)) 24 0 [] with ⟨h1,h2⟩ | ⟨h1,acc,h2⟩
 ·exact .inl ⟨h1,h.trans (congrArg some h2)⟩
 ·exact .inr ⟨h1,acc,h.trans (congrArg some h2)⟩
theorem row4 (a:Ct) (ha:smC a) (d:List Rl) (hs:smD d) (z:Int) (p1:List Nm) (p2:List Nm) (p3:List Nm) (k:Nat) (hk:24 < k) :
  (zbp (la a) d 4 = true∧f41_l4v a.1 z (d.map kv) p1 p2 p3 k 0 [] = some ((fun acc:List Nm=>((.inl ((),((),(),(),()),((a.1,()),(),(),(z,()),d.map kv,p1,p2,p3,acc,()))):outDen f41_l4vo)) (za7 (la a) d 4))) ∨
  (zbp (la a) d 4 = false∧∃ acc:List Nm,f41_l4v a.1 z (d.map kv) p1 p2 p3 k 0 [] = some ((.inr ((),((),(),(),()),((),(z,()),p1,p2,p3,acc,()))):outDen f41_l4vo)):=by
 have h:=zaM 24 (fun j (acc:List Nm)=>acc.length≤j) (zaR (zaN (la a) d 4) (fun acc=>((.inr ((),((),(),(),()),((),(z,()),p1,p2,p3,acc,()))):outDen f41_l4vo))) (fun acc=>(.inl ((),((),(),(),()),((a.1,()),(),(),(z,()),d.map kv,p1,p2,p3,acc,())))) (f41_l4v a.1 z (d.map kv) p1 p2 p3) (by
  intro k j acc hj hacc
  conv=>lhs; unfold f41_l4v
  by_cases e:j < 24
  ·have e1:decide ((j:Int) < 24) = true:=by simp; omega
   have e3:f43 (a.1,()) [(4:Int),(j:Int)] = some (((la a 4 j).1,((la a 4 j).2,())),()):=f43_eq a ha 4 (by decide) j
   obtain ⟨m1,m2⟩:=zcE ((4:Int),(j:Int)) d
   have i0:inR (0:Int) 2 = true:=by decide
   have i1:inR (1:Int) 2 = true:=by decide
   have i2:inR (4:Int) 8 = true:=by decide
   simp only [e1,cond_true,e3,Option.bind_some,zaI,zat,i0,i1,i2,m1]
   refine Eq.trans ?_ (if_pos e).symm
   have ea:decide (acc.length + 1≤zac) = true:=zaV (by omega)
   unfold zaR zaN zfb cell
   cases hf:fd d ((4:Int),(j:Int)) with
   | none =>
    have eb:decide ((la a 4 j).2.length≤zac) = true:=zaV (la_sm ha _ _)
    simp only [Option.isSome_none,cond_false,Option.map_some,wS j (by omega),f54,eb,cond_true,Option.bind_some,List.length_singleton,ea]
    cases (la a 4 j).1 with
    | true=>rfl
    | false =>
     simp only [Bool.false_eq_true,if_false,cond_false,List.append_nil]
     rfl
   | some r =>
    have hr:=fd_sm hs hf
    simp only [Option.isSome_some,cond_true,m2 r hf,wS j (by omega)]
    simp only [f52,f53,Option.bind_some]
    rw [f44_mk _ _ _ _ (la_sm ha 4 j)]
    by_cases hb:la a 4 j = bf r
    ·have hb2:((la a 4 j).1,(la a 4 j).2) = (r.2.2.1,r.2.2.2.1):=hb
     have eb:decide (r.2.2.2.2.2.1.length≤zac) = true:=zaV hr.2
     simp only [hb2,decide_true,Option.bind_some,Bool.not_true,cond_false,f54,eb,cond_true,List.length_singleton,ea]
     rw [if_pos hb]
     show (bif r.2.2.2.2.1 then _ else _) = _
     simp only [Option.map_some,af]
     cases r.2.2.2.2.1 with
     | true=>rfl
     | false =>
      simp only [Bool.false_eq_true,if_false,cond_false,List.append_nil]
      rfl
    ·have hb2:((la a 4 j).1,(la a 4 j).2) ≠ (r.2.2.1,r.2.2.2.1):=hb
     simp only [hb2,decide_false,Option.bind_some,Bool.not_false,cond_true]
     rw [if_neg hb]
     rfl
  ·have e1:decide ((j:Int) < 24) = false:=by simp; omega
   simp only [e1,cond_false]
   exact (if_neg e).symm) (fun j acc acc' _ h1 h2=>by
    unfold zaR at h2
    cases hp:zaN (la a) d 4 j with
    | none=>simp [hp] at h2
    | some x =>
     simp only [hp,Sum.inl.injEq] at h2
     subst h2
     have:x.length≤1:=by
      unfold zaN at hp
      obtain ⟨m,_,rfl⟩:=Option.map_eq_some_iff.1 hp
      unfold cell
      split <;> simp
     rw [List.length_append]
     omega) 24 k 0 [] (by omega) (by omega) hk (by simp)
 rcases zbA (zaN (la a) d 4) (fun acc=>((.inl ((),((),(),(),()),((a.1,()),(),(),(z,()),d.map kv,p1,p2,p3,acc,()))):outDen f41_l4vo)) (fun acc=>((.inr ((),((),(),(),()),((),(z,()),p1,p2,p3,acc,()))):outDen f41_l4vo)) 24 0 [] with ⟨h1,h2⟩ | ⟨h1,acc,h2⟩
 ·exact .inl ⟨h1,h.trans (congrArg some h2)⟩
 ·exact .inr ⟨h1,acc,h.trans (congrArg some h2)⟩
theorem row5 (a:Ct) (ha:smC a) (d:List Rl) (hs:smD d) (z:Int) (p1:List Nm) (p2:List Nm) (p3:List Nm) (p4:List Nm) (k:Nat) (hk:24 < k) :
  (zbp (la a) d 5 = true∧f41_l4w a.1 z (d.map kv) p1 p2 p3 p4 k 0 [] = some ((fun acc:List Nm=>((.inl ((),((),(),(),()),((a.1,()),(),(),(z,()),d.map kv,p1,p2,p3,p4,acc,()))):outDen f41_l4wo)) (za7 (la a) d 5))) ∨
  (zbp (la a) d 5 = false∧∃ acc:List Nm,f41_l4w a.1 z (d.map kv) p1 p2 p3 p4 k 0 [] = some ((.inr ((),((),(),(),()),((),(z,()),p1,p2,p3,p4,acc,()))):outDen f41_l4wo)):=by
 have h:=zaM 24 (fun j (acc:List Nm)=>acc.length≤j) (zaR (zaN (la a) d 5) (fun acc=>((.inr ((),((),(),(),()),((),(z,()),p1,p2,p3,p4,acc,()))):outDen f41_l4wo))) (fun acc=>(.inl ((),((),(),(),()),((a.1,()),(),(),(z,()),d.map kv,p1,p2,p3,p4,acc,())))) (f41_l4w a.1 z (d.map kv) p1 p2 p3 p4) (by
  intro k j acc hj hacc
  conv=>lhs; unfold f41_l4w
  by_cases e:j < 24
  ·have e1:decide ((j:Int) < 24) = true:=by simp; omega
   have e3:f43 (a.1,()) [(5:Int),(j:Int)] = some (((la a 5 j).1,((la a 5 j).2,())),()):=f43_eq a ha 5 (by decide) j
   obtain ⟨m1,m2⟩:=zcE ((5:Int),(j:Int)) d
   have i0:inR (0:Int) 2 = true:=by decide
   have i1:inR (1:Int) 2 = true:=by decide
   have i2:inR (5:Int) 8 = true:=by decide
   simp only [e1,cond_true,e3,Option.bind_some,zaI,zat,i0,i1,i2,m1]
   refine Eq.trans ?_ (if_pos e).symm
   have ea:decide (acc.length + 1≤zac) = true:=zaV (by omega)
   unfold zaR zaN zfb cell
   cases hf:fd d ((5:Int),(j:Int)) with
   | none =>
    have eb:decide ((la a 5 j).2.length≤zac) = true:=zaV (la_sm ha _ _)
    simp only [Option.isSome_none,cond_false,Option.map_some,wS j (by omega),f54,eb,cond_true,Option.bind_some,List.length_singleton,ea]
    cases (la a 5 j).1 with
    | true=>rfl
    | false =>
     simp only [Bool.false_eq_true,if_false,cond_false,List.append_nil]
     rfl
   | some r =>
    have hr:=fd_sm hs hf
    simp only [Option.isSome_some,cond_true,m2 r hf,wS j (by omega)]
    simp only [f52,f53,Option.bind_some]
    rw [f44_mk _ _ _ _ (la_sm ha 5 j)]
    by_cases hb:la a 5 j = bf r
    ·have hb2:((la a 5 j).1,(la a 5 j).2) = (r.2.2.1,r.2.2.2.1):=hb
     have eb:decide (r.2.2.2.2.2.1.length≤zac) = true:=zaV hr.2
     simp only [hb2,decide_true,Option.bind_some,Bool.not_true,cond_false,f54,eb,cond_true,List.length_singleton,ea]
     rw [if_pos hb]
     show (bif r.2.2.2.2.1 then _ else _) = _
     simp only [Option.map_some,af]
     cases r.2.2.2.2.1 with
     | true=>rfl
     | false =>
      simp only [Bool.false_eq_true,if_false,cond_false,List.append_nil]
      rfl
    ·have hb2:((la a 5 j).1,(la a 5 j).2) ≠ (r.2.2.1,r.2.2.2.1):=hb
     simp only [hb2,decide_false,Option.bind_some,Bool.not_false,cond_true]
     rw [if_neg hb]
     rfl
  ·have e1:decide ((j:Int) < 24) = false:=by simp; omega
   simp only [e1,cond_false]
   exact (if_neg e).symm) (fun j acc acc' _ h1 h2=>by
    unfold zaR at h2
    cases hp:zaN (la a) d 5 j with
    | none=>simp [hp] at h2
    | some x =>
     simp only [hp,Sum.inl.injEq] at h2
     subst h2
     have:x.length≤1:=by
      unfold zaN at hp
      obtain ⟨m,_,rfl⟩:=Option.map_eq_some_iff.1 hp
      unfold cell
      split <;> simp
     rw [List.length_append]
     omega) 24 k 0 [] (by omega) (by omega) hk (by simp)
 rcases zbA (zaN (la a) d 5) (fun acc=>((.inl ((),((),(),(),()),((a.1,()),(),(),(z,()),d.map kv,p1,p2,p3,p4,acc,()))):outDen f41_l4wo)) (fun acc=>((.inr ((),((),(),(),()),((),(z,()),p1,p2,p3,p4,acc,()))):outDen f41_l4wo)) 24 0 [] with ⟨h1,h2⟩ | ⟨h1,acc,h2⟩
 ·exact .inl ⟨h1,h.trans (congrArg some h2)⟩
 ·exact .inr ⟨h1,acc,h.trans (congrArg some h2)⟩
theorem row6 (a:Ct) (ha:smC a) (d:List Rl) (hs:smD d) (z:Int) (p1:List Nm) (p2:List Nm) (p3:List Nm) (p4:List Nm) (p5:List Nm) (k:Nat) (hk:24 < k) :
  (zbp (la a) d 6 = true∧f41_l4z a.1 z (d.map kv) p1 p2 p3 p4 p5 k 0 [] = some ((fun acc:List Nm=>((.inl ((),((),(),(),()),((a.1,()),(),(),(z,()),d.map kv,p1,p2,p3,p4,p5,acc,()))):outDen f41_l4zo)) (za7 (la a) d 6))) ∨
  (zbp (la a) d 6 = false∧∃ acc:List Nm,f41_l4z a.1 z (d.map kv) p1 p2 p3 p4 p5 k 0 [] = some ((.inr ((),((),(),(),()),((),(z,()),p1,p2,p3,p4,p5,acc,()))):outDen f41_l4zo)):=by
 have h:=zaM 24 (fun j (acc:List Nm)=>acc.length≤j) (zaR (zaN (la a) d 6) (fun acc=>((.inr ((),((),(),(),()),((),(z,()),p1,p2,p3,p4,p5,acc,()))):outDen f41_l4zo))) (fun acc=>(.inl ((),((),(),(),()),((a.1,()),(),(),(z,()),d.map kv,p1,p2,p3,p4,p5,acc,())))) (f41_l4z a.1 z (d.map kv) p1 p2 p3 p4 p5) (by
  intro k j acc hj hacc
  conv=>lhs; unfold f41_l4z
  by_cases e:j < 24
  ·have e1:decide ((j:Int) < 24) = true:=by simp; omega
   have e3:f43 (a.1,()) [(6:Int),(j:Int)] = some (((la a 6 j).1,((la a 6 j).2,())),()):=f43_eq a ha 6 (by decide) j
   obtain ⟨m1,m2⟩:=zcE ((6:Int),(j:Int)) d
   have i0:inR (0:Int) 2 = true:=by decide
   have i1:inR (1:Int) 2 = true:=by decide
   have i2:inR (6:Int) 8 = true:=by decide
   simp only [e1,cond_true,e3,Option.bind_some,zaI,zat,i0,i1,i2,m1]
   refine Eq.trans ?_ (if_pos e).symm
   have ea:decide (acc.length + 1≤zac) = true:=zaV (by omega)
   unfold zaR zaN zfb cell
   cases hf:fd d ((6:Int),(j:Int)) with
   | none =>
    have eb:decide ((la a 6 j).2.length≤zac) = true:=zaV (la_sm ha _ _)
    simp only [Option.isSome_none,cond_false,Option.map_some,wS j (by omega),f54,eb,cond_true,Option.bind_some,List.length_singleton,ea]
    cases (la a 6 j).1 with
    | true=>rfl
    | false =>
     simp only [Bool.false_eq_true,if_false,cond_false,List.append_nil]
     rfl
   | some r =>
    have hr:=fd_sm hs hf
    simp only [Option.isSome_some,cond_true,m2 r hf,wS j (by omega)]
    simp only [f52,f53,Option.bind_some]
    rw [f44_mk _ _ _ _ (la_sm ha 6 j)]
    by_cases hb:la a 6 j = bf r
    ·have hb2:((la a 6 j).1,(la a 6 j).2) = (r.2.2.1,r.2.2.2.1):=hb
     have eb:decide (r.2.2.2.2.2.1.length≤zac) = true:=zaV hr.2
     simp only [hb2,decide_true,Option.bind_some,Bool.not_true,cond_false,f54,eb,cond_true,List.length_singleton,ea]
     rw [if_pos hb]
     show (bif r.2.2.2.2.1 then _ else _) = _
     simp only [Option.map_some,af]
     cases r.2.2.2.2.1 with
     | true=>rfl
     | false =>
      simp only [Bool.false_eq_true,if_false,cond_false,List.append_nil]
      rfl
    ·have hb2:((la a 6 j).1,(la a 6 j).2) ≠ (r.2.2.1,r.2.2.2.1):=hb
     simp only [hb2,decide_false,Option.bind_some,Bool.not_false,cond_true]
     rw [if_neg hb]
     rfl
  ·have e1:decide ((j:Int) < 24) = false:=by simp; omega
   simp only [e1,cond_false]
   exact (if_neg e).symm) (fun j acc acc' _ h1 h2=>by
    unfold zaR at h2
    cases hp:zaN (la a) d 6 j with
    | none=>simp [hp] at h2
    | some x =>
     simp only [hp,Sum.inl.injEq] at h2
     subst h2
     have:x.length≤1:=by
      unfold zaN at hp
      obtain ⟨m,_,rfl⟩:=Option.map_eq_some_iff.1 hp
      unfold cell
      split <;> simp
     rw [List.length_append]
     omega) 24 k 0 [] (by omega) (by omega) hk (by simp)
 rcases zbA (zaN (la a) d 6) (fun acc=>((.inl ((),((),(),(),()),((a.1,()),(),(),(z,()),d.map kv,p1,p2,p3,p4,p5,acc,()))):outDen f41_l4zo)) (fun acc=>((.inr ((),((),(),(),()),((),(z,()),p1,p2,p3,p4,p5,acc,()))):outDen f41_l4zo)) 24 0 [] with ⟨h1,h2⟩ | ⟨h1,acc,h2⟩
 ·exact .inl ⟨h1,h.trans (congrArg some h2)⟩
 ·exact .inr ⟨h1,acc,h.trans (congrArg some h2)⟩
theorem row7 (a:Ct) (ha:smC a) (d:List Rl) (hs:smD d) (z:Int) (p1:List Nm) (p2:List Nm) (p3:List Nm) (p4:List Nm) (p5:List Nm) (p6:List Nm) (k:Nat) (hk:24 < k) :
  (zbp (la a) d 7 = true∧f41_l4y a.1 z (d.map kv) p1 p2 p3 p4 p5 p6 k 0 [] = some ((fun acc:List Nm=>((.inl ((),((),(),(),()),((a.1,()),(),(),(z,()),d.map kv,p1,p2,p3,p4,p5,p6,acc,()))):outDen f41_l4yo)) (za7 (la a) d 7))) ∨
  (zbp (la a) d 7 = false∧∃ acc:List Nm,f41_l4y a.1 z (d.map kv) p1 p2 p3 p4 p5 p6 k 0 [] = some ((.inr ((),((),(),(),()),((),(z,()),p1,p2,p3,p4,p5,p6,acc,()))):outDen f41_l4yo)):=by
 have h:=zaM 24 (fun j (acc:List Nm)=>acc.length≤j) (zaR (zaN (la a) d 7) (fun acc=>((.inr ((),((),(),(),()),((),(z,()),p1,p2,p3,p4,p5,p6,acc,()))):outDen f41_l4yo))) (fun acc=>(.inl ((),((),(),(),()),((a.1,()),(),(),(z,()),d.map kv,p1,p2,p3,p4,p5,p6,acc,())))) (f41_l4y a.1 z (d.map kv) p1 p2 p3 p4 p5 p6) (by
  intro k j acc hj hacc
  conv=>lhs; unfold f41_l4y
  by_cases e:j < 24
  ·have e1:decide ((j:Int) < 24) = true:=by simp; omega
   have e3:f43 (a.1,()) [(7:Int),(j:Int)] = some (((la a 7 j).1,((la a 7 j).2,())),()):=f43_eq a ha 7 (by decide) j
   obtain ⟨m1,m2⟩:=zcE ((7:Int),(j:Int)) d
   have i0:inR (0:Int) 2 = true:=by decide
   have i1:inR (1:Int) 2 = true:=by decide
   have i2:inR (7:Int) 8 = true:=by decide
   simp only [e1,cond_true,e3,Option.bind_some,zaI,zat,i0,i1,i2,m1]
   refine Eq.trans ?_ (if_pos e).symm
   have ea:decide (acc.length + 1≤zac) = true:=zaV (by omega)
   unfold zaR zaN zfb cell
   cases hf:fd d ((7:Int),(j:Int)) with
   | none =>
    have eb:decide ((la a 7 j).2.length≤zac) = true:=zaV (la_sm ha _ _)
    simp only [Option.isSome_none,cond_false,Option.map_some,wS j (by omega),f54,eb,cond_true,Option.bind_some,List.length_singleton,ea]
    cases (la a 7 j).1 with
    | true=>rfl
    | false =>
     simp only [Bool.false_eq_true,if_false,cond_false,List.append_nil]
     rfl
   | some r =>
    have hr:=fd_sm hs hf
    simp only [Option.isSome_some,cond_true,m2 r hf,wS j (by omega)]
    simp only [f52,f53,Option.bind_some]
    rw [f44_mk _ _ _ _ (la_sm ha 7 j)]
    by_cases hb:la a 7 j = bf r
    ·have hb2:((la a 7 j).1,(la a 7 j).2) = (r.2.2.1,r.2.2.2.1):=hb
     have eb:decide (r.2.2.2.2.2.1.length≤zac) = true:=zaV hr.2
     simp only [hb2,decide_true,Option.bind_some,Bool.not_true,cond_false,f54,eb,cond_true,List.length_singleton,ea]
     rw [if_pos hb]
     show (bif r.2.2.2.2.1 then _ else _) = _
     simp only [Option.map_some,af]
     cases r.2.2.2.2.1 with
     | true=>rfl
     | false =>
      simp only [Bool.false_eq_true,if_false,cond_false,List.append_nil]
      rfl
    ·have hb2:((la a 7 j).1,(la a 7 j).2) ≠ (r.2.2.1,r.2.2.2.1):=hb
     simp only [hb2,decide_false,Option.bind_some,Bool.not_false,cond_true]
     rw [if_neg hb]
     rfl
  ·have e1:decide ((j:Int) < 24) = false:=by simp; omega
   simp only [e1,cond_false]
   exact (if_neg e).symm) (fun j acc acc' _ h1 h2=>by
    unfold zaR at h2
    cases hp:zaN (la a) d 7 j with
    | none=>simp [hp] at h2
    | some x =>
     simp only [hp,Sum.inl.injEq] at h2
     subst h2
     have:x.length≤1:=by
      unfold zaN at hp
      obtain ⟨m,_,rfl⟩:=Option.map_eq_some_iff.1 hp
      unfold cell
      split <;> simp
     rw [List.length_append]
     omega) 24 k 0 [] (by omega) (by omega) hk (by simp)
 rcases zbA (zaN (la a) d 7) (fun acc=>((.inl ((),((),(),(),()),((a.1,()),(),(),(z,()),d.map kv,p1,p2,p3,p4,p5,p6,acc,()))):outDen f41_l4yo)) (fun acc=>((.inr ((),((),(),(),()),((),(z,()),p1,p2,p3,p4,p5,p6,acc,()))):outDen f41_l4yo)) 24 0 [] with ⟨h1,h2⟩ | ⟨h1,acc,h2⟩
 ·exact .inl ⟨h1,h.trans (congrArg some h2)⟩
 ·exact .inr ⟨h1,acc,h.trans (congrArg some h2)⟩
theorem f14_eq (a:Ct) (ha:smC a) (d:List Rl) (hd:smD d) (h19:f19 (d,()) = some (validD d,())) (z0:(validD d = true→okD d)) :
  f14 a (d,()) = if zcQ a && validD d && kinds.all (fun k=>zbp (la a) d k) then some ((([] :: kinds.map (fun k=>za7 (la a) d k):List (List Nm)),()),(0:Int),()) else some ((([[],[],[],[],[],[],[],[]]:List (List Nm)),()),(160:Int),()):=by
 have hk:kinds.all (fun k=>zbp (la a) d k) = (zbp (la a) d 1 && (zbp (la a) d 2 && (zbp (la a) d 3 && (zbp (la a) d 4 && (zbp (la a) d 5 && (zbp (la a) d 6 && (zbp (la a) d 7 && true))))))):=rfl
 rw [hk]
 unfold f14
 refine zaa (f35_eq a ha) ?_
 cases h1:zcQ a with
 | false=>rfl
 | true =>
 simp only [cond_true,Bool.true_and]
 refine zaa h19 ?_
 cases h2:validD d with
 | false=>rfl
 | true =>
 simp only [Bool.not_true,cond_false,Bool.true_and]
 refine zaa (f49_l3_eq d (z0 h2) hd.1 a.1 0 _ (by omega)) ?_
 rcases row1 a ha d hd 0  (((24:Int) - 0).toNat + 1) (by decide) with ⟨e1,g1⟩ | ⟨e1,acc1,g1⟩
 case inr =>
  refine zaa g1 ?_
  simp only [e1,Bool.true_and,Bool.false_and]
  rfl
 refine zaa g1 ?_
 rcases row2 a ha d hd 0 (za7 (la a) d 1) (((24:Int) - 0).toNat + 1) (by decide) with ⟨e2,g2⟩ | ⟨e2,acc2,g2⟩
 case inr =>
  refine zaa g2 ?_
  simp only [e1,e2,Bool.true_and,Bool.false_and]
  rfl
 refine zaa g2 ?_
 rcases row3 a ha d hd 0 (za7 (la a) d 1) (za7 (la a) d 2) (((24:Int) - 0).toNat + 1) (by decide) with ⟨e3,g3⟩ | ⟨e3,acc3,g3⟩
 case inr =>
  refine zaa g3 ?_
  simp only [e1,e2,e3,Bool.true_and,Bool.false_and]
  rfl
 refine zaa g3 ?_
 rcases row4 a ha d hd 0 (za7 (la a) d 1) (za7 (la a) d 2) (za7 (la a) d 3) (((24:Int) - 0).toNat + 1) (by decide) with ⟨e4,g4⟩ | ⟨e4,acc4,g4⟩
 case inr =>
  refine zaa g4 ?_
  simp only [e1,e2,e3,e4,Bool.true_and,Bool.false_and]
  rfl
 refine zaa g4 ?_
 rcases row5 a ha d hd 0 (za7 (la a) d 1) (za7 (la a) d 2) (za7 (la a) d 3) (za7 (la a) d 4) (((24:Int) - 0).toNat + 1) (by decide) with ⟨e5,g5⟩ | ⟨e5,acc5,g5⟩
 case inr =>
  refine zaa g5 ?_
  simp only [e1,e2,e3,e4,e5,Bool.true_and,Bool.false_and]
  rfl
 refine zaa g5 ?_
 rcases row6 a ha d hd 0 (za7 (la a) d 1) (za7 (la a) d 2) (za7 (la a) d 3) (za7 (la a) d 4) (za7 (la a) d 5) (((24:Int) - 0).toNat + 1) (by decide) with ⟨e6,g6⟩ | ⟨e6,acc6,g6⟩
 case inr =>
  refine zaa g6 ?_
  simp only [e1,e2,e3,e4,e5,e6,Bool.true_and,Bool.false_and]
  rfl
 refine zaa g6 ?_
 rcases row7 a ha d hd 0 (za7 (la a) d 1) (za7 (la a) d 2) (za7 (la a) d 3) (za7 (la a) d 4) (za7 (la a) d 5) (za7 (la a) d 6) (((24:Int) - 0).toNat + 1) (by decide) with ⟨e7,g7⟩ | ⟨e7,acc7,g7⟩
 case inr =>
  refine zaa g7 ?_
  simp only [e1,e2,e3,e4,e5,e6,e7,Bool.true_and,Bool.false_and]
  rfl
 refine zaa g7 ?_
 simp only [e1,e2,e3,e4,e5,e6,e7,Bool.true_and]
 rfl
end Go.V.G
namespace Go.V.G
open Go.Proofs
open Go.V.K
instance dR1:DecidableEq (List Int × Unit):=inferInstance
instance dR2:DecidableEq (Bool × (List Int × Unit)):=inferInstance
instance dR3:DecidableEq (List Int × (Bool × (List Int × Unit))):=inferInstance
instance dR4:DecidableEq (Bool × (List Int × (Bool × (List Int × Unit)))):=inferInstance
instance dR5:DecidableEq (Int × (Bool × (List Int × (Bool × (List Int × Unit))))):=inferInstance
instance dR6:DecidableEq Rl:=inferInstance
instance dN1:DecidableEq Nm:=inferInstance
instance dN2:DecidableEq Ct:=inferInstance
def cmpI (a b:Int):Int:=if a < b then -1 else if a > b then 1 else 0
theorem f84_eq (a b:Int):f84 a b = some (cmpI a b,()):=by
 unfold f84 f99 cmpI
 simp only [ne_eq,not_true,decide_false,Option.bind_some,cond_false]
 by_cases h:a < b
 ·simp [h]
 ·by_cases h2:a > b <;> simp [h,h2]
theorem zga {a b:Int}:cmpI a b = 0 ↔ a = b:=by
 unfold cmpI
 constructor
 ·intro h
  split at h
  ·cases h
  ·split at h
   ·cases h
   ·omega
 ·rintro rfl
  simp
theorem zfq {a b:Int}:cmpI a b > 0 ↔ b < a:=by
 unfold cmpI
 constructor
 ·intro h
  split at h
  ·omega
  ·split at h
   ·omega
   ·omega
 ·intro h
  have:¬ a < b:=by omega
  simp [this,h]
theorem f57_eq (T:Int) (x1:List Rl) (x2 x3:Int) (x4 x5:List Int) (x6 x7:Bool) (p1 p2 r1 r2:Int) (b:List Rl) (hT:T = 2) (hne:¬ (p1 = r1∧p2 = r2)) :
  f57_l2x T x1 x2 x3 x4 x5 x6 x7 [p1,p2] [r1,r2] b 3 0 = some (.inr (((if p1 = r1 then cmpI p2 r2 else cmpI p1 r1),()),((x1,x2,x3,x4,x5,x6,x7,()),()),((b,()),([p1,p2],()),([r1,r2],()),()))):=by
 subst hT
 have e2:zah 2 none none = 2:=rfl
 have a0:at_ yI [p1,p2] (0 + 0) = p1:=rfl
 have a1:at_ yI [r1,r2] (0 + 0) = r1:=rfl
 have a2:at_ yI [p1,p2] (0 + 1) = p2:=rfl
 have a3:at_ yI [r1,r2] (0 + 1) = r2:=rfl
 have w1:IntKind.wrap .i64 (0 + 1) = 1:=by decide
 conv=>lhs; unfold f57_l2x
 simp only [e2,show decide ((0:Int) < 2) = true from rfl,show inR (0:Int) 2 = true from rfl,show decide ((0:Int) ≥ ((2:Nat):Int)) = false from rfl,cond_true,cond_false,a0,a1,f84_eq,Option.bind_some,w1]
 by_cases h1:p1 = r1
 ·have hz:cmpI p1 r1 = 0:=zga.2 h1
  simp only [hz,ne_eq,not_true,decide_false,cond_false]
  have h2:¬ p2 = r2:=fun h=>hne ⟨h1,h⟩
  have hz2:¬ cmpI p2 r2 = 0:=fun h=>h2 (zga.1 h)
  conv=>lhs; unfold f57_l2x
  simp only [e2,show decide ((1:Int) < 2) = true from rfl,show inR (1:Int) 2 = true from rfl,show decide ((1:Int) ≥ ((2:Nat):Int)) = false from rfl,cond_true,cond_false,a2,a3,f84_eq,Option.bind_some,hz2,ne_eq,not_false_eq_true,decide_true]
  simp [h1]
 ·have hz:¬ cmpI p1 r1 = 0:=fun h=>h1 (zga.1 h)
  simp only [hz,ne_eq,not_false_eq_true,decide_true,cond_true]
  simp [h1]
theorem f19_eq (d:List Rl) (h:smD d):f19 (d,()) = some (validD d,()):=by
 unfold f19
 have hl:=zb1 d.length (dOk d) (fun k j=>f19_l2 k d (d.length:Int) j d) (.inl ((),(),())) (.inr ((false,()),(),())) (by
  intro k j hj
  conv=>lhs; unfold f19_l2
  have h1:=h.1
  by_cases e:j < d.length
  ·simp only [Int.ofNat_lt,inRN,e,decide_true,cond_true,f56_eq _ (zkE h j e),Option.bind_some,zaI]
   refine Eq.trans ?_ (if_pos trivial).symm
   unfold dOk
   cases okRb (at_ tR d (j:Int)) with
   | false=>rfl
   | true =>
    simp only [Bool.not_true,cond_false,Bool.true_and]
    by_cases e3:j = 0
    ·subst e3
     rfl
    ·have e4:decide ((j:Int) > 0) = true:=by simp; omega
     simp only [e4,cond_true,wP j (by omega) (by omega),inRN,show j - 1 < d.length by omega,decide_true,e3,decide_false,Bool.false_or]
     generalize hx:at_ tR d ((j - 1:Nat):Int) = x
     generalize hy:at_ tR d (j:Int) = y
     by_cases e5:x.1 = y.1∧x.2.1 = y.2.1
     ·have e6:decide (([x.1,x.2.1]:List Int) = [y.1,y.2.1]) = true:=by simp [e5.1,e5.2]
      have e7:ltb x y = false:=by unfold ltb; simp [e5.1,e5.2]
      simp only [e6,cond_true,e7,zat,zaI]
      try rfl
     ·have e6:decide (([x.1,x.2.1]:List Int) = [y.1,y.2.1]) = false:=by
       rw [decide_eq_false_iff_not]
       intro e
       simp only [List.cons.injEq,and_true] at e
       exact e5 e
      simp only [e6,cond_false,zat,zaI]
      refine zaa (f57_eq _ _ _ _ _ _ _ _ _ _ _ _ _ rfl e5) ?_
      show (bif decide ((if x.1 = y.1 then cmpI x.2.1 y.2.1 else cmpI x.1 y.1) > 0) then some (.inr ((false,()),(),())) else f19_l2 k d (d.length:Int) (IntKind.wrap .i64 ((j:Int) + 1)) d) = _
      rw [wS j (by omega)]
      have e8:decide ((if x.1 = y.1 then cmpI x.2.1 y.2.1 else cmpI x.1 y.1) > 0) = !ltb x y:=by
       unfold ltb
       by_cases e9:x.1 = y.1
       ·rw [if_pos e9]
        have q0:¬ x.1 < y.1:=by rw [e9]; exact Int.lt_irrefl _
        have q1:¬ x.2.1 = y.2.1:=fun h=>e5 ⟨e9,h⟩
        simp only [q0,decide_false,e9,decide_true,Bool.true_and,Bool.false_or]
        by_cases q2:x.2.1 < y.2.1
        ·have:¬ cmpI x.2.1 y.2.1 > 0:=fun h=>absurd (zfq.1 h) (fun h3=>by have:=Int.lt_trans q2 h3; exact Int.lt_irrefl _ this)
         simp [q2,this]
        ·have:cmpI x.2.1 y.2.1 > 0:=zfq.2 (by rcases Int.lt_trichotomy x.2.1 y.2.1 with h | h | h <;> first | exact absurd h q2 | exact absurd h q1 | exact h)
         simp [q2,this]
       ·rw [if_neg e9]
        by_cases q2:x.1 < y.1
        ·have:¬ cmpI x.1 y.1 > 0:=fun h=>absurd (zfq.1 h) (fun h3=>by have:=Int.lt_trans q2 h3; exact Int.lt_irrefl _ this)
         simp [q2,this]
        ·have:cmpI x.1 y.1 > 0:=zfq.2 (by rcases Int.lt_trichotomy x.1 y.1 with h | h | h <;> first | exact absurd h q2 | exact absurd h e9 | exact h)
         simp [q2,this,e9]
      rw [e8]
      cases ltb x y <;> rfl
  ·simp only [Int.ofNat_lt,e,decide_false,cond_false]
   exact (if_neg not_false).symm) (((d.length:Int) - 0).toNat + 1) (by omega)
 refine zaa hl ?_
 show Sum.elim _ _ (if validD d = true then _ else _) = _
 cases validD d <;> rfl
theorem f17_eq (d:List Rl) (h:smD d):f17 (d,()) = if validD d then some ((d.map inv,()),(0:Int),()) else some (([],()),(160:Int),()):=by
 unfold f17
 refine zaa (f19_eq d h) ?_
 cases validD d with
 | false=>rfl
 | true =>
  simp only [Bool.not_true,cond_false,if_true]
  have hl:=zhQ d.length (fun j acc=>acc.length = j) (fun j=>[inv (at_ tR d (j:Int))]) (fun r=>(((),(),((),(),r,())):outDen f17_l5o)) (f17_l5 d (d.length:Int)) (by
   intro k j acc hj hacc
   conv=>lhs; unfold f17_l5
   have h1:=h.1
   by_cases e:j < d.length
   ·have hs:=zkE h j e
    have ea:decide (acc.length + 1≤zac) = true:=zaV (by omega)
    have eq:∀ r:Rl,smRl r→f45 [r.1,r.2.1] r.2.2.2.2 (r.2.2.1,(r.2.2.2.1,())) = some (inv r,()):=fun r hr=>f45_eq r.1 r.2.1 r.2.2.2.2.1 r.2.2.2.2.2.1 r.2.2.1 r.2.2.2.1 hr.2 hr.1
    simp only [Int.ofNat_lt,inRN,e,decide_true,cond_true,wS j (by omega),f50,f53,f52,Option.bind_some]
    refine Eq.trans ?_ (if_pos trivial).symm
    rw [eq _ hs]
    simp only [Option.bind_some,List.length_singleton,ea,cond_true]
    rfl
   ·simp only [Int.ofNat_lt,e,decide_false,cond_false]
    exact (if_neg not_false).symm) (fun j acc _ h=>by rw [List.length_append,h]; rfl) (((d.length:Int) - 0).toNat + 1) 0 [] (by omega) (by omega) rfl
  refine zaa hl ?_
  have e:[]++(List.range' 0 (d.length - 0)).flatMap (fun j:Nat=>[inv (at_ tR d (j:Int))]) = d.map inv:=znE (α:=Rl) tR d inv
  show some ((([]++(List.range' 0 (d.length - 0)).flatMap (fun j:Nat=>[inv (at_ tR d (j:Int))]):List Rl),()),(0:Int),()) = _
  rw [e]
theorem f13_eq (a b:List Rl) (ha:smD a):f13 (a,()) (b,()) = some (decide (a = b),()):=by
 unfold f13
 by_cases hl:a.length = b.length
 ·have e:decide ((a.length:Int) ≠ (b.length:Int)) = false:=by simp [hl]
  simp only [e,cond_false]
  have h:=zb1 a.length (fun j=>decide (at_ tR a j = at_ tR b j)) (f13_l4 a b) (.inl ((),(),())) (.inr ((false,()),(),())) (by
   intro k j hj
   conv=>lhs; unfold f13_l4
   have h1:=ha.1
   by_cases h:j < a.length
   ·have hs:=zkE ha j h
    simp only [Int.ofNat_lt,inRN,h,show j < b.length by omega,decide_true,cond_true,wS j (by omega)]
    refine Eq.trans ?_ (if_pos trivial).symm
    generalize at_ tR a (j:Int) = x at hs
    generalize at_ tR b (j:Int) = y
    obtain ⟨k1,i1,h1',o1,g1,n1,u1⟩:=x
    obtain ⟨k2,i2,h2',o2,g2,n2,u2⟩:=y
    have q1:=f26_eq o1 o2 hs.1
    have q2:=f26_eq n1 n2 hs.2
    simp only [q1,q2,Option.bind_some,Prod.mk.injEq]
    by_cases c1:k1 = k2
    ·by_cases c2:i1 = i2
     ·by_cases c3:h1' = h2'
      ·by_cases c4:g1 = g2
       ·by_cases c5:o1 = o2
        ·by_cases c6:n1 = n2
         ·simp [c1,c2,c3,c4,c5,c6]
         ·simp [c1,c2,c3,c4,c5,c6]
        ·simp [c1,c2,c3,c4,c5]
       ·simp [c1,c2,c3,c4]
      ·simp [c1,c2,c3]
     ·simp [c1,c2]
    ·simp [c1]
   ·simp only [Int.ofNat_lt,h,decide_false,cond_false]
    exact (if_neg not_false).symm) (((a.length:Int) - 0).toNat + 1) (by omega)
  refine zaa h ?_
  rw [all_range_eq a b hl _ (fun j h1=>by rw [atN tR _ _ h1,atN tR _ _ (hl ▸ h1)])]
  by_cases e:a = b <;> simp [e]
 ·have e:decide ((a.length:Int) ≠ (b.length:Int)) = true:=by simp; omega
  simp only [e,cond_true]
  have:¬ a = b:=fun h=>hl (by rw [h])
  simp [this]
theorem f55_eq (a b:List Nm) (ha:smR a):f55 a b = some (decide (a = b),()):=by
 unfold f55
 by_cases hl:a.length = b.length
 ·have e:decide ((a.length:Int) ≠ (b.length:Int)) = false:=by simp [hl]
  simp only [e,cond_false]
  have h:=zb1 a.length (fun j=>decide (at_ tN a j = at_ tN b j)) (f55_l4 a b) (.inl ((),(),())) (.inr ((false,()),(),())) (by
   intro k j hj
   conv=>lhs; unfold f55_l4
   have h1:=ha.1
   by_cases h:j < a.length
   ·have hs:=zmC ha j h
    simp only [Int.ofNat_lt,inRN,h,show j < b.length by omega,decide_true,cond_true,wS j (by omega)]
    refine Eq.trans ?_ (if_pos trivial).symm
    generalize at_ tN a (j:Int) = x at hs
    generalize at_ tN b (j:Int) = y
    obtain ⟨k1,o1,u1⟩:=x
    obtain ⟨k2,o2,u2⟩:=y
    have q1:=f26_eq o1 o2 hs
    simp only [q1,Option.bind_some,Prod.mk.injEq]
    by_cases c1:k1 = k2
    ·by_cases c2:o1 = o2
     ·simp [c1,c2]
     ·simp [c1,c2]
    ·simp [c1]
   ·simp only [Int.ofNat_lt,h,decide_false,cond_false]
    exact (if_neg not_false).symm) (((a.length:Int) - 0).toNat + 1) (by omega)
  refine zaa h ?_
  rw [all_range_eq a b hl _ (fun j h1=>by rw [atN tN _ _ h1,atN tN _ _ (hl ▸ h1)])]
  by_cases e:a = b <;> simp [e]
 ·have e:decide ((a.length:Int) ≠ (b.length:Int)) = true:=by simp; omega
  simp only [e,cond_true]
  have:¬ a = b:=fun h=>hl (by rw [h])
  simp [this]
theorem zpm {a b:Ct} (ha:a.1.length = 8) (hb:b.1.length = 8):(List.range 8).all (fun j=>decide (a.1.getD j [] = b.1.getD j [])) = decide (a = b):=by
 rw [Bool.eq_iff_iff,List.all_eq_true,decide_eq_true_eq]
 constructor
 ·intro h
  refine Prod.ext (List.ext_getElem (by omega) fun i h1 h2=>?_) rfl
  have:=h i (List.mem_range.2 (by omega))
  rw [decide_eq_true_eq,List.getD_eq_getElem?_getD,List.getD_eq_getElem?_getD,List.getElem?_eq_getElem h1,List.getElem?_eq_getElem h2] at this
  exact this
 ·rintro rfl j _
  simp
theorem f16_eq (a b:Ct) (ha:smC a) (hb:b.1.length = 8):f16 a b = some (decide (a = b),()):=by
 unfold f16
 have h:=zb1 8 (fun j=>decide (a.1.getD j [] = b.1.getD j [])) (f16_l2 a.1 b.1) (.inl ((),(),())) (.inr ((false,()),(),())) (by
  intro k j hj
  conv=>lhs; unfold f16_l2
  by_cases e:j < 8
  ·have e1:decide ((j:Int) < 8) = true:=by simp; omega
   simp only [e1,cond_true,inRN,e,decide_true,zf8 ha.1 j e,zf8 hb j e,f55_eq _ _ (zkB ha j),Option.bind_some,wS j (by omega)]
   refine Eq.trans ?_ (if_pos trivial).symm
   cases decide (a.1.getD j [] = b.1.getD j []) <;> rfl
  ·have e1:decide ((j:Int) < 8) = false:=by simp; omega
   simp only [e1,cond_false]
   exact (if_neg e).symm) (((8:Int) - 0).toNat + 1) (by decide)
 refine zaa h ?_
 rw [zpm ha.1 hb]
 cases decide (a = b) <;> rfl
end Go.V.G
namespace Go.V.G
open Go.Proofs
open Go.V.K
def putL (id:Int) (next:List Int):List Nm→Bool→List Nm × Bool
 | [],d=>([],d)
 | n :: l,d =>
  if id < n.1∧d = false then ((id,next,()) :: (if n.1 = id then (putL id next l true).1 else n :: (putL id next l true).1),(putL id next l true).2)
  else (if n.1 = id then (putL id next l d).1 else n :: (putL id next l d).1,(putL id next l d).2)
theorem zmH (id:Int) (next:List Int):∀ (l:List Nm) (d:Bool),(putL id next l d).1++(if (putL id next l d).2 then [] else [(id,next,())]) = putS id next l d
 | [],d=>by cases d <;> rfl
 | n :: l,d=>by
  simp only [putL,putS]
  split
  ·rw [← zmH id next l true]
   split <;> simp
  ·rw [← zmH id next l d]
   split <;> simp
theorem f38_loop (l:List Nm) (hs:smR l) (id:Int) (next:List Int) (hn:next.length≤1000000):∀ (m j k:Nat) (d:Bool) (acc:List Nm),j + m = l.length→m < k→acc.length≤2 * j →
  f38_l4 l id next k d (j:Int) acc = some ((id,next,(putL id next (l.drop j) d).2,()),(),(acc++(putL id next (l.drop j) d).1,())):=by
 intro m
 have h0:=hs.1
 induction m with
 | zero =>
  intro j k d acc h1 h2 h3
  obtain ⟨k,rfl⟩:∃ q,k = q + 1:=⟨k - 1,by omega⟩
  conv=>lhs; unfold f38_l4
  rw [List.drop_of_length_le (by omega)]
  have e:¬ j < l.length:=by omega
  simp only [Int.ofNat_lt,e,decide_false,cond_false,putL,List.append_nil]
  try rfl
 | succ m ih =>
  intro j k d acc h1 h2 h3
  obtain ⟨k,rfl⟩:∃ q,k = q + 1:=⟨k - 1,by omega⟩
  have e:j < l.length:=by omega
  have hx:=zmC hs j e
  conv=>lhs; unfold f38_l4
  rw [List.drop_eq_getElem_cons e,← atN tN l j e]
  simp only [Int.ofNat_lt,inRN,e,decide_true,cond_true,wS j (by omega)]
  generalize at_ tN l (j:Int) = x at hx
  obtain ⟨i,o,u⟩:=x
  have q1:decide (o.length≤zac) = true:=zaV hx
  have q2:decide (next.length≤zac) = true:=zaV hn
  have q3:decide (acc.length + 1≤zac) = true:=zT (show _≤1073741824 by omega)
  have q4:decide (acc.length + 1 + 1≤zac) = true:=zT (show _≤1073741824 by omega)
  simp only [q1,q2,q3,q4,cond_true,List.length_singleton,List.length_append,putL]
  by_cases c1:id < i
  ·have c2:¬ i = id:=fun h=>by rw [h] at c1; exact Int.lt_irrefl _ c1
   have g1:decide (i > id) = true:=zT c1
   have g2:decide (i ≠ id) = true:=zT c2
   cases d with
   | false =>
    simp only [g1,g2,cond_true,Bool.not_false,c1,c2,and_self,if_true,if_false]
    rw [ih (j + 1) k true _ (by omega) (by omega) (by simp; omega)]
    try simp
    try rfl
   | true =>
    simp only [g1,g2,cond_true,Bool.not_true,cond_false,c1,c2,Bool.true_eq_false,and_false,if_false]
    rw [ih (j + 1) k true _ (by omega) (by omega) (by simp; omega)]
    try simp
    try rfl
  ·have g1:decide (i > id) = false:=zF c1
   simp only [g1,cond_false,c1,false_and,if_false]
   by_cases c2:i = id
   ·subst c2
    have g2:decide (i ≠ i) = false:=by simp
    simp only [g2,cond_false,if_true]
    rw [ih (j + 1) k d _ (by omega) (by omega) (by omega)]
    try rfl
   ·have g2:decide (i ≠ id) = true:=zT c2
    simp only [g2,cond_true,c2,if_false]
    rw [ih (j + 1) k d _ (by omega) (by omega) (by simp; omega)]
    try simp
    try rfl
theorem zhR (id:Int) (next:List Int):∀ (l:List Nm) (d:Bool),(putL id next l d).1.length≤2 * l.length
 | [],d=>by simp [putL]
 | n :: l,d=>by
  simp only [putL]
  have h1:=zhR id next l true
  have h2:=zhR id next l d
  split
  ·split <;> simp only [List.length_cons] <;> omega
  ·split <;> simp only [List.length_cons] <;> omega
theorem f38_eq (l:List Nm) (hs:smR l) (id:Int) (has:Bool) (next:List Int) (hn:next.length≤1000000):f38 l id has next = some (putS id next l (!has),()):=by
 unfold f38
 have h0:=hs.1
 have h:=f38_loop l hs id next hn l.length 0 (((l.length:Int) - 0).toNat + 1) (!has) [] (by omega) (by omega) (by simp)
 refine zaa h ?_
 rw [List.drop_zero,List.nil_append,← zmH]
 have hl:=zhR id next l (!has)
 have q2:decide (next.length≤zac) = true:=zaV hn
 have q3:decide ((putL id next l (!has)).1.length + 1≤zac) = true:=zT (show _≤1073741824 by omega)
 cases e:(putL id next l (!has)).2 with
 | true=>simp
 | false=>simp only [Bool.not_false,cond_true,q2,List.length_singleton,q3,Bool.false_eq_true,if_false]
theorem zmI {l:List Nm} (h:okRow l):l.length≤24:=by
 rw [← zpj h]
 exact zmE _
theorem zkG {l:List Nm} (h:okRow l):smR l:=⟨by have:=zmI h; omega,fun n hn=>by have:=(h.1 n hn).2.1; omega⟩
theorem zn6 {c:Ct} (h:okC c):smC c:=by
 refine ⟨h.1,fun l hl=>?_⟩
 obtain ⟨i,hi,rfl⟩:=List.mem_iff_getElem.1 hl
 have h1:=h.1
 have e:c.1[i] = c.1.getD i []:=by rw [List.getD_eq_getElem?_getD,List.getElem?_eq_getElem hi]; rfl
 rw [e]
 by_cases h0:i = 0
 ·subst h0
  rw [h.2.1]
  exact ⟨by simp,by simp⟩
 ·have:=h.2.2 (i:Int) (zcP.2 (by omega))
  rw [Int.toNat_natCast] at this
  exact zkG this
def i64 (x:Int):Prop:=-9223372036854775808≤x∧x≤9223372036854775807
theorem f37_eq {c:Int} (hc:i64 c) {n:Int} (hn:0 < n):∃ v,f37 c n = some (v,())∧0≤v∧v < n:=by
 obtain ⟨h1,h2⟩:=hc
 have hne:decide (n ≠ 0) = true:=by simp; omega
 unfold f37
 by_cases e:c < 0
 ·have e1:IntKind.wrap .i64 (c + 1) = c + 1:=wrap_i64 _ (by omega) (by omega)
  have e2:IntKind.wrap .i64 (0 - (c + 1)) = 0 - (c + 1):=wrap_i64 _ (by omega) (by omega)
  refine ⟨Int.tmod (0 - (c + 1)) n,?_,Int.tmod_nonneg _ (by omega),?_⟩
  ·simp only [e,decide_true,cond_true,e1,e2,hne]
   try rfl
  ·exact Int.tmod_lt_of_pos _ hn
 ·refine ⟨Int.tmod c n,?_,Int.tmod_nonneg _ (by omega),Int.tmod_lt_of_pos _ hn⟩
  simp only [e,decide_false,cond_false,hne,cond_true]
  try rfl
theorem znF (x:Int):i64 (IntKind.wrap .i64 x):=by
 unfold i64
 simp only [IntKind.wrap,IntKind.bits,IntKind.signed]
 have:=Int.emod_nonneg x (show (2:Int) ^ 64 ≠ 0 by decide)
 have:=Int.emod_lt_of_pos x (show (0:Int) < 2 ^ 64 by decide)
 simp only [Bool.true_and,decide_eq_true_eq,show (2:Int) ^ 64 = 18446744073709551616 from rfl,show (2:Int) ^ (64 - 1) = 9223372036854775808 from rfl] at *
 split <;> omega
def iRows (x:List (List Int)):Prop:=∀ r∈x,∀ v∈r,i64 v
theorem iAt {x:List (List Int)} (h:iRows x) (i j:Int):i64 (at_ yI (at_ (.arr 4 yI) x i) j):=by
 have h0:i64 0:=by unfold i64; omega
 have hr:∀ v∈(at_ (.arr 4 yI) x i:List Int),i64 v:=by
  unfold at_
  rw [List.getD_eq_getElem?_getD]
  cases e:x[i.toNat]? with
  | none =>
   intro v hv
   have:v∈List.replicate 4 (0:Int):=hv
   rw [(List.mem_replicate.1 this).2]
   exact h0
  | some r=>exact h r (List.mem_of_getElem? e)
 generalize (at_ (.arr 4 yI) x i:List Int) = r at hr ⊢
 unfold at_
 rw [List.getD_eq_getElem?_getD]
 cases e:r[j.toNat]? with
 | none=>exact h0
 | some v=>exact hr v (List.mem_of_getElem? e)
theorem f8_l7_eq (x:List (List Int)) (hx:iRows x) (i:Nat) (hi:i < x.length) (b2 b3:List (List Nm)):∀ (m j k:Nat) (acc:List Int),j + m = 4→m < k→acc.length = j→(∀ v∈acc,-1≤v∧v≤3) →
  ∃ l,f8_l7 x (i:Int) b2 b3 k (j:Int) acc = some ((x,((i:Int),(l,()))),(),((b2,()),(b3,()),()))∧okL l:=by
 intro m
 have fin:∀ (acc:List Int),acc.length≤4→(∀ v∈acc,-1≤v∧v≤3)→okL acc:=fun acc h1 h2=>⟨by omega,fun n hn=>by have:=h2 n hn; omega⟩
 obtain ⟨y2,hy2,hy3,hy4⟩:=f37_eq (iAt hx (i:Int) 2) (n:=4) (by omega)
 have i2:inR (2:Int) 4 = true:=by decide
 have i3:inR (3:Int) 4 = true:=by decide
 induction m with
 | zero =>
  intro j k acc h1 h2 h3 h4
  obtain ⟨k,rfl⟩:∃ q,k = q + 1:=⟨k - 1,by omega⟩
  refine ⟨acc,?_,fin acc (by omega) h4⟩
  conv=>lhs; unfold f8_l7
  have e:¬ (j:Int) < y2:=by omega
  simp only [inRN,hi,decide_true,cond_true,i2,hy2,Option.bind_some,e,decide_false,cond_false]
  try rfl
 | succ m ih =>
  intro j k acc h1 h2 h3 h4
  obtain ⟨k,rfl⟩:∃ q,k = q + 1:=⟨k - 1,by omega⟩
  conv=>arg 1; ext r; lhs; lhs; unfold f8_l7
  simp only [inRN,hi,decide_true,cond_true,i2,hy2,Option.bind_some]
  by_cases e:(j:Int) < y2
  ·have ew:IntKind.wrap .i64 ((1:Int) + (j:Int)) = ((j + 1:Nat):Int):=by rw [wrap_i64 _ (by omega) (by omega)]; omega
   have ene:decide (((j + 1:Nat):Int) ≠ 0) = true:=by simp; omega
   obtain ⟨y5,hy5,hy6,hy7⟩:=f37_eq (znF (Int.tdiv (at_ yI (at_ (.arr 4 yI) x (i:Int)) 3) ((j + 1:Nat):Int))) (n:=5) (by omega)
   have ea:decide (acc.length + 1≤zac) = true:=zaV (by omega)
   have ew2:IntKind.wrap .i64 (y5 - 1) = y5 - 1:=wrap_i64 _ (by omega) (by omega)
   simp only [e,decide_true,cond_true,i3,ew,ene,hy5,Option.bind_some,List.length_singleton,ea,wS j (by omega),ew2]
   refine ih (j + 1) k _ (by omega) (by omega) (by simp [h3]) ?_
   intro v hv
   rcases List.mem_append.1 hv with hv | hv
   ·exact h4 v hv
   ·rw [List.mem_singleton] at hv
    omega
  ·refine ⟨acc,?_,fin acc (by omega) h4⟩
   simp only [e,decide_false,cond_false]
   try rfl
theorem zoN {b:List (List Nm)} (h:okC (b,())) {q:Nat} (h1:1≤q) (h2:q≤7) {l:List Nm} (hl:okRow l):okC (b.set q l,()):=by
 obtain ⟨k1,k2,k3⟩:=h
 simp only at k1 k2 k3
 refine ⟨by simpa using k1,?_,fun k hk=>?_⟩
 ·simp only [List.getD_eq_getElem?_getD] at k2 ⊢
  rw [List.getElem?_set_ne (by omega)]
  exact k2
 ·have hk':=zcP.1 hk
  simp only [List.getD_eq_getElem?_getD]
  by_cases e:q = k.toNat
  ·rw [← e,List.getElem?_set_self (by omega)]
   exact hl
  ·rw [List.getElem?_set_ne e]
   have:=k3 k hk
   rw [List.getD_eq_getElem?_getD] at this
   exact this
theorem f8_l3_eq (x:List (List Int)) (hx:iRows x) (b2:List (List Nm)):∀ (m j k:Nat) (b:List (List Nm)),j + m = 20→j≤x.length→x.length < k + j→okC (b,()) →
  ∃ c,f8_l3 k x (j:Int) b2 b = some ((),(),((b2,()),(c,()),()))∧okC (c,()):=by
 intro m
 induction m with
 | zero =>
  intro j k b h1 h2 h3 h4
  obtain ⟨k,rfl⟩:∃ q,k = q + 1:=⟨k - 1,by omega⟩
  refine ⟨b,?_,h4⟩
  conv=>lhs; unfold f8_l3
  have e6:decide ((j:Int) < 20) = false:=by simp; omega
  by_cases e:j < x.length
  ·simp only [Int.ofNat_lt,e,decide_true,cond_true,e6,cond_false]
   try rfl
  ·simp only [Int.ofNat_lt,e,decide_false,cond_false]
   try rfl
 | succ m ih =>
  intro j k b h1 h2 h3 h4
  obtain ⟨k,rfl⟩:∃ q,k = q + 1:=⟨k - 1,by omega⟩
  conv=>arg 1; ext r; lhs; lhs; unfold f8_l3
  have e6:decide ((j:Int) < 20) = true:=by simp; omega
  by_cases e:j < x.length
  ·obtain ⟨l,g1,g2⟩:=f8_l7_eq x hx j e b2 b 4 0 5 [] rfl (by omega) rfl (by simp)
   obtain ⟨y13,p1,p2,p3⟩:=f37_eq (iAt hx (j:Int) 0) (n:=7) (by omega)
   obtain ⟨y16,r1,r2,r3⟩:=f37_eq (iAt hx (j:Int) 1) (n:=6) (by omega)
   obtain ⟨q,rfl⟩:∃ q:Nat,y13 = (q:Int):=⟨y13.toNat,by omega⟩
   have ew:IntKind.wrap .i64 ((1:Int) + (q:Int)) = ((q + 1:Nat):Int):=by rw [wrap_i64 _ (by omega) (by omega)]; omega
   have hrow:okRow (b.getD (q + 1) []):=by
    have:=h4.2.2 ((q + 1:Nat):Int) (zcP.2 (by omega))
    rw [Int.toNat_natCast] at this
    exact this
   have e38:=f38_eq _ (zkG hrow) y16 true l (by have:=g2.1; omega)
   have ei:inR ((q + 1:Nat):Int) 8 = true:=by rw [inRN]; simp; omega
   have er:at_ (.sl tN) b ((q + 1:Nat):Int) = b.getD (q + 1) []:=zf8 (c:=(b,())) h4.1 (q + 1) (by omega)
   have h20:=zoN h4 (q:=q + 1) (by omega) (by omega) (zmx hrow (id:=y16) (zf5.2 (by omega)) g2 (!true))
   obtain ⟨c,c1,c2⟩:=ih (j + 1) k _ (by omega) (by omega) (by omega) h20
   refine ⟨c,?_,c2⟩
   simp only [Int.ofNat_lt,e,decide_true,cond_true,e6]
   refine zaa g1 ?_
   show (bif inR (j:Int) x.length then _ else none) = _
   simp only [inRN,e,decide_true,cond_true,show inR (0:Int) 4 = true from by decide,show inR (1:Int) 4 = true from by decide]
   refine zaa p1 ?_
   show (bif inR (IntKind.wrap .i64 ((1:Int) + (q:Int))) 8 then _ else none) = _
   simp only [ew,ei,cond_true,er]
   refine zaa r1 ?_
   refine zaa e38 ?_
   show f8_l3 k x (IntKind.wrap .i64 ((j:Int) + 1)) b2 (b.set (Int.toNat ((q + 1:Nat):Int)) _) = _
   rw [wS j (by omega),Int.toNat_natCast]
   exact c1
  ·refine ⟨b,?_,h4⟩
   simp only [Int.ofNat_lt,e,decide_false,cond_false]
   try rfl
theorem zoO:okC (List.replicate 8 [],()):=by
 refine ⟨rfl,rfl,fun k hk=>?_⟩
 have:(List.replicate 8 ([]:List Nm)).getD k.toNat [] = []:=by
  rw [List.getD_eq_getElem?_getD,List.getElem?_replicate]
  split <;> rfl
 rw [this]
 exact ⟨by simp,by simp⟩
theorem f8_eq (x:List (List Int)) (hx:iRows x):∃ c,f8 x = some (c,())∧okC c:=by
 obtain ⟨c,h1,h2⟩:=f8_l3_eq x hx (List.replicate 8 []) 20 0 (((x.length:Int) - 0).toNat + 1) (List.replicate 8 []) rfl (Nat.zero_le _) (by omega) zoO
 refine ⟨(c,()),?_,h2⟩
 unfold f8
 exact zaa h1 rfl
end Go.V.G
