/- Part KQ3 of a claim's texts, joined: what the claim needs of them. -/
import Derived.Test.YtkjokjogdehonaaGreatDoorKQ0
set_option linter.unusedSimpArgs false
set_option linter.unusedVariables false
namespace Go.Proofs.YtkjokjogdehonaaGreatDoor.Am.Q
open Go Go.Proofs Go.Proofs.YtkjokjogdehonaaGreatDoor.Am
def q134hr0 := rg [oN (.alloc 27 [zi, zs, .nilSl, .nilSl]), oN (.alloc 41 [zi, zi])] [(1, L1), (2, L0)]
def q134br0 := rg [om V0, oc 214 [L0, (ci 0)], os 4 V1 L0] []
def q134br1 := rg [om V0, oN (.nilck L0), of 0 L0, oc 215 [L0]] []
def q134br2 := rd [om V0, oN (.nilck L0), of 0 L0, of 1 L0, ol L0, om V0, oN (.nilck L0), of 0 L0, of 0 L0, ol L0, on .str L0, ob .lss L6 L0] [(3, L0)] [] [] [[], [0], [0, 1], [1, 0, 2], [2, 0, 1, 3], [], [5], [5, 6], [6, 5, 7], [7, 5, 6, 8], [8, 6, 5, 7, 9], [9, 7, 5, 6, 8, 10, 3, 1, 0, 2, 4]]
def q134br3 := rd [om V0, oN (.nilck L0), of 0 L0, om V0, oN (.nilck L0), of 0 L0, of 1 L0, ol L0, oc 216 [L5, (ci 3), L0]] [(0, cU)] [] [8] [[], [0], [0, 1], [], [3], [3, 4], [4, 3, 5], [5, 3, 4, 6], [6, 4, 3, 5, 7, 1, 0, 2]]
def q134br4 := rd [oa 4 V1, oa 2 V2, os 4 V1 L1, os 2 V2 L1] [] [(1, 2)] [2, 3] [[], [], [0], [0, 2, 1]]
def q134gr0 := rg [om V2, oN (.eq true (.leaf .ifaceE) L0 (.cst .nilIface))] [(5, L0)]
def q134gr1 := rg [om V2, oN (.tassert 275 (.agg [zi, zi]) true L0), om L0, ox 0 L0, ox 1 L1, oN (.alloc 275 [zi, zi]), os 2 L0 L2, om L2] [(3, L2), (4, L0)]
def q134gr2 := rg [om V4, oN (.not L0)] [(4, cU), (6, L0)]
def q134gr3 := rg [om V2, oN (.panic L0)] [(2, cU)]
def q134gr4 := rd [oN (.build [zi, zs, .nilSl, .nilSl] []), of 0 V3, oa 2 L0, os 4 V0 L2, os 2 V1 L1] [(0, cU), (1, cU), (3, cU)] [(2, 3)] [3, 4] [[], [], [1], [0], [0, 3, 1, 2]]
def q134 : ADfr := { nparams := 1, slots := [0, 2, 3, 22], results := [.cell 1 true 4, .cell 2 true 2], head := (rr q134hr0), caps := [1, 2], rest := (sq (rr q134br0) (sq (rr q134br1) (sq (sq (rr q134br2) (.cond V3 (rr q134br3) .skip)) (sq (rr q134br4) .ret)))), g := 213, gslots := [0, 1, 2, 3, 4, 7, 14], gx := 2, grest := (sq (rr q134gr0) (.cond V5 (sq (rr q134gr1) (sq (sq (rr q134gr2) (.cond V6 (rr q134gr3) .skip)) (rr q134gr4))) .skip)) }
theorem q134ok : dfrOk Tryz.prog xfT gT Tryz.f134 Tryz.f213 q134 = true := by kernel_rfl
theorem q134at : Tryz.prog.funcs[134]? = some Tryz.f134 := by kernel_rfl
theorem q134cl : Tryz.prog.funcs[213]? = some Tryz.f213 := by kernel_rfl
def q135r0 := rg [oN (.box 27 V1)] [(1, cU), (2, L0)]
def q135r1 := rg [om (cs [91, 93])] [(3, L0)]
def q135r2 := rg [of 0 V2, ol L0] [(6, L0)]
def q135r3 := rg [ob .eql V6 (ci 1), om L0] [(7, L0)]
def q135r4 := rg [om V0, oc 141 [L0, (cs [110, 117, 108, 108])]] [(0, cU)]
def q135r5 := rg [ob .eql V6 (ci 2), om L0] [(8, L0)]
def q135r6 := rg [ob .eql V6 (ci 3), om L0] [(8, L0)]
def q135r7 := rg [om V0, of 1 V2, ol L0, oc 141 [L2, L0]] [(0, cU), (2, cU)]
def q135r8 := rg [ob .eql V6 (ci 4), om L0] [(9, L0)]
def q135r9 := rg [om V0, of 1 V2, ol L0, oc 62 [L0], oc 141 [L3, L0]] [(0, cU), (2, cU)]
def q135r10 := rg [ob .eql V6 (ci 6), om L0] [(6, cU), (10, L0)]
def q135r11 := rg [om (cs [123, 125])] [(3, L0)]
def q135r12 := rg [om V0, om V3, oN (.idxS L0 (ci 0)), oc 139 [L2, L0]] []
def q135r13 := rg [of 3 V2, ol L0, on .sli L0, om (ci 0)] [(11, L2), (12, L1), (13, L0)]
def q135r14 := rg [ob .lss V13 V12] [(14, L0)]
def q135r15 := rg [om V13, oN (.idxAddr 4 V11 V13), oa 4 L0, oN (.alloc 27 [zi, zs, .nilSl, .nilSl]), om L3, os 4 L1 L2] [(4, L1), (5, L2)]
def q135r16 := rg [om V4, ob .gtr L0 (ci 0)] [(15, L0)]
def q135r17 := rg [om V0, oc 139 [L0, (cb 44)]] []
def q135r18 := rg [of 0 V2, ol L0, ob .eql L0 (ci 6)] [(16, L0)]
def q135r19 := rg [om V0, of 2 V2, ol L0, om V4, oN (.idxAddr 1 L1 L0), ol L0, oc 62 [L0], oc 141 [L6, L0]] [(4, cU)]
def q135r20 := rg [om V0, oc 139 [L0, (cb 58)]] []
def q135r21 := rg [om V0, oa 4 V5, oc 135 [L1, L0]] [(5, cU)]
def q135r22 := rg [ob .add V13 (ci 1), om L0] [(13, L0)]
def q135l23 : ACode := (sq (rr q135r14) (sq (.cond V14 .skip (.exit 1)) (sq (.block 2 (sq (rr q135r15) (sq (sq (rr q135r16) (.cond V15 (rr q135r17) .skip)) (sq (sq (rr q135r18) (.cond V16 (sq (rr q135r19) (rr q135r20)) .skip)) (rr q135r21))))) (rr q135r22))))
def q135r24 := rg [om V0, om V3, oN (.idxS L0 (ci 1)), oc 139 [L2, L0]] [(0, cU), (3, cU)]
def q135 : AFn := { nparams := 2, nslots := 17, slots := [0, 1, 3, 4, 5, 6, 8, 9, 13, 20, 27, 34, 35, 36, 37, 42, 47], results := [], body := (sq (rr q135r0) (sq (rr q135r1) (sq (sq (rr q135r2) (.block 0 (sq (rr q135r3) (.cond V7 (sq (rr q135r4) .ret) (sq (sq (rr q135r5) (.cond V8 .skip (rr q135r6))) (.cond V8 (sq (rr q135r7) .ret) (sq (rr q135r8) (.cond V9 (sq (rr q135r9) .ret) (sq (rr q135r10) (.cond V10 (rr q135r11) .skip)))))))))) (sq (rr q135r12) (sq (sq (rr q135r13) (.block 1 (.loop [1, 4, 5, 6, 7, 8, 9, 10, 14, 15, 16] q135l23))) (rr q135r24)))))) }
theorem q135ok : fnOk Tryz.prog xfT gT Tryz.f135 q135 = true := by kernel_rfl
theorem q135at : Tryz.prog.funcs[135]? = some Tryz.f135 := by kernel_rfl
def q136r0 := rg [om (ci 0)] [(1, cU)]
def q136r1 := rg [om V0, oN (.nilck L0), of 1 L0, ol L0, on .sli L0, om L0] [(0, cU), (1, L0)]
def q136 : AFn := { nparams := 1, nslots := 2, slots := [0, 2], results := [.var 1], body := (sq (rr q136r0) (sq (rr q136r1) .ret)) }
theorem q136ok : fnOk Tryz.prog xfT gT Tryz.f136 q136 = true := by kernel_rfl
theorem q136at : Tryz.prog.funcs[136]? = some Tryz.f136 := by kernel_rfl
def q137r0 := rg [om (cs [])] [(1, cU)]
def q137r1 := rd [om V0, oN (.nilck L0), of 1 L0, ol L0, oN (.sliceData L0), om V0, oN (.nilck L0), of 1 L0, ol L0, on .sli L0, oN (.unsafeStr 5 L5 L0), om L0] [(0, cU), (1, L0)] [(8, 4)] [] [[], [0], [0, 1], [1, 0, 2], [2, 0, 1, 3], [], [5], [5, 6], [6, 5, 7], [7, 5, 6, 8], [8, 6, 5, 7, 9, 3, 1, 0, 2, 4], [4, 2, 0, 1, 3, 9, 7, 5, 6, 8, 10]]
def q137 : AFn := { nparams := 1, nslots := 2, slots := [0, 2], results := [.var 1], body := (sq (rr q137r0) (sq (rr q137r1) .ret)) }
theorem q137ok : fnOk Tryz.prog xfT gT Tryz.f137 q137 = true := by kernel_rfl
theorem q137at : Tryz.prog.funcs[137]? = some Tryz.f137 := by kernel_rfl
def q138r0 := rg [oN (.box 27 V1)] [(1, cU), (3, L0)]
def q138r1 := rg [om V0, oN (.nilck L0), of 0 L0, ol L0, ob .sub L0 (ci 1), oN (.nilck L4), of 0 L0, os 1 L0 L2] []
def q138r2 := rg [om V0, oN (.nilck L0), of 0 L0, ol L0, ob .lss L0 (ci 0), om L0, oF (.load true 4 V3) L0, oF (.call 217 [L0]) L1, oF (.not L0) L2, op L3 cT L0, om L0, oF (.fieldAddr 0 V3) L0, oF (.load false 1 L0) L1, oF (.bin .geq L0 (ci 5)) L2, omF L0 L3, omT V2 L0, oT (.bin .eql L0 (ci 64)) L1, oF (.pick L2 L0 cF) L6, op L7 cT L0] [(5, L0)]
def q138r3 := rg [om V0, oN (.nilck L0), of 1 L0, os 1 L0 cT] []
def q138r4 := rg [om (ci 0)] [(4, L0)]
def q138r5 := rg [om V4, of 3 V3, ol L0, on .sli L0, ob .lss L3 L0, om L0, omT V0 L0, oT (.nilck L0) L1, oT (.fieldAddr 1 L0) L2, oT (.load false 1 L0) L3, oT (.not L0) L4, op L5 L0 cF] [(6, L0)]
def q138r6 := rg [om V0, of 3 V3, ol L0, om V4, oN (.idxAddr 4 L1 L0), oa 4 L0, om V2, ob .add L0 (ci 1), oc 138 [L7, L2, L0]] []
def q138r7 := rg [om V4, ob .add L0 (ci 1), om L0] [(4, L0)]
def q138l8 : ACode := (sq (sq (rr q138r5) (.cond V6 .skip (.exit 0))) (sq (.block 1 (rr q138r6)) (rr q138r7)))
def q138 : AFn := { nparams := 3, nslots := 7, slots := [0, 1, 2, 4, 6, 32, 47], results := [], body := (sq (rr q138r0) (sq (rr q138r1) (sq (sq (rr q138r2) (.cond V5 (rr q138r3) .skip)) (sq (rr q138r4) (.block 0 (.loop [1, 5, 6] q138l8)))))) }
theorem q138ok : fnOk Tryz.prog xfT gT Tryz.f138 q138 = true := by kernel_rfl
theorem q138at : Tryz.prog.funcs[138]? = some Tryz.f138 := by kernel_rfl
def q139r0 := rg [om (.cst .nilIface)] [(2, cU)]
def q139r1 := rg [om V0, oc 218 [L0]] []
def q139r2 := rg [om V0, om V0, oN (.nilck L0), of 1 L0, ol L0, om V1, oN (.buildSl 1 (.int .u8 0) 1 [(0, L0)]), oN (.append 5 1 1 L2 L0), oN (.nilck L7), of 1 L0, os 1 L0 L2] [(0, cU), (1, cU)]
def q139r3 := rg [om (.cst .nilIface)] [(2, L0)]
def q139 : AFn := { nparams := 2, nslots := 3, slots := [0, 1, 4], results := [.var 2], body := (sq (rr q139r0) (sq (rr q139r1) (sq (rr q139r2) (sq (rr q139r3) .ret)))) }
theorem q139ok : fnOk Tryz.prog xfT gT Tryz.f139 q139 = true := by kernel_rfl
theorem q139at : Tryz.prog.funcs[139]? = some Tryz.f139 := by kernel_rfl
def q140r0 := rg [om (ci 0)] [(2, cU)]
def q140r1 := rg [om V0, om V1, oc 219 [L1, L0], om L0] [(0, cU), (1, cU), (2, L0)]
def q140 : AFn := { nparams := 2, nslots := 3, slots := [0, 1, 4], results := [.var 2], body := (sq (rr q140r0) (sq (rr q140r1) .ret)) }
theorem q140ok : fnOk Tryz.prog xfT gT Tryz.f140 q140 = true := by kernel_rfl
theorem q140at : Tryz.prog.funcs[140]? = some Tryz.f140 := by kernel_rfl
def q141r0 := rg [om (ci 0), om (.cst .nilIface)] [(2, cU), (3, cU)]
def q141r1 := rg [om V0, oc 218 [L0]] []
def q141r2 := rg [om V0, om V0, oN (.nilck L0), of 1 L0, ol L0, om V1, oN (.append 5 1 1 L1 L0), oN (.nilck L6), of 1 L0, os 1 L0 L2] [(0, cU)]
def q141r3 := rg [om V1, on .str L0, om L0, om (.cst .nilIface)] [(1, cU), (2, L1), (3, L0)]
def q141 : AFn := { nparams := 2, nslots := 4, slots := [0, 1, 4, 5], results := [.var 2, .var 3], body := (sq (rr q141r0) (sq (rr q141r1) (sq (rr q141r2) (sq (rr q141r3) .ret)))) }
theorem q141ok : fnOk Tryz.prog xfT gT Tryz.f141 q141 = true := by kernel_rfl
theorem q141at : Tryz.prog.funcs[141]? = some Tryz.f141 := by kernel_rfl
def q142r0 := rg [om (.cst (.int .i32 0)), om (ci 0), om (ci 0)] [(1, cU), (2, cU), (3, cU)]
def q142r1 := rg [om V0, ob .eql L0 (cs [])] [(6, L0)]
def q142r2 := rg [om (.cst (.int .i32 0)), om (ci 0), om (ci 9)] [(1, L2), (2, L1), (3, L0)]
def q142r3 := rg [om V0, oc 220 [L0], om L0, ox 0 L0, ox 1 L1, om L1, om L1] [(4, L1), (5, L0)]
def q142r4 := rg [om V4, ob .eql L0 (.cst (.int .i32 65533)), om L0, omT V5 L0, oT (.bin .eql L0 (ci 1)) L1, op L2 L0 cF] [(7, L0)]
def q142r5 := rg [om V0, oc 221 [L0], om (.cst (.int .i32 65533)), om L1, om (ci 9)] [(0, cU), (1, L2), (2, L1), (3, L0)]
def q142r6 := rg [om V4, om V5, om L1, om L1, om (ci 0)] [(1, L2), (2, L1), (3, L0), (4, cU), (5, cU)]
def q142 : AFn := { nparams := 1, nslots := 8, slots := [0, 2, 3, 4, 5, 6, 8, 19], results := [.var 1, .var 2, .var 3], body := (sq (rr q142r0) (sq (sq (rr q142r1) (.cond V6 (sq (rr q142r2) .ret) .skip)) (sq (rr q142r3) (sq (sq (rr q142r4) (.cond V7 (sq (rr q142r5) .ret) .skip)) (sq (rr q142r6) .ret))))) }
theorem q142ok : fnOk Tryz.prog xfT gT Tryz.f142 q142 = true := by kernel_rfl
theorem q142at : Tryz.prog.funcs[142]? = some Tryz.f142 := by kernel_rfl
def q143r0 := rg [om (.cst .nilSl)] [(2, cU)]
def q143r1 := rg [om V1, oN (.convI .u32 L0), ob .leq L0 (.cst (.int .u32 127))] [(3, L0)]
def q143r2 := rg [om V0, om V1, oN (.convI .u8 L0), oN (.buildSl 1 (.int .u8 0) 1 [(0, L0)]), oN (.append 5 1 1 L3 L0), om L0] [(0, cU), (1, cU), (2, L0)]
def q143r3 := rg [om V0, om V1, oc 222 [L1, L0], om L0] [(0, cU), (1, cU), (2, L0)]
def q143 : AFn := { nparams := 2, nslots := 4, slots := [0, 1, 4, 7], results := [.var 2], body := (sq (rr q143r0) (sq (sq (rr q143r1) (.cond V3 (sq (rr q143r2) .ret) .skip)) (sq (rr q143r3) .ret))) }
theorem q143ok : fnOk Tryz.prog xfT gT Tryz.f143 q143 = true := by kernel_rfl
theorem q143at : Tryz.prog.funcs[143]? = some Tryz.f143 := by kernel_rfl
def q144r0 := rg [om (ci 0)] [(1, cU)]
def q144r1 := rg [om V0, ob .lss L0 (cb 128), om L0] [(2, L0)]
def q144r2 := rg [om (ci 1)] [(1, L0)]
def q144r3 := rg [om V0, ob .geq L0 (cb 194), om L0, omT V0 L0, oT (.bin .leq L0 (cb 223)) L1, op L2 L0 cF, om L0] [(3, L0)]
def q144r4 := rg [om (ci 2)] [(1, L0)]
def q144r5 := rg [om V0, ob .geq L0 (cb 224), om L0, omT V0 L0, oT (.bin .leq L0 (cb 239)) L1, op L2 L0 cF, om L0] [(4, L0)]
def q144r6 := rg [om (ci 3)] [(1, L0)]
def q144r7 := rg [om V0, ob .geq L0 (cb 240), om L0, omT V0 L0, oT (.bin .leq L0 (cb 244)) L1, op L2 L0 cF, om L0] [(0, cU), (5, L0)]
def q144r8 := rg [om (ci 4)] [(1, L0)]
def q144r9 := rg [om (ci 0)] [(1, L0)]
def q144 : AFn := { nparams := 1, nslots := 6, slots := [0, 2, 3, 6, 13, 20], results := [.var 1], body := (sq (rr q144r0) (sq (.block 0 (sq (rr q144r1) (.cond V2 (sq (rr q144r2) .ret) (sq (rr q144r3) (.cond V3 (sq (rr q144r4) .ret) (sq (rr q144r5) (.cond V4 (sq (rr q144r6) .ret) (sq (rr q144r7) (.cond V5 (sq (rr q144r8) .ret) .skip))))))))) (sq (rr q144r9) .ret))) }
theorem q144ok : fnOk Tryz.prog xfT gT Tryz.f144 q144 = true := by kernel_rfl
theorem q144at : Tryz.prog.funcs[144]? = some Tryz.f144 := by kernel_rfl
end Go.Proofs.YtkjokjogdehonaaGreatDoor.Am.Q
namespace Go.Proofs.YtkjokjogdehonaaGreatDoor.Am.Q
open Go Go.Proofs Go.Proofs.YtkjokjogdehonaaGreatDoor.Am
def q145r0 := rg [om cF] [(3, cU)]
def q145r1 := rg [om (cb 128), om (cb 191)] [(4, L1), (5, L0)]
def q145r2 := rg [om V1, ob .eql L0 (ci 1)] [(1, cU), (6, L0)]
def q145r3 := rg [om V0] [(0, cU), (7, L0)]
def q145r4 := rg [ob .eql V7 (cb 224), om L0] [(8, L0)]
def q145r5 := rg [om (cb 160)] [(4, L0)]
def q145r6 := rg [ob .eql V7 (cb 237), om L0] [(9, L0)]
def q145r7 := rg [om (cb 159)] [(5, L0)]
def q145r8 := rg [ob .eql V7 (cb 240), om L0] [(10, L0)]
def q145r9 := rg [om (cb 144)] [(4, L0)]
def q145r10 := rg [ob .eql V7 (cb 244), om L0] [(7, cU), (11, L0)]
def q145r11 := rg [om (cb 143)] [(5, L0)]
def q145r12 := rg [om V2, om V4, ob .geq L1 L0, om L0, omT V2 L0, omT V5 L1, oT (.bin .leq L1 L0) L2, op L3 L0 cF, om L0] [(2, cU), (3, L0), (4, cU), (5, cU)]
def q145 : AFn := { nparams := 3, nslots := 12, slots := [0, 1, 2, 6, 7, 8, 10, 11, 12, 14, 16, 18], results := [.var 3], body := (sq (rr q145r0) (sq (rr q145r1) (sq (sq (rr q145r2) (.cond V6 (sq (rr q145r3) (.block 0 (sq (rr q145r4) (.cond V8 (rr q145r5) (sq (rr q145r6) (.cond V9 (rr q145r7) (sq (rr q145r8) (.cond V10 (rr q145r9) (sq (rr q145r10) (.cond V11 (rr q145r11) .skip)))))))))) .skip)) (sq (rr q145r12) .ret)))) }
theorem q145ok : fnOk Tryz.prog xfT gT Tryz.f145 q145 = true := by kernel_rfl
theorem q145at : Tryz.prog.funcs[145]? = some Tryz.f145 := by kernel_rfl
def q146r0 := rg [om cF] [(1, cU)]
def q146r1 := rg [om V0, ob .geq L0 (.cst (.int .i32 0)), om L0, omT V0 L0, oT (.bin .leq L0 (.cst (.int .i32 1114111))) L1, op L2 L0 cF, om L0, omT V0 L0, oT (.bin .lss L0 (.cst (.int .i32 55296))) L1, omT L0 L2, omF V0 L0, oF (.bin .gtr L0 (.cst (.int .i32 57343))) L1, oT (.pick L2 cT L0) L5, op L6 L0 cF, om L0] [(0, cU), (1, L0)]
def q146 : AFn := { nparams := 1, nslots := 2, slots := [0, 2], results := [.var 1], body := (sq (rr q146r0) (sq (rr q146r1) .ret)) }
theorem q146ok : fnOk Tryz.prog xfT gT Tryz.f146 q146 = true := by kernel_rfl
theorem q146at : Tryz.prog.funcs[146]? = some Tryz.f146 := by kernel_rfl
def q147r0 := rg [om (ci 0)] [(2, cU)]
def q147r1 := rg [om V0, on .sli L0, om (ci 0)] [(4, L1), (5, L0)]
def q147r2 := rg [ob .lss V5 V4] [(6, L0)]
def q147r3 := rg [om V5, om L0] [(3, L0)]
def q147r4 := rg [om V1, om V0, om V3, oN (.idxAddr 1 L1 L0), ol L0, ob .eql L4 L0] [(7, L0)]
def q147r5 := rg [om V3, om L0] [(2, L0), (3, cU)]
def q147r6 := rg [ob .add V5 (ci 1), om L0] [(5, L0)]
def q147l7 : ACode := (sq (rr q147r2) (sq (.cond V6 .skip (.exit 0)) (sq (.block 1 (sq (rr q147r3) (sq (rr q147r4) (.cond V7 (sq (rr q147r5) .ret) .skip)))) (rr q147r6))))
def q147r8 := rg [om (ci (-1))] [(2, L0)]
def q147 : AFn := { nparams := 2, nslots := 8, slots := [0, 1, 4, 5, 7, 8, 9, 16], results := [.var 2], body := (sq (rr q147r0) (sq (sq (rr q147r1) (.block 0 (.loop [2, 3, 6, 7] q147l7))) (sq (rr q147r8) .ret))) }
theorem q147ok : fnOk Tryz.prog xfT gT Tryz.f147 q147 = true := by kernel_rfl
theorem q147at : Tryz.prog.funcs[147]? = some Tryz.f147 := by kernel_rfl
def q148r0 := rg [om (cb 0)] [(1, cU)]
def q148r1 := rd [om V0, oN (.nilck L0), of 1 L0, ol L0, om V0, oN (.nilck L0), of 0 L0, ol L0, on .str L0, ob .lss L5 L0, om L0, omT V0 L0, oT (.nilck L0) L1, oT (.fieldAddr 0 L0) L2, oT (.load false 1 L0) L3, omT V0 L4, oT (.nilck L0) L5, oT (.fieldAddr 1 L0) L6, oT (.load false 1 L0) L7, oT (.idxS L4 L0) L8, oT (.bin .eql L0 (cb 9)) L9, omT L0 L10, omF V0 L0, oF (.nilck L0) L1, oF (.fieldAddr 0 L0) L2, oF (.load false 1 L0) L3, omF V0 L4, oF (.nilck L0) L5, oF (.fieldAddr 1 L0) L6, oF (.load false 1 L0) L7, oF (.idxS L4 L0) L8, oF (.bin .eql L0 (cb 10)) L9, oT (.pick L10 cT L0) L21, omT L0 L22, omF V0 L0, oF (.nilck L0) L1, oF (.fieldAddr 0 L0) L2, oF (.load false 1 L0) L3, omF V0 L4, oF (.nilck L0) L5, oF (.fieldAddr 1 L0) L6, oF (.load false 1 L0) L7, oF (.idxS L4 L0) L8, oF (.bin .eql L0 (cb 13)) L9, oT (.pick L10 cT L0) L33, omT L0 L34, omF V0 L0, oF (.nilck L0) L1, oF (.fieldAddr 0 L0) L2, oF (.load false 1 L0) L3, omF V0 L4, oF (.nilck L0) L5, oF (.fieldAddr 1 L0) L6, oF (.load false 1 L0) L7, oF (.idxS L4 L0) L8, oF (.bin .eql L0 (cb 32)) L9, oT (.pick L10 cT L0) L45, op L46 L0 cF] [(2, L0)] [] [] [[], [0], [0, 1], [1, 0, 2], [], [4], [4, 5], [5, 4, 6], [6, 4, 5, 7], [7, 5, 4, 6, 8, 2, 0, 1, 3], [3, 1, 0, 2, 8, 6, 4, 5, 7, 9], [9, 7, 5, 4, 6, 8, 2, 0, 1, 3, 10], [10, 3, 1, 0, 2, 8, 6, 4, 5, 7, 9, 11], [11, 9, 7, 5, 4, 6, 8, 2, 0, 1, 3, 10, 12], [12, 10, 3, 1, 0, 2, 8, 6, 4, 5, 7, 9, 11, 13], [9, 7, 5, 4, 6, 8, 2, 0, 1, 3, 10], [10, 3, 1, 0, 2, 8, 6, 4, 5, 7, 9, 15], [15, 9, 7, 5, 4, 6, 8, 2, 0, 1, 3, 10, 16], [16, 10, 3, 1, 0, 2, 8, 6, 4, 5, 7, 9, 15, 17], [17, 15, 16, 18, 13, 11, 9, 7, 5, 4, 6, 8, 2, 0, 1, 3, 10, 12, 14], [14, 12, 10, 3, 1, 0, 2, 8, 6, 4, 5, 7, 9, 11, 13, 18, 16, 15, 17, 19], [19, 17, 15, 16, 18, 13, 11, 9, 7, 5, 4, 6, 8, 2, 0, 1, 3, 10, 12, 14, 20], [20, 14, 12, 10, 3, 1, 0, 2, 8, 6, 4, 5, 7, 9, 11, 13, 18, 16, 15, 17, 19, 21], [21, 19, 17, 15, 16, 18, 13, 11, 9, 7, 5, 4, 6, 8, 2, 0, 1, 3, 10, 12, 14, 20, 22], [22, 20, 14, 12, 10, 3, 1, 0, 2, 8, 6, 4, 5, 7, 9, 11, 13, 18, 16, 15, 17, 19, 21, 23], [23, 21, 19, 17, 15, 16, 18, 13, 11, 9, 7, 5, 4, 6, 8, 2, 0, 1, 3, 10, 12, 14, 20, 22, 24], [20, 14, 12, 10, 3, 1, 0, 2, 8, 6, 4, 5, 7, 9, 11, 13, 18, 16, 15, 17, 19, 21], [21, 19, 17, 15, 16, 18, 13, 11, 9, 7, 5, 4, 6, 8, 2, 0, 1, 3, 10, 12, 14, 20, 26], [26, 20, 14, 12, 10, 3, 1, 0, 2, 8, 6, 4, 5, 7, 9, 11, 13, 18, 16, 15, 17, 19, 21, 27], [27, 21, 19, 17, 15, 16, 18, 13, 11, 9, 7, 5, 4, 6, 8, 2, 0, 1, 3, 10, 12, 14, 20, 26, 28], [28, 26, 27, 29, 24, 22, 20, 14, 12, 10, 3, 1, 0, 2, 8, 6, 4, 5, 7, 9, 11, 13, 18, 16, 15, 17, 19, 21, 23, 25], [25, 23, 21, 19, 17, 15, 16, 18, 13, 11, 9, 7, 5, 4, 6, 8, 2, 0, 1, 3, 10, 12, 14, 20, 22, 24, 29, 27, 26, 28, 30], [30, 28, 26, 27, 29, 24, 22, 23, 25, 31, 20, 14, 12, 10, 3, 1, 0, 2, 8, 6, 4, 5, 7, 9, 11, 13, 18, 16, 15, 17, 19, 21], [21, 19, 17, 15, 16, 18, 13, 11, 9, 7, 5, 4, 6, 8, 2, 0, 1, 3, 10, 12, 14, 20, 31, 25, 23, 22, 24, 29, 27, 26, 28, 30, 32], [32, 30, 28, 26, 27, 29, 24, 22, 23, 25, 31, 20, 14, 12, 10, 3, 1, 0, 2, 8, 6, 4, 5, 7, 9, 11, 13, 18, 16, 15, 17, 19, 21, 33], [33, 21, 19, 17, 15, 16, 18, 13, 11, 9, 7, 5, 4, 6, 8, 2, 0, 1, 3, 10, 12, 14, 20, 31, 25, 23, 22, 24, 29, 27, 26, 28, 30, 32, 34], [34, 32, 30, 28, 26, 27, 29, 24, 22, 23, 25, 31, 20, 14, 12, 10, 3, 1, 0, 2, 8, 6, 4, 5, 7, 9, 11, 13, 18, 16, 15, 17, 19, 21, 33, 35], [35, 33, 21, 19, 17, 15, 16, 18, 13, 11, 9, 7, 5, 4, 6, 8, 2, 0, 1, 3, 10, 12, 14, 20, 31, 25, 23, 22, 24, 29, 27, 26, 28, 30, 32, 34, 36], [32, 30, 28, 26, 27, 29, 24, 22, 23, 25, 31, 20, 14, 12, 10, 3, 1, 0, 2, 8, 6, 4, 5, 7, 9, 11, 13, 18, 16, 15, 17, 19, 21, 33], [33, 21, 19, 17, 15, 16, 18, 13, 11, 9, 7, 5, 4, 6, 8, 2, 0, 1, 3, 10, 12, 14, 20, 31, 25, 23, 22, 24, 29, 27, 26, 28, 30, 32, 38], [38, 32, 30, 28, 26, 27, 29, 24, 22, 23, 25, 31, 20, 14, 12, 10, 3, 1, 0, 2, 8, 6, 4, 5, 7, 9, 11, 13, 18, 16, 15, 17, 19, 21, 33, 39], [39, 33, 21, 19, 17, 15, 16, 18, 13, 11, 9, 7, 5, 4, 6, 8, 2, 0, 1, 3, 10, 12, 14, 20, 31, 25, 23, 22, 24, 29, 27, 26, 28, 30, 32, 38, 40], [40, 38, 39, 41, 36, 34, 32, 30, 28, 26, 27, 29, 24, 22, 23, 25, 31, 20, 14, 12, 10, 3, 1, 0, 2, 8, 6, 4, 5, 7, 9, 11, 13, 18, 16, 15, 17, 19, 21, 33, 35, 37], [37, 35, 33, 21, 19, 17, 15, 16, 18, 13, 11, 9, 7, 5, 4, 6, 8, 2, 0, 1, 3, 10, 12, 14, 20, 31, 25, 23, 22, 24, 29, 27, 26, 28, 30, 32, 34, 36, 41, 39, 38, 40, 42], [42, 40, 38, 39, 41, 36, 34, 35, 37, 43, 32, 30, 28, 26, 27, 29, 24, 22, 23, 25, 31, 20, 14, 12, 10, 3, 1, 0, 2, 8, 6, 4, 5, 7, 9, 11, 13, 18, 16, 15, 17, 19, 21, 33], [33, 21, 19, 17, 15, 16, 18, 13, 11, 9, 7, 5, 4, 6, 8, 2, 0, 1, 3, 10, 12, 14, 20, 31, 25, 23, 22, 24, 29, 27, 26, 28, 30, 32, 43, 37, 35, 34, 36, 41, 39, 38, 40, 42, 44], [44, 42, 40, 38, 39, 41, 36, 34, 35, 37, 43, 32, 30, 28, 26, 27, 29, 24, 22, 23, 25, 31, 20, 14, 12, 10, 3, 1, 0, 2, 8, 6, 4, 5, 7, 9, 11, 13, 18, 16, 15, 17, 19, 21, 33, 45], [45, 33, 21, 19, 17, 15, 16, 18, 13, 11, 9, 7, 5, 4, 6, 8, 2, 0, 1, 3, 10, 12, 14, 20, 31, 25, 23, 22, 24, 29, 27, 26, 28, 30, 32, 43, 37, 35, 34, 36, 41, 39, 38, 40, 42, 44, 46], [46, 44, 42, 40, 38, 39, 41, 36, 34, 35, 37, 43, 32, 30, 28, 26, 27, 29, 24, 22, 23, 25, 31, 20, 14, 12, 10, 3, 1, 0, 2, 8, 6, 4, 5, 7, 9, 11, 13, 18, 16, 15, 17, 19, 21, 33, 45, 47], [47, 45, 33, 21, 19, 17, 15, 16, 18, 13, 11, 9, 7, 5, 4, 6, 8, 2, 0, 1, 3, 10, 12, 14, 20, 31, 25, 23, 22, 24, 29, 27, 26, 28, 30, 32, 43, 37, 35, 34, 36, 41, 39, 38, 40, 42, 44, 46, 48], [44, 42, 40, 38, 39, 41, 36, 34, 35, 37, 43, 32, 30, 28, 26, 27, 29, 24, 22, 23, 25, 31, 20, 14, 12, 10, 3, 1, 0, 2, 8, 6, 4, 5, 7, 9, 11, 13, 18, 16, 15, 17, 19, 21, 33, 45], [45, 33, 21, 19, 17, 15, 16, 18, 13, 11, 9, 7, 5, 4, 6, 8, 2, 0, 1, 3, 10, 12, 14, 20, 31, 25, 23, 22, 24, 29, 27, 26, 28, 30, 32, 43, 37, 35, 34, 36, 41, 39, 38, 40, 42, 44, 50], [50, 44, 42, 40, 38, 39, 41, 36, 34, 35, 37, 43, 32, 30, 28, 26, 27, 29, 24, 22, 23, 25, 31, 20, 14, 12, 10, 3, 1, 0, 2, 8, 6, 4, 5, 7, 9, 11, 13, 18, 16, 15, 17, 19, 21, 33, 45, 51], [51, 45, 33, 21, 19, 17, 15, 16, 18, 13, 11, 9, 7, 5, 4, 6, 8, 2, 0, 1, 3, 10, 12, 14, 20, 31, 25, 23, 22, 24, 29, 27, 26, 28, 30, 32, 43, 37, 35, 34, 36, 41, 39, 38, 40, 42, 44, 50, 52], [52, 50, 51, 53, 48, 46, 44, 42, 40, 38, 39, 41, 36, 34, 35, 37, 43, 32, 30, 28, 26, 27, 29, 24, 22, 23, 25, 31, 20, 14, 12, 10, 3, 1, 0, 2, 8, 6, 4, 5, 7, 9, 11, 13, 18, 16, 15, 17, 19, 21, 33, 45, 47, 49], [49, 47, 45, 33, 21, 19, 17, 15, 16, 18, 13, 11, 9, 7, 5, 4, 6, 8, 2, 0, 1, 3, 10, 12, 14, 20, 31, 25, 23, 22, 24, 29, 27, 26, 28, 30, 32, 43, 37, 35, 34, 36, 41, 39, 38, 40, 42, 44, 46, 48, 53, 51, 50, 52, 54], [54, 52, 50, 51, 53, 48, 46, 47, 49, 55, 44, 42, 40, 38, 39, 41, 36, 34, 35, 37, 43, 32, 30, 28, 26, 27, 29, 24, 22, 23, 25, 31, 20, 14, 12, 10, 3, 1, 0, 2, 8, 6, 4, 5, 7, 9, 11, 13, 18, 16, 15, 17, 19, 21, 33, 45], [45, 33, 21, 19, 17, 15, 16, 18, 13, 11, 12, 14, 20, 31, 25, 23, 22, 24, 29, 27, 26, 28, 30, 32, 43, 37, 35, 34, 36, 41, 39, 38, 40, 42, 44, 55, 49, 47, 46, 48, 53, 51, 50, 52, 54, 56, 9, 7, 5, 4, 6, 8, 2, 0, 1, 3, 10]]
def q148r2 := rg [om V0, oN (.nilck L0), of 1 L0, ol L0, ob .add L0 (ci 1), oN (.nilck L4), of 1 L0, os 1 L0 L2] []
def q148l3 : ACode := (sq (sq (rr q148r1) (.cond V2 .skip (.exit 0))) (.block 1 (rr q148r2)))
def q148r4 := rd [om V0, oN (.nilck L0), of 1 L0, ol L0, om V0, oN (.nilck L0), of 0 L0, ol L0, on .str L0, ob .geq L5 L0] [(3, L0)] [] [] [[], [0], [0, 1], [1, 0, 2], [], [4], [4, 5], [5, 4, 6], [6, 4, 5, 7], [7, 5, 4, 6, 8, 2, 0, 1, 3]]
def q148r5 := rg [om V0, om V0, oN (.nilck L0), of 0 L0, ol L0, on .str L0, oc 73 [L5, (ci 4), L0]] [(0, cU)]
def q148r6 := rg [om (cb 0)] [(1, L0)]
def q148r7 := rd [om V0, oN (.nilck L0), of 0 L0, ol L0, om V0, oN (.nilck L0), of 1 L0, ol L0, oN (.idxS L4 L0), om L0] [(0, cU), (1, L0)] [] [] [[], [0], [0, 1], [1, 0, 2], [], [4], [4, 5], [5, 4, 6], [6, 4, 5, 7, 2, 0, 1, 3], [3, 1, 0, 2, 7, 5, 4, 6, 8]]
def q148 : AFn := { nparams := 1, nslots := 4, slots := [0, 2, 60, 77], results := [.var 1], body := (sq (rr q148r0) (sq (.block 0 (.loop [1, 2, 3] q148l3)) (sq (sq (rr q148r4) (.cond V3 (sq (rr q148r5) (sq (rr q148r6) .ret)) .skip)) (sq (rr q148r7) .ret)))) }
theorem q148ok : fnOk Tryz.prog xfT gT Tryz.f148 q148 = true := by kernel_rfl
theorem q148at : Tryz.prog.funcs[148]? = some Tryz.f148 := by kernel_rfl
def q149r0 := rg [om (cs [])] [(1, cU)]
def q149r1 := rg [om (.cst .nilSl)] [(2, L0)]
def q149r2 := rg [om V0, oN (.nilck L0), of 1 L0, ol L0, ob .add L0 (ci 1), oN (.nilck L4), of 1 L0, os 1 L0 L2] []
def q149r3 := rg [om V0, oN (.nilck L0), of 3 L0, of 0 L0, ol L0, ob .eql L0 (ci 0)] [(4, L0)]
def q149r4 := rd [om V0, oN (.nilck L0), of 1 L0, ol L0, om V0, oN (.nilck L0), of 0 L0, ol L0, on .str L0, ob .geq L5 L0] [(5, L0)] [] [] [[], [0], [0, 1], [1, 0, 2], [], [4], [4, 5], [5, 4, 6], [6, 4, 5, 7], [7, 5, 4, 6, 8, 2, 0, 1, 3]]
def q149r5 := rg [om V0, om V0, oN (.nilck L0), of 0 L0, ol L0, on .str L0, oc 73 [L5, (ci 4), L0]] [(0, cU)]
def q149r6 := rd [om V0, oN (.nilck L0), of 0 L0, ol L0, om V0, oN (.nilck L0), of 1 L0, ol L0, oN (.idxS L4 L0), om L0] [(3, L0)] [] [] [[], [0], [0, 1], [1, 0, 2], [], [4], [4, 5], [5, 4, 6], [6, 4, 5, 7, 2, 0, 1, 3], [3, 1, 0, 2, 7, 5, 4, 6, 8]]
def q149r7 := rg [om V3, ob .lss L0 (cb 32), om L0] [(6, L0)]
def q149r8 := rg [om V0, om V0, oN (.nilck L0), of 1 L0, ol L0, oc 73 [L4, (ci 3), L0]] []
def q149r9 := rg [om V3, ob .eql L0 (cb 34), om L0] [(7, L0)]
def q149r10 := rg [om V0, oN (.nilck L0), of 1 L0, ol L0, ob .add L0 (ci 1), oN (.nilck L4), of 1 L0, os 1 L0 L2] [(0, cU)]
def q149r11 := rg [om V2, oN (.strOf L0), om L0] [(1, L0), (2, cU)]
def q149r12 := rg [om V3, ob .eql L0 (cb 92), om L0] [(8, L0)]
def q149r13 := rg [om V2, om V0, oc 223 [L0], oN (.append 5 1 1 L2 L0), om L0] [(2, L0)]
def q149r14 := rg [om V2, om V3, oN (.buildSl 1 (.int .u8 0) 1 [(0, L0)]), oN (.append 5 1 1 L2 L0), om L0] [(2, L0), (3, cU)]
def q149r15 := rg [om V0, oN (.nilck L0), of 1 L0, ol L0, ob .add L0 (ci 1), oN (.nilck L4), of 1 L0, os 1 L0 L2] []
def q149l16 : ACode := (sq (sq (rr q149r3) (.cond V4 .skip (.exit 0))) (.block 1 (sq (sq (rr q149r4) (.cond V5 (sq (rr q149r5) (.exit 0)) .skip)) (sq (rr q149r6) (.block 2 (sq (rr q149r7) (.cond V6 (rr q149r8) (sq (rr q149r9) (.cond V7 (sq (rr q149r10) (sq (rr q149r11) .ret)) (sq (rr q149r12) (.cond V8 (rr q149r13) (sq (rr q149r14) (rr q149r15)))))))))))))
def q149r17 := rg [om (cs [])] [(1, L0)]
def q149 : AFn := { nparams := 1, nslots := 9, slots := [0, 2, 3, 4, 17, 27, 55, 64, 76], results := [.var 1], body := (sq (rr q149r0) (sq (rr q149r1) (sq (rr q149r2) (sq (.block 0 (.loop [1, 3, 4, 5, 6, 7, 8] q149l16)) (sq (rr q149r17) .ret))))) }
theorem q149ok : fnOk Tryz.prog xfT gT Tryz.f149 q149 = true := by kernel_rfl
theorem q149at : Tryz.prog.funcs[149]? = some Tryz.f149 := by kernel_rfl
def q150r0 := rg [om cF] [(1, cU)]
def q150r1 := rg [om V0, ob .geq L0 (cb 48), om L0, omT V0 L0, oT (.bin .leq L0 (cb 57)) L1, op L2 L0 cF, om L0] [(0, cU), (1, L0)]
def q150 : AFn := { nparams := 1, nslots := 2, slots := [0, 2], results := [.var 1], body := (sq (rr q150r0) (sq (rr q150r1) .ret)) }
theorem q150ok : fnOk Tryz.prog xfT gT Tryz.f150 q150 = true := by kernel_rfl
theorem q150at : Tryz.prog.funcs[150]? = some Tryz.f150 := by kernel_rfl
def q151r0 := rg [om (cs [])] [(2, cU)]
def q151r1 := rg [om V0, oN (.nilck L0), of 1 L0, ol L0, om L0] [(3, L0)]
def q151r2 := rd [om V0, oN (.nilck L0), of 1 L0, ol L0, om V0, oN (.nilck L0), of 0 L0, ol L0, on .str L0, ob .lss L5 L0, om L0, omT V1 L0, omT L0 L1, omT V0 L0, oT (.nilck L0) L1, oT (.fieldAddr 0 L0) L2, oT (.load false 1 L0) L3, omT V0 L4, oT (.nilck L0) L5, oT (.fieldAddr 1 L0) L6, oT (.load false 1 L0) L7, oT (.idxS L4 L0) L8, oT (.call 224 [L0]) L9, oT (.pick L10 L0 cF) L12, omT L0 L13, omF V1 L0, oF (.not L0) L1, omF L0 L2, omT V0 L0, oT (.nilck L0) L1, oT (.fieldAddr 0 L0) L2, oT (.load false 1 L0) L3, omT V0 L4, oT (.nilck L0) L5, oT (.fieldAddr 1 L0) L6, oT (.load false 1 L0) L7, oT (.idxS L4 L0) L8, oT (.call 153 [L0]) L9, oF (.pick L10 L0 cF) L13, oT (.pick L14 cT L0) L28, op L29 L0 cF] [(4, L0)] [] [22, 37] [[], [0], [0, 1], [1, 0, 2], [], [4], [4, 5], [5, 4, 6], [6, 4, 5, 7], [7, 5, 4, 6, 8, 2, 0, 1, 3], [3, 1, 0, 2, 8, 6, 4, 5, 7, 9], [9, 7, 5, 4, 6, 8, 2, 0, 1, 3, 10], [10, 3, 1, 0, 2, 8, 6, 4, 5, 7, 9, 11], [11, 9, 7, 5, 4, 6, 8, 2, 0, 1, 3, 10, 12], [12, 10, 3, 1, 0, 2, 8, 6, 4, 5, 7, 9, 11, 13], [13, 11, 9, 7, 5, 4, 6, 8, 2, 0, 1, 3, 10, 12, 14], [14, 12, 10, 3, 1, 0, 2, 8, 6, 4, 5, 7, 9, 11, 13, 15], [11, 9, 7, 5, 4, 6, 8, 2, 0, 1, 3, 10, 12], [12, 10, 3, 1, 0, 2, 8, 6, 4, 5, 7, 9, 11, 17], [17, 11, 9, 7, 5, 4, 6, 8, 2, 0, 1, 3, 10, 12, 18], [18, 12, 10, 3, 1, 0, 2, 8, 6, 4, 5, 7, 9, 11, 17, 19], [19, 17, 18, 20, 15, 13, 11, 9, 7, 5, 4, 6, 8, 2, 0, 1, 3, 10, 12, 14, 16], [16, 14, 12, 10, 3, 1, 0, 2, 8, 6, 4, 5, 7, 9, 11, 13, 15, 20, 18, 17, 19, 21], [21, 19, 17, 18, 20, 15, 13, 14, 16, 22, 11, 9, 7, 5, 4, 6, 8, 2, 0, 1, 3, 10, 12], [12, 10, 3, 1, 0, 2, 8, 6, 4, 5, 7, 9, 11, 22, 16, 14, 13, 15, 20, 18, 17, 19, 21, 23], [23, 21, 19, 17, 18, 20, 15, 13, 14, 16, 22, 11, 9, 7, 5, 4, 6, 8, 2, 0, 1, 3, 10, 12, 24], [24, 12, 10, 3, 1, 0, 2, 8, 6, 4, 5, 7, 9, 11, 22, 16, 14, 13, 15, 20, 18, 17, 19, 21, 23, 25], [25, 23, 21, 19, 17, 18, 20, 15, 13, 14, 16, 22, 11, 9, 7, 5, 4, 6, 8, 2, 0, 1, 3, 10, 12, 24, 26], [26, 24, 12, 10, 3, 1, 0, 2, 8, 6, 4, 5, 7, 9, 11, 22, 16, 14, 13, 15, 20, 18, 17, 19, 21, 23, 25, 27], [27, 25, 23, 21, 19, 17, 18, 20, 15, 13, 14, 16, 22, 11, 9, 7, 5, 4, 6, 8, 2, 0, 1, 3, 10, 12, 24, 26, 28], [28, 26, 24, 12, 10, 3, 1, 0, 2, 8, 6, 4, 5, 7, 9, 11, 22, 16, 14, 13, 15, 20, 18, 17, 19, 21, 23, 25, 27, 29], [29, 27, 25, 23, 21, 19, 17, 18, 20, 15, 13, 14, 16, 22, 11, 9, 7, 5, 4, 6, 8, 2, 0, 1, 3, 10, 12, 24, 26, 28, 30], [26, 24, 12, 10, 3, 1, 0, 2, 8, 6, 4, 5, 7, 9, 11, 22, 16, 14, 13, 15, 20, 18, 17, 19, 21, 23, 25, 27], [27, 25, 23, 21, 19, 17, 18, 20, 15, 13, 14, 16, 22, 11, 9, 7, 5, 4, 6, 8, 2, 0, 1, 3, 10, 12, 24, 26, 32], [32, 26, 24, 12, 10, 3, 1, 0, 2, 8, 6, 4, 5, 7, 9, 11, 22, 16, 14, 13, 15, 20, 18, 17, 19, 21, 23, 25, 27, 33], [33, 27, 25, 23, 21, 19, 17, 18, 20, 15, 13, 14, 16, 22, 11, 9, 7, 5, 4, 6, 8, 2, 0, 1, 3, 10, 12, 24, 26, 32, 34], [34, 32, 33, 35, 30, 28, 26, 24, 12, 10, 3, 1, 0, 2, 8, 6, 4, 5, 7, 9, 11, 22, 16, 14, 13, 15, 20, 18, 17, 19, 21, 23, 25, 27, 29, 31], [31, 29, 27, 25, 23, 21, 19, 17, 18, 20, 15, 13, 14, 16, 22, 11, 9, 7, 5, 4, 6, 8, 2, 0, 1, 3, 10, 12, 24, 26, 28, 30, 35, 33, 32, 34, 36], [36, 34, 32, 33, 35, 30, 28, 29, 31, 37, 26, 24, 12, 10, 3, 1, 0, 2, 8, 6, 4, 5, 7, 9, 11, 22, 16, 14, 13, 15, 20, 18, 17, 19, 21, 23, 25, 27], [27, 25, 26, 37, 31, 29, 28, 30, 35, 33, 32, 34, 36, 38, 23, 21, 19, 17, 18, 20, 15, 13, 14, 16, 22, 11, 9, 7, 5, 4, 6, 8, 2, 0, 1, 3, 10, 12, 24], [24, 12, 11, 22, 16, 14, 13, 15, 20, 18, 17, 19, 21, 23, 38, 36, 34, 32, 33, 35, 30, 28, 29, 31, 37, 26, 25, 27, 39, 9, 7, 5, 4, 6, 8, 2, 0, 1, 3, 10]]
def q151r3 := rg [om V0, oN (.nilck L0), of 1 L0, ol L0, ob .add L0 (ci 1), oN (.nilck L4), of 1 L0, os 1 L0 L2] []
def q151l4 : ACode := (sq (sq (rr q151r2) (.cond V4 .skip (.exit 0))) (.block 1 (rr q151r3)))
def q151r5 := rd [om V0, oN (.nilck L0), of 0 L0, ol L0, om V3, om V0, oN (.nilck L0), of 1 L0, ol L0, oN (.sliceS L5 (some L4) (some L0)), om L0] [(0, cU), (2, L0), (3, cU)] [] [] [[], [0], [0, 1], [1, 0, 2], [], [], [5], [5, 6], [6, 5, 7], [7, 5, 6, 8, 4, 2, 0, 1, 3], [3, 1, 0, 2, 4, 8, 6, 5, 7, 9]]
def q151 : AFn := { nparams := 2, nslots := 5, slots := [0, 1, 4, 5, 50], results := [.var 2], body := (sq (rr q151r0) (sq (rr q151r1) (sq (.block 0 (.loop [2, 4] q151l4)) (sq (rr q151r5) .ret)))) }
theorem q151ok : fnOk Tryz.prog xfT gT Tryz.f151 q151 = true := by kernel_rfl
theorem q151at : Tryz.prog.funcs[151]? = some Tryz.f151 := by kernel_rfl
def q152r0 := rg [om cF] [(1, cU)]
def q152r1 := rg [om V0, ob .neq L0 (cs []), om L0, omT V0 L0, oT (.idxS L0 (ci 0)) L1, oT (.bin .eql L0 (cb 45)) L2, op L3 L0 cF] [(3, L0)]
def q152r2 := rg [om V0, oN (.sliceS L0 (some (ci 1)) none), om L0] [(0, L0)]
def q152r3 := rg [om V0, oc 225 [L0], om L0] [(2, L0)]
def q152r4 := rg [om V2, ob .eql L0 (ci 0), om L0, omF V2 L0, oF (.bin .gtr L0 (ci 1)) L1, omF L0 L2, omT V0 L0, oT (.idxS L0 (ci 0)) L1, oT (.bin .eql L0 (cb 48)) L2, oF (.pick L3 L0 cF) L6, op L7 cT L0] [(4, L0)]
def q152r5 := rg [om cF] [(1, L0)]
def q152r6 := rg [om V0, om V2, oN (.sliceS L1 (some L0) none), om L0] [(0, L0), (2, cU)]
def q152r7 := rg [om V0, ob .neq L0 (cs []), om L0, omT V0 L0, oT (.idxS L0 (ci 0)) L1, oT (.bin .eql L0 (cb 46)) L2, op L3 L0 cF] [(5, L0)]
def q152r8 := rg [om V0, oN (.sliceS L0 (some (ci 1)) none), oc 225 [L0], om L0] [(2, L0)]
def q152r9 := rg [om V2, ob .eql L0 (ci 0)] [(6, L0)]
def q152r10 := rg [om cF] [(1, L0)]
def q152r11 := rg [om V0, om V2, ob .add L0 (ci 1), oN (.sliceS L2 (some L0) none), om L0] [(0, L0), (2, cU)]
def q152r12 := rg [om V0, ob .eql L0 (cs [])] [(7, L0)]
def q152r13 := rg [om cT] [(1, L0)]
def q152r14 := rg [om V0, oN (.idxS L0 (ci 0)), ob .neq L0 (cb 101), om L0, omT V0 L0, oT (.idxS L0 (ci 0)) L1, oT (.bin .neq L0 (cb 69)) L2, op L3 L0 cF] [(8, L0)]
def q152r15 := rg [om cF] [(1, L0)]
def q152r16 := rg [om V0, oN (.sliceS L0 (some (ci 1)) none), om L0] [(0, L0)]
def q152r17 := rg [om V0, ob .neq L0 (cs []), om L0, omT V0 L0, oT (.idxS L0 (ci 0)) L1, oT (.bin .eql L0 (cb 43)) L2, omT L0 L3, omF V0 L0, oF (.idxS L0 (ci 0)) L1, oF (.bin .eql L0 (cb 45)) L2, oT (.pick L3 cT L0) L7, op L8 L0 cF] [(9, L0)]
def q152r18 := rg [om V0, oN (.sliceS L0 (some (ci 1)) none), om L0] [(0, L0)]
def q152r19 := rg [om V0, ob .neq L0 (cs []), om L0, omT V0 L0, oT (.call 225 [L0]) L1, omT V0 L2, oT (.len .str L0) L3, oT (.bin .eql L2 L0) L4, op L5 L0 cF, om L0] [(0, cU), (1, L0)]
def q152 : AFn := { nparams := 1, nslots := 10, slots := [0, 2, 3, 10, 25, 35, 40, 46, 54, 68], results := [.var 1], body := (sq (rr q152r0) (sq (sq (rr q152r1) (.cond V3 (rr q152r2) .skip)) (sq (rr q152r3) (sq (sq (rr q152r4) (.cond V4 (sq (rr q152r5) .ret) .skip)) (sq (rr q152r6) (sq (sq (rr q152r7) (.cond V5 (sq (rr q152r8) (sq (sq (rr q152r9) (.cond V6 (sq (rr q152r10) .ret) .skip)) (rr q152r11))) .skip)) (sq (sq (rr q152r12) (.cond V7 (sq (rr q152r13) .ret) .skip)) (sq (sq (rr q152r14) (.cond V8 (sq (rr q152r15) .ret) .skip)) (sq (rr q152r16) (sq (sq (rr q152r17) (.cond V9 (rr q152r18) .skip)) (sq (rr q152r19) .ret))))))))))) }
theorem q152ok : fnOk Tryz.prog xfT gT Tryz.f152 q152 = true := by kernel_rfl
theorem q152at : Tryz.prog.funcs[152]? = some Tryz.f152 := by kernel_rfl
def q153r0 := rg [om cF] [(1, cU)]
def q153r1 := rg [om V0, ob .geq L0 (cb 97), om L0, omT V0 L0, oT (.bin .leq L0 (cb 122)) L1, op L2 L0 cF, om L0] [(0, cU), (1, L0)]
def q153 : AFn := { nparams := 1, nslots := 2, slots := [0, 2], results := [.var 1], body := (sq (rr q153r0) (sq (rr q153r1) .ret)) }
theorem q153ok : fnOk Tryz.prog xfT gT Tryz.f153 q153 = true := by kernel_rfl
theorem q153at : Tryz.prog.funcs[153]? = some Tryz.f153 := by kernel_rfl
def q154r0 := rg [oN (.alloc 27 [zi, zs, .nilSl, .nilSl])] [(2, L0)]
def q154r1 := rg [oN (.build [zi, zs, .nilSl, .nilSl] [(0, 1, (ci 5))]), oN (.alloc 27 [zi, zs, .nilSl, .nilSl]), os 4 L0 L1] [(3, L1)]
def q154r2 := rg [om V0, of 3 V3, ol L0, on .sli L0, ob .eql L0 (ci 0), oc 226 [L4, L0, (cb 93)]] [(5, L0)]
def q154r3 := rg [om V0, om V1, ob .add L0 (ci 1), oc 72 [L2, L0], oN (.alloc 27 [zi, zs, .nilSl, .nilSl]), os 4 L0 L1] [(4, L1)]
def q154r4 := rg [of 3 V3, ol L0, oa 4 V4, oN (.buildSl 4 (.agg [zi, zs, .nilSl, .nilSl]) 1 [(0, L0)]), oN (.append 27 4 72 L2 L0), of 3 V3, os 1 L0 L1] [(4, cU)]
def q154l5 : ACode := (sq (sq (rr q154r2) (.cond V5 .skip (.exit 0))) (.block 1 (sq (rr q154r3) (rr q154r4))))
def q154r6 := rg [oa 4 V3, os 4 V2 L0] [(3, cU)]
def q154 : AFn := { nparams := 2, nslots := 6, slots := [0, 1, 4, 5, 6, 13], results := [.cell 2 true 4], body := (sq (rr q154r0) (sq (rr q154r1) (sq (.block 0 (.loop [4, 5] q154l5)) (sq (rr q154r6) .ret)))) }
theorem q154ok : fnOk Tryz.prog xfT gT Tryz.f154 q154 = true := by kernel_rfl
theorem q154at : Tryz.prog.funcs[154]? = some Tryz.f154 := by kernel_rfl
def q155r0 := rg [oN (.alloc 27 [zi, zs, .nilSl, .nilSl])] [(2, L0)]
def q155r1 := rg [oN (.build [zi, zs, .nilSl, .nilSl] [(0, 1, (ci 6))]), oN (.alloc 27 [zi, zs, .nilSl, .nilSl]), os 4 L0 L1] [(3, L1)]
def q155r2 := rg [om V0, of 3 V3, ol L0, on .sli L0, ob .eql L0 (ci 0), oc 226 [L4, L0, (cb 125)]] [(8, L0)]
def q155r3 := rg [om V0, oc 148 [L0], om L0] [(4, L0)]
def q155r4 := rg [om V0, oN (.nilck L0), of 1 L0, ol L0, om L0] [(5, L0)]
def q155r5 := rg [om V0, oN (.nilck L0), of 3 L0, of 0 L0, ol L0, ob .neq L0 (ci 0)] [(9, L0)]
def q155r6 := rg [om V4, ob .neq L0 (cb 34)] [(4, cU), (10, L0)]
def q155r7 := rg [om V0, om V5, oc 73 [L1, (ci 3), L0]] [(0, cU), (5, cU)]
def q155r8 := rg [om V0, oc 149 [L0], om L0] [(6, L0)]
def q155r9 := rg [om V0, oN (.nilck L0), of 3 L0, of 0 L0, ol L0, ob .eql L0 (ci 0), om L0, oT (.fieldAddr 2 V3) L0, oT (.load false 1 L0) L1, omT V6 L2, oT (.call 70 [L1, L0]) L3, op L4 L0 cF] [(11, L0)]
def q155r10 := rg [om V0, om V5, oc 73 [L1, (ci 7), L0]] [(5, cU)]
def q155r11 := rg [om V0, oN (.nilck L0), of 3 L0, of 0 L0, ol L0, ob .neq L0 (ci 0)] [(12, L0)]
def q155r12 := rg [om V0, oc 148 [L0], om L0] [(4, L0)]
def q155r13 := rg [om V0, oN (.nilck L0), of 3 L0, of 0 L0, ol L0, ob .eql L0 (ci 0), om L0, omT V4 L0, oT (.bin .neq L0 (cb 58)) L1, op L2 L0 cF] [(4, cU), (13, L0)]
def q155r14 := rg [om V0, om V0, oN (.nilck L0), of 1 L0, ol L0, oc 73 [L4, (ci 3), L0]] []
def q155r15 := rg [om V0, oN (.nilck L0), of 3 L0, of 0 L0, ol L0, ob .neq L0 (ci 0)] [(14, L0)]
def q155r16 := rg [om V0, oN (.nilck L0), of 1 L0, ol L0, ob .add L0 (ci 1), oN (.nilck L4), of 1 L0, os 1 L0 L2] []
def q155r17 := rg [om V0, om V1, ob .add L0 (ci 1), oc 72 [L2, L0], oN (.alloc 27 [zi, zs, .nilSl, .nilSl]), os 4 L0 L1] [(7, L1)]
def q155r18 := rg [of 2 V3, ol L0, om V6, oN (.buildSl 1 zs 1 [(0, L0)]), oN (.append 9 1 16 L2 L0), of 2 V3, os 1 L0 L1] [(6, cU)]
def q155r19 := rg [of 3 V3, ol L0, oa 4 V7, oN (.buildSl 4 (.agg [zi, zs, .nilSl, .nilSl]) 1 [(0, L0)]), oN (.append 27 4 72 L2 L0), of 3 V3, os 1 L0 L1] [(7, cU)]
def q155l20 : ACode := (sq (sq (rr q155r2) (.cond V8 .skip (.exit 0))) (.block 1 (sq (rr q155r3) (sq (rr q155r4) (sq (sq (rr q155r5) (.cond V9 (.exit 0) .skip)) (sq (sq (rr q155r6) (.cond V10 (sq (rr q155r7) (.exit 0)) .skip)) (sq (rr q155r8) (sq (sq (rr q155r9) (.cond V11 (rr q155r10) .skip)) (sq (sq (rr q155r11) (.cond V12 (.exit 0) .skip)) (sq (rr q155r12) (sq (sq (rr q155r13) (.cond V13 (rr q155r14) .skip)) (sq (sq (rr q155r15) (.cond V14 (.exit 0) .skip)) (sq (rr q155r16) (sq (rr q155r17) (sq (rr q155r18) (rr q155r19))))))))))))))))
def q155r21 := rg [oa 4 V3, os 4 V2 L0] [(3, cU)]
def q155 : AFn := { nparams := 2, nslots := 15, slots := [0, 1, 4, 5, 6, 7, 8, 9, 16, 28, 30, 47, 56, 68, 80], results := [.cell 2 true 4], body := (sq (rr q155r0) (sq (rr q155r1) (sq (.block 0 (.loop [4, 5, 6, 7, 8, 9, 10, 11, 12, 13, 14] q155l20)) (sq (rr q155r21) .ret)))) }
theorem q155ok : fnOk Tryz.prog xfT gT Tryz.f155 q155 = true := by kernel_rfl
theorem q155at : Tryz.prog.funcs[155]? = some Tryz.f155 := by kernel_rfl
def q156r0 := rg [om (cs [])] [(2, cU)]
def q156r1 := rg [om V0, oN (.convI .u64 L0), om L0] [(3, L0)]
def q156r2 := rg [om V0, ob .lss L0 (ci 0)] [(5, L0)]
def q156r3 := rg [om V3, oN (.neg L0), om L0] [(3, L0)]
def q156r4 := rg [om (.cst .nilSl)] [(4, L0)]
def q156r5 := rg [om V3, ob .gtr L0 (.cst (.int .u64 0)), om L0, omF V4 L0, oF (.len .sli L0) L1, omF V1 L2, oF (.min L0 (ci 20)) L3, oF (.max L0 (ci 1)) L4, oF (.bin .lss L3 L0) L5, op L6 cT L0] [(6, L0)]
def q156r6 := rg [om V4, om V3, ob .rem L0 (.cst (.int .u64 10)), ob .add (.cst (.int .u64 48)) L0, oN (.convI .u8 L0), oN (.buildSl 1 (.int .u8 0) 1 [(0, L0)]), oN (.appendO 5 1 1 L5 L0), om L0] [(4, L0)]
def q156r7 := rg [om V3, ob .quo L0 (.cst (.int .u64 10)), om L0] [(3, L0)]
def q156l8 : ACode := (sq (sq (rr q156r5) (.cond V6 .skip (.exit 0))) (.block 1 (sq (rr q156r6) (rr q156r7))))
def q156r9 := rg [om V0, ob .lss L0 (ci 0)] [(0, cU), (7, L0)]
def q156r10 := rg [om V4, oN (.buildSl 1 (.int .u8 0) 1 [(0, (cb 45))]), oN (.appendO 5 1 1 L1 L0), om L0] [(4, L0)]
def q156r11 := rg [om V4, oc 227 [L0]] []
def q156r12 := rg [om V4, oN (.strO L0), om L0] [(2, L0), (4, cU)]
def q156 : AFn := { nparams := 2, nslots := 8, slots := [0, 1, 4, 5, 6, 10, 22, 33], results := [.var 2], body := (sq (rr q156r0) (sq (rr q156r1) (sq (sq (rr q156r2) (.cond V5 (rr q156r3) .skip)) (sq (rr q156r4) (sq (.block 0 (.loop [2, 5, 6, 7] q156l8)) (sq (sq (rr q156r9) (.cond V7 (rr q156r10) .skip)) (sq (rr q156r11) (sq (rr q156r12) .ret)))))))) }
theorem q156ok : fnOk Tryz.prog xfT gT Tryz.f156 q156 = true := by kernel_rfl
theorem q156at : Tryz.prog.funcs[156]? = some Tryz.f156 := by kernel_rfl
def q157r0 := rg [oN (.box 27 V0), om cF] [(0, cU), (1, L1), (2, cU)]
def q157r1 := rg [of 2 V1, ol L0, on .sli L0, ob .eql L0 (ci 0), om L0, oT (.fieldAddr 3 V1) L0, oT (.load false 1 L0) L1, oT (.len .sli L0) L2, oT (.bin .eql L0 (ci 0)) L3, op L4 L0 cF, om L0] [(3, L0)]
def q157r2 := rg [of 0 V1, ol L0] [(5, L0)]
def q157r3 := rg [ob .eql V5 (ci 1), om L0] [(6, L0)]
def q157r4 := rg [om V3, om L0, oT (.fieldAddr 1 V1) L0, oT (.load false 1 L0) L1, oT (.bin .eql L0 (cs [])) L2, op L3 L0 cF, om L0] [(1, cU), (2, L0), (3, cU)]
def q157r5 := rg [ob .eql V5 (ci 2), om L0] [(7, L0)]
def q157r6 := rg [om V3, om L0, oT (.fieldAddr 1 V1) L0, oT (.load false 1 L0) L1, oT (.bin .eql L0 (cs [116, 114, 117, 101])) L2, omT L0 L3, oF (.fieldAddr 1 V1) L0, oF (.load false 1 L0) L1, oF (.bin .eql L0 (cs [102, 97, 108, 115, 101])) L2, oT (.pick L3 cT L0) L7, op L8 L0 cF, om L0] [(1, cU), (2, L0), (3, cU)]
def q157r7 := rg [ob .eql V5 (ci 3), om L0] [(8, L0)]
def q157r8 := rg [om V3, om L0, oT (.fieldAddr 1 V1) L0, oT (.load false 1 L0) L1, oT (.call 152 [L0]) L2, op L3 L0 cF, om L0] [(1, cU), (2, L0), (3, cU)]
def q157r9 := rg [ob .eql V5 (ci 4), om L0] [(9, L0)]
def q157r10 := rg [om V3, om L0, oT (.fieldAddr 1 V1) L0, oT (.load false 1 L0) L1, oT (.call 71 [L0]) L2, op L3 L0 cF, om L0] [(1, cU), (2, L0), (3, cU)]
def q157r11 := rg [ob .eql V5 (ci 5), om L0] [(10, L0)]
def q157r12 := rg [of 2 V1, ol L0, on .sli L0, ob .eql L0 (ci 0), om L0, oT (.fieldAddr 1 V1) L0, oT (.load false 1 L0) L1, oT (.bin .eql L0 (cs [])) L2, op L3 L0 cF, om L0] [(1, cU), (2, L0)]
def q157r13 := rg [ob .eql V5 (ci 6), om L0] [(5, cU), (11, L0)]
def q157r14 := rg [om (ci 0)] [(4, L0)]
def q157r15 := rg [om V4, of 2 V1, ol L0, on .sli L0, ob .lss L3 L0] [(12, L0)]
def q157r16 := rd [of 2 V1, ol L0, om V4, oN (.idxAddr 1 L1 L0), ol L0, oc 71 [L0], oN (.not L0), om L0, oF (.fieldAddr 2 V1) L0, oF (.load false 1 L0) L1, omF V4 L2, oF (.sliceL 1 L1 none (some L0) none) L3, oF (.fieldAddr 2 V1) L4, oF (.load false 1 L0) L5, omF V4 L6, oF (.idxAddr 1 L1 L0) L7, oF (.load false 1 L0) L8, oF (.call 70 [L5, L0]) L9, op L10 cT L0] [(13, L0)] [] [5, 17] [[], [0], [], [2, 0, 1], [1, 0, 2, 3], [3, 2, 0, 1, 4], [4, 1, 0, 2, 3, 5], [5, 3, 2, 0, 1, 4, 6], [6, 4, 1, 0, 2, 3, 5, 7], [7, 5, 3, 2, 0, 1, 4, 6, 8], [6, 4, 1, 0, 2, 3, 5, 7], [10, 8, 6, 4, 1, 0, 2, 3, 5, 7, 9], [6, 4, 1, 0, 2, 3, 5, 7], [7, 5, 3, 2, 0, 1, 4, 6, 12], [6, 4, 1, 0, 2, 3, 5, 7], [14, 12, 6, 4, 1, 0, 2, 3, 5, 7, 13], [13, 7, 5, 3, 2, 0, 1, 4, 6, 12, 14, 15], [15, 14, 12, 13, 16, 9, 7, 5, 3, 2, 0, 1, 4, 6, 8, 10, 11], [11, 10, 8, 9, 16, 13, 12, 14, 15, 17, 6, 4, 1, 0, 2, 3, 5, 7]]
def q157r17 := rg [om cF] [(2, L0)]
def q157r18 := rg [om V4, ob .add L0 (ci 1), om L0] [(4, L0)]
def q157l19 : ACode := (sq (sq (rr q157r15) (.cond V12 .skip (.exit 1))) (sq (.block 2 (sq (rr q157r16) (.cond V13 (sq (rr q157r17) .ret) .skip))) (rr q157r18)))
def q157r20 := rg [of 2 V1, ol L0, on .sli L0, of 3 V1, ol L0, on .sli L0, ob .eql L3 L0, om L0, oT (.fieldAddr 1 V1) L0, oT (.load false 1 L0) L1, oT (.bin .eql L0 (cs [])) L2, op L3 L0 cF, om L0] [(1, cU), (2, L0)]
def q157r21 := rg [om cF] [(2, L0)]
def q157 : AFn := { nparams := 1, nslots := 14, slots := [0, 1, 2, 3, 4, 16, 17, 25, 38, 46, 54, 65, 71, 92], results := [.var 2], body := (sq (rr q157r0) (sq (rr q157r1) (sq (sq (rr q157r2) (.block 0 (sq (rr q157r3) (.cond V6 (sq (rr q157r4) .ret) (sq (rr q157r5) (.cond V7 (sq (rr q157r6) .ret) (sq (rr q157r7) (.cond V8 (sq (rr q157r8) .ret) (sq (rr q157r9) (.cond V9 (sq (rr q157r10) .ret) (sq (rr q157r11) (.cond V10 (sq (rr q157r12) .ret) (sq (rr q157r13) (.cond V11 (sq (sq (rr q157r14) (.block 1 (.loop [0, 2, 3, 5, 6, 7, 8, 9, 10, 11, 12, 13] q157l19))) (sq (rr q157r20) .ret)) .skip)))))))))))))) (sq (rr q157r21) .ret)))) }
theorem q157ok : fnOk Tryz.prog xfT gT Tryz.f157 q157 = true := by kernel_rfl
theorem q157at : Tryz.prog.funcs[157]? = some Tryz.f157 := by kernel_rfl
end Go.Proofs.YtkjokjogdehonaaGreatDoor.Am.Q
namespace Go.Proofs.YtkjokjogdehonaaGreatDoor.Am.Q
open Go Go.Proofs Go.Proofs.YtkjokjogdehonaaGreatDoor.Am
def q167r0 := rg [om cF] [(2, cU)]
def q167r1 := rg [om V0, om V1, oc 235 [L1, L0], ob .geq L0 (ci 0), om L0] [(0, cU), (1, cU), (2, L0)]
def q167 : AFn := { nparams := 2, nslots := 3, slots := [0, 1, 4], results := [.var 2], body := (sq (rr q167r0) (sq (rr q167r1) .ret)) }
theorem q167ok : fnOk Tryz.prog xfT gT Tryz.f167 q167 = true := by kernel_rfl
theorem q167at : Tryz.prog.funcs[167]? = some Tryz.f167 := by kernel_rfl
def q183r0 := rg [om cF] [(2, cU)]
def q183r1 := rg [om V0, om V1, oc 243 [L1, L0], om L0] [(0, cU), (1, cU), (2, L0)]
def q183 : AFn := { nparams := 2, nslots := 3, slots := [0, 1, 4], results := [.var 2], body := (sq (rr q183r0) (sq (rr q183r1) .ret)) }
theorem q183ok : fnOk Tryz.prog xfT gT Tryz.f183 q183 = true := by kernel_rfl
theorem q183at : Tryz.prog.funcs[183]? = some Tryz.f183 := by kernel_rfl
end Go.Proofs.YtkjokjogdehonaaGreatDoor.Am.Q
