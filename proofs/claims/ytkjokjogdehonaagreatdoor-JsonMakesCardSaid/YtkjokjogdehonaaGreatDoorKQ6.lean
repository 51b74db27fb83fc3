/- Part KQ6 of a claim's texts, joined: what the claim needs of them. -/
import Derived.Test.YtkjokjogdehonaaGreatDoorKQ0
set_option linter.unusedSimpArgs false
set_option linter.unusedVariables false
namespace Go.Proofs.YtkjokjogdehonaaGreatDoor.Am.Q
open Go Go.Proofs Go.Proofs.YtkjokjogdehonaaGreatDoor.Am
def q308r0 := rg [om (.cst .nilSl)] [(2, cU)]
def q308r1 := rg [om V0, oN (.nilck L0), of 0 L0, of 1 L0, ol L0, om L0] [(3, L0)]
def q308r2 := rg [om V0, oN (.nilck L0), of 0 L0, of 1 L0, ol L0, ob .add L0 (ci 1), oN (.nilck L5), of 0 L0, of 1 L0, os 1 L0 L3] []
def q308r3 := rg [om V0, oN (.nilck L0), of 0 L0, oc 307 [L0], om L0] [(4, L0)]
def q308r4 := rg [om V4, oc 140 [(cs [98, 116, 110, 102, 114, 34, 92, 47]), L0], om L0] [(5, L0)]
def q308r5 := rg [om V5, ob .geq L0 (ci 0)] [(6, L0)]
def q308r6 := rg [om V0, oN (.nilck L0), of 0 L0, of 1 L0, ol L0, ob .add L0 (ci 1), oN (.nilck L5), of 0 L0, of 1 L0, os 1 L0 L3] [(0, cU)]
def q308r7 := rg [om V1, om V5, oN (.idxS (cs [8, 9, 10, 12, 13, 34, 92, 47]) L0), oN (.buildSl 1 (.int .u8 0) 1 [(0, L0)]), oN (.append 5 1 1 L3 L0), om L0] [(1, cU), (2, L0), (5, cU)]
def q308r8 := rg [om V4, ob .neq L0 (cb 117)] [(4, cU), (7, L0)]
def q308r9 := rg [om V0, oN (.nilck L0), of 0 L0, om V3, oc 216 [L1, (ci 3), L0]] []
def q308r10 := rg [om V0, oN (.nilck L0), of 0 L0, of 1 L0, ol L0, ob .add L0 (ci 1), oN (.nilck L5), of 0 L0, of 1 L0, os 1 L0 L3] []
def q308r11 := rg [om V1, om V0, om V3, oc 329 [L1, L0], oN (.buildSl 1 (.int .i32 0) 1 [(0, L0)]), oc 328 [L4, L0], om L0] [(0, cU), (1, cU), (2, L0), (3, cU)]
def q308 : AFn := { nparams := 2, nslots := 8, slots := [0, 1, 4, 5, 6, 7, 29, 45], results := [.var 2], body := (sq (rr q308r0) (sq (rr q308r1) (sq (rr q308r2) (sq (rr q308r3) (sq (sq (rr q308r4) (sq (rr q308r5) (.cond V6 (sq (rr q308r6) (sq (rr q308r7) .ret)) .skip))) (sq (sq (rr q308r8) (.cond V7 (rr q308r9) .skip)) (sq (rr q308r10) (sq (rr q308r11) .ret)))))))) }
theorem q308ok : fnOk Tryz.prog xfT gT Tryz.f308 q308 = true := by kernel_rfl
theorem q308at : Tryz.prog.funcs[308]? = some Tryz.f308 := by kernel_rfl
def q309r0 := rg [om cF] [(3, cU)]
def q309r1 := rg [om V0, oN (.nilck L0), of 0 L0, oc 267 [L0], om L0] [(4, L0)]
def q309r2 := rg [om V4, om V2, ob .eql L1 L0, om L0] [(2, cU), (4, cU), (5, L0)]
def q309r3 := rg [om V0, oN (.nilck L0), of 0 L0, of 1 L0, ol L0, ob .add L0 (ci 1), oN (.nilck L5), of 0 L0, of 1 L0, os 1 L0 L3] [(0, cU)]
def q309r4 := rg [om cF] [(3, L0)]
def q309r5 := rg [om V1, oN (.not L0), om L0] [(1, cU), (6, L0)]
def q309r6 := rg [om V0, oN (.nilck L0), of 0 L0, oc 310 [L0, (cb 44)]] [(0, cU)]
def q309r7 := rg [om cT] [(3, L0)]
def q309 : AFn := { nparams := 3, nslots := 7, slots := [0, 1, 2, 6, 7, 12, 25], results := [.var 3], body := (sq (rr q309r0) (sq (sq (rr q309r1) (.block 0 (sq (rr q309r2) (.cond V5 (sq (rr q309r3) (sq (rr q309r4) .ret)) (sq (rr q309r5) (.cond V6 (rr q309r6) .skip)))))) (sq (rr q309r7) .ret))) }
theorem q309ok : fnOk Tryz.prog xfT gT Tryz.f309 q309 = true := by kernel_rfl
theorem q309at : Tryz.prog.funcs[309]? = some Tryz.f309 := by kernel_rfl
def q310r0 := rg [om V0, oc 267 [L0], om V1, ob .neq L1 L0] [(1, cU), (2, L0)]
def q310r1 := rg [om V0, om V0, oN (.nilck L0), of 1 L0, ol L0, oc 216 [L4, (ci 3), L0]] []
def q310r2 := rg [om V0, oN (.nilck L0), of 1 L0, ol L0, ob .add L0 (ci 1), oN (.nilck L4), of 1 L0, os 1 L0 L2] [(0, cU)]
def q310 : AFn := { nparams := 2, nslots := 3, slots := [0, 1, 7], results := [], body := (sq (sq (rr q310r0) (.cond V2 (rr q310r1) .skip)) (rr q310r2)) }
theorem q310ok : fnOk Tryz.prog xfT gT Tryz.f310 q310 = true := by kernel_rfl
theorem q310at : Tryz.prog.funcs[310]? = some Tryz.f310 := by kernel_rfl
def q311r0 := rg [om (ci 0)] [(1, cU)]
def q311r1 := rg [om V0, on .str L0, om V0, oc 241 [L0, (cs [48, 49, 50, 51, 52, 53, 54, 55, 56, 57])], on .str L0, ob .sub L3 L0, om L0] [(0, cU), (1, L0)]
def q311 : AFn := { nparams := 1, nslots := 2, slots := [0, 2], results := [.var 1], body := (sq (rr q311r0) (sq (rr q311r1) .ret)) }
theorem q311ok : fnOk Tryz.prog xfT gT Tryz.f311 q311 = true := by kernel_rfl
theorem q311at : Tryz.prog.funcs[311]? = some Tryz.f311 := by kernel_rfl
def q312r0 := rg [om (.cst (.int .u32 0))] [(1, cU)]
def q312r1 := rg [om V0, oc 330 [L0], om L0] [(0, cU), (1, L0)]
def q312 : AFn := { nparams := 1, nslots := 2, slots := [0, 2], results := [.var 1], body := (sq (rr q312r0) (sq (rr q312r1) .ret)) }
theorem q312ok : fnOk Tryz.prog xfT gT Tryz.f312 q312 = true := by kernel_rfl
theorem q312at : Tryz.prog.funcs[312]? = some Tryz.f312 := by kernel_rfl
def q314r0 := rg [om (cb 0)] [(1, cU)]
def q314r1 := rg [om V0, ob .sub L0 (cb 65), ob .lss L0 (cb 26)] [(2, L0)]
def q314r2 := rg [om V0, ob .or L0 (cb 32), om L0] [(0, cU), (1, L0)]
def q314r3 := rg [om V0, om L0] [(0, cU), (1, L0)]
def q314 : AFn := { nparams := 1, nslots := 3, slots := [0, 2, 5], results := [.var 1], body := (sq (rr q314r0) (sq (sq (rr q314r1) (.cond V2 (sq (rr q314r2) .ret) .skip)) (sq (rr q314r3) .ret))) }
theorem q314ok : fnOk Tryz.prog xfT gT Tryz.f314 q314 = true := by kernel_rfl
theorem q314at : Tryz.prog.funcs[314]? = some Tryz.f314 := by kernel_rfl
def q318r0 := rg [om (ci 0)] [(2, cU)]
def q318r1 := rg [om V1, ob .leq (.cst (.int .i32 0)) L0, om L0, omT V1 L0, oT (.bin .lss L0 (.cst (.int .i32 128))) L1, op L2 L0 cF, om L0] [(26, L0)]
def q318r2 := rg [om V0, om V1, oN (.convI .u8 L0), oc 140 [L2, L0], om L0] [(0, cU), (1, cU), (2, L0)]
def q318r3 := rg [om V1, ob .eql L0 (.cst (.int .i32 65533)), om L0] [(27, L0)]
def q318r4 := rg [om V0, oN (.rangeS L0)] [(0, cU), (28, L0)]
def q318r5 := rg [oN (.nextS V28), ox 0 L0] [(29, L1), (30, L0)]
def q318r6 := rg [ox 1 V29, ox 2 V29, om L1, om L1] [(3, L1), (4, L0), (29, cU)]
def q318r7 := rg [om V4, ob .eql L0 (.cst (.int .i32 65533))] [(4, cU), (31, L0)]
def q318r8 := rg [om V3, om L0] [(2, L0), (3, cU)]
def q318l9 : ACode := (sq (rr q318r5) (sq (.cond V30 .skip (.exit 9)) (.block 10 (sq (rr q318r6) (sq (rr q318r7) (.cond V31 (sq (rr q318r8) .ret) .skip))))))
def q318r10 := rg [om (ci (-1))] [(2, L0)]
def q318r11 := rg [om V1, oc 334 [L0], oN (.not L0), om L0] [(32, L0)]
def q318r12 := rg [om (ci (-1))] [(2, L0)]
def q318 : AFn := { nparams := 2, nslots := 33, slots := [0, 1, 4, 5, 6, 7, 8, 9, 10, 11, 12, 13, 14, 15, 16, 26, 33, 43, 51, 64, 98, 108, 124, 139, 143, 156, 160, 171, 175, 176, 177, 181, 183], results := [.var 2], body := (sq (rr q318r0) (.block 0 (sq (rr q318r1) (.cond V26 (sq (rr q318r2) .ret) (sq (rr q318r3) (.cond V27 (sq (sq (rr q318r4) (.block 9 (.loop [0, 1, 2, 3, 4, 5, 6, 7, 8, 9, 10, 11, 12, 13, 14, 15, 16, 17, 18, 19, 20, 21, 22, 23, 24, 25, 26, 27, 29, 30, 31, 32] q318l9))) (sq (rr q318r10) .ret)) (sq (rr q318r11) (.cond V32 (sq (rr q318r12) .ret) .stuck)))))))) }
theorem q318ok : fnOk Tryz.prog xfT gT Tryz.f318 q318 = true := by kernel_rfl
theorem q318at : Tryz.prog.funcs[318]? = some Tryz.f318 := by kernel_rfl
def q327r0 := rg [om (.cst (.int .u32 0)), om (ci 0)] [(1, cU), (2, cU)]
def q327r1 := rg [om V0, ob .eql L0 (cs [])] [(8, L0)]
def q327r2 := rg [om (.cst (.int .u32 0)), om (ci 3)] [(1, L1), (2, L0)]
def q327r3 := rg [om (.cst (.int .u32 0)), om cF] [(3, L1), (4, L0)]
def q327r4 := rg [om V0, on .str L0, om (ci 0)] [(9, L1), (10, L0)]
def q327r5 := rg [ob .lss V10 V9] [(11, L0)]
def q327r6 := rg [om V10, om L0] [(5, L0)]
def q327r7 := rg [om V0, om V5, oN (.idxS L1 L0), oc 341 [L0], om L0, ox 0 L0, ox 1 L1, om L1, om L1] [(5, cU), (6, L1), (7, L0)]
def q327r8 := rg [om V7, oN (.not L0)] [(7, cU), (12, L0)]
def q327r9 := rg [om (.cst (.int .u32 0)), om (ci 3)] [(1, L1), (2, L0)]
def q327r10 := rg [om V4, om L0, omF V3 L0, oF (.bin .shr L0 (.cst (.int .u64 28))) L1, oF (.bin .neq L0 (.cst (.int .u32 0))) L2, op L3 cT L0, om L0] [(4, L0)]
def q327r11 := rg [om V3, ob .shl L0 (.cst (.int .u64 4)), om V6, ob .or L1 L0, om L0] [(3, L0), (6, cU)]
def q327r12 := rg [ob .add V10 (ci 1), om L0] [(10, L0)]
def q327l13 : ACode := (sq (rr q327r5) (sq (.cond V11 .skip (.exit 0)) (sq (.block 1 (sq (rr q327r6) (sq (rr q327r7) (sq (sq (rr q327r8) (.cond V12 (sq (rr q327r9) .ret) .skip)) (sq (rr q327r10) (rr q327r11)))))) (rr q327r12))))
def q327r14 := rg [om V4] [(4, cU), (13, L0)]
def q327r15 := rg [om (.cst (.int .u32 0)), om (ci 5)] [(1, L1), (2, L0)]
def q327r16 := rg [om V3, om L0, om (ci 0)] [(1, L1), (2, L0), (3, cU)]
def q327 : AFn := { nparams := 1, nslots := 14, slots := [0, 2, 3, 4, 5, 6, 7, 8, 10, 12, 13, 14, 24, 36], results := [.var 1, .var 2], body := (sq (rr q327r0) (sq (sq (rr q327r1) (.cond V8 (sq (rr q327r2) .ret) .skip)) (sq (rr q327r3) (sq (sq (rr q327r4) (.block 0 (.loop [1, 2, 5, 6, 7, 8, 11, 12, 13] q327l13))) (sq (sq (rr q327r14) (.cond V13 (sq (rr q327r15) .ret) .skip)) (sq (rr q327r16) .ret)))))) }
theorem q327ok : fnOk Tryz.prog xfT gT Tryz.f327 q327 = true := by kernel_rfl
theorem q327at : Tryz.prog.funcs[327]? = some Tryz.f327 := by kernel_rfl
end Go.Proofs.YtkjokjogdehonaaGreatDoor.Am.Q
namespace Go.Proofs.YtkjokjogdehonaaGreatDoor.Am.Q
open Go Go.Proofs Go.Proofs.YtkjokjogdehonaaGreatDoor.Am
def q328r0 := rg [om (.cst .nilSl)] [(2, cU)]
def q328r1 := rg [om V0, oN (.append 5 1 1 (.cst .nilSl) L0), om L0] [(0, cU), (3, L0)]
def q328r2 := rg [om V1, on .sli L0, om (ci 0)] [(1, cU), (5, L2), (6, L1), (7, L0)]
def q328r3 := rg [ob .lss V7 V6] [(8, L0)]
def q328r4 := rg [oN (.idxAddr 1 V5 V7), ol L0, om L0] [(4, L0)]
def q328r5 := rg [om V3, om V4, oc 143 [L1, L0], om L0] [(3, L0), (4, cU)]
def q328r6 := rg [ob .add V7 (ci 1), om L0] [(7, L0)]
def q328l7 : ACode := (sq (rr q328r3) (sq (.cond V8 .skip (.exit 0)) (sq (.block 1 (sq (rr q328r4) (rr q328r5))) (rr q328r6))))
def q328r8 := rg [om V3, om L0] [(2, L0), (3, cU)]
def q328 : AFn := { nparams := 2, nslots := 9, slots := [0, 1, 4, 5, 7, 10, 11, 12, 13], results := [.var 2], body := (sq (rr q328r0) (sq (rr q328r1) (sq (sq (rr q328r2) (.block 0 (.loop [0, 1, 2, 4, 8] q328l7))) (sq (rr q328r8) .ret)))) }
theorem q328ok : fnOk Tryz.prog xfT gT Tryz.f328 q328 = true := by kernel_rfl
theorem q328at : Tryz.prog.funcs[328]? = some Tryz.f328 := by kernel_rfl
def q329r0 := rg [om (.cst (.int .i32 0))] [(2, cU)]
def q329r1 := rg [om V0, om V1, oc 342 [L1, L0], om L0] [(3, L0)]
def q329r2 := rg [om V3, ob .lss L0 (.cst (.int .i32 55296)), om L0, omF V3 L0, oF (.bin .gtr L0 (.cst (.int .i32 57343))) L1, op L2 cT L0] [(6, L0)]
def q329r3 := rg [om V3, om L0] [(2, L0), (3, cU)]
def q329r4 := rg [om V3, ob .geq L0 (.cst (.int .i32 56320))] [(7, L0)]
def q329r5 := rg [om V0, oN (.nilck L0), of 0 L0, om V1, oc 216 [L1, (ci 3), L0]] []
def q329r6 := rg [oN (.buildSlT 5 1 (.int .u8 0) 2 [(0, (cb 92)), (1, (cb 117))]), oN (.convB L0), on .sli L0, om (ci 0)] [(8, L2), (9, L1), (10, L0)]
def q329r7 := rg [ob .lss V10 V9] [(11, L0)]
def q329r8 := rg [oN (.idxAddr 1 V8 V10), ol L0, om L0] [(4, L0)]
def q329r9 := rg [om V0, oN (.nilck L0), of 0 L0, oc 307 [L0], om V4, ob .neq L1 L0] [(4, cU), (12, L0)]
def q329r10 := rg [om V0, oN (.nilck L0), of 0 L0, om V1, oc 216 [L1, (ci 3), L0]] []
def q329r11 := rg [om V0, oN (.nilck L0), of 0 L0, of 1 L0, ol L0, ob .add L0 (ci 1), oN (.nilck L5), of 0 L0, of 1 L0, os 1 L0 L3] []
def q329r12 := rg [ob .add V10 (ci 1), om L0] [(10, L0)]
def q329l13 : ACode := (sq (rr q329r7) (sq (.cond V11 .skip (.exit 0)) (sq (.block 1 (sq (rr q329r8) (sq (sq (rr q329r9) (.cond V12 (rr q329r10) .skip)) (rr q329r11)))) (rr q329r12))))
def q329r14 := rg [om V0, om V1, oc 342 [L1, L0], om L0] [(5, L0)]
def q329r15 := rg [om V5, ob .lss L0 (.cst (.int .i32 56320)), om L0, omF V5 L0, oF (.bin .gtr L0 (.cst (.int .i32 57343))) L1, op L2 cT L0] [(13, L0)]
def q329r16 := rg [om V0, oN (.nilck L0), of 0 L0, om V1, oc 216 [L1, (ci 3), L0]] [(0, cU), (1, cU)]
def q329r17 := rg [om V3, ob .sub L0 (.cst (.int .i32 55296)), ob .shl L0 (.cst (.int .u64 10)), ob .add (.cst (.int .i32 65536)) L0, om V5, ob .sub L0 (.cst (.int .i32 56320)), ob .add L2 L0, om L0] [(2, L0), (3, cU), (5, cU)]
def q329 : AFn := { nparams := 2, nslots := 14, slots := [0, 1, 4, 5, 7, 8, 17, 20, 27, 28, 29, 30, 38, 62], results := [.var 2], body := (sq (rr q329r0) (sq (rr q329r1) (sq (sq (rr q329r2) (.cond V6 (sq (rr q329r3) .ret) .skip)) (sq (sq (rr q329r4) (.cond V7 (rr q329r5) .skip)) (sq (sq (rr q329r6) (.block 0 (.loop [2, 4, 5, 6, 7, 11, 12, 13] q329l13))) (sq (rr q329r14) (sq (sq (rr q329r15) (.cond V13 (rr q329r16) .skip)) (sq (rr q329r17) .ret)))))))) }
theorem q329ok : fnOk Tryz.prog xfT gT Tryz.f329 q329 = true := by kernel_rfl
theorem q329at : Tryz.prog.funcs[329]? = some Tryz.f329 := by kernel_rfl
def q330r0 := rg [om (.cst (.int .u32 0))] [(1, cU)]
def q330r1 := rg [om V0, oc 150 [L0], om L0] [(2, L0)]
def q330r2 := rg [om V0, ob .sub L0 (cb 48), oN (.convI .u32 L0), om L0] [(0, cU), (1, L0)]
def q330r3 := rg [om V0, ob .geq L0 (cb 97), om L0, omT V0 L0, oT (.bin .leq L0 (cb 102)) L1, op L2 L0 cF, om L0] [(3, L0)]
def q330r4 := rg [om V0, ob .sub L0 (cb 97), oN (.convI .u32 L0), ob .add L0 (.cst (.int .u32 10)), om L0] [(0, cU), (1, L0)]
def q330r5 := rg [om V0, ob .geq L0 (cb 65), om L0, omT V0 L0, oT (.bin .leq L0 (cb 70)) L1, op L2 L0 cF, om L0] [(4, L0)]
def q330r6 := rg [om V0, ob .sub L0 (cb 65), oN (.convI .u32 L0), ob .add L0 (.cst (.int .u32 10)), om L0] [(0, cU), (1, L0)]
def q330r7 := rg [om (.cst (.int .u32 16))] [(1, L0)]
def q330 : AFn := { nparams := 1, nslots := 5, slots := [0, 2, 3, 9, 20], results := [.var 1], body := (sq (rr q330r0) (sq (.block 0 (sq (rr q330r1) (.cond V2 (sq (rr q330r2) .ret) (sq (rr q330r3) (.cond V3 (sq (rr q330r4) .ret) (sq (rr q330r5) (.cond V4 (sq (rr q330r6) .ret) .skip))))))) (sq (rr q330r7) .ret))) }
theorem q330ok : fnOk Tryz.prog xfT gT Tryz.f330 q330 = true := by kernel_rfl
theorem q330at : Tryz.prog.funcs[330]? = some Tryz.f330 := by kernel_rfl
def q334r0 := rg [om cF] [(1, cU)]
def q334r1 := rg [om V0, ob .leq (.cst (.int .i32 0)) L0, om L0, omT V0 L0, oT (.bin .lss L0 (.cst (.int .i32 55296))) L1, op L2 L0 cF, om L0] [(2, L0)]
def q334r2 := rg [om cT] [(1, L0)]
def q334r3 := rg [om V0, ob .lss (.cst (.int .i32 57343)) L0, om L0, omT V0 L0, oT (.bin .leq L0 (.cst (.int .i32 1114111))) L1, op L2 L0 cF, om L0] [(0, cU), (3, L0)]
def q334r4 := rg [om cT] [(1, L0)]
def q334r5 := rg [om cF] [(1, L0)]
def q334 : AFn := { nparams := 1, nslots := 4, slots := [0, 2, 3, 10], results := [.var 1], body := (sq (rr q334r0) (sq (.block 0 (sq (rr q334r1) (.cond V2 (sq (rr q334r2) .ret) (sq (rr q334r3) (.cond V3 (sq (rr q334r4) .ret) .skip))))) (sq (rr q334r5) .ret))) }
theorem q334ok : fnOk Tryz.prog xfT gT Tryz.f334 q334 = true := by kernel_rfl
theorem q334at : Tryz.prog.funcs[334]? = some Tryz.f334 := by kernel_rfl
def q341r0 := rg [om (.cst (.int .u32 0)), om cF] [(1, cU), (2, cU)]
def q341r1 := rg [om V0, oc 314 [L0], om L0] [(0, L0)]
def q341r2 := rg [om V0, oc 271 [L0], om L0] [(3, L0)]
def q341r3 := rg [om V0, ob .sub L0 (cb 48), oN (.convI .u32 L0), om L0, om cT] [(0, cU), (1, L1), (2, L0)]
def q341r4 := rg [om V0, ob .sub L0 (cb 97), ob .lss L0 (cb 6), om L0] [(4, L0)]
def q341r5 := rg [om V0, ob .sub L0 (cb 97), oN (.convI .u32 L0), ob .add L0 (.cst (.int .u32 10)), om L0, om cT] [(0, cU), (1, L1), (2, L0)]
def q341r6 := rg [om (.cst (.int .u32 0)), om cF] [(1, L1), (2, L0)]
def q341 : AFn := { nparams := 1, nslots := 5, slots := [0, 2, 3, 6, 12], results := [.var 1, .var 2], body := (sq (rr q341r0) (sq (sq (rr q341r1) (.block 0 (sq (rr q341r2) (.cond V3 (sq (rr q341r3) .ret) (sq (rr q341r4) (.cond V4 (sq (rr q341r5) .ret) .skip)))))) (sq (rr q341r6) .ret))) }
theorem q341ok : fnOk Tryz.prog xfT gT Tryz.f341 q341 = true := by kernel_rfl
theorem q341at : Tryz.prog.funcs[341]? = some Tryz.f341 := by kernel_rfl
def q342r0 := rg [om (.cst (.int .i32 0))] [(2, cU)]
def q342r1 := rd [om V0, oN (.nilck L0), of 0 L0, of 0 L0, ol L0, om V0, oN (.nilck L0), of 0 L0, of 1 L0, ol L0, om V0, oN (.nilck L0), of 0 L0, of 1 L0, ol L0, ob .add L0 (ci 4), om V0, oN (.nilck L0), of 0 L0, of 0 L0, ol L0, on .str L0, oN (.min L6 L0), oN (.sliceS L18 (some L13) (some L0)), om L0] [(3, L0)] [] [] [[], [0], [0, 1], [1, 0, 2], [2, 0, 1, 3], [], [5], [5, 6], [6, 5, 7], [7, 5, 6, 8], [], [10], [10, 11], [11, 10, 12], [12, 10, 11, 13], [13, 11, 10, 12, 14], [], [16], [16, 17], [17, 16, 18], [18, 16, 17, 19], [19, 17, 16, 18, 20], [20, 18, 16, 17, 19, 21, 14, 12, 10, 11, 13, 15], [15, 13, 11, 10, 12, 14, 21, 19, 17, 16, 18, 20, 22, 8, 6, 5, 7, 9, 3, 1, 0, 2, 4], [4, 2, 0, 1, 3, 9, 7, 5, 6, 8, 22, 20, 18, 16, 17, 19, 21, 14, 12, 10, 11, 13, 15, 23]]
def q342r2 := rg [om V3, oc 327 [L0], om L0, ox 0 L0, ox 1 L1, om L1, om L1] [(4, L1), (5, L0)]
def q342r3 := rg [om V5, ob .eql L0 (ci 0), om L0, omT V3 L0, oT (.len .str L0) L1, oT (.bin .eql L0 (ci 4)) L2, op L3 L0 cF] [(6, L0)]
def q342r4 := rg [om V0, oN (.nilck L0), of 0 L0, of 1 L0, ol L0, ob .add L0 (ci 4), oN (.nilck L5), of 0 L0, of 1 L0, os 1 L0 L3] [(0, cU)]
def q342r5 := rg [om V4, oN (.convI .i32 L0), om L0] [(2, L0), (4, cU)]
def q342r6 := rg [om V5, ob .neq L0 (ci 0), om L0, omT V3 L0, oT (.bin .neq L0 (cs [])) L1, op L2 L0 cF] [(3, cU), (5, cU), (7, L0)]
def q342r7 := rg [om V0, oN (.nilck L0), of 0 L0, om V1, oc 216 [L1, (ci 3), L0]] [(1, cU)]
def q342r8 := rd [om V0, oN (.nilck L0), of 0 L0, om V0, oN (.nilck L0), of 0 L0, of 0 L0, ol L0, on .str L0, oc 216 [L6, (ci 4), L0]] [(0, cU)] [] [9] [[], [0], [0, 1], [], [3], [3, 4], [4, 3, 5], [5, 3, 4, 6], [6, 4, 3, 5, 7], [7, 5, 3, 4, 6, 8, 1, 0, 2]]
def q342r9 := rg [om (.cst (.int .i32 0))] [(2, L0)]
def q342 : AFn := { nparams := 2, nslots := 8, slots := [0, 1, 4, 5, 6, 7, 43, 60], results := [.var 2], body := (sq (rr q342r0) (sq (rr q342r1) (sq (sq (rr q342r2) (sq (rr q342r3) (.cond V6 (sq (rr q342r4) (sq (rr q342r5) .ret)) (sq (rr q342r6) (.cond V7 (rr q342r7) .skip))))) (sq (rr q342r8) (sq (rr q342r9) .ret))))) }
theorem q342ok : fnOk Tryz.prog xfT gT Tryz.f342 q342 = true := by kernel_rfl
theorem q342at : Tryz.prog.funcs[342]? = some Tryz.f342 := by kernel_rfl
end Go.Proofs.YtkjokjogdehonaaGreatDoor.Am.Q
