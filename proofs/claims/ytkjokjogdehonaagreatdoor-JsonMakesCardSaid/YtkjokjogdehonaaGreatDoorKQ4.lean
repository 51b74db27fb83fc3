/- Part KQ4 of a claim's texts, joined: what the claim needs of them. -/
import Derived.Test.YtkjokjogdehonaaGreatDoorKQ0
set_option linter.unusedSimpArgs false
set_option linter.unusedVariables false
namespace Go.Proofs.YtkjokjogdehonaaGreatDoor.Am.Q
open Go Go.Proofs Go.Proofs.YtkjokjogdehonaaGreatDoor.Am
def q199r0 := rg [om (cs [])] [(2, cU)]
def q199r1 := rg [om V0, om V1, oc 255 [L1, L0], om L0] [(0, cU), (1, cU), (2, L0)]
def q199 : AFn := { nparams := 2, nslots := 3, slots := [0, 1, 4], results := [.var 2], body := (sq (rr q199r0) (sq (rr q199r1) .ret)) }
theorem q199ok : fnOk Tryz.prog xfT gT Tryz.f199 q199 = true := by kernel_rfl
theorem q199at : Tryz.prog.funcs[199]? = some Tryz.f199 := by kernel_rfl
end Go.Proofs.YtkjokjogdehonaaGreatDoor.Am.Q
namespace Go.Proofs.YtkjokjogdehonaaGreatDoor.Am.Q
open Go Go.Proofs Go.Proofs.YtkjokjogdehonaaGreatDoor.Am
def q214r0 := rg [oN (.alloc 27 [zi, zs, .nilSl, .nilSl])] [(2, L0)]
def q214r1 := rg [om V0, oN (.nilck L0), of 0 L0, oc 267 [L0], om L0] [(3, L0)]
def q214r2 := rg [om V0, oN (.nilck L0), of 0 L0, of 1 L0, ol L0, om L0] [(4, L0)]
def q214r3 := rg [om V0, oN (.nilck L0), of 2 L0, ol L0, ob .sub L0 (ci 1), oN (.nilck L4), of 2 L0, os 1 L0 L2] []
def q214r4 := rg [om V0, oN (.nilck L0), of 2 L0, ol L0, ob .lss L0 (ci 0)] [(7, L0)]
def q214r5 := rg [om V0, oN (.nilck L0), of 0 L0, om V4, oc 216 [L1, (ci 5), L0]] []
def q214r6 := rg [om V3, ob .eql L0 (cb 34), om L0] [(8, L0)]
def q214r7 := rg [om V0, oc 268 [L0], oN (.build [zi, zs, .nilSl, .nilSl] [(0, 1, (ci 4)), (1, 1, L0)]), os 4 V2 L0] [(0, cU)]
def q214r8 := rg [om V3, ob .eql L0 (cb 91), om L0, omF V3 L0, oF (.bin .eql L0 (cb 123)) L1, op L2 cT L0, om L0, omT V1 L0, oT (.bin .eql L0 (ci 64)) L1, op L2 L0 cF, om L0] [(9, L0)]
def q214r9 := rg [om V0, oN (.nilck L0), of 0 L0, om V4, oc 216 [L1, (ci 8), L0]] []
def q214r10 := rg [om V3, ob .eql L0 (cb 91), om L0] [(10, L0)]
def q214r11 := rg [om V0, om V1, ob .add L0 (ci 1), oc 269 [L2, L0], os 4 V2 L0] [(0, cU), (1, cU)]
def q214r12 := rg [om V3, ob .eql L0 (cb 123), om L0] [(11, L0)]
def q214r13 := rg [om V0, om V1, ob .add L0 (ci 1), oc 270 [L2, L0], os 4 V2 L0] [(0, cU), (1, cU)]
def q214r14 := rg [om V3, ob .eql L0 (cb 45), om L0, omF V3 L0, oF (.call 271 [L0]) L1, op L2 cT L0, om L0] [(3, cU), (12, L0)]
def q214r15 := rg [om V0, oc 272 [L0, (cs [48, 49, 50, 51, 52, 53, 54, 55, 56, 57, 43, 45, 46, 101, 69])], om L0] [(5, L0)]
def q214r16 := rg [om V5, oc 273 [L0], oN (.not L0)] [(13, L0)]
def q214r17 := rg [om V0, oN (.nilck L0), of 0 L0, om V4, oc 216 [L1, (ci 3), L0]] [(0, cU), (4, cU)]
def q214r18 := rg [om V5, oN (.build [zi, zs, .nilSl, .nilSl] [(0, 1, (ci 3)), (1, 1, L0)]), os 4 V2 L0] [(5, cU)]
def q214r19 := rg [om V0, oc 272 [L0, (cs [97, 98, 99, 100, 101, 102, 103, 104, 105, 106, 107, 108, 109, 110, 111, 112, 113, 114, 115, 116, 117, 118, 119, 120, 121, 122])], om L0] [(6, L0)]
def q214r20 := rg [om V6] [(14, L0)]
def q214r21 := rg [ob .eql V14 (cs [110, 117, 108, 108]), om L0] [(15, L0)]
def q214r22 := rg [oN (.build [zi, zs, .nilSl, .nilSl] [(0, 1, (ci 1))]), os 4 V2 L0] []
def q214r23 := rg [ob .eql V14 (cs [116, 114, 117, 101]), om L0] [(16, L0)]
def q214r24 := rg [ob .eql V14 (cs [102, 97, 108, 115, 101]), om L0] [(14, cU), (16, L0)]
def q214r25 := rg [om V6, oN (.build [zi, zs, .nilSl, .nilSl] [(0, 1, (ci 2)), (1, 1, L0)]), os 4 V2 L0] [(6, cU)]
def q214r26 := rg [om V0, oN (.nilck L0), of 0 L0, om V4, oc 216 [L1, (ci 3), L0]] [(0, cU), (4, cU)]
def q214r27 := rg [oN (.build [zi, zs, .nilSl, .nilSl] []), os 4 V2 L0] []
def q214 : AFn := { nparams := 2, nslots := 17, slots := [0, 1, 4, 5, 6, 7, 8, 29, 35, 41, 57, 64, 71, 82, 92, 93, 96], results := [.cell 2 true 4], body := (sq (rr q214r0) (sq (rr q214r1) (sq (rr q214r2) (sq (rr q214r3) (sq (sq (rr q214r4) (.cond V7 (rr q214r5) .skip)) (sq (.block 0 (sq (rr q214r6) (.cond V8 (sq (rr q214r7) .ret) (sq (rr q214r8) (.cond V9 (rr q214r9) (sq (rr q214r10) (.cond V10 (sq (rr q214r11) .ret) (sq (rr q214r12) (.cond V11 (sq (rr q214r13) .ret) (sq (rr q214r14) (.cond V12 (sq (rr q214r15) (sq (sq (rr q214r16) (.cond V13 (rr q214r17) .skip)) (sq (rr q214r18) .ret))) .skip))))))))))) (sq (sq (rr q214r19) (sq (rr q214r20) (.block 1 (sq (rr q214r21) (.cond V15 (sq (rr q214r22) .ret) (sq (sq (rr q214r23) (.cond V16 .skip (rr q214r24))) (.cond V16 (sq (rr q214r25) .ret) .skip))))))) (sq (rr q214r26) (sq (rr q214r27) .ret))))))))) }
theorem q214ok : fnOk Tryz.prog xfT gT Tryz.f214 q214 = true := by kernel_rfl
theorem q214at : Tryz.prog.funcs[214]? = some Tryz.f214 := by kernel_rfl
def q215r0 := rd [om V0, oN (.nilck L0), of 1 L0, ol L0, om V0, oN (.nilck L0), of 0 L0, ol L0, on .str L0, ob .lss L5 L0, om L0, omT V0 L0, oT (.nilck L0) L1, oT (.fieldAddr 0 L0) L2, oT (.load false 1 L0) L3, omT V0 L4, oT (.nilck L0) L5, oT (.fieldAddr 1 L0) L6, oT (.load false 1 L0) L7, oT (.idxS L4 L0) L8, oT (.call 140 [(cs [9, 10, 13, 32]), L0]) L9, oT (.bin .geq L0 (ci 0)) L10, op L11 L0 cF] [(1, L0)] [] [20] [[], [0], [0, 1], [1, 0, 2], [], [4], [4, 5], [5, 4, 6], [6, 4, 5, 7], [7, 5, 4, 6, 8, 2, 0, 1, 3], [3, 1, 0, 2, 8, 6, 4, 5, 7, 9], [9, 7, 5, 4, 6, 8, 2, 0, 1, 3, 10], [10, 3, 1, 0, 2, 8, 6, 4, 5, 7, 9, 11], [11, 9, 7, 5, 4, 6, 8, 2, 0, 1, 3, 10, 12], [12, 10, 3, 1, 0, 2, 8, 6, 4, 5, 7, 9, 11, 13], [9, 7, 5, 4, 6, 8, 2, 0, 1, 3, 10], [10, 3, 1, 0, 2, 8, 6, 4, 5, 7, 9, 15], [15, 9, 7, 5, 4, 6, 8, 2, 0, 1, 3, 10, 16], [16, 10, 3, 1, 0, 2, 8, 6, 4, 5, 7, 9, 15, 17], [17, 15, 16, 18, 13, 11, 9, 7, 5, 4, 6, 8, 2, 0, 1, 3, 10, 12, 14], [14, 12, 10, 3, 1, 0, 2, 8, 6, 4, 5, 7, 9, 11, 13, 18, 16, 15, 17, 19], [19, 17, 15, 16, 18, 13, 11, 9, 7, 5, 4, 6, 8, 2, 0, 1, 3, 10, 12, 14, 20], [20, 14, 12, 11, 13, 18, 16, 15, 17, 19, 21, 9, 7, 5, 4, 6, 8, 2, 0, 1, 3, 10]]
def q215r1 := rg [om V0, oN (.nilck L0), of 1 L0, ol L0, ob .add L0 (ci 1), oN (.nilck L4), of 1 L0, os 1 L0 L2] []
def q215l2 : ACode := (sq (sq (rr q215r0) (.cond V1 .skip (.exit 0))) (.block 1 (rr q215r1)))
def q215 : AFn := { nparams := 1, nslots := 2, slots := [0, 24], results := [], body := (.block 0 (.loop [1] q215l2)) }
theorem q215ok : fnOk Tryz.prog xfT gT Tryz.f215 q215 = true := by kernel_rfl
theorem q215at : Tryz.prog.funcs[215]? = some Tryz.f215 := by kernel_rfl
def q216r0 := rg [om V1, om V2, oN (.build [zi, zi] [(0, 1, L1), (1, 1, L0)]), oN (.build [zi, zi] [(0, 2, L0)]), oN (.mkIface 275 L0), oN (.panic L0)] [(1, cU), (2, cU)]
def q216 : AFn := { nparams := 3, nslots := 3, slots := [0, 1, 2], results := [], body := (rr q216r0) }
theorem q216ok : fnOk Tryz.prog xfT gT Tryz.f216 q216 = true := by kernel_rfl
theorem q216at : Tryz.prog.funcs[216]? = some Tryz.f216 := by kernel_rfl
def q217r0 := rg [oN (.box 27 V0), om cF] [(0, cU), (1, L1), (2, cU)]
def q217r1 := rg [of 0 V1, ol L0, ob .lss L0 (ci 5), om L0, oT (.fieldAddr 2 V1) L0, oT (.load false 1 L0) L1, oT (.len .sli L0) L2, oT (.fieldAddr 3 V1) L3, oT (.load false 1 L0) L4, oT (.len .sli L0) L5, oT (.bin .add L3 L0) L6, oT (.bin .gtr L0 (ci 0)) L7, op L8 L0 cF] [(3, L0)]
def q217r2 := rg [om cF] [(2, L0)]
def q217r3 := rg [of 0 V1, ol L0] [(4, L0)]
def q217r4 := rg [ob .eql V4 (ci 1), om L0] [(5, L0)]
def q217r5 := rg [of 1 V1, ol L0, ob .eql L0 (cs []), om L0] [(1, cU), (2, L0)]
def q217r6 := rg [ob .eql V4 (ci 2), om L0] [(6, L0)]
def q217r7 := rg [of 1 V1, ol L0, ob .eql L0 (cs [116, 114, 117, 101]), om L0, oF (.fieldAddr 1 V1) L0, oF (.load false 1 L0) L1, oF (.bin .eql L0 (cs [102, 97, 108, 115, 101])) L2, op L3 cT L0, om L0] [(1, cU), (2, L0)]
def q217r8 := rg [ob .eql V4 (ci 3), om L0] [(7, L0)]
def q217r9 := rg [of 1 V1, ol L0, oc 273 [L0], om L0] [(1, cU), (2, L0)]
def q217r10 := rg [ob .eql V4 (ci 4), om L0] [(8, L0)]
def q217r11 := rg [of 1 V1, ol L0, oc 103 [L0], om L0] [(1, cU), (2, L0)]
def q217r12 := rg [ob .eql V4 (ci 5), om L0] [(9, L0)]
def q217r13 := rg [of 1 V1, ol L0, ob .eql L0 (cs []), om L0, oT (.fieldAddr 2 V1) L0, oT (.load false 1 L0) L1, oT (.len .sli L0) L2, oT (.bin .eql L0 (ci 0)) L3, op L4 L0 cF, om L0] [(1, cU), (2, L0)]
def q217r14 := rg [ob .eql V4 (ci 6), om L0] [(4, cU), (10, L0)]
def q217r15 := rg [of 1 V1, ol L0, ob .eql L0 (cs []), om L0, oT (.fieldAddr 2 V1) L0, oT (.load false 1 L0) L1, oT (.len .sli L0) L2, oT (.fieldAddr 3 V1) L3, oT (.load false 1 L0) L4, oT (.len .sli L0) L5, oT (.bin .eql L3 L0) L6, op L7 L0 cF, om L0, oT (.fieldAddr 2 V1) L0, oT (.load false 1 L0) L1, oT (.len .sli L0) L2, oT (.bin .leq L0 (ci 4096)) L3, op L4 L0 cF, om L0, oT (.fieldAddr 2 V1) L0, oT (.load false 1 L0) L1, oT (.call 274 [L0]) L2, oT (.not L0) L3, op L4 L0 cF, om L0, oT (.fieldAddr 2 V1) L0, oT (.load false 1 L0) L1, oT (.call 167 [L0, (.cst (.fn (.func 275) [] []))]) L2, oT (.not L0) L3, op L4 L0 cF, om L0] [(1, cU), (2, L0)]
def q217r16 := rg [om cF] [(2, L0)]
def q217 : AFn := { nparams := 1, nslots := 11, slots := [0, 1, 2, 15, 17, 18, 23, 33, 38, 43, 54], results := [.var 2], body := (sq (rr q217r0) (sq (sq (rr q217r1) (.cond V3 (sq (rr q217r2) .ret) .skip)) (sq (sq (rr q217r3) (.block 0 (sq (rr q217r4) (.cond V5 (sq (rr q217r5) .ret) (sq (rr q217r6) (.cond V6 (sq (rr q217r7) .ret) (sq (rr q217r8) (.cond V7 (sq (rr q217r9) .ret) (sq (rr q217r10) (.cond V8 (sq (rr q217r11) .ret) (sq (rr q217r12) (.cond V9 (sq (rr q217r13) .ret) (sq (rr q217r14) (.cond V10 (sq (rr q217r15) .ret) .skip)))))))))))))) (sq (rr q217r16) .ret)))) }
theorem q217ok : fnOk Tryz.prog xfT gT Tryz.f217 q217 = true := by kernel_rfl
theorem q217at : Tryz.prog.funcs[217]? = some Tryz.f217 := by kernel_rfl
def q218r0 := rg [om V0, oN (.nilck L0), of 0 L0, ol L0, oN (.eq false (.leaf .ptr) L0 (.cst .nilPtr))] [(1, L0)]
def q218r1 := rg [om V0, om V0, oN (.convP L0), om L0, oN (.convU [(183, 2, 0)] L0), oN (.nilck L4), of 0 L0, os 1 L0 L2] [(0, cU)]
def q218r2 := rg [om V0, oN (.nilck L0), of 0 L0, ol L0, om V0, oN (.eq true (.leaf .ptr) L1 L0)] [(0, cU), (2, L0)]
def q218 : AFn := { nparams := 1, nslots := 3, slots := [0, 6, 19], results := [], body := (sq (rr q218r0) (.cond V1 (rr q218r1) (sq (rr q218r2) (.cond V2 .stuck .skip)))) }
theorem q218ok : fnOk Tryz.prog xfT gT Tryz.f218 q218 = true := by kernel_rfl
theorem q218at : Tryz.prog.funcs[218]? = some Tryz.f218 := by kernel_rfl
def q219r0 := rg [om (ci 0)] [(2, cU)]
def q219r1 := rg [om V0, om V1, oN (.idxByte L1 L0), om L0] [(0, cU), (1, cU), (2, L0)]
def q219 : AFn := { nparams := 2, nslots := 3, slots := [0, 1, 4], results := [.var 2], body := (sq (rr q219r0) (sq (rr q219r1) .ret)) }
theorem q219ok : fnOk Tryz.prog xfT gT Tryz.f219 q219 = true := by kernel_rfl
theorem q219at : Tryz.prog.funcs[219]? = some Tryz.f219 := by kernel_rfl
def q220r0 := rg [om (.cst (.int .i32 0)), om (ci 0)] [(1, cU), (2, cU)]
def q220r1 := rg [om V0, ob .neq L0 (cs []), om L0, omT V0 L0, oT (.idxS L0 (ci 0)) L1, oT (.bin .lss L0 (cb 128)) L2, op L3 L0 cF] [(3, L0)]
def q220r2 := rg [om V0, oN (.idxS L0 (ci 0)), oN (.convI .i32 L0), om L0, om (ci 1)] [(0, cU), (1, L1), (2, L0)]
def q220r3 := rg [om V0, oc 278 [L0], om L0, ox 0 L0, ox 1 L1, om L1, om L1] [(0, cU), (1, L1), (2, L0)]
def q220 : AFn := { nparams := 1, nslots := 4, slots := [0, 2, 3, 10], results := [.var 1, .var 2], body := (sq (rr q220r0) (sq (sq (rr q220r1) (.cond V3 (sq (rr q220r2) .ret) (rr q220r3))) .ret)) }
theorem q220ok : fnOk Tryz.prog xfT gT Tryz.f220 q220 = true := by kernel_rfl
theorem q220at : Tryz.prog.funcs[220]? = some Tryz.f220 := by kernel_rfl
def q221r0 := rg [om (ci 0)] [(1, cU)]
def q221r1 := rg [om (ci 1)] [(2, L0)]
def q221r2 := rg [om (ci 1)] [(3, L0)]
def q221r3 := rg [om V3, om V0, on .str L0, oN (.min L0 (ci 4)), ob .add L0 (ci 1), ob .lss L4 L0] [(4, L0)]
def q221r4 := rg [om V0, om V3, oN (.sliceS L1 none (some L0)), oc 279 [L0], oN (.not L0)] [(5, L0)]
def q221r5 := rg [om V3, om L0] [(2, L0)]
def q221r6 := rg [om V3, ob .add L0 (ci 1), om L0] [(3, L0)]
def q221l7 : ACode := (sq (sq (rr q221r3) (.cond V4 .skip (.exit 0))) (sq (.block 1 (sq (rr q221r4) (.cond V5 (rr q221r5) .skip))) (rr q221r6)))
def q221r8 := rg [om V2, om L0] [(1, L0), (2, cU)]
def q221 : AFn := { nparams := 1, nslots := 6, slots := [0, 2, 3, 4, 10, 17], results := [.var 1], body := (sq (rr q221r0) (sq (rr q221r1) (sq (sq (rr q221r2) (.block 0 (.loop [1, 4, 5] q221l7))) (sq (rr q221r8) .ret)))) }
theorem q221ok : fnOk Tryz.prog xfT gT Tryz.f221 q221 = true := by kernel_rfl
theorem q221at : Tryz.prog.funcs[221]? = some Tryz.f221 := by kernel_rfl
def q222r0 := rg [om (.cst .nilSl)] [(2, cU)]
def q222r1 := rg [om V1, oN (.convI .u32 L0), om L0] [(3, L0)]
def q222r2 := rg [om V3, ob .leq L0 (.cst (.int .u32 2047)), om L0] [(4, L0)]
def q222r3 := rg [om V0, om V1, ob .shr L0 (.cst (.int .u64 6)), oN (.convI .u8 L0), ob .or (cb 192) L0, om V1, oN (.convI .u8 L0), ob .and L0 (cb 63), ob .or (cb 128) L0, oN (.buildSl 1 (.int .u8 0) 2 [(0, L4), (1, L0)]), oN (.append 5 1 1 L9 L0), om L0] [(0, cU), (1, cU), (2, L0)]
def q222r4 := rg [om V3, ob .lss L0 (.cst (.int .u32 55296)), om L0] [(5, L0)]
def q222r5 := rg [om V3, ob .lss (.cst (.int .u32 57343)) L0, om L0, omT V3 L0, oT (.bin .leq L0 (.cst (.int .u32 65535))) L1, op L2 L0 cF, om L0] [(5, L0)]
def q222r6 := rg [om V0, om V1, ob .shr L0 (.cst (.int .u64 12)), oN (.convI .u8 L0), ob .or (cb 224) L0, om V1, ob .shr L0 (.cst (.int .u64 6)), oN (.convI .u8 L0), ob .and L0 (cb 63), ob .or (cb 128) L0, om V1, oN (.convI .u8 L0), ob .and L0 (cb 63), ob .or (cb 128) L0, oN (.buildSl 1 (.int .u8 0) 3 [(0, L9), (1, L4), (2, L0)]), oN (.append 5 1 1 L14 L0), om L0] [(0, cU), (1, cU), (2, L0)]
def q222r7 := rg [om V3, ob .gtr L0 (.cst (.int .u32 65535)), om L0, omT V3 L0, oT (.bin .leq L0 (.cst (.int .u32 1114111))) L1, op L2 L0 cF, om L0] [(3, cU), (6, L0)]
def q222r8 := rg [om V0, om V1, ob .shr L0 (.cst (.int .u64 18)), oN (.convI .u8 L0), ob .or (cb 240) L0, om V1, ob .shr L0 (.cst (.int .u64 12)), oN (.convI .u8 L0), ob .and L0 (cb 63), ob .or (cb 128) L0, om V1, ob .shr L0 (.cst (.int .u64 6)), oN (.convI .u8 L0), ob .and L0 (cb 63), ob .or (cb 128) L0, om V1, oN (.convI .u8 L0), ob .and L0 (cb 63), ob .or (cb 128) L0, oN (.buildSl 1 (.int .u8 0) 4 [(0, L14), (1, L9), (2, L4), (3, L0)]), oN (.append 5 1 1 L19 L0), om L0] [(0, cU), (1, cU), (2, L0)]
def q222r9 := rg [om V0, oN (.buildSl 1 (.int .u8 0) 3 [(0, (cb 239)), (1, (cb 191)), (2, (cb 189))]), oN (.append 5 1 1 L1 L0), om L0] [(0, cU), (2, L0)]
def q222 : AFn := { nparams := 2, nslots := 7, slots := [0, 1, 4, 5, 11, 25, 50], results := [.var 2], body := (sq (rr q222r0) (sq (rr q222r1) (.block 0 (sq (rr q222r2) (.cond V4 (sq (rr q222r3) .ret) (sq (sq (rr q222r4) (.cond V5 .skip (rr q222r5))) (.cond V5 (sq (rr q222r6) .ret) (sq (rr q222r7) (.cond V6 (sq (rr q222r8) .ret) (sq (rr q222r9) .ret)))))))))) }
theorem q222ok : fnOk Tryz.prog xfT gT Tryz.f222 q222 = true := by kernel_rfl
theorem q222at : Tryz.prog.funcs[222]? = some Tryz.f222 := by kernel_rfl
def q223r0 := rg [om (.cst .nilSl)] [(1, cU)]
def q223r1 := rg [om V0, oN (.nilck L0), of 1 L0, ol L0, om L0] [(2, L0)]
def q223r2 := rg [om V2, ob .add L0 (ci 1), om V0, oN (.nilck L0), of 0 L0, ol L0, on .str L0, ob .geq L5 L0] [(11, L0)]
def q223r3 := rg [om V0, om V0, oN (.nilck L0), of 0 L0, ol L0, on .str L0, oc 73 [L5, (ci 4), L0]] [(0, cU)]
def q223r4 := rg [om (.cst .nilSl)] [(1, L0)]
def q223r5 := rg [om V0, oN (.nilck L0), of 0 L0, ol L0, om V2, ob .add L0 (ci 1), oN (.idxS L2 L0), om L0] [(3, L0)]
def q223r6 := rg [om (cs [98, 116, 110, 102, 114, 34, 92, 47]), om (cs [8, 9, 10, 12, 13, 34, 92, 47])] [(4, L1), (5, L0)]
def q223r7 := rg [om (ci 0)] [(6, L0)]
def q223r8 := rg [om V6, om V4, on .str L0, ob .lss L2 L0] [(12, L0)]
def q223r9 := rg [om V4, om V6, oN (.idxS L1 L0), om V3, ob .eql L1 L0] [(13, L0)]
def q223r10 := rg [om V0, om V2, ob .add L0 (ci 2), oN (.nilck L2), of 1 L0, os 1 L0 L2] [(0, cU), (2, cU)]
def q223r11 := rg [om V5, om V6, oN (.idxS L1 L0), oN (.buildSl 1 (.int .u8 0) 1 [(0, L0)]), om L0] [(1, L0), (5, cU), (6, cU)]
def q223r12 := rg [om V6, ob .add L0 (ci 1), om L0] [(6, L0)]
def q223l13 : ACode := (sq (sq (rr q223r8) (.cond V12 .skip (.exit 0))) (sq (.block 1 (sq (rr q223r9) (.cond V13 (sq (rr q223r10) (sq (rr q223r11) .ret)) .skip))) (rr q223r12)))
def q223r14 := rg [om V3, ob .neq L0 (cb 117)] [(3, cU), (14, L0)]
def q223r15 := rg [om V0, om V2, oc 73 [L1, (ci 3), L0]] [(0, cU), (2, cU)]
def q223r16 := rg [om (.cst .nilSl)] [(1, L0)]
def q223r17 := rg [om V0, om V2, ob .add L0 (ci 2), om V2, oc 280 [L3, L1, L0], oN (.not L0)] [(15, L0)]
def q223r18 := rg [om (.cst .nilSl)] [(1, L0)]
def q223r19 := rg [om V0, om V2, ob .add L0 (ci 2), om V2, oc 281 [L3, L1, L0], om L0] [(7, L0)]
def q223r20 := rg [om V0, om V2, ob .add L0 (ci 6), oN (.nilck L2), of 1 L0, os 1 L0 L2] []
def q223r21 := rg [om V0, oN (.nilck L0), of 3 L0, of 0 L0, ol L0, ob .neq L0 (ci 0), om L0, omF V7 L0, oF (.bin .lss L0 (.cst (.int .i32 55296))) L1, op L2 cT L0, om L0, omF V7 L0, oF (.bin .gtr L0 (.cst (.int .i32 57343))) L1, op L2 cT L0] [(16, L0)]
def q223r22 := rg [om V7, oN (.buildSl 1 (.int .i32 0) 1 [(0, L0)]), oc 282 [(.cst .nilSl), L0], om L0] [(1, L0), (7, cU)]
def q223r23 := rg [om V7, ob .geq L0 (.cst (.int .i32 56320))] [(17, L0)]
def q223r24 := rg [om V0, om V2, oc 73 [L1, (ci 3), L0]] [(0, cU), (2, cU)]
def q223r25 := rg [om (.cst .nilSl)] [(1, L0)]
def q223r26 := rg [om (cs [92, 117])] [(8, L0)]
def q223r27 := rg [om (ci 0)] [(9, L0)]
def q223r28 := rg [om V9, ob .lss L0 (ci 2)] [(18, L0)]
def q223r29 := rd [om V0, oN (.nilck L0), of 1 L0, ol L0, om V9, ob .add L1 L0, om V0, oN (.nilck L0), of 0 L0, ol L0, on .str L0, ob .geq L5 L0] [(19, L0)] [] [] [[], [0], [0, 1], [1, 0, 2], [], [4, 2, 0, 1, 3], [], [6], [6, 7], [7, 6, 8], [8, 6, 7, 9], [9, 7, 6, 8, 10, 3, 1, 0, 2, 4, 5]]
def q223r30 := rg [om V0, om V0, oN (.nilck L0), of 0 L0, ol L0, on .str L0, oc 73 [L5, (ci 4), L0]] [(0, cU)]
def q223r31 := rg [om (.cst .nilSl)] [(1, L0)]
def q223r32 := rd [om V0, oN (.nilck L0), of 0 L0, ol L0, om V0, oN (.nilck L0), of 1 L0, ol L0, om V9, ob .add L1 L0, oN (.idxS L6 L0), om V8, om V9, oN (.idxS L1 L0), ob .neq L3 L0] [(20, L0)] [] [] [[], [0], [0, 1], [1, 0, 2], [], [4], [4, 5], [5, 4, 6], [], [8, 6, 4, 5, 7], [7, 5, 4, 6, 8, 9, 2, 0, 1, 3], [], [], [12, 11], [11, 12, 13, 3, 1, 0, 2, 9, 8, 6, 4, 5, 7, 10]]
def q223r33 := rg [om V0, om V2, oc 73 [L1, (ci 3), L0]] [(0, cU), (2, cU)]
def q223r34 := rg [om (.cst .nilSl)] [(1, L0)]
def q223r35 := rg [om V9, ob .add L0 (ci 1), om L0] [(9, L0)]
def q223l36 : ACode := (sq (sq (rr q223r28) (.cond V18 .skip (.exit 2))) (sq (.block 3 (sq (sq (rr q223r29) (.cond V19 (sq (rr q223r30) (sq (rr q223r31) .ret)) .skip)) (sq (rr q223r32) (.cond V20 (sq (rr q223r33) (sq (rr q223r34) .ret)) .skip)))) (rr q223r35)))
def q223r37 := rg [om V0, om V0, oN (.nilck L0), of 1 L0, ol L0, ob .add L0 (ci 2), om V2, oc 280 [L6, L1, L0], oN (.not L0)] [(21, L0)]
def q223r38 := rg [om (.cst .nilSl)] [(1, L0)]
def q223r39 := rg [om V0, om V0, oN (.nilck L0), of 1 L0, ol L0, ob .add L0 (ci 2), om V2, oc 281 [L6, L1, L0], om L0] [(10, L0)]
def q223r40 := rg [om V0, oN (.nilck L0), of 1 L0, ol L0, ob .add L0 (ci 6), oN (.nilck L4), of 1 L0, os 1 L0 L2] []
def q223r41 := rg [om V0, oN (.nilck L0), of 3 L0, of 0 L0, ol L0, ob .eql L0 (ci 0), om L0, omT V10 L0, oT (.bin .lss L0 (.cst (.int .i32 56320))) L1, omT L0 L2, omF V10 L0, oF (.bin .gtr L0 (.cst (.int .i32 57343))) L1, oT (.pick L2 cT L0) L5, op L6 L0 cF] [(22, L0)]
def q223r42 := rg [om V0, om V2, oc 73 [L1, (ci 3), L0]] [(0, cU), (2, cU)]
def q223r43 := rg [om V7, ob .sub L0 (.cst (.int .i32 55296)), ob .mul L0 (.cst (.int .i32 1024)), ob .add (.cst (.int .i32 65536)) L0, om V10, ob .add L1 L0, ob .sub L0 (.cst (.int .i32 56320)), oN (.buildSl 1 (.int .i32 0) 1 [(0, L0)]), oc 282 [(.cst .nilSl), L0], om L0] [(1, L0), (7, cU), (10, cU)]
def q223 : AFn := { nparams := 1, nslots := 23, slots := [0, 2, 3, 4, 5, 6, 7, 8, 9, 10, 11, 23, 41, 48, 59, 68, 92, 97, 102, 116, 138, 150, 179], results := [.var 1], body := (sq (rr q223r0) (sq (rr q223r1) (sq (sq (rr q223r2) (.cond V11 (sq (rr q223r3) (sq (rr q223r4) .ret)) .skip)) (sq (rr q223r5) (sq (rr q223r6) (sq (sq (rr q223r7) (.block 0 (.loop [1, 7, 8, 9, 10, 11, 12, 13, 14, 15, 16, 17, 18, 19, 20, 21, 22] q223l13))) (sq (sq (rr q223r14) (.cond V14 (sq (rr q223r15) (sq (rr q223r16) .ret)) .skip)) (sq (sq (rr q223r17) (.cond V15 (sq (rr q223r18) .ret) .skip)) (sq (rr q223r19) (sq (rr q223r20) (sq (sq (rr q223r21) (.cond V16 (sq (rr q223r22) .ret) .skip)) (sq (sq (rr q223r23) (.cond V17 (sq (rr q223r24) (sq (rr q223r25) .ret)) .skip)) (sq (rr q223r26) (sq (sq (rr q223r27) (.block 2 (.loop [1, 3, 4, 5, 6, 10, 11, 12, 13, 14, 15, 16, 17, 18, 19, 20, 21, 22] q223l36))) (sq (sq (rr q223r37) (.cond V21 (sq (rr q223r38) .ret) .skip)) (sq (rr q223r39) (sq (rr q223r40) (sq (sq (rr q223r41) (.cond V22 (rr q223r42) .skip)) (sq (rr q223r43) .ret))))))))))))))))))) }
theorem q223ok : fnOk Tryz.prog xfT gT Tryz.f223 q223 = true := by kernel_rfl
theorem q223at : Tryz.prog.funcs[223]? = some Tryz.f223 := by kernel_rfl
def q224r0 := rg [om cF] [(1, cU)]
def q224r1 := rg [om V0, oc 150 [L0], om L0, omF V0 L0, oF (.bin .eql L0 (cb 45)) L1, op L2 cT L0, om L0, omF V0 L0, oF (.bin .eql L0 (cb 43)) L1, op L2 cT L0, om L0, omF V0 L0, oF (.bin .eql L0 (cb 46)) L1, op L2 cT L0, om L0, omF V0 L0, oF (.bin .eql L0 (cb 101)) L1, op L2 cT L0, om L0, omF V0 L0, oF (.bin .eql L0 (cb 69)) L1, op L2 cT L0, om L0] [(0, cU), (1, L0)]
def q224 : AFn := { nparams := 1, nslots := 2, slots := [0, 2], results := [.var 1], body := (sq (rr q224r0) (sq (rr q224r1) .ret)) }
theorem q224ok : fnOk Tryz.prog xfT gT Tryz.f224 q224 = true := by kernel_rfl
theorem q224at : Tryz.prog.funcs[224]? = some Tryz.f224 := by kernel_rfl
end Go.Proofs.YtkjokjogdehonaaGreatDoor.Am.Q
namespace Go.Proofs.YtkjokjogdehonaaGreatDoor.Am.Q
open Go Go.Proofs Go.Proofs.YtkjokjogdehonaaGreatDoor.Am
def q225r0 := rg [om (ci 0)] [(1, cU)]
def q225r1 := rg [om (ci 0)] [(2, L0)]
def q225r2 := rg [om V2, om V0, on .str L0, ob .lss L2 L0, om L0, omT V0 L0, omT V2 L1, oT (.idxS L1 L0) L2, oT (.call 150 [L0]) L3, op L4 L0 cF] [(3, L0)]
def q225r3 := rg [om V2, ob .add L0 (ci 1), om L0] [(2, L0)]
def q225l4 : ACode := (sq (sq (rr q225r2) (.cond V3 .skip (.exit 0))) (.block 1 (rr q225r3)))
def q225r5 := rg [om V2, om L0] [(1, L0), (2, cU)]
def q225 : AFn := { nparams := 1, nslots := 4, slots := [0, 2, 3, 13], results := [.var 1], body := (sq (rr q225r0) (sq (rr q225r1) (sq (.block 0 (.loop [1, 3] q225l4)) (sq (rr q225r5) .ret)))) }
theorem q225ok : fnOk Tryz.prog xfT gT Tryz.f225 q225 = true := by kernel_rfl
theorem q225at : Tryz.prog.funcs[225]? = some Tryz.f225 := by kernel_rfl
def q226r0 := rg [om cF] [(3, cU)]
def q226r1 := rg [om V0, oc 148 [L0], om L0] [(4, L0)]
def q226r2 := rg [om V0, oN (.nilck L0), of 3 L0, of 0 L0, ol L0, ob .neq L0 (ci 0), om L0] [(5, L0)]
def q226r3 := rg [om cF] [(3, L0)]
def q226r4 := rg [om V4, om V2, ob .eql L1 L0, om L0] [(2, cU), (6, L0)]
def q226r5 := rg [om V0, oN (.nilck L0), of 1 L0, ol L0, ob .add L0 (ci 1), oN (.nilck L4), of 1 L0, os 1 L0 L2] [(0, cU)]
def q226r6 := rg [om cF] [(3, L0)]
def q226r7 := rg [om V1, om L0] [(1, cU), (7, L0)]
def q226r8 := rg [om cT] [(3, L0)]
def q226r9 := rg [om V4, ob .neq L0 (cb 44), om L0] [(4, cU), (8, L0)]
def q226r10 := rg [om V0, om V0, oN (.nilck L0), of 1 L0, ol L0, oc 73 [L4, (ci 3), L0]] [(0, cU)]
def q226r11 := rg [om cF] [(3, L0)]
def q226r12 := rg [om V0, oN (.nilck L0), of 1 L0, ol L0, ob .add L0 (ci 1), oN (.nilck L4), of 1 L0, os 1 L0 L2] [(0, cU)]
def q226r13 := rg [om cT] [(3, L0)]
def q226 : AFn := { nparams := 3, nslots := 9, slots := [0, 1, 2, 6, 7, 10, 17, 28, 30], results := [.var 3], body := (sq (rr q226r0) (sq (rr q226r1) (sq (.block 0 (sq (rr q226r2) (.cond V5 (sq (rr q226r3) .ret) (sq (rr q226r4) (.cond V6 (sq (rr q226r5) (sq (rr q226r6) .ret)) (sq (rr q226r7) (.cond V7 (sq (rr q226r8) .ret) (sq (rr q226r9) (.cond V8 (sq (rr q226r10) (sq (rr q226r11) .ret)) .skip))))))))) (sq (rr q226r12) (sq (rr q226r13) .ret))))) }
theorem q226ok : fnOk Tryz.prog xfT gT Tryz.f226 q226 = true := by kernel_rfl
theorem q226at : Tryz.prog.funcs[226]? = some Tryz.f226 := by kernel_rfl
def q227r0 := rg [om V0, on .sli L0, ob .sub L0 (ci 1), om (ci 0), om L1] [(1, L1), (2, L0)]
def q227r1 := rg [om V1, om V2, ob .lss L1 L0] [(3, L0)]
def q227r2 := rd [om V0, om V1, om V0, om V2, om V0, om V2, oN (.idxAddr 1 L1 L0), ol L0, om V0, om V1, oN (.idxAddr 1 L1 L0), ol L0, oN (.idxAddr 1 L11 L10), os 1 L0 L5, oN (.idxAddr 1 L11 L10), os 1 L0 L3] [] [] [13, 15] [[], [], [], [], [], [], [5, 4], [4, 5, 6], [], [], [9, 8], [8, 9, 10], [10, 9, 8, 11, 7, 6, 5, 4, 1, 0], [0, 1, 4, 5, 6, 7, 11, 8, 9, 10, 12], [13, 12, 11, 10, 9, 8, 7, 6, 5, 4, 1, 0, 3, 2], [2, 3, 0, 1, 4, 5, 6, 7, 8, 9, 10, 11, 12, 13, 14]]
def q227r3 := rg [om V1, ob .add L0 (ci 1), om V2, ob .sub L0 (ci 1), om L2, om L1] [(1, L1), (2, L0)]
def q227l4 : ACode := (sq (sq (rr q227r1) (.cond V3 .skip (.exit 0))) (sq (.block 1 (rr q227r2)) (rr q227r3)))
def q227 : AFn := { nparams := 1, nslots := 4, slots := [0, 2, 3, 9], results := [], body := (sq (rr q227r0) (.block 0 (.loop [3] q227l4))) }
theorem q227ok : fnOk Tryz.prog xfT gT Tryz.f227 q227 = true := by kernel_rfl
theorem q227at : Tryz.prog.funcs[227]? = some Tryz.f227 := by kernel_rfl
def q235r0 := rg [om (ci 0)] [(2, cU)]
def q235r1 := rg [om V0, on .sli L0, om (ci 0)] [(4, L1), (5, L0)]
def q235r2 := rg [ob .lss V5 V4] [(6, L0)]
def q235r3 := rg [om V5, om L0] [(3, L0)]
def q235r4 := rg [om V1, om V0, om V3, oN (.idxAddr 1 L1 L0), ol L0, oN (.callV L4 [L0])] [(7, L0)]
def q235r5 := rg [om V3, om L0] [(2, L0), (3, cU)]
def q235r6 := rg [ob .add V5 (ci 1), om L0] [(5, L0)]
def q235l7 : ACode := (sq (rr q235r2) (sq (.cond V6 .skip (.exit 0)) (sq (.block 1 (sq (rr q235r3) (sq (rr q235r4) (.cond V7 (sq (rr q235r5) .ret) .skip)))) (rr q235r6))))
def q235r8 := rg [om (ci (-1))] [(2, L0)]
def q235 : AFn := { nparams := 2, nslots := 8, slots := [0, 1, 4, 5, 7, 8, 9, 16], results := [.var 2], body := (sq (rr q235r0) (sq (sq (rr q235r1) (.block 0 (.loop [2, 3, 6, 7] q235l7))) (sq (rr q235r8) .ret))) }
theorem q235ok : fnOk Tryz.prog xfT gT Tryz.f235 q235 = true := by kernel_rfl
theorem q235at : Tryz.prog.funcs[235]? = some Tryz.f235 := by kernel_rfl
def q241r0 := rg [om (cs [])] [(2, cU)]
def q241r1 := rg [om V0, ob .eql L0 (cs []), om L0, omF V1 L0, oF (.bin .eql L0 (cs [])) L1, op L2 cT L0] [(5, L0)]
def q241r2 := rg [om V0, om L0] [(0, cU), (2, L0)]
def q241r3 := rg [om V1, on .str L0, ob .eql L0 (ci 1), om L0, omT V1 L0, oT (.idxS L0 (ci 0)) L1, oT (.bin .lss L0 (cb 128)) L2, op L3 L0 cF] [(6, L0)]
def q241r4 := rg [om V0, om V1, oN (.idxS L0 (ci 0)), oc 260 [L2, L0], om L0] [(0, cU), (1, cU), (2, L0)]
def q241r5 := rg [om V1, oc 262 [L0], om L0, ox 0 L0, ox 1 L1, oN (.alloc 317 [zb, zb, zb, zb, zb, zb, zb, zb, zb, zb, zb, zb, zb, zb, zb, zb, zb, zb, zb, zb, zb, zb, zb, zb, zb, zb, zb, zb, zb, zb, zb, zb, zb, zb, zb, zb, zb, zb, zb, zb, zb, zb, zb, zb, zb, zb, zb, zb, zb, zb, zb, zb, zb, zb, zb, zb, zb, zb, zb, zb, zb, zb, zb, zb, zb, zb, zb, zb, zb, zb, zb, zb, zb, zb, zb, zb, zb, zb, zb, zb, zb, zb, zb, zb, zb, zb, zb, zb, zb, zb, zb, zb, zb, zb, zb, zb, zb, zb, zb, zb, zb, zb, zb, zb, zb, zb, zb, zb, zb, zb, zb, zb, zb, zb, zb, zb, zb, zb, zb, zb, zb, zb, zb, zb, zb, zb, zb, zb, zb, zb, zb, zb, zb, zb, zb, zb, zb, zb, zb, zb, zb, zb, zb, zb, zb, zb, zb, zb, zb, zb, zb, zb, zb, zb, zb, zb, zb, zb, zb, zb, zb, zb, zb, zb, zb, zb, zb, zb, zb, zb, zb, zb, zb, zb, zb, zb, zb, zb, zb, zb, zb, zb, zb, zb, zb, zb, zb, zb, zb, zb, zb, zb, zb, zb, zb, zb, zb, zb, zb, zb, zb, zb, zb, zb, zb, zb, zb, zb, zb, zb, zb, zb, zb, zb, zb, zb, zb, zb, zb, zb, zb, zb, zb, zb, zb, zb, zb, zb, zb, zb, zb, zb, zb, zb, zb, zb, zb, zb, zb, zb, zb, zb, zb, zb, zb, zb, zb, zb, zb, zb, zb, zb, zb, zb, zb, zb]), os 256 L0 L2, om L2] [(3, L2), (4, L0)]
def q241r6 := rg [om V4] [(4, cU), (7, L0)]
def q241r7 := rg [om V0, oc 263 [L0, V3], om L0] [(0, cU), (2, L0), (3, cU)]
def q241r8 := rg [om V0, om V1, oc 265 [L1, L0], om L0] [(0, cU), (1, cU), (2, L0)]
def q241 : AFn := { nparams := 2, nslots := 8, slots := [0, 1, 4, 5, 6, 12, 21, 31], results := [.var 2], body := (sq (rr q241r0) (sq (sq (rr q241r1) (.cond V5 (sq (rr q241r2) .ret) .skip)) (sq (sq (rr q241r3) (.cond V6 (sq (rr q241r4) .ret) .skip)) (sq (sq (rr q241r5) (sq (rr q241r6) (.cond V7 (sq (rr q241r7) .ret) .skip))) (sq (rr q241r8) .ret))))) }
theorem q241ok : fnOk Tryz.prog xfT gT Tryz.f241 q241 = true := by kernel_rfl
theorem q241at : Tryz.prog.funcs[241]? = some Tryz.f241 := by kernel_rfl
def q243r0 := rg [om cF] [(2, cU)]
def q243r1 := rg [om V0, on .str L0, om V1, on .str L0, ob .geq L2 L0, om L0, omT V0 L0, omT V1 L1, oT (.len .str L0) L2, oT (.sliceS L2 none (some L0)) L3, omT V1 L4, oT (.bin .eql L1 L0) L5, op L6 L0 cF, om L0] [(0, cU), (1, cU), (2, L0)]
def q243 : AFn := { nparams := 2, nslots := 3, slots := [0, 1, 4], results := [.var 2], body := (sq (rr q243r0) (sq (rr q243r1) .ret)) }
theorem q243ok : fnOk Tryz.prog xfT gT Tryz.f243 q243 = true := by kernel_rfl
theorem q243at : Tryz.prog.funcs[243]? = some Tryz.f243 := by kernel_rfl
def q244r0 := rg [om (cs []), om cF] [(2, cU), (3, cU)]
def q244r1 := rg [om V0, om V1, oc 287 [L1, L0], ox 0 L0, ox 1 L1, om L1, om L1] [(0, cU), (1, cU), (2, L1), (3, L0)]
def q244 : AFn := { nparams := 2, nslots := 4, slots := [0, 1, 4, 5], results := [.var 2, .var 3], body := (sq (rr q244r0) (sq (rr q244r1) .ret)) }
theorem q244ok : fnOk Tryz.prog xfT gT Tryz.f244 q244 = true := by kernel_rfl
theorem q244at : Tryz.prog.funcs[244]? = some Tryz.f244 := by kernel_rfl
end Go.Proofs.YtkjokjogdehonaaGreatDoor.Am.Q
