/- Part KQ2 of a claim's texts, joined: what the claim needs of them. -/
import Derived.Test.YtkjokjogdehonaaGreatDoorKQ0
set_option linter.unusedSimpArgs false
set_option linter.unusedVariables false
namespace Go.Proofs.YtkjokjogdehonaaGreatDoor.Am.Q
open Go Go.Proofs Go.Proofs.YtkjokjogdehonaaGreatDoor.Am
def q65r0 := rg [om cF] [(2, cU)]
def q65r1 := rg [om V0, on .sli L0, om V1, on .sli L0, ob .neq L2 L0] [(4, L0)]
def q65r2 := rg [om cF] [(2, L0)]
def q65r3 := rg [om (ci 0)] [(3, L0)]
def q65r4 := rg [om V3, om V0, on .sli L0, ob .lss L2 L0] [(5, L0)]
def q65r5 := rd [om V0, om V3, oN (.idxAddr 1 L1 L0), ol L0, om V1, om V3, oN (.idxAddr 1 L1 L0), ol L0, ob .neq L4 L0] [(6, L0)] [] [] [[], [], [1, 0], [0, 1, 2], [], [], [5, 4], [4, 5, 6], [6, 5, 4, 7, 2, 1, 0, 3]]
def q65r6 := rg [om cF] [(2, L0)]
def q65r7 := rg [om V3, ob .add L0 (ci 1), om L0] [(3, L0)]
def q65l8 : ACode := (sq (sq (rr q65r4) (.cond V5 .skip (.exit 0))) (sq (.block 1 (sq (rr q65r5) (.cond V6 (sq (rr q65r6) .ret) .skip))) (rr q65r7)))
def q65r9 := rg [om cT] [(2, L0)]
def q65 : AFn := { nparams := 2, nslots := 7, slots := [0, 1, 4, 5, 10, 14, 25], results := [.var 2], body := (sq (rr q65r0) (sq (sq (rr q65r1) (.cond V4 (sq (rr q65r2) .ret) .skip)) (sq (sq (rr q65r3) (.block 0 (.loop [2, 4, 5, 6] q65l8))) (sq (rr q65r9) .ret)))) }
theorem q65ok : fnOk Tryz.prog xfT gT Tryz.f65 q65 = true := by kernel_rfl
theorem q65at : Tryz.prog.funcs[65]? = some Tryz.f65 := by kernel_rfl
def q66r0 := rg [om (.cst (.int .i32 0)), om (ci 0), om (ci 0)] [(1, cU), (2, cU), (3, cU)]
def q66r1 := rg [om V0, ob .eql L0 (cs [])] [(8, L0)]
def q66r2 := rg [om (.cst (.int .i32 0)), om (ci 0), om (ci 9)] [(1, L2), (2, L1), (3, L0)]
def q66r3 := rg [om V0, oN (.idxS L0 (ci 0)), oc 144 [L0], om L0] [(4, L0)]
def q66r4 := rg [om V4, ob .eql L0 (ci 0)] [(9, L0)]
def q66r5 := rg [om (.cst (.int .i32 65533)), om (ci 1), om (ci 9)] [(1, L2), (2, L1), (3, L0)]
def q66r6 := rg [om (ci 1)] [(5, L0)]
def q66r7 := rd [om V5, om V4, ob .lss L1 L0, om L0, omT V5 L0, omT V0 L1, oT (.len .str L0) L2, oT (.bin .lss L2 L0) L3, op L4 L0 cF, om L0, omT V0 L0, oT (.idxS L0 (ci 0)) L1, omT V5 L2, omT V0 L3, omT V5 L4, oT (.idxS L1 L0) L5, oT (.call 145 [L4, L3, L0]) L6, op L7 L0 cF] [(10, L0)] [] [16] [[], [], [1, 0], [0, 1, 2], [2, 1, 0, 3], [2, 1, 0, 3], [3, 0, 1, 2, 5], [5, 6, 3, 0, 1, 2, 4], [4, 6, 5, 7, 2, 1, 0, 3], [3, 0, 1, 2, 7, 5, 6, 4, 8], [8, 4, 6, 5, 7, 2, 1, 0, 3, 9], [9, 3, 0, 1, 2, 7, 5, 6, 4, 8, 10], [8, 4, 6, 5, 7, 2, 1, 0, 3, 9], [8, 4, 6, 5, 7, 2, 1, 0, 3, 9], [8, 4, 6, 5, 7, 2, 1, 0, 3, 9], [14, 9, 3, 0, 1, 2, 7, 5, 6, 4, 8, 13], [13, 14, 15, 12, 10, 8, 4, 6, 5, 7, 2, 1, 0, 3, 9, 11], [11, 10, 12, 15, 14, 13, 16, 8, 4, 6, 5, 7, 2, 1, 0, 3, 9]]
def q66r8 := rg [om V5, ob .add L0 (ci 1), om L0] [(5, L0)]
def q66l9 : ACode := (sq (sq (rr q66r7) (.cond V10 .skip (.exit 0))) (.block 1 (rr q66r8)))
def q66r10 := rg [om V5, om V4, ob .lss L1 L0] [(11, L0)]
def q66r11 := rg [om V5, om (.cst (.int .i32 65533)), om L1, om (ci 9)] [(1, L2), (2, L1), (3, L0), (5, cU)]
def q66r12 := rg [om V0, oN (.idxS L0 (ci 0)), oN (.convI .i32 L0), om L0] [(6, L0)]
def q66r13 := rg [om V4] [(12, L0)]
def q66r14 := rg [ob .eql V12 (ci 2), om L0] [(13, L0)]
def q66r15 := rg [om V6, ob .sub L0 (.cst (.int .i32 192)), om L0] [(6, L0)]
def q66r16 := rg [ob .eql V12 (ci 3), om L0] [(14, L0)]
def q66r17 := rg [om V6, ob .sub L0 (.cst (.int .i32 224)), om L0] [(6, L0)]
def q66r18 := rg [ob .eql V12 (ci 4), om L0] [(12, cU), (15, L0)]
def q66r19 := rg [om V6, ob .sub L0 (.cst (.int .i32 240)), om L0] [(6, L0)]
def q66r20 := rg [om (ci 1)] [(7, L0)]
def q66r21 := rg [om V7, om V4, ob .lss L1 L0] [(16, L0)]
def q66r22 := rg [om V6, ob .mul L0 (.cst (.int .i32 64)), om V0, om V7, oN (.idxS L1 L0), oN (.convI .i32 L0), ob .add L4 L0, ob .sub L0 (.cst (.int .i32 128)), om L0] [(6, L0)]
def q66r23 := rg [om V7, ob .add L0 (ci 1), om L0] [(7, L0)]
def q66l24 : ACode := (sq (sq (rr q66r21) (.cond V16 .skip (.exit 3))) (sq (.block 4 (rr q66r22)) (rr q66r23)))
def q66r25 := rg [om V6, om V4, om L1, om L1, om (ci 0)] [(1, L2), (2, L1), (3, L0), (4, cU), (6, cU)]
def q66 : AFn := { nparams := 1, nslots := 17, slots := [0, 2, 3, 4, 5, 6, 7, 8, 10, 15, 33, 38, 43, 44, 48, 52, 58], results := [.var 1, .var 2, .var 3], body := (sq (rr q66r0) (sq (sq (rr q66r1) (.cond V8 (sq (rr q66r2) .ret) .skip)) (sq (rr q66r3) (sq (sq (rr q66r4) (.cond V9 (sq (rr q66r5) .ret) .skip)) (sq (rr q66r6) (sq (.block 0 (.loop [1, 2, 3, 6, 7, 8, 9, 10, 11, 12, 13, 14, 15, 16] q66l9)) (sq (sq (rr q66r10) (.cond V11 (sq (rr q66r11) .ret) .skip)) (sq (rr q66r12) (sq (sq (rr q66r13) (.block 2 (sq (rr q66r14) (.cond V13 (rr q66r15) (sq (rr q66r16) (.cond V14 (rr q66r17) (sq (rr q66r18) (.cond V15 (rr q66r19) .skip)))))))) (sq (sq (rr q66r20) (.block 3 (.loop [1, 2, 3, 5, 8, 9, 10, 11, 12, 13, 14, 15, 16] q66l24))) (sq (rr q66r25) .ret))))))))))) }
theorem q66ok : fnOk Tryz.prog xfT gT Tryz.f66 q66 = true := by kernel_rfl
theorem q66at : Tryz.prog.funcs[66]? = some Tryz.f66 := by kernel_rfl
def q67r0 := rg [om (.cst .nilSl)] [(1, cU)]
def q67r1 := rg [om V0, oc 146 [L0], oN (.not L0), om L0] [(2, L0)]
def q67r2 := rg [oc 67 [(.cst (.int .i32 65533))], om L0] [(1, L0)]
def q67r3 := rg [om V0, ob .lss L0 (.cst (.int .i32 128)), om L0] [(3, L0)]
def q67r4 := rg [om V0, oN (.convI .u8 L0), oN (.buildSl 1 (.int .u8 0) 1 [(0, L0)]), om L0] [(0, cU), (1, L0)]
def q67r5 := rg [om V0, ob .lss L0 (.cst (.int .i32 2048)), om L0] [(4, L0)]
def q67r6 := rg [om V0, ob .quo L0 (.cst (.int .i32 64)), oN (.convI .u8 L0), ob .add (cb 192) L0, om V0, ob .rem L0 (.cst (.int .i32 64)), oN (.convI .u8 L0), ob .add (cb 128) L0, oN (.buildSl 1 (.int .u8 0) 2 [(0, L4), (1, L0)]), om L0] [(0, cU), (1, L0)]
def q67r7 := rg [om V0, ob .lss L0 (.cst (.int .i32 65536)), om L0] [(5, L0)]
def q67r8 := rg [om V0, ob .quo L0 (.cst (.int .i32 4096)), oN (.convI .u8 L0), ob .add (cb 224) L0, om V0, ob .quo L0 (.cst (.int .i32 64)), ob .rem L0 (.cst (.int .i32 64)), oN (.convI .u8 L0), ob .add (cb 128) L0, om V0, ob .rem L0 (.cst (.int .i32 64)), oN (.convI .u8 L0), ob .add (cb 128) L0, oN (.buildSl 1 (.int .u8 0) 3 [(0, L9), (1, L4), (2, L0)]), om L0] [(0, cU), (1, L0)]
def q67r9 := rg [om V0, ob .quo L0 (.cst (.int .i32 262144)), oN (.convI .u8 L0), ob .add (cb 240) L0, om V0, ob .quo L0 (.cst (.int .i32 4096)), ob .rem L0 (.cst (.int .i32 64)), oN (.convI .u8 L0), ob .add (cb 128) L0, om V0, ob .quo L0 (.cst (.int .i32 64)), ob .rem L0 (.cst (.int .i32 64)), oN (.convI .u8 L0), ob .add (cb 128) L0, om V0, ob .rem L0 (.cst (.int .i32 64)), oN (.convI .u8 L0), ob .add (cb 128) L0, oN (.buildSl 1 (.int .u8 0) 4 [(0, L14), (1, L9), (2, L4), (3, L0)]), om L0] [(0, cU), (1, L0)]
def q67 : AFn := { nparams := 1, nslots := 6, slots := [0, 2, 3, 8, 14, 26], results := [.var 1], body := (sq (rr q67r0) (sq (.block 0 (sq (rr q67r1) (.cond V2 (sq (rr q67r2) .ret) (sq (rr q67r3) (.cond V3 (sq (rr q67r4) .ret) (sq (rr q67r5) (.cond V4 (sq (rr q67r6) .ret) (sq (rr q67r7) (.cond V5 (sq (rr q67r8) .ret) .skip))))))))) (sq (rr q67r9) .ret))) }
theorem q67ok : fnOk Tryz.prog xfT gT Tryz.f67 q67 = true := by kernel_rfl
theorem q67at : Tryz.prog.funcs[67]? = some Tryz.f67 := by kernel_rfl
def q68r0 := rg [om (.cst .nilSl)] [(1, cU)]
def q68r1 := rg [om V0, oN (.eq false (.leaf .sli) L0 (.cst .nilSl))] [(2, L0)]
def q68r2 := rg [om (.cst .nilSl)] [(1, L0)]
def q68r3 := rg [oN (.buildSl 4 (.agg [zi, zs, .nilSl, .nilSl]) 0 []), om V0, oN (.append 27 4 72 L1 L0), om L0] [(0, cU), (1, L0)]
def q68 : AFn := { nparams := 1, nslots := 3, slots := [0, 2, 4], results := [.var 1], body := (sq (rr q68r0) (sq (sq (rr q68r1) (.cond V2 (sq (rr q68r2) .ret) .skip)) (sq (rr q68r3) .ret))) }
theorem q68ok : fnOk Tryz.prog xfT gT Tryz.f68 q68 = true := by kernel_rfl
theorem q68at : Tryz.prog.funcs[68]? = some Tryz.f68 := by kernel_rfl
def q69r0 := rg [om cF] [(2, cU)]
def q69r1 := rg [om V0, om V1, oc 147 [L1, L0], ob .geq L0 (ci 0), om L0] [(0, cU), (1, cU), (2, L0)]
def q69 : AFn := { nparams := 2, nslots := 3, slots := [0, 1, 4], results := [.var 2], body := (sq (rr q69r0) (sq (rr q69r1) .ret)) }
theorem q69ok : fnOk Tryz.prog xfT gT Tryz.f69 q69 = true := by kernel_rfl
theorem q69at : Tryz.prog.funcs[69]? = some Tryz.f69 := by kernel_rfl
def q70r0 := rg [om cF] [(2, cU)]
def q70r1 := rg [om (ci 0)] [(3, L0)]
def q70r2 := rg [om V3, om V0, on .sli L0, ob .lss L2 L0] [(4, L0)]
def q70r3 := rg [om V0, om V3, oN (.idxAddr 1 L1 L0), ol L0, om V1, ob .eql L1 L0] [(5, L0)]
def q70r4 := rg [om cT] [(2, L0)]
def q70r5 := rg [om V3, ob .add L0 (ci 1), om L0] [(3, L0)]
def q70l6 : ACode := (sq (sq (rr q70r2) (.cond V4 .skip (.exit 0))) (sq (.block 1 (sq (rr q70r3) (.cond V5 (sq (rr q70r4) .ret) .skip))) (rr q70r5)))
def q70r7 := rg [om cF] [(2, L0)]
def q70 : AFn := { nparams := 2, nslots := 6, slots := [0, 1, 4, 5, 9, 17], results := [.var 2], body := (sq (rr q70r0) (sq (sq (rr q70r1) (.block 0 (.loop [2, 4, 5] q70l6))) (sq (rr q70r7) .ret))) }
theorem q70ok : fnOk Tryz.prog xfT gT Tryz.f70 q70 = true := by kernel_rfl
theorem q70at : Tryz.prog.funcs[70]? = some Tryz.f70 := by kernel_rfl
def q71r0 := rg [om cF] [(1, cU)]
def q71r1 := rg [om V0, on .str L0, ob .gtr L0 (ci 0)] [(4, L0)]
def q71r2 := rg [om V0, oc 66 [L0], om L0, ox 0 L0, ox 1 L1, ox 2 L2, om L2, om L2, om L2] [(2, L1), (3, L0)]
def q71r3 := rg [om V3, ob .neq L0 (ci 0)] [(3, cU), (5, L0)]
def q71r4 := rg [om cF] [(1, L0)]
def q71r5 := rg [om V0, om V2, oN (.sliceS L1 (some L0) none), om L0] [(0, L0), (2, cU)]
def q71l6 : ACode := (sq (sq (rr q71r1) (.cond V4 .skip (.exit 0))) (.block 1 (sq (rr q71r2) (sq (sq (rr q71r3) (.cond V5 (sq (rr q71r4) .ret) .skip)) (rr q71r5)))))
def q71r7 := rg [om cT] [(1, L0)]
def q71 : AFn := { nparams := 1, nslots := 6, slots := [0, 2, 4, 5, 8, 16], results := [.var 1], body := (sq (rr q71r0) (sq (.block 0 (.loop [1, 2, 3, 4, 5] q71l6)) (sq (rr q71r7) .ret))) }
theorem q71ok : fnOk Tryz.prog xfT gT Tryz.f71 q71 = true := by kernel_rfl
theorem q71at : Tryz.prog.funcs[71]? = some Tryz.f71 := by kernel_rfl
def q72r0 := rg [oN (.alloc 27 [zi, zs, .nilSl, .nilSl])] [(2, L0)]
def q72r1 := rg [om V0, oc 148 [L0], om L0] [(3, L0)]
def q72r2 := rg [om V0, oN (.nilck L0), of 1 L0, ol L0, om L0] [(4, L0)]
def q72r3 := rg [om V0, oN (.nilck L0), of 3 L0, of 0 L0, ol L0, ob .neq L0 (ci 0)] [(7, L0)]
def q72r4 := rg [oN (.build [zi, zs, .nilSl, .nilSl] []), os 4 V2 L0] []
def q72r5 := rg [om V0, oN (.nilck L0), of 2 L0, ol L0, ob .add L0 (ci 1), oN (.nilck L4), of 2 L0, os 1 L0 L2] []
def q72r6 := rg [om V0, oN (.nilck L0), of 2 L0, ol L0, ob .gtr L0 (ci 4096)] [(8, L0)]
def q72r7 := rg [om V0, om V4, oc 73 [L1, (ci 5), L0]] [(0, cU), (4, cU)]
def q72r8 := rg [oN (.build [zi, zs, .nilSl, .nilSl] []), os 4 V2 L0] []
def q72r9 := rg [om V3, ob .eql L0 (cb 34), om L0] [(9, L0)]
def q72r10 := rg [om V0, oc 149 [L0], oN (.build [zi, zs, .nilSl, .nilSl] [(0, 1, (ci 4)), (1, 1, L0)]), os 4 V2 L0] [(0, cU)]
def q72r11 := rg [om V3, ob .eql L0 (cb 45), om L0, omF V3 L0, oF (.call 150 [L0]) L1, op L2 cT L0, om L0] [(10, L0)]
def q72r12 := rg [om V0, oc 151 [L0, cT], om L0] [(5, L0)]
def q72r13 := rg [om V5, oc 152 [L0], oN (.not L0)] [(11, L0)]
def q72r14 := rg [om V0, om V4, oc 73 [L1, (ci 3), L0]] [(0, cU), (4, cU)]
def q72r15 := rg [om V5, oN (.build [zi, zs, .nilSl, .nilSl] [(0, 1, (ci 3)), (1, 1, L0)]), os 4 V2 L0] [(5, cU)]
def q72r16 := rg [om V3, oc 153 [L0], om L0] [(12, L0)]
def q72r17 := rg [om V0, oc 151 [L0, cF], om L0] [(6, L0)]
def q72r18 := rg [om V6] [(13, L0)]
def q72r19 := rg [ob .eql V13 (cs [110, 117, 108, 108]), om L0] [(14, L0)]
def q72r20 := rg [oN (.build [zi, zs, .nilSl, .nilSl] [(0, 1, (ci 1))]), os 4 V2 L0] []
def q72r21 := rg [ob .eql V13 (cs [116, 114, 117, 101]), om L0] [(15, L0)]
def q72r22 := rg [ob .eql V13 (cs [102, 97, 108, 115, 101]), om L0] [(13, cU), (15, L0)]
def q72r23 := rg [om V6, oN (.build [zi, zs, .nilSl, .nilSl] [(0, 1, (ci 2)), (1, 1, L0)]), os 4 V2 L0] [(6, cU)]
def q72r24 := rg [om V0, om V4, oc 73 [L1, (ci 3), L0]] [(0, cU), (4, cU)]
def q72r25 := rg [oN (.build [zi, zs, .nilSl, .nilSl] []), os 4 V2 L0] []
def q72r26 := rg [om V3, ob .neq L0 (cb 91), om L0, omT V3 L0, oT (.bin .neq L0 (cb 123)) L1, op L2 L0 cF, om L0] [(16, L0)]
def q72r27 := rg [om V0, om V4, oc 73 [L1, (ci 3), L0]] [(0, cU), (4, cU)]
def q72r28 := rg [oN (.build [zi, zs, .nilSl, .nilSl] []), os 4 V2 L0] []
def q72r29 := rg [om V1, ob .geq L0 (ci 64), om L0] [(17, L0)]
def q72r30 := rg [om V0, om V4, oc 73 [L1, (ci 8), L0]] [(0, cU), (4, cU)]
def q72r31 := rg [oN (.build [zi, zs, .nilSl, .nilSl] []), os 4 V2 L0] []
def q72r32 := rg [om V0, oN (.nilck L0), of 1 L0, ol L0, ob .add L0 (ci 1), oN (.nilck L4), of 1 L0, os 1 L0 L2] []
def q72r33 := rg [om V3, ob .eql L0 (cb 91)] [(3, cU), (18, L0)]
def q72r34 := rg [om V0, om V1, oc 154 [L1, L0], os 4 V2 L0] [(0, cU), (1, cU)]
def q72r35 := rg [om V0, om V1, oc 155 [L1, L0], os 4 V2 L0] [(0, cU), (1, cU)]
def q72 : AFn := { nparams := 2, nslots := 19, slots := [0, 1, 4, 5, 6, 7, 8, 20, 33, 38, 44, 55, 61, 66, 67, 70, 79, 90, 105], results := [.cell 2 true 4], body := (sq (rr q72r0) (sq (rr q72r1) (sq (rr q72r2) (sq (sq (rr q72r3) (.cond V7 (sq (rr q72r4) .ret) .skip)) (sq (rr q72r5) (sq (sq (rr q72r6) (.cond V8 (sq (rr q72r7) (sq (rr q72r8) .ret)) .skip)) (sq (.block 0 (sq (rr q72r9) (.cond V9 (sq (rr q72r10) .ret) (sq (rr q72r11) (.cond V10 (sq (rr q72r12) (sq (sq (rr q72r13) (.cond V11 (rr q72r14) .skip)) (sq (rr q72r15) .ret))) (sq (rr q72r16) (.cond V12 (sq (rr q72r17) (sq (sq (rr q72r18) (.block 1 (sq (rr q72r19) (.cond V14 (sq (rr q72r20) .ret) (sq (sq (rr q72r21) (.cond V15 .skip (rr q72r22))) (.cond V15 (sq (rr q72r23) .ret) .skip)))))) (sq (rr q72r24) (sq (rr q72r25) .ret)))) (sq (rr q72r26) (.cond V16 (sq (rr q72r27) (sq (rr q72r28) .ret)) (sq (rr q72r29) (.cond V17 (sq (rr q72r30) (sq (rr q72r31) .ret)) .skip))))))))))) (sq (rr q72r32) (sq (sq (rr q72r33) (.cond V18 (sq (rr q72r34) .ret) .skip)) (sq (rr q72r35) .ret)))))))))) }
theorem q72ok : fnOk Tryz.prog xfT gT Tryz.f72 q72 = true := by kernel_rfl
theorem q72at : Tryz.prog.funcs[72]? = some Tryz.f72 := by kernel_rfl
def q73r0 := rg [om V0, oN (.nilck L0), of 3 L0, of 0 L0, ol L0, ob .eql L0 (ci 0)] [(3, L0)]
def q73r1 := rg [om V0, om V1, om V2, oN (.build [zi, zi] [(0, 1, L1), (1, 1, L0)]), oN (.nilck L3), of 3 L0, os 2 L0 L2] [(0, cU), (1, cU), (2, cU)]
def q73 : AFn := { nparams := 3, nslots := 4, slots := [0, 1, 2, 11], results := [], body := (sq (rr q73r0) (.cond V3 (rr q73r1) .skip)) }
theorem q73ok : fnOk Tryz.prog xfT gT Tryz.f73 q73 = true := by kernel_rfl
theorem q73at : Tryz.prog.funcs[73]? = some Tryz.f73 := by kernel_rfl
def q74r0 := rg [om (cs [])] [(1, cU)]
def q74r1 := rg [om V0, oc 156 [L0, (ci 1)], om L0] [(0, cU), (1, L0)]
def q74 : AFn := { nparams := 1, nslots := 2, slots := [0, 2], results := [.var 1], body := (sq (rr q74r0) (sq (rr q74r1) .ret)) }
theorem q74ok : fnOk Tryz.prog xfT gT Tryz.f74 q74 = true := by kernel_rfl
theorem q74at : Tryz.prog.funcs[74]? = some Tryz.f74 := by kernel_rfl
def q75r0 := rg [oN (.box 27 V0), om (ci 0)] [(0, cU), (3, L1), (4, cU)]
def q75r1 := rg [om V2, ob .leq L0 (ci 0), om L0, oF (.fieldAddr 3 V3) L0, oF (.load false 1 L0) L1, oF (.len .sli L0) L2, oF (.bin .gtr L0 (ci 4096)) L3, op L4 cT L0, om L0, oF (.fieldAddr 2 V3) L0, oF (.load false 1 L0) L1, oF (.len .sli L0) L2, oF (.bin .gtr L0 (ci 4096)) L3, op L4 cT L0, om L0, oF (.load true 4 V3) L0, oF (.call 157 [L0]) L1, oF (.not L0) L2, op L3 cT L0, om L0, oF (.fieldAddr 0 V3) L0, oF (.load false 1 L0) L1, oF (.bin .eql L0 (ci 5)) L2, omF L0 L3, oF (.fieldAddr 0 V3) L0, oF (.load false 1 L0) L1, oF (.bin .eql L0 (ci 6)) L2, oF (.pick L3 cT L0) L7, omF L0 L8, omT V1 L0, oT (.bin .geq L0 (ci 64)) L1, oF (.pick L2 L0 cF) L11, op L12 cT L0] [(7, L0)]
def q75r2 := rg [om (ci 4097)] [(4, L0)]
def q75r3 := rg [om (ci 1)] [(5, L0)]
def q75r4 := rg [om (ci 0)] [(6, L0)]
def q75r5 := rg [om V6, of 3 V3, ol L0, on .sli L0, ob .lss L3 L0, om L0, omT V5 L0, omT V2 L1, oT (.bin .leq L1 L0) L2, op L3 L0 cF] [(8, L0)]
def q75r6 := rg [om V5, of 3 V3, ol L0, om V6, oN (.idxAddr 4 L1 L0), oa 4 L0, om V1, ob .add L0 (ci 1), om V2, om V5, ob .sub L1 L0, oc 75 [L5, L3, L0], ob .add L11 L0, om L0] [(5, L0)]
def q75r7 := rg [om V6, ob .add L0 (ci 1), om L0] [(6, L0)]
def q75l8 : ACode := (sq (sq (rr q75r5) (.cond V8 .skip (.exit 0))) (sq (.block 1 (rr q75r6)) (rr q75r7)))
def q75r9 := rg [om V5, oN (.min L0 (ci 4097)), om L0] [(4, L0), (5, cU)]
def q75 : AFn := { nparams := 3, nslots := 9, slots := [0, 1, 2, 3, 6, 7, 8, 41, 51], results := [.var 4], body := (sq (rr q75r0) (sq (sq (rr q75r1) (.cond V7 (sq (rr q75r2) .ret) .skip)) (sq (rr q75r3) (sq (sq (rr q75r4) (.block 0 (.loop [0, 4, 7, 8] q75l8))) (sq (rr q75r9) .ret))))) }
theorem q75ok : fnOk Tryz.prog xfT gT Tryz.f75 q75 = true := by kernel_rfl
theorem q75at : Tryz.prog.funcs[75]? = some Tryz.f75 := by kernel_rfl
end Go.Proofs.YtkjokjogdehonaaGreatDoor.Am.Q
namespace Go.Proofs.YtkjokjogdehonaaGreatDoor.Am.Q
open Go Go.Proofs Go.Proofs.YtkjokjogdehonaaGreatDoor.Am
def q103r0 := rg [om cF] [(1, cU)]
def q103r1 := rg [om V0, oN (.rangeS L0)] [(4, L0)]
def q103r2 := rg [oN (.nextS V4), ox 0 L0] [(5, L1), (6, L0)]
def q103r3 := rg [ox 1 V5, ox 2 V5, om L1, om L1] [(2, L1), (3, L0), (5, cU)]
def q103r4 := rg [om V3, ob .eql L0 (.cst (.int .i32 65533)), om L0, omT V0 L0, omT V2 L1, oT (.sliceS L1 (some L0) none) L2, oT (.call 183 [L0, (cs [239, 191, 189])]) L3, oT (.not L0) L4, op L5 L0 cF] [(2, cU), (3, cU), (7, L0)]
def q103r5 := rg [om cF] [(1, L0)]
def q103l6 : ACode := (sq (rr q103r2) (sq (.cond V6 .skip (.exit 0)) (.block 1 (sq (rr q103r3) (sq (rr q103r4) (.cond V7 (sq (rr q103r5) .ret) .skip))))))
def q103r7 := rg [om cT] [(1, L0)]
def q103 : AFn := { nparams := 1, nslots := 8, slots := [0, 2, 3, 4, 6, 7, 8, 19], results := [.var 1], body := (sq (rr q103r0) (sq (sq (rr q103r1) (.block 0 (.loop [1, 2, 3, 5, 6, 7] q103l6))) (sq (rr q103r7) .ret))) }
theorem q103ok : fnOk Tryz.prog xfT gT Tryz.f103 q103 = true := by kernel_rfl
theorem q103at : Tryz.prog.funcs[103]? = some Tryz.f103 := by kernel_rfl
end Go.Proofs.YtkjokjogdehonaaGreatDoor.Am.Q
namespace Go.Proofs.YtkjokjogdehonaaGreatDoor.Am.Q
open Go Go.Proofs Go.Proofs.YtkjokjogdehonaaGreatDoor.Am
end Go.Proofs.YtkjokjogdehonaaGreatDoor.Am.Q
