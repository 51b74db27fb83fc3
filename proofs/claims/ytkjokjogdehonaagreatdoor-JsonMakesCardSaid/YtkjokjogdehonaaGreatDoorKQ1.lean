/- Part KQ1 of a claim's texts, joined: what the claim needs of them. -/
import Derived.Test.YtkjokjogdehonaaGreatDoorKQ0
set_option linter.unusedSimpArgs false
set_option linter.unusedVariables false
namespace Go.Proofs.YtkjokjogdehonaaGreatDoor.Am.Q
open Go Go.Proofs Go.Proofs.YtkjokjogdehonaaGreatDoor.Am
def q3r0 := rg [om cF] [(3, cU)]
def q3r1 := rg [om V0, on .str L0, ob .gtr L0 (ci 3000), om L0, omF V2 L0, oF (.len .sli L0) L1, oF (.bin .gtr L0 (ci 40)) L2, op L3 cT L0] [(8, L0)]
def q3r2 := rg [oc 12 [], om L0] [(3, L0)]
def q3r3 := rg [om (.cst .nilSl)] [(4, L0)]
def q3r4 := rg [om V2, on .sli L0, om (ci 0)] [(9, L2), (10, L1), (11, L0)]
def q3r5 := rg [ob .lss V11 V10] [(12, L0)]
def q3r6 := rg [oN (.idxAddr 5 V9 V11), oa 5 L0, oN (.alloc 29 [zs, zi, zs, .nilSl, .nilSl]), os 5 L0 L1] [(5, L1)]
def q3r7 := rg [of 1 V5, oa 4 L0, oc 13 [L0], om L0, oF (.fieldAddr 0 V5) L0, oF (.load false 1 L0) L1, oF (.len .str L0) L2, oF (.bin .gtr L0 (ci 300)) L3, op L4 cT L0] [(13, L0)]
def q3r8 := rg [oc 12 [], om L0] [(3, L0)]
def q3r9 := rg [om V4, of 1 V5, oa 4 L0, oN (.buildSl 4 (.agg [zi, zs, .nilSl, .nilSl]) 1 [(0, L0)]), oN (.append 27 4 72 L3 L0), om L0] [(4, L0), (5, cU)]
def q3r10 := rg [ob .add V11 (ci 1), om L0] [(11, L0)]
def q3l11 : ACode := (sq (rr q3r5) (sq (.cond V12 .skip (.exit 0)) (sq (.block 1 (sq (rr q3r6) (sq (sq (rr q3r7) (.cond V13 (sq (rr q3r8) .ret) .skip)) (rr q3r9)))) (rr q3r10))))
def q3r12 := rg [om V0, oc 14 [L0], om V0, oc 15 [L0], ob .neq L2 L0, om L0, omF V0 L0, oF (.call 17 [L0]) L1, omF V0 L2, oF (.call 18 [L0]) L3, oF (.build [zi, zs, .nilSl, .nilSl] [(0, 1, (ci 4)), (1, 1, L0)]) L4, oF (.call 16 [L3, L0]) L5, oF (.not L0) L6, op L7 cT L0, om L0, omF V4 L0, oF (.call 19 [L0]) L1, omF V4 L2, oF (.build [zi, zs, .nilSl, .nilSl] [(0, 1, (ci 5)), (3, 1, L0)]) L3, oF (.call 16 [L2, L0]) L4, oF (.not L0) L5, op L6 cT L0, om L0, omF V2 L0, oF (.call 21 [L0]) L1, oF (.call 20 [L0]) L2, omF V2 L3, oF (.call 22 [L0]) L4, oF (.call 16 [L2, L0]) L5, oF (.not L0) L6, op L7 cT L0] [(0, cU), (2, cU), (4, cU), (14, L0)]
def q3r13 := rg [om cF] [(3, L0)]
def q3r14 := rg [om V1, oc 24 [L0], oN (.field false 1 1 L0), oc 23 [L0], om L0, ox 0 L0, ox 1 L1, oN (.alloc 27 [zi, zs, .nilSl, .nilSl]), oN (.alloc 41 [zi, zi]), os 4 L1 L3, os 2 L1 L3] [(6, L3), (7, L2)]
def q3r15 := rd [oa 2 V7, oN (.build [zi, zi] []), oN (.eq false (.struct [(0, .int), (1, .int)]) L1 L0), om L0, oT (.load true 4 V6) L0, omT V1 L1, oT (.call 24 [L0]) L2, oT (.call 16 [L2, L0]) L3, op L4 L0 cF, om L0, oT (.call 25 [cT]) L0, oT (.field false 1 1 L0) L1, oT (.bin .eql L0 (cs [116, 114, 117, 101])) L2, op L3 L0 cF, om L0, oT (.call 25 [cF]) L0, oT (.field false 1 1 L0) L1, oT (.bin .eql L0 (cs [102, 97, 108, 115, 101])) L2, op L3 L0 cF, om L0, omT V1 L0, oT (.bin .gtr L0 (ci 0)) L1, oT (.call 25 [L0]) L2, oT (.call 26 [L0]) L3, op L4 L0 cF, om L0, oT (.call 12 []) L0, op L1 L0 cF, om L0] [(1, cU), (3, L0), (6, cU), (7, cU)] [(4, 6)] [6, 7, 10, 15, 22, 23, 26] [[], [], [1, 0], [0, 1, 2], [2, 1, 0, 3], [2, 1, 0, 3], [3, 0, 1, 2, 5], [5, 6, 3, 0, 1, 2, 4], [4, 6, 5, 7, 2, 1, 0, 3], [3, 0, 1, 2, 7, 5, 6, 4, 8], [8, 4, 6, 5, 7, 2, 1, 0, 3, 9], [9, 3, 0, 1, 2, 7, 5, 6, 4, 8, 10], [10, 8, 4, 6, 5, 7, 2, 1, 0, 3, 9, 11], [11, 10, 12, 8, 4, 6, 5, 7, 2, 1, 0, 3, 9], [9, 3, 0, 1, 2, 7, 5, 6, 4, 8, 12, 10, 11, 13], [13, 11, 10, 12, 8, 4, 6, 5, 7, 2, 1, 0, 3, 9, 14], [14, 9, 3, 0, 1, 2, 7, 5, 6, 4, 8, 12, 10, 11, 13, 15], [15, 13, 11, 10, 12, 8, 4, 6, 5, 7, 2, 1, 0, 3, 9, 14, 16], [16, 15, 17, 13, 11, 10, 12, 8, 4, 6, 5, 7, 2, 1, 0, 3, 9, 14], [14, 9, 3, 0, 1, 2, 7, 5, 6, 4, 8, 12, 10, 11, 13, 17, 15, 16, 18], [18, 16, 15, 17, 13, 11, 10, 12, 8, 4, 6, 5, 7, 2, 1, 0, 3, 9, 14, 19], [19, 14, 9, 3, 0, 1, 2, 7, 5, 6, 4, 8, 12, 10, 11, 13, 17, 15, 16, 18, 20], [20, 18, 16, 15, 17, 13, 11, 10, 12, 8, 4, 6, 5, 7, 2, 1, 0, 3, 9, 14, 19, 21], [21, 19, 14, 9, 3, 0, 1, 2, 7, 5, 6, 4, 8, 12, 10, 11, 13, 17, 15, 16, 18, 20, 22], [22, 20, 21, 23, 18, 16, 15, 17, 13, 11, 10, 12, 8, 4, 6, 5, 7, 2, 1, 0, 3, 9, 14, 19], [19, 14, 9, 3, 0, 1, 2, 7, 5, 6, 4, 8, 12, 10, 11, 13, 17, 15, 16, 18, 23, 21, 20, 22, 24], [24, 22, 20, 21, 23, 18, 16, 15, 17, 13, 11, 10, 12, 8, 4, 6, 5, 7, 2, 1, 0, 3, 9, 14, 19, 25], [26, 24, 22, 20, 21, 23, 18, 16, 15, 17, 13, 11, 10, 12, 8, 4, 6, 5, 7, 2, 1, 0, 3, 9, 14, 19, 25], [25, 19, 14, 9, 3, 0, 1, 2, 7, 5, 6, 4, 8, 12, 10, 11, 13, 17, 15, 16, 18, 23, 21, 20, 22, 24, 26, 27]]
def q3 : AFn := { nparams := 3, nslots := 15, slots := [0, 1, 2, 6, 7, 9, 10, 11, 19, 21, 22, 23, 24, 35, 73], results := [.var 3], body := (sq (rr q3r0) (sq (sq (rr q3r1) (.cond V8 (sq (rr q3r2) .ret) .skip)) (sq (rr q3r3) (sq (sq (rr q3r4) (.block 0 (.loop [3, 5, 6, 7, 8, 12, 13, 14] q3l11))) (sq (sq (rr q3r12) (.cond V14 (sq (rr q3r13) .ret) .skip)) (sq (rr q3r14) (sq (rr q3r15) .ret))))))) }
theorem q3ok : fnOk Tryz.prog xfT gT Tryz.f3 q3 = true := by kernel_rfl
theorem q3at : Tryz.prog.funcs[3]? = some Tryz.f3 := by kernel_rfl
def q4r0 := rg [oN (.box 50 V0), om cF] [(0, cU), (1, L1), (2, cU)]
def q4r1 := rg [oa 16 V1, oc 27 [L0]] [(11, L0)]
def q4r2 := rg [oc 28 [], om L0] [(2, L0)]
def q4r3 := rg [oa 16 V1, oc 29 [L0], om L0, ox 0 L0, ox 1 L1, oN (.alloc 27 [zi, zs, .nilSl, .nilSl]), os 4 L0 L2, om L2] [(3, L2), (4, L0)]
def q4r4 := rg [oa 16 V1, oc 30 [L0], om L0, ox 0 L0, ox 1 L1, oN (.alloc 27 [zi, zs, .nilSl, .nilSl]), os 4 L0 L2, om L2] [(5, L2), (6, L0)]
def q4r5 := rg [oa 16 V1, oc 31 [L0], om L0, ox 0 L0, ox 1 L1, om L1, om L1] [(7, L1), (8, L0)]
def q4r6 := rg [oa 16 V1, oc 32 [L0], om L0, ox 0 L0, ox 1 L1, om L1, om L1] [(9, L1), (10, L0)]
def q4r7 := rd [oa 4 V3, oa 4 V5, oc 16 [L1, L0], om L0, omT V4 L0, omT V6 L1, oT (.bin .eql L1 L0) L2, op L3 L0 cF, om L0, omT V7 L0, omT V9 L1, oT (.bin .eql L1 L0) L2, op L3 L0 cF, om L0, omT V8 L0, omT V10 L1, oT (.bin .eql L1 L0) L2, op L3 L0 cF, om L0, oT (.load true 16 V1) L0, oT (.call 33 [L0]) L1, oT (.load true 16 V1) L2, oT (.call 34 [L0]) L3, oT (.eq false (.leaf .bool) L2 L0) L4, op L5 L0 cF, om L0, oT (.call 28 []) L0, op L1 L0 cF, om L0] [(1, cU), (2, L0), (3, cU), (4, cU), (5, cU), (6, cU), (7, cU), (8, cU), (9, cU), (10, cU)] [(21, 20)] [2, 22, 26] [[], [], [1, 0], [0, 1, 2], [2, 1, 0, 3], [2, 1, 0, 3], [5, 3, 0, 1, 2, 4], [4, 5, 6, 2, 1, 0, 3], [3, 0, 1, 2, 6, 5, 4, 7], [7, 4, 5, 6, 2, 1, 0, 3, 8], [7, 4, 5, 6, 2, 1, 0, 3, 8], [10, 8, 3, 0, 1, 2, 6, 5, 4, 7, 9], [9, 10, 11, 7, 4, 5, 6, 2, 1, 0, 3, 8], [8, 3, 0, 1, 2, 6, 5, 4, 7, 11, 10, 9, 12], [12, 9, 10, 11, 7, 4, 5, 6, 2, 1, 0, 3, 8, 13], [12, 9, 10, 11, 7, 4, 5, 6, 2, 1, 0, 3, 8, 13], [15, 13, 8, 3, 0, 1, 2, 6, 5, 4, 7, 11, 10, 9, 12, 14], [14, 15, 16, 12, 9, 10, 11, 7, 4, 5, 6, 2, 1, 0, 3, 8, 13], [13, 8, 3, 0, 1, 2, 6, 5, 4, 7, 11, 10, 9, 12, 16, 15, 14, 17], [17, 14, 15, 16, 12, 9, 10, 11, 7, 4, 5, 6, 2, 1, 0, 3, 8, 13, 18], [18, 13, 8, 3, 0, 1, 2, 6, 5, 4, 7, 11, 10, 9, 12, 16, 15, 14, 17, 19], [17, 14, 15, 16, 12, 9, 10, 11, 7, 4, 5, 6, 2, 1, 0, 3, 8, 13, 18], [19, 20, 18, 13, 8, 3, 0, 1, 2, 6, 5, 4, 7, 11, 10, 9, 12, 16, 15, 14, 17, 21], [21, 22, 19, 17, 14, 15, 16, 12, 9, 10, 11, 7, 4, 5, 6, 2, 1, 0, 3, 8, 13, 18, 20], [20, 19, 22, 21, 23, 17, 14, 15, 16, 12, 9, 10, 11, 7, 4, 5, 6, 2, 1, 0, 3, 8, 13, 18], [18, 13, 8, 3, 0, 1, 2, 6, 5, 4, 7, 11, 10, 9, 12, 16, 15, 14, 17, 23, 21, 22, 19, 20, 24], [24, 20, 19, 22, 21, 23, 17, 14, 15, 16, 12, 9, 10, 11, 7, 4, 5, 6, 2, 1, 0, 3, 8, 13, 18, 25], [26, 24, 20, 19, 22, 21, 23, 17, 14, 15, 16, 12, 9, 10, 11, 7, 4, 5, 6, 2, 1, 0, 3, 8, 13, 18, 25], [25, 18, 13, 8, 3, 0, 1, 2, 6, 5, 4, 7, 11, 10, 9, 12, 16, 15, 14, 17, 23, 21, 22, 19, 20, 24, 26, 27]]
def q4 : AFn := { nparams := 1, nslots := 12, slots := [0, 1, 2, 3, 4, 5, 6, 7, 8, 9, 10, 12], results := [.var 2], body := (sq (rr q4r0) (sq (sq (rr q4r1) (.cond V11 (sq (rr q4r2) .ret) .skip)) (sq (rr q4r3) (sq (rr q4r4) (sq (rr q4r5) (sq (rr q4r6) (sq (rr q4r7) .ret))))))) }
def q5r0 := rg [om cF] [(1, cU)]
def q5r1 := rg [om V0, on .str L0, ob .gtr L0 (ci 5000), om L0, omT V0 L0, oT (.len .str L0) L1, oT (.bin .leq L0 (ci 65536)) L2, op L3 L0 cF] [(6, L0)]
def q5r2 := rg [oc 28 [], om L0] [(1, L0)]
def q5r3 := rg [om V0, oc 35 [L0], om L0, ox 0 L0, ox 1 L1, oN (.alloc 50 [zs, zs, zs, zs, zs, zs, zi, zb, zs, zs, zs, .nilSl, .nilSl, .nilSl, .nilSl, .nilSl]), os 16 L0 L2, om L2] [(2, L2), (3, L0)]
def q5r4 := rg [om V0, oc 36 [L0], om L0, ox 0 L0, ox 1 L1, oN (.alloc 50 [zs, zs, zs, zs, zs, zs, zi, zb, zs, zs, zs, .nilSl, .nilSl, .nilSl, .nilSl, .nilSl]), os 16 L0 L2, om L2] [(0, cU), (4, L2), (5, L0)]
def q5r5 := rg [oa 16 V2, oa 16 V4, oc 37 [L1, L0], om L0, omT V3 L0, omT V5 L1, oT (.bin .eql L1 L0) L2, op L3 L0 cF, om L0, oT (.call 28 []) L0, op L1 L0 cF, om L0] [(1, L0), (2, cU), (3, cU), (4, cU), (5, cU)]
def q5 : AFn := { nparams := 1, nslots := 7, slots := [0, 2, 3, 4, 5, 6, 14], results := [.var 1], body := (sq (rr q5r0) (sq (sq (rr q5r1) (.cond V6 (sq (rr q5r2) .ret) .skip)) (sq (rr q5r3) (sq (rr q5r4) (sq (rr q5r5) .ret))))) }
def q10r0 := rg [oN (.box 86 V0), oN (.box 50 V1), om cF] [(0, cU), (1, cU), (2, L2), (3, L1), (4, cU)]
def q10r1 := rg [oa 16 V3, oc 49 [L0], om L0, oF (.load true 3 V2) L0, oF (.call 50 [L0]) L1, op L2 cT L0] [(9, L0)]
def q10r2 := rg [oc 51 [], om L0] [(4, L0)]
def q10r3 := rg [of 0 V2, ol L0, of 1 V2, ol L0, oa 16 V3, oc 52 [L3, L1, L0], om L0, ox 0 L0, ox 1 L1, oN (.alloc 93 [zs, zs, zs, .nilSl, .nilSl, zs, .nilSl]), os 7 L0 L2, om L2] [(5, L2), (6, L0)]
def q10r4 := rg [om V6, ob .neq L0 (ci 0)] [(6, cU), (10, L0)]
def q10r5 := rg [of 0 V5, ol L0, ob .eql L0 (cs []), om L0, oT (.fieldAddr 1 V5) L0, oT (.fieldAddr 4 L0) L1, oT (.load false 1 L0) L2, oT (.bin .eql L0 (cs [])) L3, op L4 L0 cF, om L0, oT (.call 51 []) L0, op L1 L0 cF, om L0] [(4, L0), (5, cU)]
def q10r6 := rg [of 1 V5, of 4 L0, ol L0, oc 53 [L0], om L0, ox 0 L0, ox 1 L1, oN (.alloc 50 [zs, zs, zs, zs, zs, zs, zi, zb, zs, zs, zs, .nilSl, .nilSl, .nilSl, .nilSl, .nilSl]), os 16 L0 L2, om L2] [(7, L2), (8, L0)]
def q10r7 := rd [om V8, ob .eql L0 (ci 0), om L0, oT (.load true 16 V7) L0, oT (.load true 16 V3) L1, oT (.call 54 [L0]) L2, oT (.call 37 [L2, L0]) L3, op L4 L0 cF, om L0, oT (.fieldAddr 0 V5) L0, oT (.load false 1 L0) L1, oT (.fieldAddr 0 V2) L2, oT (.load false 1 L0) L3, oT (.bin .eql L2 L0) L4, op L5 L0 cF, om L0, oT (.call 51 []) L0, op L1 L0 cF, om L0] [(2, cU), (3, cU), (4, L0), (5, cU), (7, cU), (8, cU)] [(3, 5)] [5, 6, 16] [[], [0], [0, 1], [1, 0, 2], [1, 0, 2], [2, 0, 1, 4], [4, 5, 2, 0, 1, 3], [3, 5, 4, 6, 1, 0, 2], [2, 0, 1, 6, 4, 5, 3, 7], [7, 3, 5, 4, 6, 1, 0, 2, 8], [8, 2, 0, 1, 6, 4, 5, 3, 7, 9], [7, 3, 5, 4, 6, 1, 0, 2, 8], [8, 2, 0, 1, 6, 4, 5, 3, 7, 11], [11, 12, 9, 7, 3, 5, 4, 6, 1, 0, 2, 8, 10], [10, 9, 12, 11, 13, 7, 3, 5, 4, 6, 1, 0, 2, 8], [8, 2, 0, 1, 6, 4, 5, 3, 7, 13, 11, 12, 9, 10, 14], [14, 10, 9, 12, 11, 13, 7, 3, 5, 4, 6, 1, 0, 2, 8, 15], [16, 14, 10, 9, 12, 11, 13, 7, 3, 5, 4, 6, 1, 0, 2, 8, 15], [15, 8, 2, 0, 1, 6, 4, 5, 3, 7, 13, 11, 12, 9, 10, 14, 16, 17]]
def q10 : AFn := { nparams := 2, nslots := 11, slots := [0, 1, 2, 3, 4, 5, 6, 7, 8, 14, 26], results := [.var 4], body := (sq (rr q10r0) (sq (sq (rr q10r1) (.cond V9 (sq (rr q10r2) .ret) .skip)) (sq (rr q10r3) (sq (sq (rr q10r4) (.cond V10 (sq (rr q10r5) .ret) .skip)) (sq (rr q10r6) (sq (rr q10r7) .ret)))))) }
def q12r0 := rg [om cF] [(0, cU)]
def q12r1 := rg [oc 58 [(cs [123, 34, 97, 34, 58, 91, 49, 44, 34, 92, 117, 48, 48, 101, 57, 34, 93, 125])], om L0, ox 0 L0, ox 1 L1, oN (.alloc 27 [zi, zs, .nilSl, .nilSl]), oN (.alloc 41 [zi, zi]), os 4 L1 L3, os 2 L1 L3] [(1, L3), (2, L2)]
def q12r2 := rg [oa 4 V1, oc 59 [L0], om L0, ox 0 L0, ox 1 L1, om L1, om L1] [(3, L1), (4, L0)]
def q12r3 := rg [oa 2 V2, oN (.build [zi, zi] []), oN (.eq false (.struct [(0, .int), (1, .int)]) L1 L0), om L0, omT V3 L0, oT (.bin .eql L0 (cs [123, 34, 97, 34, 58, 91, 49, 44, 34, 195, 169, 34, 93, 125])) L1, op L2 L0 cF, om L0, omT V4 L0, oT (.bin .eql L0 (ci 0)) L1, op L2 L0 cF, om L0, oT (.load true 4 V1) L0, oT (.call 60 [L0]) L1, op L2 L0 cF, om L0] [(0, L0), (1, cU), (2, cU), (3, cU), (4, cU)]
def q12 : AFn := { nparams := 0, nslots := 5, slots := [0, 1, 2, 3, 4], results := [.var 0], body := (sq (rr q12r0) (sq (rr q12r1) (sq (rr q12r2) (sq (rr q12r3) .ret)))) }
theorem q12ok : fnOk Tryz.prog xfT gT Tryz.f12 q12 = true := by kernel_rfl
theorem q12at : Tryz.prog.funcs[12]? = some Tryz.f12 := by kernel_rfl
def q13r0 := rg [oN (.box 27 V0), om cF] [(0, cU), (1, L1), (2, cU)]
def q13r1 := rg [oa 4 V1, oc 61 [L0, (ci 0), (ci 3000)], ob .gtr L0 (ci 3000), om L0] [(1, cU), (2, L0)]
def q13 : AFn := { nparams := 1, nslots := 3, slots := [0, 1, 2], results := [.var 2], body := (sq (rr q13r0) (sq (rr q13r1) .ret)) }
theorem q13ok : fnOk Tryz.prog xfT gT Tryz.f13 q13 = true := by kernel_rfl
theorem q13at : Tryz.prog.funcs[13]? = some Tryz.f13 := by kernel_rfl
def q14r0 := rg [om (cs [])] [(1, cU)]
def q14r1 := rg [om V0, oc 63 [L0], oc 62 [L0], om L0] [(0, cU), (1, L0)]
def q14 : AFn := { nparams := 1, nslots := 2, slots := [0, 2], results := [.var 1], body := (sq (rr q14r0) (sq (rr q14r1) .ret)) }
theorem q14ok : fnOk Tryz.prog xfT gT Tryz.f14 q14 = true := by kernel_rfl
theorem q14at : Tryz.prog.funcs[14]? = some Tryz.f14 := by kernel_rfl
def q15r0 := rg [om (cs [])] [(1, cU)]
def q15r1 := rg [om V0, oc 18 [L0], oc 64 [L0], om L0] [(0, cU), (1, L0)]
def q15 : AFn := { nparams := 1, nslots := 2, slots := [0, 2], results := [.var 1], body := (sq (rr q15r0) (sq (rr q15r1) .ret)) }
theorem q15ok : fnOk Tryz.prog xfT gT Tryz.f15 q15 = true := by kernel_rfl
theorem q15at : Tryz.prog.funcs[15]? = some Tryz.f15 := by kernel_rfl
def q16r0 := rg [oN (.box 27 V0), oN (.box 27 V1), om cF] [(0, cU), (1, cU), (2, L2), (3, L1), (4, cU)]
def q16r1 := rg [of 0 V2, ol L0, of 0 V3, ol L0, ob .neq L2 L0, om L0, oF (.fieldAddr 1 V2) L0, oF (.load false 1 L0) L1, oF (.fieldAddr 1 V3) L2, oF (.load false 1 L0) L3, oF (.bin .neq L2 L0) L4, op L5 cT L0, om L0, oF (.fieldAddr 2 V2) L0, oF (.load false 1 L0) L1, oF (.fieldAddr 2 V3) L2, oF (.load false 1 L0) L3, oF (.call 65 [L2, L0]) L4, oF (.not L0) L5, op L6 cT L0, om L0, oF (.fieldAddr 3 V2) L0, oF (.load false 1 L0) L1, oF (.len .sli L0) L2, oF (.fieldAddr 3 V3) L3, oF (.load false 1 L0) L4, oF (.len .sli L0) L5, oF (.bin .neq L3 L0) L6, op L7 cT L0] [(6, L0)]
def q16r2 := rg [om cF] [(4, L0)]
def q16r3 := rg [om (ci 0)] [(5, L0)]
def q16r4 := rg [om V5, of 3 V2, ol L0, on .sli L0, ob .lss L3 L0] [(7, L0)]
def q16r5 := rd [of 3 V2, ol L0, om V5, oN (.idxAddr 4 L1 L0), oa 4 L0, of 3 V3, ol L0, om V5, oN (.idxAddr 4 L1 L0), oa 4 L0, oc 16 [L5, L0], oN (.not L0)] [(8, L0)] [] [10] [[], [0], [], [2, 0, 1], [1, 0, 2, 3], [], [5], [], [7, 5, 6], [6, 5, 7, 8], [8, 7, 5, 6, 9, 3, 2, 0, 1, 4], [4, 1, 0, 2, 3, 9, 6, 5, 7, 8, 10]]
def q16r6 := rg [om cF] [(4, L0)]
def q16r7 := rg [om V5, ob .add L0 (ci 1), om L0] [(5, L0)]
def q16l8 : ACode := (sq (sq (rr q16r4) (.cond V7 .skip (.exit 0))) (sq (.block 1 (sq (rr q16r5) (.cond V8 (sq (rr q16r6) .ret) .skip))) (rr q16r7)))
def q16r9 := rg [om cT] [(4, L0)]
def q16 : AFn := { nparams := 2, nslots := 9, slots := [0, 1, 2, 3, 4, 5, 34, 39, 53], results := [.var 4], body := (sq (rr q16r0) (sq (sq (rr q16r1) (.cond V6 (sq (rr q16r2) .ret) .skip)) (sq (sq (rr q16r3) (.block 0 (.loop [0, 1, 4, 6, 7, 8] q16l8))) (sq (rr q16r9) .ret)))) }
theorem q16ok : fnOk Tryz.prog xfT gT Tryz.f16 q16 = true := by kernel_rfl
theorem q16at : Tryz.prog.funcs[16]? = some Tryz.f16 := by kernel_rfl
def q17r0 := rg [oN (.alloc 27 [zi, zs, .nilSl, .nilSl])] [(1, L0)]
def q17r1 := rg [om V0, oc 63 [L0], oN (.build [zi, zs, .nilSl, .nilSl] [(0, 1, (ci 4)), (1, 1, L0)]), os 4 V1 L0] [(0, cU)]
def q17 : AFn := { nparams := 1, nslots := 2, slots := [0, 2], results := [.cell 1 true 4], body := (sq (rr q17r0) (sq (rr q17r1) .ret)) }
theorem q17ok : fnOk Tryz.prog xfT gT Tryz.f17 q17 = true := by kernel_rfl
theorem q17at : Tryz.prog.funcs[17]? = some Tryz.f17 := by kernel_rfl
def q18r0 := rg [om (cs [])] [(1, cU)]
def q18r1 := rg [om (.cst .nilSl)] [(2, L0)]
def q18r2 := rg [om V0, on .str L0, ob .gtr L0 (ci 0)] [(5, L0)]
def q18r3 := rg [om V0, oc 66 [L0], om L0, ox 0 L0, ox 1 L1, ox 2 L2, om L2, om L2, om L2] [(3, L2), (4, L1)]
def q18r4 := rg [om V2, om V3, oc 67 [L0], oN (.append 5 1 1 L2 L0), om L0] [(2, L0), (3, cU)]
def q18r5 := rg [om V0, om V4, oN (.sliceS L1 (some L0) none), om L0] [(0, L0), (4, cU)]
def q18l6 : ACode := (sq (sq (rr q18r2) (.cond V5 .skip (.exit 0))) (.block 1 (sq (rr q18r3) (sq (rr q18r4) (rr q18r5)))))
def q18r7 := rg [om V2, oN (.strOf L0), om L0] [(1, L0), (2, cU)]
def q18 : AFn := { nparams := 1, nslots := 6, slots := [0, 2, 3, 4, 5, 9], results := [.var 1], body := (sq (rr q18r0) (sq (rr q18r1) (sq (.block 0 (.loop [1, 3, 4, 5] q18l6)) (sq (rr q18r7) .ret)))) }
theorem q18ok : fnOk Tryz.prog xfT gT Tryz.f18 q18 = true := by kernel_rfl
theorem q18at : Tryz.prog.funcs[18]? = some Tryz.f18 := by kernel_rfl
def q19r0 := rg [oN (.alloc 27 [zi, zs, .nilSl, .nilSl])] [(1, L0)]
def q19r1 := rg [om V0, oc 68 [L0], oN (.build [zi, zs, .nilSl, .nilSl] [(0, 1, (ci 5)), (3, 1, L0)]), os 4 V1 L0] [(0, cU)]
def q19 : AFn := { nparams := 1, nslots := 2, slots := [0, 2], results := [.cell 1 true 4], body := (sq (rr q19r0) (sq (rr q19r1) .ret)) }
theorem q19ok : fnOk Tryz.prog xfT gT Tryz.f19 q19 = true := by kernel_rfl
theorem q19at : Tryz.prog.funcs[19]? = some Tryz.f19 := by kernel_rfl
def q20r0 := rg [oN (.alloc 27 [zi, zs, .nilSl, .nilSl])] [(1, L0)]
def q20r1 := rg [oN (.build [zi, zs, .nilSl, .nilSl] [(0, 1, (ci 6))]), oN (.alloc 27 [zi, zs, .nilSl, .nilSl]), os 4 L0 L1] [(2, L1)]
def q20r2 := rg [om V0, on .sli L0, om (ci 0)] [(0, cU), (5, L2), (6, L1), (7, L0)]
def q20r3 := rg [ob .lss V7 V6] [(8, L0)]
def q20r4 := rg [oN (.idxAddr 5 V5 V7), oa 5 L0, oN (.alloc 107 [zs, zi, zs, .nilSl, .nilSl]), os 5 L0 L1] [(3, L1)]
def q20r5 := rg [of 0 V3, ol L0, oc 63 [L0], om L0] [(4, L0)]
def q20r6 := rg [of 2 V2, ol L0, om V4, oc 69 [L1, L0]] [(9, L0)]
def q20r7 := rg [of 2 V2, ol L0, om V4, oN (.buildSl 1 zs 1 [(0, L0)]), oN (.append 9 1 16 L2 L0), of 2 V2, os 1 L0 L1] [(4, cU)]
def q20r8 := rg [of 3 V2, ol L0, of 1 V3, oa 4 L0, oN (.buildSl 4 (.agg [zi, zs, .nilSl, .nilSl]) 1 [(0, L0)]), oN (.append 27 4 72 L3 L0), of 3 V2, os 1 L0 L1] [(3, cU)]
def q20r9 := rg [ob .add V7 (ci 1), om L0] [(7, L0)]
def q20l10 : ACode := (sq (rr q20r3) (sq (.cond V8 .skip (.exit 0)) (sq (.block 1 (sq (rr q20r4) (sq (rr q20r5) (sq (sq (rr q20r6) (.cond V9 (.exit 1) .skip)) (sq (rr q20r7) (rr q20r8)))))) (rr q20r9))))
def q20r11 := rg [oa 4 V2, os 4 V1 L0] [(2, cU)]
def q20 : AFn := { nparams := 1, nslots := 10, slots := [0, 2, 3, 5, 6, 8, 9, 10, 11, 20], results := [.cell 1 true 4], body := (sq (rr q20r0) (sq (rr q20r1) (sq (sq (rr q20r2) (.block 0 (.loop [0, 3, 4, 8, 9] q20l10))) (sq (rr q20r11) .ret)))) }
theorem q20ok : fnOk Tryz.prog xfT gT Tryz.f20 q20 = true := by kernel_rfl
theorem q20at : Tryz.prog.funcs[20]? = some Tryz.f20 := by kernel_rfl
def q21r0 := rg [om (.cst .nilSl)] [(1, cU)]
def q21r1 := rg [om (.cst .nilSl)] [(2, L0)]
def q21r2 := rg [om V0, on .sli L0, om (ci 0)] [(0, cU), (4, L2), (5, L1), (6, L0)]
def q21r3 := rg [ob .lss V6 V5] [(7, L0)]
def q21r4 := rg [oN (.idxAddr 5 V4 V6), oa 5 L0, oN (.alloc 29 [zs, zi, zs, .nilSl, .nilSl]), os 5 L0 L1] [(3, L1)]
def q21r5 := rg [om V2, of 0 V3, ol L0, of 1 V3, oa 4 L0, oN (.build [zs, zi, zs, .nilSl, .nilSl] [(0, 1, L2), (1, 4, L0)]), oN (.buildSl 5 (.agg [zs, zi, zs, .nilSl, .nilSl]) 1 [(0, L0)]), oN (.append 107 5 88 L6 L0), om L0] [(2, L0), (3, cU)]
def q21r6 := rg [ob .add V6 (ci 1), om L0] [(6, L0)]
def q21l7 : ACode := (sq (rr q21r3) (sq (.cond V7 .skip (.exit 0)) (sq (.block 1 (sq (rr q21r4) (rr q21r5))) (rr q21r6))))
def q21r8 := rg [om V2, om L0] [(1, L0), (2, cU)]
def q21 : AFn := { nparams := 1, nslots := 8, slots := [0, 2, 3, 5, 6, 7, 8, 9], results := [.var 1], body := (sq (rr q21r0) (sq (rr q21r1) (sq (sq (rr q21r2) (.block 0 (.loop [0, 1, 3, 7] q21l7))) (sq (rr q21r8) .ret)))) }
theorem q21ok : fnOk Tryz.prog xfT gT Tryz.f21 q21 = true := by kernel_rfl
theorem q21at : Tryz.prog.funcs[21]? = some Tryz.f21 := by kernel_rfl
def q22r0 := rg [oN (.alloc 27 [zi, zs, .nilSl, .nilSl])] [(1, L0)]
def q22r1 := rg [oN (.build [zi, zs, .nilSl, .nilSl] [(0, 1, (ci 6))]), oN (.alloc 27 [zi, zs, .nilSl, .nilSl]), os 4 L0 L1] [(2, L1)]
def q22r2 := rg [om (ci 0)] [(3, L0)]
def q22r3 := rg [om V3, om V0, on .sli L0, ob .lss L2 L0] [(5, L0)]
def q22r4 := rg [om V0, om V3, oN (.idxAddr 5 L1 L0), of 0 L0, ol L0, oc 18 [L0], om L0] [(4, L0)]
def q22r5 := rg [of 2 V2, ol L0, om V4, oc 70 [L1, L0], oN (.not L0)] [(6, L0)]
def q22r6 := rg [of 2 V2, ol L0, om V4, oN (.buildSl 1 zs 1 [(0, L0)]), oN (.append 9 1 16 L2 L0), of 2 V2, os 1 L0 L1] [(4, cU)]
def q22r7 := rd [of 3 V2, ol L0, om V0, om V3, oN (.idxAddr 5 L1 L0), of 1 L0, oa 4 L0, oN (.buildSl 4 (.agg [zi, zs, .nilSl, .nilSl]) 1 [(0, L0)]), oN (.append 27 4 72 L6 L0), of 3 V2, os 1 L0 L1] [] [] [8, 10] [[], [0], [], [], [3, 2], [2, 3, 4], [4, 3, 2, 5], [5, 2, 3, 4, 6], [6, 4, 3, 2, 5, 7, 0, 1], [8, 7, 6, 5, 4, 3, 2, 1, 0], [0, 1, 2, 3, 4, 5, 6, 7, 8, 9]]
def q22r8 := rg [om V3, ob .add L0 (ci 1), om L0] [(3, L0)]
def q22l9 : ACode := (sq (sq (rr q22r3) (.cond V5 .skip (.exit 0))) (sq (.block 1 (sq (rr q22r4) (sq (rr q22r5) (.cond V6 (sq (rr q22r6) (rr q22r7)) .skip)))) (rr q22r8)))
def q22r10 := rg [oa 4 V2, os 4 V1 L0] [(2, cU)]
def q22 : AFn := { nparams := 1, nslots := 7, slots := [0, 2, 3, 4, 5, 10, 23], results := [.cell 1 true 4], body := (sq (rr q22r0) (sq (rr q22r1) (sq (sq (rr q22r2) (.block 0 (.loop [4, 5, 6] q22l9))) (sq (rr q22r10) .ret)))) }
theorem q22ok : fnOk Tryz.prog xfT gT Tryz.f22 q22 = true := by kernel_rfl
theorem q22at : Tryz.prog.funcs[22]? = some Tryz.f22 := by kernel_rfl
end Go.Proofs.YtkjokjogdehonaaGreatDoor.Am.Q
namespace Go.Proofs.YtkjokjogdehonaaGreatDoor.Am.Q
open Go Go.Proofs Go.Proofs.YtkjokjogdehonaaGreatDoor.Am
def q23r0 := rg [oN (.alloc 27 [zi, zs, .nilSl, .nilSl]), oN (.alloc 41 [zi, zi])] [(1, L1), (2, L0)]
def q23r1 := rg [om V0, on .str L0, ob .gtr L0 (ci 65536)] [(5, L0)]
def q23r2 := rg [oN (.build [zi, zs, .nilSl, .nilSl] []), oN (.build [zi, zi] [(0, 1, (ci 5))]), os 4 V1 L1, os 2 V2 L1] []
def q23r3 := rg [om V0, oc 71 [L0], oN (.not L0)] [(6, L0)]
def q23r4 := rg [oN (.build [zi, zs, .nilSl, .nilSl] []), oN (.build [zi, zi] [(0, 1, (ci 9))]), os 4 V1 L1, os 2 V2 L1] []
def q23r5 := rg [om V0, oN (.build [zs, zi, zi, zi, zi] [(0, 1, L0)]), oN (.alloc 110 [zs, zi, zi, zi, zi]), os 5 L0 L1] [(3, L1)]
def q23r6 := rg [oc 72 [V3, (ci 0)], oN (.alloc 27 [zi, zs, .nilSl, .nilSl]), os 4 L0 L1] [(4, L1)]
def q23r7 := rg [of 1 V3, ol L0, om V0, on .str L0, ob .lss L2 L0, om L0, oT (.fieldAddr 3 V3) L0, oT (.fieldAddr 0 L0) L1, oT (.load false 1 L0) L2, oT (.bin .eql L0 (ci 0)) L3, op L4 L0 cF] [(7, L0)]
def q23r8 := rg [om V0, of 1 V3, ol L0, oN (.idxS L2 L0), ob .neq L0 (cb 9), om L0, omT V0 L0, oT (.fieldAddr 1 V3) L1, oT (.load false 1 L0) L2, oT (.idxS L2 L0) L3, oT (.bin .neq L0 (cb 10)) L4, op L5 L0 cF, om L0, omT V0 L0, oT (.fieldAddr 1 V3) L1, oT (.load false 1 L0) L2, oT (.idxS L2 L0) L3, oT (.bin .neq L0 (cb 13)) L4, op L5 L0 cF, om L0, omT V0 L0, oT (.fieldAddr 1 V3) L1, oT (.load false 1 L0) L2, oT (.idxS L2 L0) L3, oT (.bin .neq L0 (cb 32)) L4, op L5 L0 cF] [(8, L0)]
def q23r9 := rg [of 1 V3, ol L0, oc 73 [V3, (ci 3), L0]] []
def q23r10 := rg [of 1 V3, ol L0, ob .add L0 (ci 1), of 1 V3, os 1 L0 L1] []
def q23l11 : ACode := (sq (sq (rr q23r7) (.cond V7 .skip (.exit 0))) (.block 1 (sq (sq (rr q23r8) (.cond V8 (rr q23r9) .skip)) (rr q23r10))))
def q23r12 := rg [of 3 V3, of 0 L0, ol L0, ob .neq L0 (ci 0)] [(9, L0)]
def q23r13 := rd [oN (.build [zi, zs, .nilSl, .nilSl] []), of 3 V3, oa 2 L0, os 4 V1 L2, os 2 V2 L1] [(3, cU)] [(2, 3)] [3, 4] [[], [], [1], [0], [0, 3, 1, 2]]
def q23r14 := rg [oa 4 V4, oN (.build [zi, zi] []), os 4 V1 L1, os 2 V2 L1] [(4, cU)]
def q23 : AFn := { nparams := 1, nslots := 10, slots := [0, 2, 3, 4, 5, 8, 13, 29, 55, 66], results := [.cell 1 true 4, .cell 2 true 2], body := (sq (rr q23r0) (sq (sq (rr q23r1) (.cond V5 (sq (rr q23r2) .ret) .skip)) (sq (sq (rr q23r3) (.cond V6 (sq (rr q23r4) .ret) .skip)) (sq (rr q23r5) (sq (rr q23r6) (sq (.block 0 (.loop [5, 6, 7, 8, 9] q23l11)) (sq (sq (rr q23r12) (.cond V9 (sq (rr q23r13) .ret) .skip)) (sq (rr q23r14) .ret)))))))) }
theorem q23ok : fnOk Tryz.prog xfT gT Tryz.f23 q23 = true := by kernel_rfl
theorem q23at : Tryz.prog.funcs[23]? = some Tryz.f23 := by kernel_rfl
def q24r0 := rg [oN (.alloc 27 [zi, zs, .nilSl, .nilSl])] [(1, L0)]
def q24r1 := rg [om V0, oc 74 [L0], oN (.build [zi, zs, .nilSl, .nilSl] [(0, 1, (ci 3)), (1, 1, L0)]), os 4 V1 L0] [(0, cU)]
def q24 : AFn := { nparams := 1, nslots := 2, slots := [0, 2], results := [.cell 1 true 4], body := (sq (rr q24r0) (sq (rr q24r1) .ret)) }
theorem q24ok : fnOk Tryz.prog xfT gT Tryz.f24 q24 = true := by kernel_rfl
theorem q24at : Tryz.prog.funcs[24]? = some Tryz.f24 := by kernel_rfl
def q25r0 := rg [oN (.alloc 27 [zi, zs, .nilSl, .nilSl])] [(1, L0)]
def q25r1 := rg [om V0] [(0, cU), (2, L0)]
def q25r2 := rg [oN (.build [zi, zs, .nilSl, .nilSl] [(0, 1, (ci 2)), (1, 1, (cs [116, 114, 117, 101]))]), os 4 V1 L0] []
def q25r3 := rg [oN (.build [zi, zs, .nilSl, .nilSl] [(0, 1, (ci 2)), (1, 1, (cs [102, 97, 108, 115, 101]))]), os 4 V1 L0] []
def q25 : AFn := { nparams := 1, nslots := 3, slots := [0, 2, 3], results := [.cell 1 true 4], body := (sq (rr q25r0) (sq (sq (rr q25r1) (.cond V2 (sq (rr q25r2) .ret) .skip)) (sq (rr q25r3) .ret))) }
theorem q25ok : fnOk Tryz.prog xfT gT Tryz.f25 q25 = true := by kernel_rfl
theorem q25at : Tryz.prog.funcs[25]? = some Tryz.f25 := by kernel_rfl
def q26r0 := rg [oN (.box 27 V0), om cF] [(0, cU), (1, L1), (2, cU)]
def q26r1 := rg [oa 4 V1, oc 75 [L0, (ci 0), (ci 4096)], ob .leq L0 (ci 4096), om L0] [(1, cU), (2, L0)]
def q26 : AFn := { nparams := 1, nslots := 3, slots := [0, 1, 2], results := [.var 2], body := (sq (rr q26r0) (sq (rr q26r1) .ret)) }
theorem q26ok : fnOk Tryz.prog xfT gT Tryz.f26 q26 = true := by kernel_rfl
theorem q26at : Tryz.prog.funcs[26]? = some Tryz.f26 := by kernel_rfl
end Go.Proofs.YtkjokjogdehonaaGreatDoor.Am.Q
namespace Go.Proofs.YtkjokjogdehonaaGreatDoor.Am.Q
open Go Go.Proofs Go.Proofs.YtkjokjogdehonaaGreatDoor.Am
def q58r0 := rg [oN (.alloc 27 [zi, zs, .nilSl, .nilSl]), oN (.alloc 41 [zi, zi])] [(1, L1), (2, L0)]
def q58r1 := rg [om V0, on .str L0, ob .gtr L0 (ci 65536), om L0] [(4, L0)]
def q58r2 := rg [oN (.build [zi, zs, .nilSl, .nilSl] []), oN (.build [zi, zi] [(0, 1, (ci 5))]), os 4 V1 L1, os 2 V2 L1] []
def q58r3 := rg [om V0, oc 103 [L0], oN (.not L0), om L0] [(5, L0)]
def q58r4 := rg [oN (.build [zi, zs, .nilSl, .nilSl] []), oN (.build [zi, zi] [(0, 1, (ci 9))]), os 4 V1 L1, os 2 V2 L1] []
def q58r5 := rg [om V0, oN (.build [zs, zi] [(0, 1, L0)]), oN (.build [zs, zi, zi] [(0, 2, L0), (2, 1, (ci 4096))]), oN (.box 179 L0), om L0] [(0, cU), (3, L0)]
def q58r6 := rg [om V3, oc 134 [L0], ox 0 L0, ox 1 L1, os 4 V1 L1, os 2 V2 L1] [(3, cU)]
def q58 : AFn := { nparams := 1, nslots := 6, slots := [0, 2, 3, 4, 5, 11], results := [.cell 1 true 4, .cell 2 true 2], body := (sq (rr q58r0) (sq (.block 0 (sq (rr q58r1) (.cond V4 (sq (rr q58r2) .ret) (sq (rr q58r3) (.cond V5 (sq (rr q58r4) .ret) .skip))))) (sq (rr q58r5) (sq (rr q58r6) .ret)))) }
theorem q58ok : fnOk Tryz.prog xfT gT Tryz.f58 q58 = true := by kernel_rfl
theorem q58at : Tryz.prog.funcs[58]? = some Tryz.f58 := by kernel_rfl
def q59r0 := rg [oN (.box 27 V0), om (cs []), om (ci 0)] [(0, cU), (1, L2), (2, cU), (3, cU)]
def q59r1 := rg [oa 4 V1, oc 60 [L0], oN (.not L0)] [(5, L0)]
def q59r2 := rg [om (cs []), om (ci 1)] [(2, L1), (3, L0)]
def q59r3 := rg [oN (.alloc 183 [.nilPtr, .nilSl])] [(4, L0)]
def q59r4 := rg [oa 4 V1, oc 135 [V4, L0]] [(1, cU)]
def q59r5 := rg [oc 136 [V4], ob .gtr L0 (ci 65536)] [(6, L0)]
def q59r6 := rg [om (cs []), om (ci 5)] [(2, L1), (3, L0)]
def q59r7 := rg [oc 137 [V4], om L0, om (ci 0)] [(2, L1), (3, L0), (4, cU)]
def q59 : AFn := { nparams := 1, nslots := 7, slots := [0, 1, 2, 3, 4, 7, 11], results := [.var 2, .var 3], body := (sq (rr q59r0) (sq (sq (rr q59r1) (.cond V5 (sq (rr q59r2) .ret) .skip)) (sq (rr q59r3) (sq (rr q59r4) (sq (sq (rr q59r5) (.cond V6 (sq (rr q59r6) .ret) .skip)) (sq (rr q59r7) .ret)))))) }
theorem q59ok : fnOk Tryz.prog xfT gT Tryz.f59 q59 = true := by kernel_rfl
theorem q59at : Tryz.prog.funcs[59]? = some Tryz.f59 := by kernel_rfl
def q60r0 := rg [oN (.box 27 V0), om cF] [(0, cU), (1, L1), (2, cU)]
def q60r1 := rg [oN (.build [zi, zb] [(0, 1, (ci 4096))]), oN (.box 188 L0), om L0] [(3, L0)]
def q60r2 := rg [om V3, oa 4 V1, oc 138 [L1, L0, (ci 0)]] [(1, cU)]
def q60r3 := rg [om V3, oN (.nilck L0), of 1 L0, ol L0, oN (.not L0), om L0] [(2, L0), (3, cU)]
def q60 : AFn := { nparams := 1, nslots := 4, slots := [0, 1, 2, 3], results := [.var 2], body := (sq (rr q60r0) (sq (rr q60r1) (sq (rr q60r2) (sq (rr q60r3) .ret)))) }
theorem q60ok : fnOk Tryz.prog xfT gT Tryz.f60 q60 = true := by kernel_rfl
theorem q60at : Tryz.prog.funcs[60]? = some Tryz.f60 := by kernel_rfl
def q61r0 := rg [oN (.box 27 V0), om (ci 0)] [(0, cU), (3, L1), (4, cU)]
def q61r1 := rg [of 1 V3, ol L0, on .str L0, ob .add (ci 1) L0, of 3 V3, ol L0, on .sli L0, ob .add L3 L0, of 2 V3, ol L0, on .sli L0, ob .add L3 L0, om L0] [(5, L0)]
def q61r2 := rg [om V1, ob .gtr L0 (ci 80), om L0, oF (.fieldAddr 3 V3) L0, oF (.load false 1 L0) L1, oF (.len .sli L0) L2, oF (.bin .gtr L0 (ci 4000)) L3, op L4 cT L0, om L0, oF (.fieldAddr 2 V3) L0, oF (.load false 1 L0) L1, oF (.len .sli L0) L2, oF (.bin .gtr L0 (ci 4000)) L3, op L4 cT L0] [(8, L0)]
def q61r3 := rg [om V2, ob .add L0 (ci 1), om L0] [(2, cU), (4, L0)]
def q61r4 := rg [om (ci 0)] [(6, L0)]
def q61r5 := rg [om V6, of 2 V3, ol L0, on .sli L0, ob .lss L3 L0, om L0, omT V5 L0, omT V2 L1, oT (.bin .leq L1 L0) L2, op L3 L0 cF] [(9, L0)]
def q61r6 := rg [om V5, of 2 V3, ol L0, om V6, oN (.idxAddr 1 L1 L0), ol L0, on .str L0, ob .add L6 L0, om L0] [(5, L0)]
def q61r7 := rg [om V6, ob .add L0 (ci 1), om L0] [(6, L0)]
def q61l8 : ACode := (sq (sq (rr q61r5) (.cond V9 .skip (.exit 0))) (sq (.block 1 (rr q61r6)) (rr q61r7)))
def q61r9 := rg [om (ci 0)] [(7, L0)]
def q61r10 := rg [om V7, of 3 V3, ol L0, on .sli L0, ob .lss L3 L0, om L0, omT V5 L0, omT V2 L1, oT (.bin .leq L1 L0) L2, op L3 L0 cF] [(10, L0)]
def q61r11 := rg [om V5, of 3 V3, ol L0, om V7, oN (.idxAddr 4 L1 L0), oa 4 L0, om V1, ob .add L0 (ci 1), om V2, om V5, ob .sub L1 L0, oc 61 [L5, L3, L0], ob .add L11 L0, om L0] [(5, L0)]
def q61r12 := rg [om V7, ob .add L0 (ci 1), om L0] [(7, L0)]
def q61l13 : ACode := (sq (sq (rr q61r10) (.cond V10 .skip (.exit 2))) (sq (.block 3 (rr q61r11)) (rr q61r12)))
def q61r14 := rg [om V5, om L0] [(4, L0), (5, cU)]
def q61 : AFn := { nparams := 3, nslots := 11, slots := [0, 1, 2, 3, 6, 7, 8, 9, 35, 47, 67], results := [.var 4], body := (sq (rr q61r0) (sq (rr q61r1) (sq (sq (rr q61r2) (.cond V8 (sq (rr q61r3) .ret) .skip)) (sq (sq (rr q61r4) (.block 0 (.loop [0, 4, 7, 8, 9, 10] q61l8))) (sq (sq (rr q61r9) (.block 2 (.loop [0, 4, 6, 8, 9, 10] q61l13))) (sq (rr q61r14) .ret)))))) }
theorem q61ok : fnOk Tryz.prog xfT gT Tryz.f61 q61 = true := by kernel_rfl
theorem q61at : Tryz.prog.funcs[61]? = some Tryz.f61 := by kernel_rfl
def q62r0 := rg [om (cs [])] [(1, cU)]
def q62r1 := rg [oN (.alloc 183 [.nilPtr, .nilSl])] [(2, L0)]
def q62r2 := rg [oc 139 [V2, (cb 34)]] []
def q62r3 := rg [om V0, on .str L0, om (ci 0)] [(6, L1), (7, L0)]
def q62r4 := rg [ob .lss V7 V6] [(8, L0)]
def q62r5 := rg [om V7, om L0] [(3, L0)]
def q62r6 := rg [om V0, om V3, oN (.idxS L1 L0), om L0] [(3, cU), (4, L0)]
def q62r7 := rg [om V4, oc 140 [(cs [8, 9, 10, 12, 13, 34, 92, 47]), L0], om L0] [(5, L0)]
def q62r8 := rg [om V5, ob .geq L0 (ci 0), om L0, omT V4 L0, oT (.bin .neq L0 (cb 47)) L1, op L2 L0 cF, om L0] [(9, L0)]
def q62r9 := rg [oc 139 [V2, (cb 92)]] []
def q62r10 := rg [om V5, oN (.idxS (cs [98, 116, 110, 102, 114, 34, 92, 47]) L0), oc 139 [V2, L0]] [(5, cU)]
def q62r11 := rg [om V4, ob .lss L0 (cb 32), om L0, omF V4 L0, oF (.bin .eql L0 (cb 127)) L1, op L2 cT L0, om L0] [(10, L0)]
def q62r12 := rg [oc 141 [V2, (cs [92, 117, 48, 48])]] []
def q62r13 := rg [om V4, ob .shr L0 (.cst (.int .u64 4)), oN (.idxS (cs [48, 49, 50, 51, 52, 53, 54, 55, 56, 57, 97, 98, 99, 100, 101, 102]) L0), oc 139 [V2, L0]] []
def q62r14 := rg [om V4, ob .and L0 (cb 15), oN (.idxS (cs [48, 49, 50, 51, 52, 53, 54, 55, 56, 57, 97, 98, 99, 100, 101, 102]) L0), oc 139 [V2, L0]] [(4, cU)]
def q62r15 := rg [om V4, oc 139 [V2, L0]] [(4, cU)]
def q62r16 := rg [ob .add V7 (ci 1), om L0] [(7, L0)]
def q62l17 : ACode := (sq (rr q62r4) (sq (.cond V8 .skip (.exit 0)) (sq (.block 1 (sq (rr q62r5) (sq (rr q62r6) (sq (rr q62r7) (.block 2 (sq (rr q62r8) (.cond V9 (sq (rr q62r9) (rr q62r10)) (sq (rr q62r11) (.cond V10 (sq (rr q62r12) (sq (rr q62r13) (rr q62r14))) (rr q62r15)))))))))) (rr q62r16))))
def q62r18 := rg [oc 139 [V2, (cb 34)]] []
def q62r19 := rg [oc 137 [V2], om L0] [(1, L0), (2, cU)]
def q62 : AFn := { nparams := 1, nslots := 11, slots := [0, 2, 3, 4, 5, 6, 9, 10, 11, 20, 31], results := [.var 1], body := (sq (rr q62r0) (sq (rr q62r1) (sq (rr q62r2) (sq (sq (rr q62r3) (.block 0 (.loop [1, 3, 4, 5, 8, 9, 10] q62l17))) (sq (rr q62r18) (sq (rr q62r19) .ret)))))) }
theorem q62ok : fnOk Tryz.prog xfT gT Tryz.f62 q62 = true := by kernel_rfl
theorem q62at : Tryz.prog.funcs[62]? = some Tryz.f62 := by kernel_rfl
def q63r0 := rg [om (cs [])] [(1, cU)]
def q63r1 := rg [om V0, oc 103 [L0]] [(5, L0)]
def q63r2 := rg [om V0, om L0] [(0, cU), (1, L0)]
def q63r3 := rg [om (.cst .nilSl)] [(2, L0)]
def q63r4 := rg [om V0, ob .neq L0 (cs [])] [(6, L0)]
def q63r5 := rg [om V0, oc 142 [L0], om L0, ox 0 L0, ox 1 L1, ox 2 L2, om L2, om L2, om L2] [(3, L2), (4, L1)]
def q63r6 := rg [om V2, om V3, oc 143 [L1, L0], om L0] [(2, L0), (3, cU)]
def q63r7 := rg [om V0, om V4, oN (.sliceS L1 (some L0) none), om L0] [(0, L0), (4, cU)]
def q63l8 : ACode := (sq (sq (rr q63r4) (.cond V6 .skip (.exit 0))) (.block 1 (sq (rr q63r5) (sq (rr q63r6) (rr q63r7)))))
def q63r9 := rg [om V2, oN (.strOf L0), om L0] [(1, L0), (2, cU)]
def q63 : AFn := { nparams := 1, nslots := 7, slots := [0, 2, 3, 4, 5, 8, 11], results := [.var 1], body := (sq (rr q63r0) (sq (sq (rr q63r1) (.cond V5 (sq (rr q63r2) .ret) .skip)) (sq (rr q63r3) (sq (.block 0 (.loop [1, 3, 4, 5, 6] q63l8)) (sq (rr q63r9) .ret))))) }
theorem q63ok : fnOk Tryz.prog xfT gT Tryz.f63 q63 = true := by kernel_rfl
theorem q63at : Tryz.prog.funcs[63]? = some Tryz.f63 := by kernel_rfl
def q64r0 := rg [om (cs [])] [(1, cU)]
def q64r1 := rg [om (cs [48, 49, 50, 51, 52, 53, 54, 55, 56, 57, 97, 98, 99, 100, 101, 102])] [(2, L0)]
def q64r2 := rg [om (.cst .nilSl)] [(3, L0)]
def q64r3 := rg [om (ci 0)] [(4, L0)]
def q64r4 := rg [om V4, om V0, on .str L0, ob .lss L2 L0] [(9, L0)]
def q64r5 := rg [om V0, om V4, oN (.idxS L1 L0), om L0] [(5, L0)]
def q64r6 := rg [om (ci 0)] [(6, L0)]
def q64r7 := rg [om (cs [8, 9, 10, 12, 13, 34, 92]), om (cs [98, 116, 110, 102, 114, 34, 92])] [(7, L1), (8, L0)]
def q64r8 := rg [om V6, om V7, on .str L0, ob .lss L2 L0, om L0, omT V7 L0, omT V6 L1, oT (.idxS L1 L0) L2, omT V5 L3, oT (.bin .neq L1 L0) L4, op L5 L0 cF] [(10, L0)]
def q64r9 := rg [om V6, ob .add L0 (ci 1), om L0] [(6, L0)]
def q64l10 : ACode := (sq (sq (rr q64r8) (.cond V10 .skip (.exit 2))) (.block 3 (rr q64r9)))
def q64r11 := rg [om V6, om V7, on .str L0, ob .lss L2 L0, om L0] [(7, cU), (11, L0)]
def q64r12 := rg [om V3, om V8, om V6, oN (.idxS L1 L0), oN (.buildSl 1 (.int .u8 0) 2 [(0, (cb 92)), (1, L0)]), oN (.append 5 1 1 L4 L0), om L0] [(3, L0), (6, cU), (8, cU)]
def q64r13 := rg [om V5, ob .lss L0 (cb 32), om L0, omF V5 L0, oF (.bin .eql L0 (cb 127)) L1, op L2 cT L0, om L0] [(12, L0)]
def q64r14 := rd [om V3, om V2, om V5, ob .quo L0 (cb 16), oN (.idxS L2 L0), om V2, om V5, ob .rem L0 (cb 16), oN (.idxS L2 L0), oN (.buildSl 1 (.int .u8 0) 6 [(0, (cb 92)), (1, (cb 117)), (2, (cb 48)), (3, (cb 48)), (4, L4), (5, L0)]), oN (.append 5 1 1 L9 L0), om L0] [(3, L0), (5, cU)] [] [10] [[], [], [], [2], [2, 3, 1], [], [], [6], [6, 7, 5], [5, 7, 6, 8, 1, 3, 2, 4], [4, 2, 3, 1, 8, 6, 7, 5, 9, 0], [0, 9, 5, 7, 6, 8, 1, 3, 2, 4, 10]]
def q64r15 := rg [om V3, om V5, oN (.buildSl 1 (.int .u8 0) 1 [(0, L0)]), oN (.append 5 1 1 L2 L0), om L0] [(3, L0), (5, cU)]
def q64r16 := rg [om V4, ob .add L0 (ci 1), om L0] [(4, L0)]
def q64l17 : ACode := (sq (sq (rr q64r4) (.cond V9 .skip (.exit 0))) (sq (.block 1 (sq (rr q64r5) (sq (rr q64r6) (sq (rr q64r7) (sq (.block 2 (.loop [1, 9, 10, 11, 12] q64l10)) (.block 4 (sq (rr q64r11) (.cond V11 (rr q64r12) (sq (rr q64r13) (.cond V12 (rr q64r14) (rr q64r15))))))))))) (rr q64r16)))
def q64r18 := rg [om V3, oN (.strOf L0), ob .add (cs [34]) L0, ob .add L0 (cs [34]), om L0] [(1, L0), (3, cU)]
def q64 : AFn := { nparams := 1, nslots := 13, slots := [0, 2, 3, 4, 5, 6, 7, 8, 9, 13, 29, 36, 47], results := [.var 1], body := (sq (rr q64r0) (sq (rr q64r1) (sq (rr q64r2) (sq (sq (rr q64r3) (.block 0 (.loop [1, 5, 6, 7, 8, 9, 10, 11, 12] q64l17))) (sq (rr q64r18) .ret))))) }
theorem q64ok : fnOk Tryz.prog xfT gT Tryz.f64 q64 = true := by kernel_rfl
theorem q64at : Tryz.prog.funcs[64]? = some Tryz.f64 := by kernel_rfl
end Go.Proofs.YtkjokjogdehonaaGreatDoor.Am.Q
