/- Part KQ5 of a claim's texts, joined: what the claim needs of them. -/
import Derived.Test.YtkjokjogdehonaaGreatDoorKQ0
set_option linter.unusedSimpArgs false
set_option linter.unusedVariables false
namespace Go.Proofs.YtkjokjogdehonaaGreatDoor.Am.Q
open Go Go.Proofs Go.Proofs.YtkjokjogdehonaaGreatDoor.Am
def q255r0 := rg [om (cs [])] [(2, cU)]
def q255r1 := rg [om V0, om V1, oc 243 [L1, L0]] [(3, L0)]
def q255r2 := rg [om V0, om V1, on .str L0, oN (.sliceS L2 (some L0) none), om L0] [(0, cU), (1, cU), (2, L0)]
def q255r3 := rg [om V0, om L0] [(0, cU), (2, L0)]
def q255 : AFn := { nparams := 2, nslots := 4, slots := [0, 1, 4, 7], results := [.var 2], body := (sq (rr q255r0) (sq (sq (rr q255r1) (.cond V3 (sq (rr q255r2) .ret) .skip)) (sq (rr q255r3) .ret))) }
theorem q255ok : fnOk Tryz.prog xfT gT Tryz.f255 q255 = true := by kernel_rfl
theorem q255at : Tryz.prog.funcs[255]? = some Tryz.f255 := by kernel_rfl
def q260r0 := rg [om (cs [])] [(2, cU)]
def q260r1 := rg [om V0, on .str L0, ob .gtr L0 (ci 0), om L0, omT V0 L0, oT (.idxS L0 (ci 0)) L1, omT V1 L2, oT (.bin .eql L1 L0) L3, op L4 L0 cF] [(3, L0)]
def q260r2 := rg [om V0, oN (.sliceS L0 (some (ci 1)) none), om L0] [(0, L0)]
def q260l3 : ACode := (sq (sq (rr q260r1) (.cond V3 .skip (.exit 0))) (.block 1 (rr q260r2)))
def q260r4 := rg [om V0, om L0] [(0, cU), (2, L0)]
def q260 : AFn := { nparams := 2, nslots := 4, slots := [0, 1, 4, 13], results := [.var 2], body := (sq (rr q260r0) (sq (.block 0 (.loop [2, 3] q260l3)) (sq (rr q260r4) .ret))) }
theorem q260ok : fnOk Tryz.prog xfT gT Tryz.f260 q260 = true := by kernel_rfl
theorem q260at : Tryz.prog.funcs[260]? = some Tryz.f260 := by kernel_rfl
def q262r0 := rg [oN (.alloc 317 [zb, zb, zb, zb, zb, zb, zb, zb, zb, zb, zb, zb, zb, zb, zb, zb, zb, zb, zb, zb, zb, zb, zb, zb, zb, zb, zb, zb, zb, zb, zb, zb, zb, zb, zb, zb, zb, zb, zb, zb, zb, zb, zb, zb, zb, zb, zb, zb, zb, zb, zb, zb, zb, zb, zb, zb, zb, zb, zb, zb, zb, zb, zb, zb, zb, zb, zb, zb, zb, zb, zb, zb, zb, zb, zb, zb, zb, zb, zb, zb, zb, zb, zb, zb, zb, zb, zb, zb, zb, zb, zb, zb, zb, zb, zb, zb, zb, zb, zb, zb, zb, zb, zb, zb, zb, zb, zb, zb, zb, zb, zb, zb, zb, zb, zb, zb, zb, zb, zb, zb, zb, zb, zb, zb, zb, zb, zb, zb, zb, zb, zb, zb, zb, zb, zb, zb, zb, zb, zb, zb, zb, zb, zb, zb, zb, zb, zb, zb, zb, zb, zb, zb, zb, zb, zb, zb, zb, zb, zb, zb, zb, zb, zb, zb, zb, zb, zb, zb, zb, zb, zb, zb, zb, zb, zb, zb, zb, zb, zb, zb, zb, zb, zb, zb, zb, zb, zb, zb, zb, zb, zb, zb, zb, zb, zb, zb, zb, zb, zb, zb, zb, zb, zb, zb, zb, zb, zb, zb, zb, zb, zb, zb, zb, zb, zb, zb, zb, zb, zb, zb, zb, zb, zb, zb, zb, zb, zb, zb, zb, zb, zb, zb, zb, zb, zb, zb, zb, zb, zb, zb, zb, zb, zb, zb, zb, zb, zb, zb, zb, zb, zb, zb, zb, zb, zb, zb]), om cF] [(1, L1), (2, cU)]
def q262r1 := rg [om (ci 0)] [(3, L0)]
def q262r2 := rg [om V3, om V0, on .str L0, ob .lss L2 L0] [(5, L0)]
def q262r3 := rg [om V0, om V3, oN (.idxS L1 L0), om L0] [(4, L0)]
def q262r4 := rg [om V4, ob .geq L0 (cb 128)] [(6, L0)]
def q262r5 := rg [oa 256 V1, os 256 V1 L0, om cF] [(2, L0)]
def q262r6 := rg [om V4, oN (.idxAddrA 256 1 V1 L0), os 1 L0 cT] [(4, cU)]
def q262r7 := rg [om V3, ob .add L0 (ci 1), om L0] [(3, L0)]
def q262l8 : ACode := (sq (sq (rr q262r2) (.cond V5 .skip (.exit 0))) (sq (.block 1 (sq (rr q262r3) (sq (sq (rr q262r4) (.cond V6 (sq (rr q262r5) .ret) .skip)) (rr q262r6)))) (rr q262r7)))
def q262r9 := rg [oa 256 V1, os 256 V1 L0, om cT] [(2, L0)]
def q262 : AFn := { nparams := 1, nslots := 7, slots := [0, 2, 3, 4, 5, 9, 16], results := [.cell 1 true 256, .var 2], body := (sq (rr q262r0) (sq (sq (rr q262r1) (.block 0 (.loop [2, 4, 5, 6] q262l8))) (sq (rr q262r9) .ret))) }
theorem q262ok : fnOk Tryz.prog xfT gT Tryz.f262 q262 = true := by kernel_rfl
theorem q262at : Tryz.prog.funcs[262]? = some Tryz.f262 := by kernel_rfl
def q263r0 := rg [om (cs [])] [(2, cU)]
def q263r1 := rg [om V0, on .str L0, ob .gtr L0 (ci 0)] [(3, L0)]
def q263r2 := rg [om V1, om V0, oN (.idxS L0 (ci 0)), oc 305 [L2, L0], oN (.not L0)] [(4, L0)]
def q263r3 := rg [om V0, oN (.sliceS L0 (some (ci 1)) none), om L0] [(0, L0)]
def q263l4 : ACode := (sq (sq (rr q263r1) (.cond V3 .skip (.exit 0))) (.block 1 (sq (sq (rr q263r2) (.cond V4 (.exit 0) .skip)) (rr q263r3))))
def q263r5 := rg [om V0, om L0] [(0, cU), (2, L0)]
def q263 : AFn := { nparams := 2, nslots := 5, slots := [0, 1, 4, 7, 12], results := [.var 2], body := (sq (rr q263r0) (sq (.block 0 (.loop [2, 3, 4] q263l4)) (sq (rr q263r5) .ret))) }
theorem q263ok : fnOk Tryz.prog xfT gT Tryz.f263 q263 = true := by kernel_rfl
theorem q263at : Tryz.prog.funcs[263]? = some Tryz.f263 := by kernel_rfl
end Go.Proofs.YtkjokjogdehonaaGreatDoor.Am.Q
namespace Go.Proofs.YtkjokjogdehonaaGreatDoor.Am.Q
open Go Go.Proofs Go.Proofs.YtkjokjogdehonaaGreatDoor.Am
def q265r0 := rg [om (cs [])] [(2, cU)]
def q265r1 := rg [om V0, on .str L0, ob .gtr L0 (ci 0)] [(5, L0)]
def q265r2 := rg [om V0, oc 220 [L0], om L0, ox 0 L0, ox 1 L1, om L1, om L1] [(3, L1), (4, L0)]
def q265r3 := rg [om V1, om V3, oc 306 [L1, L0], oN (.not L0)] [(3, cU), (6, L0)]
def q265r4 := rg [om V0, om V4, oN (.sliceS L1 (some L0) none), om L0] [(0, L0), (4, cU)]
def q265l5 : ACode := (sq (sq (rr q265r1) (.cond V5 .skip (.exit 0))) (.block 1 (sq (rr q265r2) (sq (sq (rr q265r3) (.cond V6 (.exit 0) .skip)) (rr q265r4)))))
def q265r6 := rg [om V0, om L0] [(0, cU), (2, L0)]
def q265 : AFn := { nparams := 2, nslots := 7, slots := [0, 1, 4, 5, 6, 9, 18], results := [.var 2], body := (sq (rr q265r0) (sq (.block 0 (.loop [2, 3, 4, 5, 6] q265l5)) (sq (rr q265r6) .ret))) }
theorem q265ok : fnOk Tryz.prog xfT gT Tryz.f265 q265 = true := by kernel_rfl
theorem q265at : Tryz.prog.funcs[265]? = some Tryz.f265 := by kernel_rfl
def q267r0 := rg [om (cb 0)] [(1, cU)]
def q267r1 := rg [om V0, oc 215 [L0]] []
def q267r2 := rg [om V0, oc 307 [L0], om L0] [(0, cU), (1, L0)]
def q267 : AFn := { nparams := 1, nslots := 2, slots := [0, 2], results := [.var 1], body := (sq (rr q267r0) (sq (rr q267r1) (sq (rr q267r2) .ret))) }
theorem q267ok : fnOk Tryz.prog xfT gT Tryz.f267 q267 = true := by kernel_rfl
theorem q267at : Tryz.prog.funcs[267]? = some Tryz.f267 := by kernel_rfl
def q268r0 := rg [om (cs [])] [(1, cU)]
def q268r1 := rg [om (.cst .nilSl)] [(2, L0)]
def q268r2 := rg [om V0, oN (.nilck L0), of 0 L0, of 1 L0, ol L0, ob .add L0 (ci 1), oN (.nilck L5), of 0 L0, of 1 L0, os 1 L0 L3] []
def q268r3 := rg [om V0, oN (.nilck L0), of 0 L0, oc 307 [L0], om L0] [(3, L0)]
def q268r4 := rg [om V3, ob .lss L0 (cb 32), om L0] [(4, L0)]
def q268r5 := rd [om V0, oN (.nilck L0), of 0 L0, om V0, oN (.nilck L0), of 0 L0, of 1 L0, ol L0, oc 216 [L5, (ci 3), L0]] [] [] [8] [[], [0], [0, 1], [], [3], [3, 4], [4, 3, 5], [5, 3, 4, 6], [6, 4, 3, 5, 7, 1, 0, 2]]
def q268r6 := rg [om V3, ob .eql L0 (cb 34), om L0] [(5, L0)]
def q268r7 := rg [om V0, oN (.nilck L0), of 0 L0, of 1 L0, ol L0, ob .add L0 (ci 1), oN (.nilck L5), of 0 L0, of 1 L0, os 1 L0 L3] [(0, cU)]
def q268r8 := rg [om V2, oN (.strOf L0), om L0] [(1, L0), (2, cU)]
def q268r9 := rg [om V3, ob .eql L0 (cb 92), om L0] [(6, L0)]
def q268r10 := rg [om V0, om V2, oc 308 [L1, L0], om L0] [(2, L0)]
def q268r11 := rg [om V2, om V3, oN (.buildSl 1 (.int .u8 0) 1 [(0, L0)]), oN (.append 5 1 1 L2 L0), om L0] [(2, L0), (3, cU)]
def q268r12 := rg [om V0, oN (.nilck L0), of 0 L0, of 1 L0, ol L0, ob .add L0 (ci 1), oN (.nilck L5), of 0 L0, of 1 L0, os 1 L0 L3] []
def q268l13 : ACode := (.block 1 (sq (rr q268r3) (.block 2 (sq (rr q268r4) (.cond V4 (rr q268r5) (sq (rr q268r6) (.cond V5 (sq (rr q268r7) (sq (rr q268r8) .ret)) (sq (rr q268r9) (.cond V6 (rr q268r10) (sq (rr q268r11) (rr q268r12)))))))))))
def q268 : AFn := { nparams := 1, nslots := 7, slots := [0, 2, 3, 4, 31, 43, 57], results := [.var 1], body := (sq (rr q268r0) (sq (rr q268r1) (sq (rr q268r2) (.block 0 (.loop [1, 3, 4, 5, 6] q268l13))))) }
theorem q268ok : fnOk Tryz.prog xfT gT Tryz.f268 q268 = true := by kernel_rfl
theorem q268at : Tryz.prog.funcs[268]? = some Tryz.f268 := by kernel_rfl
def q269r0 := rg [oN (.alloc 27 [zi, zs, .nilSl, .nilSl])] [(2, L0)]
def q269r1 := rg [oN (.build [zi, zs, .nilSl, .nilSl] [(0, 1, (ci 5))]), oN (.alloc 27 [zi, zs, .nilSl, .nilSl]), os 4 L0 L1] [(3, L1)]
def q269r2 := rg [om V0, oN (.nilck L0), of 0 L0, of 1 L0, ol L0, ob .add L0 (ci 1), oN (.nilck L5), of 0 L0, of 1 L0, os 1 L0 L3] []
def q269r3 := rg [om V0, of 3 V3, ol L0, on .sli L0, ob .eql L0 (ci 0), oc 309 [L4, L0, (cb 93)]] [(4, L0)]
def q269r4 := rd [of 3 V3, ol L0, om V0, om V1, oc 214 [L1, L0], oN (.buildSl 4 (.agg [zi, zs, .nilSl, .nilSl]) 1 [(0, L0)]), oN (.append 27 4 72 L4 L0), of 3 V3, os 1 L0 L1] [] [(1, 4)] [4, 6, 8] [[], [0], [], [], [3, 2], [2, 3, 4], [4, 3, 2, 5, 0, 1], [6, 5, 4, 3, 2, 1, 0], [0, 1, 2, 3, 4, 5, 6, 7]]
def q269l5 : ACode := (sq (sq (rr q269r3) (.cond V4 .skip (.exit 0))) (.block 1 (rr q269r4)))
def q269r6 := rg [oa 4 V3, os 4 V2 L0] [(3, cU)]
def q269 : AFn := { nparams := 2, nslots := 5, slots := [0, 1, 4, 5, 21], results := [.cell 2 true 4], body := (sq (rr q269r0) (sq (rr q269r1) (sq (rr q269r2) (sq (.block 0 (.loop [4] q269l5)) (sq (rr q269r6) .ret))))) }
theorem q269ok : fnOk Tryz.prog xfT gT Tryz.f269 q269 = true := by kernel_rfl
theorem q269at : Tryz.prog.funcs[269]? = some Tryz.f269 := by kernel_rfl
def q270r0 := rg [oN (.alloc 27 [zi, zs, .nilSl, .nilSl])] [(2, L0)]
def q270r1 := rg [oN (.build [zi, zs, .nilSl, .nilSl] [(0, 1, (ci 6))]), oN (.alloc 27 [zi, zs, .nilSl, .nilSl]), os 4 L0 L1] [(3, L1)]
def q270r2 := rg [oN (.mkMap), om L0] [(4, L0)]
def q270r3 := rg [om V0, oN (.nilck L0), of 0 L0, of 1 L0, ol L0, ob .add L0 (ci 1), oN (.nilck L5), of 0 L0, of 1 L0, os 1 L0 L3] []
def q270r4 := rg [om V0, of 3 V3, ol L0, on .sli L0, ob .eql L0 (ci 0), oc 309 [L4, L0, (cb 125)]] [(7, L0)]
def q270r5 := rg [om V0, oN (.nilck L0), of 0 L0, oc 267 [L0], ob .neq L0 (cb 34)] [(8, L0)]
def q270r6 := rd [om V0, oN (.nilck L0), of 0 L0, om V0, oN (.nilck L0), of 0 L0, of 1 L0, ol L0, oc 216 [L5, (ci 3), L0]] [] [] [8] [[], [0], [0, 1], [], [3], [3, 4], [4, 3, 5], [5, 3, 4, 6], [6, 4, 3, 5, 7, 1, 0, 2]]
def q270r7 := rg [om V0, oN (.nilck L0), of 0 L0, of 1 L0, ol L0, om L0] [(5, L0)]
def q270r8 := rg [om V0, oc 268 [L0], om L0] [(6, L0)]
def q270r9 := rg [om V4, om V6, oN (.lookup .str zb false L1 L0)] [(9, L0)]
def q270r10 := rg [om V0, oN (.nilck L0), of 0 L0, om V5, oc 216 [L1, (ci 7), L0]] [(5, cU)]
def q270r11 := rg [om V4, om V6, oN (.mapUpd .str L1 L0 cT)] []
def q270r12 := rg [om V0, oN (.nilck L0), of 0 L0, oc 310 [L0, (cb 58)]] []
def q270r13 := rg [of 2 V3, ol L0, om V6, oN (.buildSl 1 zs 1 [(0, L0)]), oN (.append 9 1 16 L2 L0), of 2 V3, os 1 L0 L1] [(6, cU)]
def q270r14 := rd [of 3 V3, ol L0, om V0, om V1, oc 214 [L1, L0], oN (.buildSl 4 (.agg [zi, zs, .nilSl, .nilSl]) 1 [(0, L0)]), oN (.append 27 4 72 L4 L0), of 3 V3, os 1 L0 L1] [] [(1, 4)] [4, 6, 8] [[], [0], [], [], [3, 2], [2, 3, 4], [4, 3, 2, 5, 0, 1], [6, 5, 4, 3, 2, 1, 0], [0, 1, 2, 3, 4, 5, 6, 7]]
def q270l15 : ACode := (sq (sq (rr q270r4) (.cond V7 .skip (.exit 0))) (.block 1 (sq (sq (rr q270r5) (.cond V8 (rr q270r6) .skip)) (sq (rr q270r7) (sq (rr q270r8) (sq (sq (rr q270r9) (.cond V9 (rr q270r10) .skip)) (sq (rr q270r11) (sq (rr q270r12) (sq (rr q270r13) (rr q270r14))))))))))
def q270r16 := rg [oa 4 V3, os 4 V2 L0] [(3, cU)]
def q270 : AFn := { nparams := 2, nslots := 10, slots := [0, 1, 4, 5, 6, 7, 8, 25, 30, 49], results := [.cell 2 true 4], body := (sq (rr q270r0) (sq (rr q270r1) (sq (rr q270r2) (sq (rr q270r3) (sq (.block 0 (.loop [5, 6, 7, 8, 9] q270l15)) (sq (rr q270r16) .ret)))))) }
theorem q270ok : fnOk Tryz.prog xfT gT Tryz.f270 q270 = true := by kernel_rfl
theorem q270at : Tryz.prog.funcs[270]? = some Tryz.f270 := by kernel_rfl
def q271r0 := rg [om cF] [(1, cU)]
def q271r1 := rg [om V0, ob .sub L0 (cb 48), ob .lss L0 (cb 10), om L0] [(0, cU), (1, L0)]
def q271 : AFn := { nparams := 1, nslots := 2, slots := [0, 2], results := [.var 1], body := (sq (rr q271r0) (sq (rr q271r1) .ret)) }
theorem q271ok : fnOk Tryz.prog xfT gT Tryz.f271 q271 = true := by kernel_rfl
theorem q271at : Tryz.prog.funcs[271]? = some Tryz.f271 := by kernel_rfl
def q272r0 := rg [om (cs [])] [(2, cU)]
def q272r1 := rg [om V0, oN (.nilck L0), of 0 L0, of 1 L0, ol L0, om L0] [(3, L0)]
def q272r2 := rd [om V0, oN (.nilck L0), of 0 L0, of 1 L0, ol L0, om V0, oN (.nilck L0), of 0 L0, of 0 L0, ol L0, on .str L0, ob .lss L6 L0, om L0, omT V1 L0, omT V0 L1, oT (.nilck L0) L2, oT (.fieldAddr 0 L0) L3, oT (.fieldAddr 0 L0) L4, oT (.load false 1 L0) L5, omT V0 L6, oT (.nilck L0) L7, oT (.fieldAddr 0 L0) L8, oT (.fieldAddr 1 L0) L9, oT (.load false 1 L0) L10, oT (.idxS L5 L0) L11, oT (.call 140 [L11, L0]) L12, oT (.bin .geq L0 (ci 0)) L13, op L14 L0 cF] [(4, L0)] [] [25] [[], [0], [0, 1], [1, 0, 2], [2, 0, 1, 3], [], [5], [5, 6], [6, 5, 7], [7, 5, 6, 8], [8, 6, 5, 7, 9], [9, 7, 5, 6, 8, 10, 3, 1, 0, 2, 4], [4, 2, 0, 1, 3, 10, 8, 6, 5, 7, 9, 11], [11, 9, 7, 5, 6, 8, 10, 3, 1, 0, 2, 4, 12], [11, 9, 7, 5, 6, 8, 10, 3, 1, 0, 2, 4, 12], [12, 4, 2, 0, 1, 3, 10, 8, 6, 5, 7, 9, 11, 14], [14, 11, 9, 7, 5, 6, 8, 10, 3, 1, 0, 2, 4, 12, 15], [15, 12, 4, 2, 0, 1, 3, 10, 8, 6, 5, 7, 9, 11, 14, 16], [16, 14, 11, 9, 7, 5, 6, 8, 10, 3, 1, 0, 2, 4, 12, 15, 17], [11, 9, 7, 5, 6, 8, 10, 3, 1, 0, 2, 4, 12], [12, 4, 2, 0, 1, 3, 10, 8, 6, 5, 7, 9, 11, 19], [19, 11, 9, 7, 5, 6, 8, 10, 3, 1, 0, 2, 4, 12, 20], [20, 12, 4, 2, 0, 1, 3, 10, 8, 6, 5, 7, 9, 11, 19, 21], [21, 19, 11, 9, 7, 5, 6, 8, 10, 3, 1, 0, 2, 4, 12, 20, 22], [22, 20, 19, 21, 23, 17, 15, 12, 4, 2, 0, 1, 3, 10, 8, 6, 5, 7, 9, 11, 14, 16, 18], [18, 16, 14, 15, 17, 23, 21, 19, 20, 22, 24, 12, 4, 2, 0, 1, 3, 10, 8, 6, 5, 7, 9, 11, 13], [13, 11, 9, 7, 5, 6, 8, 10, 3, 1, 0, 2, 4, 12, 24, 22, 20, 19, 21, 23, 17, 15, 14, 16, 18, 25], [25, 18, 16, 14, 15, 17, 23, 21, 19, 20, 22, 24, 13, 26, 11, 9, 7, 5, 6, 8, 10, 3, 1, 0, 2, 4, 12]]
def q272r3 := rg [om V0, oN (.nilck L0), of 0 L0, of 1 L0, ol L0, ob .add L0 (ci 1), oN (.nilck L5), of 0 L0, of 1 L0, os 1 L0 L3] []
def q272l4 : ACode := (sq (sq (rr q272r2) (.cond V4 .skip (.exit 0))) (.block 1 (rr q272r3)))
def q272r5 := rd [om V0, oN (.nilck L0), of 0 L0, of 0 L0, ol L0, om V3, om V0, oN (.nilck L0), of 0 L0, of 1 L0, ol L0, oN (.sliceS L6 (some L5) (some L0)), om L0] [(0, cU), (2, L0), (3, cU)] [] [] [[], [0], [0, 1], [1, 0, 2], [2, 0, 1, 3], [], [], [6], [6, 7], [7, 6, 8], [8, 6, 7, 9], [9, 7, 6, 8, 10, 5, 3, 1, 0, 2, 4], [4, 2, 0, 1, 3, 5, 10, 8, 6, 7, 9, 11]]
def q272 : AFn := { nparams := 2, nslots := 5, slots := [0, 1, 4, 5, 38], results := [.var 2], body := (sq (rr q272r0) (sq (rr q272r1) (sq (.block 0 (.loop [2, 4] q272l4)) (sq (rr q272r5) .ret)))) }
theorem q272ok : fnOk Tryz.prog xfT gT Tryz.f272 q272 = true := by kernel_rfl
theorem q272at : Tryz.prog.funcs[272]? = some Tryz.f272 := by kernel_rfl
def q273r0 := rg [om cF] [(1, cU)]
def q273r1 := rg [om V0, oc 199 [L0, (cs [45])], om L0] [(0, L0)]
def q273r2 := rg [om V0, oc 311 [L0], om L0] [(2, L0)]
def q273r3 := rg [om V2, ob .eql L0 (ci 0), om L0, omF V2 L0, oF (.bin .gtr L0 (ci 1)) L1, omF L0 L2, omT V0 L0, oT (.idxS L0 (ci 0)) L1, oT (.bin .eql L0 (cb 48)) L2, oF (.pick L3 L0 cF) L6, op L7 cT L0] [(8, L0)]
def q273r4 := rg [om cF] [(1, L0)]
def q273r5 := rg [om V0, om V2, oN (.sliceS L1 (some L0) none), om L0] [(0, L0), (2, cU)]
def q273r6 := rg [om V0, oc 244 [L0, (cs [46])], om L0, ox 0 L0, ox 1 L1, om L1, om L1] [(3, L1), (4, L0)]
def q273r7 := rg [om V4] [(4, cU), (9, L0)]
def q273r8 := rg [om V3, oc 311 [L0], om L0] [(5, L0)]
def q273r9 := rg [om V5, ob .eql L0 (ci 0)] [(10, L0)]
def q273r10 := rg [om cF] [(1, L0)]
def q273r11 := rg [om V3, om V5, oN (.sliceS L1 (some L0) none), om L0] [(0, L0), (3, cU), (5, cU)]
def q273r12 := rg [om V0, ob .eql L0 (cs [])] [(11, L0)]
def q273r13 := rg [om cT] [(1, L0)]
def q273r14 := rg [om V0, om V0, on .str L0, oN (.min L0 (ci 2)), oN (.sliceS L3 (some (ci 1)) (some L0)), oc 241 [L0, (cs [43, 45])], om L0] [(6, L0)]
def q273r15 := rg [om V6, om V0, om V0, on .str L0, oN (.min L0 (ci 2)), oN (.sliceS L3 (some L0) none), ob .add L5 L0, om L0] [(6, cU), (7, L0)]
def q273r16 := rg [om V0, oN (.idxS L0 (ci 0)), ob .eql L0 (cb 101), om L0, omF V0 L0, oF (.idxS L0 (ci 0)) L1, oF (.bin .eql L0 (cb 69)) L2, op L3 cT L0, om L0, omT V7 L0, oT (.bin .neq L0 (cs [])) L1, op L2 L0 cF, om L0, omT V7 L0, oT (.call 311 [L0]) L1, omT V7 L2, oT (.len .str L0) L3, oT (.bin .eql L2 L0) L4, op L5 L0 cF, om L0] [(0, cU), (1, L0), (7, cU)]
def q273 : AFn := { nparams := 1, nslots := 12, slots := [0, 2, 3, 4, 5, 6, 7, 8, 23, 32, 36, 41], results := [.var 1], body := (sq (rr q273r0) (sq (rr q273r1) (sq (rr q273r2) (sq (sq (rr q273r3) (.cond V8 (sq (rr q273r4) .ret) .skip)) (sq (rr q273r5) (sq (sq (rr q273r6) (sq (rr q273r7) (.cond V9 (sq (rr q273r8) (sq (sq (rr q273r9) (.cond V10 (sq (rr q273r10) .ret) .skip)) (rr q273r11))) .skip))) (sq (sq (rr q273r12) (.cond V11 (sq (rr q273r13) .ret) .skip)) (sq (rr q273r14) (sq (rr q273r15) (sq (rr q273r16) .ret)))))))))) }
theorem q273ok : fnOk Tryz.prog xfT gT Tryz.f273 q273 = true := by kernel_rfl
theorem q273at : Tryz.prog.funcs[273]? = some Tryz.f273 := by kernel_rfl
def q274r0 := rg [om cF] [(1, cU)]
def q274r1 := rg [oN (.mkMap), om L0] [(2, L0)]
def q274r2 := rg [om V0, on .sli L0, om (ci 0)] [(0, cU), (4, L2), (5, L1), (6, L0)]
def q274r3 := rg [ob .lss V6 V5] [(7, L0)]
def q274r4 := rg [oN (.idxAddr 1 V4 V6), ol L0, om L0] [(3, L0)]
def q274r5 := rg [om V2, om V3, oN (.lookup .str zb false L1 L0)] [(8, L0)]
def q274r6 := rg [om cT] [(1, L0)]
def q274r7 := rg [om V2, om V3, oN (.mapUpd .str L1 L0 cT)] [(3, cU)]
def q274r8 := rg [ob .add V6 (ci 1), om L0] [(6, L0)]
def q274l9 : ACode := (sq (rr q274r3) (sq (.cond V7 .skip (.exit 0)) (sq (.block 1 (sq (rr q274r4) (sq (sq (rr q274r5) (.cond V8 (sq (rr q274r6) .ret) .skip)) (rr q274r7)))) (rr q274r8))))
def q274r10 := rg [om cF] [(1, L0)]
def q274 : AFn := { nparams := 1, nslots := 9, slots := [0, 2, 3, 5, 7, 8, 9, 10, 15], results := [.var 1], body := (sq (rr q274r0) (sq (rr q274r1) (sq (sq (rr q274r2) (.block 0 (.loop [0, 1, 3, 7, 8] q274l9))) (sq (rr q274r10) .ret)))) }
theorem q274ok : fnOk Tryz.prog xfT gT Tryz.f274 q274 = true := by kernel_rfl
theorem q274at : Tryz.prog.funcs[274]? = some Tryz.f274 := by kernel_rfl
def q275r0 := rg [om cF] [(1, cU)]
def q275r1 := rg [om V0, oc 103 [L0], oN (.not L0), om L0] [(0, cU), (1, L0)]
def q275 : AFn := { nparams := 1, nslots := 2, slots := [0, 2], results := [.var 1], body := (sq (rr q275r0) (sq (rr q275r1) .ret)) }
theorem q275ok : fnOk Tryz.prog xfT gT Tryz.f275 q275 = true := by kernel_rfl
theorem q275at : Tryz.prog.funcs[275]? = some Tryz.f275 := by kernel_rfl
def q278r0 := rg [om (.cst (.int .i32 0)), om (ci 0)] [(1, cU), (2, cU)]
def q278r1 := rg [om V0, on .str L0, om L0] [(3, L0)]
def q278r2 := rg [om V3, ob .lss L0 (ci 1)] [(12, L0)]
def q278r3 := rg [om (.cst (.int .i32 65533)), om (ci 0)] [(1, L1), (2, L0)]
def q278r4 := rg [om V0, oN (.idxS L0 (ci 0)), om L0] [(4, L0)]
def q278r5 := rg [om V4, oN (.idxAddrA 256 1 (.cst (.sptr t_unicode_utf8_first 0)) L0), ol L0, om L0] [(5, L0)]
def q278r6 := rg [om V5, ob .geq L0 (cb 240)] [(13, L0)]
def q278r7 := rg [om V5, oN (.convI .i32 L0), ob .shl L0 (.cst (.int .u64 31)), ob .shr L0 (.cst (.int .u64 31)), om L0] [(5, cU), (6, L0)]
def q278r8 := rg [om V0, oN (.idxS L0 (ci 0)), oN (.convI .i32 L0), om V6, ob .andNot L1 L0, om V6, ob .and (.cst (.int .i32 65533)) L0, ob .or L2 L0, om L0, om (ci 1)] [(0, cU), (1, L1), (2, L0), (6, cU)]
def q278r9 := rg [om V5, ob .and L0 (cb 7), oN (.convI .i64 L0), om L0] [(7, L0)]
def q278r10 := rg [om V5, ob .shr L0 (.cst (.int .u64 4)), oN (.idxAddrA 16 2 (.cst (.sptr t_unicode_utf8_acceptRanges 0)) L0), oa 2 L0, oN (.alloc 340 [(.int .u8 0), (.int .u8 0)]), os 2 L0 L1] [(5, cU), (8, L1)]
def q278r11 := rg [om V3, om V7, ob .lss L1 L0] [(3, cU), (14, L0)]
def q278r12 := rg [om (.cst (.int .i32 65533)), om (ci 1)] [(1, L1), (2, L0)]
def q278r13 := rg [om V0, oN (.idxS L0 (ci 1)), om L0] [(9, L0)]
def q278r14 := rg [om V9, of 0 V8, ol L0, ob .lss L2 L0, om L0, oF (.fieldAddr 1 V8) L0, oF (.load false 1 L0) L1, omF V9 L2, oF (.bin .lss L1 L0) L3, op L4 cT L0] [(8, cU), (15, L0)]
def q278r15 := rg [om (.cst (.int .i32 65533)), om (ci 1)] [(1, L1), (2, L0)]
def q278r16 := rg [om V7, ob .leq L0 (ci 2)] [(16, L0)]
def q278r17 := rg [om V4, ob .and L0 (cb 31), oN (.convI .i32 L0), ob .shl L0 (.cst (.int .u64 6)), om V9, ob .and L0 (cb 63), oN (.convI .i32 L0), ob .or L3 L0, om L0, om (ci 2)] [(1, L1), (2, L0), (4, cU), (9, cU)]
def q278r18 := rg [om V0, oN (.idxS L0 (ci 2)), om L0] [(10, L0)]
def q278r19 := rg [om V10, ob .lss L0 (cb 128), om L0, omF V10 L0, oF (.bin .lss (cb 191) L0) L1, op L2 cT L0] [(17, L0)]
def q278r20 := rg [om (.cst (.int .i32 65533)), om (ci 1)] [(1, L1), (2, L0)]
def q278r21 := rg [om V7, ob .leq L0 (ci 3)] [(7, cU), (18, L0)]
def q278r22 := rg [om V4, ob .and L0 (cb 15), oN (.convI .i32 L0), ob .shl L0 (.cst (.int .u64 12)), om V9, ob .and L0 (cb 63), oN (.convI .i32 L0), ob .shl L0 (.cst (.int .u64 6)), ob .or L4 L0, om V10, ob .and L0 (cb 63), oN (.convI .i32 L0), ob .or L3 L0, om L0, om (ci 3)] [(1, L1), (2, L0), (4, cU), (9, cU), (10, cU)]
def q278r23 := rg [om V0, oN (.idxS L0 (ci 3)), om L0] [(0, cU), (11, L0)]
def q278r24 := rg [om V11, ob .lss L0 (cb 128), om L0, omF V11 L0, oF (.bin .lss (cb 191) L0) L1, op L2 cT L0] [(19, L0)]
def q278r25 := rg [om (.cst (.int .i32 65533)), om (ci 1)] [(1, L1), (2, L0)]
def q278r26 := rg [om V4, ob .and L0 (cb 7), oN (.convI .i32 L0), ob .shl L0 (.cst (.int .u64 18)), om V9, ob .and L0 (cb 63), oN (.convI .i32 L0), ob .shl L0 (.cst (.int .u64 12)), ob .or L4 L0, om V10, ob .and L0 (cb 63), oN (.convI .i32 L0), ob .shl L0 (.cst (.int .u64 6)), ob .or L4 L0, om V11, ob .and L0 (cb 63), oN (.convI .i32 L0), ob .or L3 L0, om L0, om (ci 4)] [(1, L1), (2, L0), (4, cU), (9, cU), (10, cU), (11, cU)]
def q278 : AFn := { nparams := 1, nslots := 20, slots := [0, 2, 3, 4, 5, 6, 7, 8, 9, 10, 11, 12, 16, 23, 45, 57, 59, 75, 77, 98], results := [.var 1, .var 2], body := (sq (rr q278r0) (sq (rr q278r1) (sq (sq (rr q278r2) (.cond V12 (sq (rr q278r3) .ret) .skip)) (sq (rr q278r4) (sq (rr q278r5) (sq (sq (rr q278r6) (.cond V13 (sq (rr q278r7) (sq (rr q278r8) .ret)) .skip)) (sq (rr q278r9) (sq (rr q278r10) (sq (sq (rr q278r11) (.cond V14 (sq (rr q278r12) .ret) .skip)) (sq (rr q278r13) (sq (sq (rr q278r14) (.cond V15 (sq (rr q278r15) .ret) .skip)) (sq (sq (rr q278r16) (.cond V16 (sq (rr q278r17) .ret) .skip)) (sq (rr q278r18) (sq (sq (rr q278r19) (.cond V17 (sq (rr q278r20) .ret) .skip)) (sq (sq (rr q278r21) (.cond V18 (sq (rr q278r22) .ret) .skip)) (sq (rr q278r23) (sq (sq (rr q278r24) (.cond V19 (sq (rr q278r25) .ret) .skip)) (sq (rr q278r26) .ret)))))))))))))))))) }
theorem q278ok : fnOk Tryz.prog xfT gT Tryz.f278 q278 = true := by kernel_rfl
theorem q278at : Tryz.prog.funcs[278]? = some Tryz.f278 := by kernel_rfl
def q279r0 := rg [om cF] [(1, cU)]
def q279r1 := rg [om V0, on .str L0, om L0] [(2, L0)]
def q279r2 := rg [om V2, ob .eql L0 (ci 0)] [(5, L0)]
def q279r3 := rg [om cF] [(1, L0)]
def q279r4 := rg [om V0, oN (.idxS L0 (ci 0)), oN (.idxAddrA 256 1 (.cst (.sptr t_unicode_utf8_first 0)) L0), ol L0, om L0] [(3, L0)]
def q279r5 := rg [om V2, om V3, ob .and L0 (cb 7), oN (.convI .i64 L0), ob .geq L3 L0] [(6, L0)]
def q279r6 := rg [om cT] [(1, L0)]
def q279r7 := rg [om V3, ob .shr L0 (.cst (.int .u64 4)), oN (.idxAddrA 16 2 (.cst (.sptr t_unicode_utf8_acceptRanges 0)) L0), oa 2 L0, oN (.alloc 340 [(.int .u8 0), (.int .u8 0)]), os 2 L0 L1] [(3, cU), (4, L1)]
def q279r8 := rd [om V2, ob .gtr L0 (ci 1), om L0, omT V0 L0, oT (.idxS L0 (ci 1)) L1, oT (.fieldAddr 0 V4) L2, oT (.load false 1 L0) L3, oT (.bin .lss L2 L0) L4, omT L0 L5, oF (.fieldAddr 1 V4) L0, oF (.load false 1 L0) L1, omF V0 L2, oF (.idxS L0 (ci 1)) L3, oF (.bin .lss L2 L0) L4, oT (.pick L5 cT L0) L11, op L12 L0 cF] [(4, cU), (7, L0)] [] [] [[], [0], [0, 1], [1, 0, 2], [2, 0, 1, 3], [1, 0, 2], [2, 0, 1, 5], [5, 6, 3, 1, 0, 2, 4], [4, 2, 0, 1, 3, 6, 5, 7], [7, 5, 6, 3, 1, 0, 2, 4, 8], [8, 4, 2, 0, 1, 3, 6, 5, 7, 9], [7, 5, 6, 3, 1, 0, 2, 4, 8], [8, 4, 2, 0, 1, 3, 6, 5, 7, 11], [11, 12, 9, 7, 5, 6, 3, 1, 0, 2, 4, 8, 10], [10, 9, 12, 11, 13, 7, 5, 6, 3, 1, 0, 2, 4, 8], [8, 4, 3, 6, 5, 7, 13, 11, 12, 9, 10, 14, 1, 0, 2]]
def q279r9 := rg [om cT] [(1, L0)]
def q279r10 := rg [om V2, ob .gtr L0 (ci 2), om L0, omT V0 L0, oT (.idxS L0 (ci 2)) L1, oT (.bin .lss L0 (cb 128)) L2, omT L0 L3, omF V0 L0, oF (.idxS L0 (ci 2)) L1, oF (.bin .lss (cb 191) L0) L2, oT (.pick L3 cT L0) L7, op L8 L0 cF] [(0, cU), (2, cU), (8, L0)]
def q279r11 := rg [om cT] [(1, L0)]
def q279r12 := rg [om cF] [(1, L0)]
def q279 : AFn := { nparams := 1, nslots := 9, slots := [0, 2, 3, 4, 5, 9, 18, 38, 50], results := [.var 1], body := (sq (rr q279r0) (sq (rr q279r1) (sq (sq (rr q279r2) (.cond V5 (sq (rr q279r3) .ret) .skip)) (sq (rr q279r4) (sq (sq (rr q279r5) (.cond V6 (sq (rr q279r6) .ret) .skip)) (sq (rr q279r7) (sq (sq (rr q279r8) (.cond V7 (sq (rr q279r9) .ret) (sq (rr q279r10) (.cond V8 (sq (rr q279r11) .ret) .skip)))) (sq (rr q279r12) .ret)))))))) }
theorem q279ok : fnOk Tryz.prog xfT gT Tryz.f279 q279 = true := by kernel_rfl
theorem q279at : Tryz.prog.funcs[279]? = some Tryz.f279 := by kernel_rfl
def q280r0 := rg [om cF] [(3, cU)]
def q280r1 := rg [om (ci 0)] [(4, L0)]
def q280r2 := rg [om V4, ob .lss L0 (ci 4), om L0, omT V1 L0, omT V4 L1, oT (.bin .add L1 L0) L2, omT V0 L3, oT (.nilck L0) L4, oT (.fieldAddr 0 L0) L5, oT (.load false 1 L0) L6, oT (.len .str L0) L7, oT (.bin .lss L5 L0) L8, op L9 L0 cF] [(5, L0)]
def q280r3 := rg [om V0, oN (.nilck L0), of 0 L0, ol L0, om V1, om V4, ob .add L1 L0, oN (.idxS L3 L0), oc 312 [L0], ob .gtr L0 (.cst (.int .u32 15))] [(6, L0)]
def q280r4 := rg [om V0, om V2, oc 73 [L1, (ci 3), L0]] [(0, cU), (2, cU)]
def q280r5 := rg [om cF] [(3, L0)]
def q280r6 := rg [om V4, ob .add L0 (ci 1), om L0] [(4, L0)]
def q280l7 : ACode := (sq (sq (rr q280r2) (.cond V5 .skip (.exit 0))) (sq (.block 1 (sq (rr q280r3) (.cond V6 (sq (rr q280r4) (sq (rr q280r5) .ret)) .skip))) (rr q280r6)))
def q280r8 := rg [om cT] [(3, L0)]
def q280 : AFn := { nparams := 3, nslots := 7, slots := [0, 1, 2, 6, 7, 20, 32], results := [.var 3], body := (sq (rr q280r0) (sq (sq (rr q280r1) (.block 0 (.loop [3, 5, 6] q280l7))) (sq (rr q280r8) .ret))) }
theorem q280ok : fnOk Tryz.prog xfT gT Tryz.f280 q280 = true := by kernel_rfl
theorem q280at : Tryz.prog.funcs[280]? = some Tryz.f280 := by kernel_rfl
def q281r0 := rg [om (.cst (.int .i32 0))] [(3, cU)]
def q281r1 := rg [om (.cst (.int .i32 0))] [(4, L0)]
def q281r2 := rg [om (ci 0)] [(5, L0)]
def q281r3 := rg [om V5, ob .lss L0 (ci 4)] [(7, L0)]
def q281r4 := rg [om V1, om V5, ob .add L1 L0, om V0, oN (.nilck L0), of 0 L0, ol L0, on .str L0, ob .geq L5 L0] [(8, L0)]
def q281r5 := rg [om V0, om V0, oN (.nilck L0), of 0 L0, ol L0, on .str L0, oc 73 [L5, (ci 4), L0]] [(0, cU)]
def q281r6 := rg [om (.cst (.int .i32 0))] [(3, L0)]
def q281r7 := rg [om V0, oN (.nilck L0), of 0 L0, ol L0, om V1, om V5, ob .add L1 L0, oN (.idxS L3 L0), oc 312 [L0], om L0] [(6, L0)]
def q281r8 := rg [om V6, ob .gtr L0 (.cst (.int .u32 15))] [(9, L0)]
def q281r9 := rg [om V0, om V2, oc 73 [L1, (ci 3), L0]] [(0, cU), (2, cU)]
def q281r10 := rg [om (.cst (.int .i32 0))] [(3, L0)]
def q281r11 := rg [om V4, ob .mul L0 (.cst (.int .i32 16)), om V6, oN (.convI .i32 L0), ob .add L2 L0, om L0] [(4, L0), (6, cU)]
def q281r12 := rg [om V5, ob .add L0 (ci 1), om L0] [(5, L0)]
def q281l13 : ACode := (sq (sq (rr q281r3) (.cond V7 .skip (.exit 0))) (sq (.block 1 (sq (sq (rr q281r4) (.cond V8 (sq (rr q281r5) (sq (rr q281r6) .ret)) .skip)) (sq (rr q281r7) (sq (sq (rr q281r8) (.cond V9 (sq (rr q281r9) (sq (rr q281r10) .ret)) .skip)) (rr q281r11))))) (rr q281r12)))
def q281r14 := rg [om V4, om L0] [(3, L0), (4, cU)]
def q281 : AFn := { nparams := 3, nslots := 10, slots := [0, 1, 2, 6, 7, 8, 9, 11, 22, 40], results := [.var 3], body := (sq (rr q281r0) (sq (rr q281r1) (sq (sq (rr q281r2) (.block 0 (.loop [3, 6, 7, 8, 9] q281l13))) (sq (rr q281r14) .ret)))) }
theorem q281ok : fnOk Tryz.prog xfT gT Tryz.f281 q281 = true := by kernel_rfl
theorem q281at : Tryz.prog.funcs[281]? = some Tryz.f281 := by kernel_rfl
def q282r0 := rg [om (.cst .nilSl)] [(2, cU)]
def q282r1 := rg [om V0, oN (.append 5 1 1 (.cst .nilSl) L0), om L0] [(0, cU), (3, L0)]
def q282r2 := rg [om (ci 0)] [(4, L0)]
def q282r3 := rg [om V4, om V1, on .sli L0, ob .lss L2 L0] [(5, L0)]
def q282r4 := rg [om V3, om V1, om V4, oN (.idxAddr 1 L1 L0), ol L0, oc 67 [L0], oN (.append 5 1 1 L5 L0), om L0] [(3, L0)]
def q282r5 := rg [om V4, ob .add L0 (ci 1), om L0] [(4, L0)]
def q282l6 : ACode := (sq (sq (rr q282r3) (.cond V5 .skip (.exit 0))) (sq (.block 1 (rr q282r4)) (rr q282r5)))
def q282r7 := rg [om V3, om L0] [(2, L0), (3, cU)]
def q282 : AFn := { nparams := 2, nslots := 6, slots := [0, 1, 4, 5, 6, 12], results := [.var 2], body := (sq (rr q282r0) (sq (rr q282r1) (sq (sq (rr q282r2) (.block 0 (.loop [0, 2, 5] q282l6))) (sq (rr q282r7) .ret)))) }
theorem q282ok : fnOk Tryz.prog xfT gT Tryz.f282 q282 = true := by kernel_rfl
theorem q282at : Tryz.prog.funcs[282]? = some Tryz.f282 := by kernel_rfl
end Go.Proofs.YtkjokjogdehonaaGreatDoor.Am.Q
namespace Go.Proofs.YtkjokjogdehonaaGreatDoor.Am.Q
open Go Go.Proofs Go.Proofs.YtkjokjogdehonaaGreatDoor.Am
def q287r0 := rg [om (cs []), om cF] [(2, cU), (3, cU)]
def q287r1 := rg [om V0, om V1, oc 243 [L1, L0], oN (.not L0)] [(4, L0)]
def q287r2 := rg [om V0, om L0, om cF] [(0, cU), (2, L1), (3, L0)]
def q287r3 := rg [om V0, om V1, on .str L0, oN (.sliceS L2 (some L0) none), om L0, om cT] [(0, cU), (1, cU), (2, L1), (3, L0)]
def q287 : AFn := { nparams := 2, nslots := 5, slots := [0, 1, 4, 5, 9], results := [.var 2, .var 3], body := (sq (rr q287r0) (sq (sq (rr q287r1) (.cond V4 (sq (rr q287r2) .ret) .skip)) (sq (rr q287r3) .ret))) }
theorem q287ok : fnOk Tryz.prog xfT gT Tryz.f287 q287 = true := by kernel_rfl
theorem q287at : Tryz.prog.funcs[287]? = some Tryz.f287 := by kernel_rfl
def q305r0 := rg [om cF] [(2, cU)]
def q305r1 := rg [om V0, om V1, oN (.nilck L1), oN (.idxAddrA 256 1 L0 L1), ol L0, om L0] [(0, cU), (1, cU), (2, L0)]
def q305 : AFn := { nparams := 2, nslots := 3, slots := [0, 1, 4], results := [.var 2], body := (sq (rr q305r0) (sq (rr q305r1) .ret)) }
theorem q305ok : fnOk Tryz.prog xfT gT Tryz.f305 q305 = true := by kernel_rfl
theorem q305at : Tryz.prog.funcs[305]? = some Tryz.f305 := by kernel_rfl
def q306r0 := rg [om cF] [(2, cU)]
def q306r1 := rg [om V0, om V1, oc 318 [L1, L0], ob .geq L0 (ci 0), om L0] [(0, cU), (1, cU), (2, L0)]
def q306 : AFn := { nparams := 2, nslots := 3, slots := [0, 1, 4], results := [.var 2], body := (sq (rr q306r0) (sq (rr q306r1) .ret)) }
theorem q306ok : fnOk Tryz.prog xfT gT Tryz.f306 q306 = true := by kernel_rfl
theorem q306at : Tryz.prog.funcs[306]? = some Tryz.f306 := by kernel_rfl
def q307r0 := rg [om (cb 0)] [(1, cU)]
def q307r1 := rd [om V0, oN (.nilck L0), of 1 L0, ol L0, om V0, oN (.nilck L0), of 0 L0, ol L0, on .str L0, ob .geq L5 L0] [(2, L0)] [] [] [[], [0], [0, 1], [1, 0, 2], [], [4], [4, 5], [5, 4, 6], [6, 4, 5, 7], [7, 5, 4, 6, 8, 2, 0, 1, 3]]
def q307r2 := rg [om V0, om V0, oN (.nilck L0), of 0 L0, ol L0, on .str L0, oc 216 [L5, (ci 4), L0]] []
def q307r3 := rd [om V0, oN (.nilck L0), of 0 L0, ol L0, om V0, oN (.nilck L0), of 1 L0, ol L0, oN (.idxS L4 L0), om L0] [(0, cU), (1, L0)] [] [] [[], [0], [0, 1], [1, 0, 2], [], [4], [4, 5], [5, 4, 6], [6, 4, 5, 7, 2, 0, 1, 3], [3, 1, 0, 2, 7, 5, 4, 6, 8]]
def q307 : AFn := { nparams := 1, nslots := 3, slots := [0, 2, 12], results := [.var 1], body := (sq (rr q307r0) (sq (sq (rr q307r1) (.cond V2 (rr q307r2) .skip)) (sq (rr q307r3) .ret))) }
theorem q307ok : fnOk Tryz.prog xfT gT Tryz.f307 q307 = true := by kernel_rfl
theorem q307at : Tryz.prog.funcs[307]? = some Tryz.f307 := by kernel_rfl
end Go.Proofs.YtkjokjogdehonaaGreatDoor.Am.Q
