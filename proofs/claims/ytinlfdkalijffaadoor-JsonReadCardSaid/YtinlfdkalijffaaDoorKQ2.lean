import Derived.Test.YtinlfdkalijffaaDoorKQ0
set_option linter.unusedSimpArgs false
set_option linter.unusedVariables false
/- MADE BY PROGRAM (Trans.lean): functions as texts of the abstract machine. -/
namespace Go.Proofs.YtinlfdkalijffaaDoor.Am.Q
open Go Go.Proofs Go.Proofs.YtinlfdkalijffaaDoor.Am
/-- (*cringle/json.parser).whole -/
def q23hr0 : ARegion := { ops := [(.alloc 26 [(.int .i64 0), (.str []), .nilSl, .nilSl], none), (.alloc 29 [(.int .i64 0), (.int .i64 0)], none)], exp := [(1, (.loc 1)), (2, (.loc 0))] }
def q23br0 : ARegion := { ops := [(.move (.var 0), none), (.call 40 [(.loc 0), (.cst (.int .i64 0))], none), (.store 4 (.var 1) (.loc 0), none)], exp := [] }
def q23br1 : ARegion := { ops := [(.move (.var 0), none), (.nilck (.loc 0), none), (.fieldAddr 0 (.loc 0), none), (.call 41 [(.loc 0)], none)], exp := [] }
def q23br2 : ARegion := { ops := [(.move (.var 0), none), (.nilck (.loc 0), none), (.fieldAddr 0 (.loc 0), none), (.fieldAddr 1 (.loc 0), none), (.load false 1 (.loc 0), none), (.move (.var 0), none), (.nilck (.loc 0), none), (.fieldAddr 0 (.loc 0), none), (.fieldAddr 0 (.loc 0), none), (.load false 1 (.loc 0), none), (.len .str (.loc 0), none), (.bin .lss (.loc 6) (.loc 0), none)], exp := [(3, (.loc 0))], draws := true, pairs := [], okPan := [], preds := [[], [0], [0, 1], [1, 0, 2], [2, 0, 1, 3], [], [5], [5, 6], [6, 5, 7], [7, 5, 6, 8], [8, 6, 5, 7, 9], [9, 7, 5, 6, 8, 10, 3, 1, 0, 2, 4]] }
def q23br3 : ARegion := { ops := [(.move (.var 0), none), (.nilck (.loc 0), none), (.fieldAddr 0 (.loc 0), none), (.move (.var 0), none), (.nilck (.loc 0), none), (.fieldAddr 0 (.loc 0), none), (.fieldAddr 1 (.loc 0), none), (.load false 1 (.loc 0), none), (.call 42 [(.loc 5), (.cst (.int .i64 3)), (.loc 0)], none)], exp := [(0, (.cst .u))], draws := true, pairs := [], okPan := [8], preds := [[], [0], [0, 1], [], [3], [3, 4], [4, 3, 5], [5, 3, 4, 6], [6, 4, 3, 5, 7, 1, 0, 2]] }
def q23br4 : ARegion := { ops := [(.load true 4 (.var 1), none), (.load true 2 (.var 2), none), (.store 4 (.var 1) (.loc 1), none), (.store 2 (.var 2) (.loc 1), none)], exp := [], draws := true, pairs := [(1, 2)], okPan := [2, 3], preds := [[], [], [0], [0, 2, 1]] }
def q23gr0 : ARegion := { ops := [(.move (.var 2), none), (.eq true (.leaf .ifaceE) (.loc 0) (.cst .nilIface), none)], exp := [(5, (.loc 0))] }
def q23gr1 : ARegion := { ops := [(.move (.var 2), none), (.tassert 74 (.agg [(.int .i64 0), (.int .i64 0)]) true (.loc 0), none), (.move (.loc 0), none), (.extract 0 (.loc 0), none), (.extract 1 (.loc 1), none), (.alloc 74 [(.int .i64 0), (.int .i64 0)], none), (.store 2 (.loc 0) (.loc 2), none), (.move (.loc 2), none)], exp := [(3, (.loc 2)), (4, (.loc 0))] }
def q23gr2 : ARegion := { ops := [(.move (.var 4), none), (.not (.loc 0), none)], exp := [(4, (.cst .u)), (6, (.loc 0))] }
def q23gr3 : ARegion := { ops := [(.move (.var 2), none), (.panic (.loc 0), none)], exp := [(2, (.cst .u))] }
def q23gr4 : ARegion := { ops := [(.build [(.int .i64 0), (.str []), .nilSl, .nilSl] [], none), (.fieldAddr 0 (.var 3), none), (.load true 2 (.loc 0), none), (.store 4 (.var 0) (.loc 2), none), (.store 2 (.var 1) (.loc 1), none)], exp := [(0, (.cst .u)), (1, (.cst .u)), (3, (.cst .u))], draws := true, pairs := [(2, 3)], okPan := [3, 4], preds := [[], [], [1], [0], [0, 3, 1, 2]] }
def q23 : ADfr := { nparams := 1, slots := [0, 2, 3, 22], results := [.cell 1 true 4, .cell 2 true 2], head := (.region q23hr0), caps := [1, 2], rest := (.seq (.region q23br0) (.seq (.region q23br1) (.seq (.seq (.region q23br2) (.cond (.var 3) (.region q23br3) .skip)) (.seq (.region q23br4) .ret)))), g := 39, gslots := [0, 1, 2, 3, 4, 7, 14], gx := 2, grest := (.seq (.region q23gr0) (.cond (.var 5) (.seq (.region q23gr1) (.seq (.seq (.region q23gr2) (.cond (.var 6) (.region q23gr3) .skip)) (.region q23gr4))) .skip)) }
theorem q23ok : dfrOk Tryd.prog xfT gT Tryd.f23 Tryd.f39 q23 = true := by kernel_rfl
theorem q23at : Tryd.prog.funcs[23]? = some Tryd.f23 := by kernel_rfl
theorem q23cl : Tryd.prog.funcs[39]? = some Tryd.f39 := by kernel_rfl
/-- (*cringle/cringleref07.parser).value -/
def q24r0 : ARegion := { ops := [(.alloc 26 [(.int .i64 0), (.str []), .nilSl, .nilSl], none)], exp := [(2, (.loc 0))] }
def q24r1 : ARegion := { ops := [(.move (.var 0), none), (.call 43 [(.loc 0)], none), (.move (.loc 0), none)], exp := [(3, (.loc 0))] }
def q24r2 : ARegion := { ops := [(.move (.var 0), none), (.nilck (.loc 0), none), (.fieldAddr 1 (.loc 0), none), (.load false 1 (.loc 0), none), (.move (.loc 0), none)], exp := [(4, (.loc 0))] }
def q24r3 : ARegion := { ops := [(.move (.var 0), none), (.nilck (.loc 0), none), (.fieldAddr 3 (.loc 0), none), (.fieldAddr 0 (.loc 0), none), (.load false 1 (.loc 0), none), (.bin .neq (.loc 0) (.cst (.int .i64 0)), none)], exp := [(7, (.loc 0))] }
def q24r4 : ARegion := { ops := [(.build [(.int .i64 0), (.str []), .nilSl, .nilSl] [], none), (.store 4 (.var 2) (.loc 0), none)], exp := [] }
def q24r5 : ARegion := { ops := [(.move (.var 0), none), (.nilck (.loc 0), none), (.fieldAddr 2 (.loc 0), none), (.load false 1 (.loc 0), none), (.bin .add (.loc 0) (.cst (.int .i64 1)), none), (.nilck (.loc 4), none), (.fieldAddr 2 (.loc 0), none), (.store 1 (.loc 0) (.loc 2), none)], exp := [] }
def q24r6 : ARegion := { ops := [(.move (.var 0), none), (.nilck (.loc 0), none), (.fieldAddr 2 (.loc 0), none), (.load false 1 (.loc 0), none), (.bin .gtr (.loc 0) (.cst (.int .i64 4096)), none)], exp := [(8, (.loc 0))] }
def q24r7 : ARegion := { ops := [(.move (.var 0), none), (.move (.var 4), none), (.call 25 [(.loc 1), (.cst (.int .i64 5)), (.loc 0)], none)], exp := [(0, (.cst .u)), (4, (.cst .u))] }
def q24r8 : ARegion := { ops := [(.build [(.int .i64 0), (.str []), .nilSl, .nilSl] [], none), (.store 4 (.var 2) (.loc 0), none)], exp := [] }
def q24r9 : ARegion := { ops := [(.move (.var 3), none), (.bin .eql (.loc 0) (.cst (.int .u8 34)), none), (.move (.loc 0), none)], exp := [(9, (.loc 0))] }
def q24r10 : ARegion := { ops := [(.move (.var 0), none), (.call 44 [(.loc 0)], none), (.build [(.int .i64 0), (.str []), .nilSl, .nilSl] [(0, 1, (.cst (.int .i64 4))), (1, 1, (.loc 0))], none), (.store 4 (.var 2) (.loc 0), none)], exp := [(0, (.cst .u))] }
def q24r11 : ARegion := { ops := [(.move (.var 3), none), (.bin .eql (.loc 0) (.cst (.int .u8 45)), none), (.move (.loc 0), none), (.move (.var 3), some ((.loc 0), false)), (.call 45 [(.loc 0)], some ((.loc 1), false)), (.pick (.loc 2) (.cst (.bool true)) (.loc 0), none), (.move (.loc 0), none)], exp := [(10, (.loc 0))] }
def q24r12 : ARegion := { ops := [(.move (.var 0), none), (.call 46 [(.loc 0), (.cst (.bool true))], none), (.move (.loc 0), none)], exp := [(5, (.loc 0))] }
def q24r13 : ARegion := { ops := [(.move (.var 5), none), (.call 47 [(.loc 0)], none), (.not (.loc 0), none)], exp := [(11, (.loc 0))] }
def q24r14 : ARegion := { ops := [(.move (.var 0), none), (.move (.var 4), none), (.call 25 [(.loc 1), (.cst (.int .i64 3)), (.loc 0)], none)], exp := [(0, (.cst .u)), (4, (.cst .u))] }
def q24r15 : ARegion := { ops := [(.move (.var 5), none), (.build [(.int .i64 0), (.str []), .nilSl, .nilSl] [(0, 1, (.cst (.int .i64 3))), (1, 1, (.loc 0))], none), (.store 4 (.var 2) (.loc 0), none)], exp := [(5, (.cst .u))] }
def q24r16 : ARegion := { ops := [(.move (.var 3), none), (.call 48 [(.loc 0)], none), (.move (.loc 0), none)], exp := [(12, (.loc 0))] }
def q24r17 : ARegion := { ops := [(.move (.var 0), none), (.call 46 [(.loc 0), (.cst (.bool false))], none), (.move (.loc 0), none)], exp := [(6, (.loc 0))] }
def q24r18 : ARegion := { ops := [(.move (.var 6), none)], exp := [(13, (.loc 0))] }
def q24r19 : ARegion := { ops := [(.bin .eql (.var 13) (.cst (.str [110, 117, 108, 108])), none), (.move (.loc 0), none)], exp := [(14, (.loc 0))] }
def q24r20 : ARegion := { ops := [(.build [(.int .i64 0), (.str []), .nilSl, .nilSl] [(0, 1, (.cst (.int .i64 1)))], none), (.store 4 (.var 2) (.loc 0), none)], exp := [] }
def q24r21 : ARegion := { ops := [(.bin .eql (.var 13) (.cst (.str [116, 114, 117, 101])), none), (.move (.loc 0), none)], exp := [(15, (.loc 0))] }
def q24r22 : ARegion := { ops := [(.bin .eql (.var 13) (.cst (.str [102, 97, 108, 115, 101])), none), (.move (.loc 0), none)], exp := [(13, (.cst .u)), (15, (.loc 0))] }
def q24r23 : ARegion := { ops := [(.move (.var 6), none), (.build [(.int .i64 0), (.str []), .nilSl, .nilSl] [(0, 1, (.cst (.int .i64 2))), (1, 1, (.loc 0))], none), (.store 4 (.var 2) (.loc 0), none)], exp := [(6, (.cst .u))] }
def q24r24 : ARegion := { ops := [(.move (.var 0), none), (.move (.var 4), none), (.call 25 [(.loc 1), (.cst (.int .i64 3)), (.loc 0)], none)], exp := [(0, (.cst .u)), (4, (.cst .u))] }
def q24r25 : ARegion := { ops := [(.build [(.int .i64 0), (.str []), .nilSl, .nilSl] [], none), (.store 4 (.var 2) (.loc 0), none)], exp := [] }
def q24r26 : ARegion := { ops := [(.move (.var 3), none), (.bin .neq (.loc 0) (.cst (.int .u8 91)), none), (.move (.loc 0), none), (.move (.var 3), some ((.loc 0), true)), (.bin .neq (.loc 0) (.cst (.int .u8 123)), some ((.loc 1), true)), (.pick (.loc 2) (.loc 0) (.cst (.bool false)), none), (.move (.loc 0), none)], exp := [(16, (.loc 0))] }
def q24r27 : ARegion := { ops := [(.move (.var 0), none), (.move (.var 4), none), (.call 25 [(.loc 1), (.cst (.int .i64 3)), (.loc 0)], none)], exp := [(0, (.cst .u)), (4, (.cst .u))] }
def q24r28 : ARegion := { ops := [(.build [(.int .i64 0), (.str []), .nilSl, .nilSl] [], none), (.store 4 (.var 2) (.loc 0), none)], exp := [] }
def q24r29 : ARegion := { ops := [(.move (.var 1), none), (.bin .geq (.loc 0) (.cst (.int .i64 64)), none), (.move (.loc 0), none)], exp := [(17, (.loc 0))] }
def q24r30 : ARegion := { ops := [(.move (.var 0), none), (.move (.var 4), none), (.call 25 [(.loc 1), (.cst (.int .i64 8)), (.loc 0)], none)], exp := [(0, (.cst .u)), (4, (.cst .u))] }
def q24r31 : ARegion := { ops := [(.build [(.int .i64 0), (.str []), .nilSl, .nilSl] [], none), (.store 4 (.var 2) (.loc 0), none)], exp := [] }
def q24r32 : ARegion := { ops := [(.move (.var 0), none), (.nilck (.loc 0), none), (.fieldAddr 1 (.loc 0), none), (.load false 1 (.loc 0), none), (.bin .add (.loc 0) (.cst (.int .i64 1)), none), (.nilck (.loc 4), none), (.fieldAddr 1 (.loc 0), none), (.store 1 (.loc 0) (.loc 2), none)], exp := [] }
def q24r33 : ARegion := { ops := [(.move (.var 3), none), (.bin .eql (.loc 0) (.cst (.int .u8 91)), none)], exp := [(3, (.cst .u)), (18, (.loc 0))] }
def q24r34 : ARegion := { ops := [(.move (.var 0), none), (.move (.var 1), none), (.call 49 [(.loc 1), (.loc 0)], none), (.store 4 (.var 2) (.loc 0), none)], exp := [(0, (.cst .u)), (1, (.cst .u))] }
def q24r35 : ARegion := { ops := [(.move (.var 0), none), (.move (.var 1), none), (.call 50 [(.loc 1), (.loc 0)], none), (.store 4 (.var 2) (.loc 0), none)], exp := [(0, (.cst .u)), (1, (.cst .u))] }
def q24 : AFn := { nparams := 2, nslots := 19, slots := [0, 1, 4, 5, 6, 7, 8, 20, 33, 38, 44, 55, 61, 66, 67, 70, 79, 90, 105], results := [.cell 2 true 4], body := (.seq (.region q24r0) (.seq (.region q24r1) (.seq (.region q24r2) (.seq (.seq (.region q24r3) (.cond (.var 7) (.seq (.region q24r4) .ret) .skip)) (.seq (.region q24r5) (.seq (.seq (.region q24r6) (.cond (.var 8) (.seq (.region q24r7) (.seq (.region q24r8) .ret)) .skip)) (.seq (.block 0 (.seq (.region q24r9) (.cond (.var 9) (.seq (.region q24r10) .ret) (.seq (.region q24r11) (.cond (.var 10) (.seq (.region q24r12) (.seq (.seq (.region q24r13) (.cond (.var 11) (.region q24r14) .skip)) (.seq (.region q24r15) .ret))) (.seq (.region q24r16) (.cond (.var 12) (.seq (.region q24r17) (.seq (.seq (.region q24r18) (.block 1 (.seq (.region q24r19) (.cond (.var 14) (.seq (.region q24r20) .ret) (.seq (.seq (.region q24r21) (.cond (.var 15) .skip (.region q24r22))) (.cond (.var 15) (.seq (.region q24r23) .ret) .skip)))))) (.seq (.region q24r24) (.seq (.region q24r25) .ret)))) (.seq (.region q24r26) (.cond (.var 16) (.seq (.region q24r27) (.seq (.region q24r28) .ret)) (.seq (.region q24r29) (.cond (.var 17) (.seq (.region q24r30) (.seq (.region q24r31) .ret)) .skip))))))))))) (.seq (.region q24r32) (.seq (.seq (.region q24r33) (.cond (.var 18) (.seq (.region q24r34) .ret) .skip)) (.seq (.region q24r35) .ret)))))))))) }
theorem q24ok : fnOk Tryd.prog xfT gT Tryd.f24 q24 = true := by kernel_rfl
theorem q24at : Tryd.prog.funcs[24]? = some Tryd.f24 := by kernel_rfl
/-- (*cringle/cringleref07.parser).fail -/
def q25r0 : ARegion := { ops := [(.move (.var 0), none), (.nilck (.loc 0), none), (.fieldAddr 3 (.loc 0), none), (.fieldAddr 0 (.loc 0), none), (.load false 1 (.loc 0), none), (.bin .eql (.loc 0) (.cst (.int .i64 0)), none)], exp := [(3, (.loc 0))] }
def q25r1 : ARegion := { ops := [(.move (.var 0), none), (.move (.var 1), none), (.move (.var 2), none), (.build [(.int .i64 0), (.int .i64 0)] [(0, 1, (.loc 1)), (1, 1, (.loc 0))], none), (.nilck (.loc 3), none), (.fieldAddr 3 (.loc 0), none), (.store 2 (.loc 0) (.loc 2), none)], exp := [(0, (.cst .u)), (1, (.cst .u)), (2, (.cst .u))] }
def q25 : AFn := { nparams := 3, nslots := 4, slots := [0, 1, 2, 11], results := [], body := (.seq (.region q25r0) (.cond (.var 3) (.region q25r1) .skip)) }
theorem q25ok : fnOk Tryd.prog xfT gT Tryd.f25 q25 = true := by kernel_rfl
theorem q25at : Tryd.prog.funcs[25]? = some Tryd.f25 := by kernel_rfl
/-- cringle/cringleref01.Texts -/
def q26r0 : ARegion := { ops := [(.move (.cst (.bool false)), none)], exp := [(2, (.cst .u))] }
def q26r1 : ARegion := { ops := [(.move (.var 0), none), (.len .sli (.loc 0), none), (.move (.var 1), none), (.len .sli (.loc 0), none), (.bin .neq (.loc 2) (.loc 0), none)], exp := [(4, (.loc 0))] }
def q26r2 : ARegion := { ops := [(.move (.cst (.bool false)), none)], exp := [(2, (.loc 0))] }
def q26r3 : ARegion := { ops := [(.move (.cst (.int .i64 0)), none)], exp := [(3, (.loc 0))] }
def q26r4 : ARegion := { ops := [(.move (.var 3), none), (.move (.var 0), none), (.len .sli (.loc 0), none), (.bin .lss (.loc 2) (.loc 0), none)], exp := [(5, (.loc 0))] }
def q26r5 : ARegion := { ops := [(.move (.var 0), none), (.move (.var 3), none), (.idxAddr 1 (.loc 1) (.loc 0), none), (.load false 1 (.loc 0), none), (.move (.var 1), none), (.move (.var 3), none), (.idxAddr 1 (.loc 1) (.loc 0), none), (.load false 1 (.loc 0), none), (.bin .neq (.loc 4) (.loc 0), none)], exp := [(6, (.loc 0))], draws := true, pairs := [], okPan := [], preds := [[], [], [1, 0], [0, 1, 2], [], [], [5, 4], [4, 5, 6], [6, 5, 4, 7, 2, 1, 0, 3]] }
def q26r6 : ARegion := { ops := [(.move (.cst (.bool false)), none)], exp := [(2, (.loc 0))] }
def q26r7 : ARegion := { ops := [(.move (.var 3), none), (.bin .add (.loc 0) (.cst (.int .i64 1)), none), (.move (.loc 0), none)], exp := [(3, (.loc 0))] }
def q26l8 : ACode := (.seq (.seq (.region q26r4) (.cond (.var 5) .skip (.exit 0))) (.seq (.block 1 (.seq (.region q26r5) (.cond (.var 6) (.seq (.region q26r6) .ret) .skip))) (.region q26r7)))
def q26r9 : ARegion := { ops := [(.move (.cst (.bool true)), none)], exp := [(2, (.loc 0))] }
def q26 : AFn := { nparams := 2, nslots := 7, slots := [0, 1, 4, 5, 10, 14, 25], results := [.var 2], body := (.seq (.region q26r0) (.seq (.seq (.region q26r1) (.cond (.var 4) (.seq (.region q26r2) .ret) .skip)) (.seq (.seq (.region q26r3) (.block 0 (.loop [2, 4, 5, 6] q26l8))) (.seq (.region q26r9) .ret)))) }
theorem q26ok : fnOk Tryd.prog xfT gT Tryd.f26 q26 = true := by kernel_rfl
theorem q26at : Tryd.prog.funcs[26]? = some Tryd.f26 := by kernel_rfl
/-- cringle/cringlelaw07.size -/
def q27r0 : ARegion := { ops := [(.box 26 (.var 0), none), (.move (.cst (.int .i64 0)), none)], exp := [(0, (.cst .u)), (3, (.loc 1)), (4, (.cst .u))] }
def q27r1 : ARegion := { ops := [(.fieldAddr 1 (.var 3), none), (.load false 1 (.loc 0), none), (.len .str (.loc 0), none), (.bin .add (.cst (.int .i64 1)) (.loc 0), none), (.fieldAddr 3 (.var 3), none), (.load false 1 (.loc 0), none), (.len .sli (.loc 0), none), (.bin .add (.loc 3) (.loc 0), none), (.fieldAddr 2 (.var 3), none), (.load false 1 (.loc 0), none), (.len .sli (.loc 0), none), (.bin .add (.loc 3) (.loc 0), none), (.move (.loc 0), none)], exp := [(5, (.loc 0))] }
def q27r2 : ARegion := { ops := [(.move (.var 1), none), (.bin .gtr (.loc 0) (.cst (.int .i64 80)), none), (.move (.loc 0), none), (.fieldAddr 3 (.var 3), some ((.loc 0), false)), (.load false 1 (.loc 0), some ((.loc 1), false)), (.len .sli (.loc 0), some ((.loc 2), false)), (.bin .gtr (.loc 0) (.cst (.int .i64 4000)), some ((.loc 3), false)), (.pick (.loc 4) (.cst (.bool true)) (.loc 0), none), (.move (.loc 0), none), (.fieldAddr 2 (.var 3), some ((.loc 0), false)), (.load false 1 (.loc 0), some ((.loc 1), false)), (.len .sli (.loc 0), some ((.loc 2), false)), (.bin .gtr (.loc 0) (.cst (.int .i64 4000)), some ((.loc 3), false)), (.pick (.loc 4) (.cst (.bool true)) (.loc 0), none)], exp := [(8, (.loc 0))] }
def q27r3 : ARegion := { ops := [(.move (.var 2), none), (.bin .add (.loc 0) (.cst (.int .i64 1)), none), (.move (.loc 0), none)], exp := [(2, (.cst .u)), (4, (.loc 0))] }
def q27r4 : ARegion := { ops := [(.move (.cst (.int .i64 0)), none)], exp := [(6, (.loc 0))] }
def q27r5 : ARegion := { ops := [(.move (.var 6), none), (.fieldAddr 2 (.var 3), none), (.load false 1 (.loc 0), none), (.len .sli (.loc 0), none), (.bin .lss (.loc 3) (.loc 0), none), (.move (.loc 0), none), (.move (.var 5), some ((.loc 0), true)), (.move (.var 2), some ((.loc 1), true)), (.bin .leq (.loc 1) (.loc 0), some ((.loc 2), true)), (.pick (.loc 3) (.loc 0) (.cst (.bool false)), none)], exp := [(9, (.loc 0))] }
def q27r6 : ARegion := { ops := [(.move (.var 5), none), (.fieldAddr 2 (.var 3), none), (.load false 1 (.loc 0), none), (.move (.var 6), none), (.idxAddr 1 (.loc 1) (.loc 0), none), (.load false 1 (.loc 0), none), (.len .str (.loc 0), none), (.bin .add (.loc 6) (.loc 0), none), (.move (.loc 0), none)], exp := [(5, (.loc 0))] }
def q27r7 : ARegion := { ops := [(.move (.var 6), none), (.bin .add (.loc 0) (.cst (.int .i64 1)), none), (.move (.loc 0), none)], exp := [(6, (.loc 0))] }
def q27l8 : ACode := (.seq (.seq (.region q27r5) (.cond (.var 9) .skip (.exit 0))) (.seq (.block 1 (.region q27r6)) (.region q27r7)))
def q27r9 : ARegion := { ops := [(.move (.cst (.int .i64 0)), none)], exp := [(7, (.loc 0))] }
def q27r10 : ARegion := { ops := [(.move (.var 7), none), (.fieldAddr 3 (.var 3), none), (.load false 1 (.loc 0), none), (.len .sli (.loc 0), none), (.bin .lss (.loc 3) (.loc 0), none), (.move (.loc 0), none), (.move (.var 5), some ((.loc 0), true)), (.move (.var 2), some ((.loc 1), true)), (.bin .leq (.loc 1) (.loc 0), some ((.loc 2), true)), (.pick (.loc 3) (.loc 0) (.cst (.bool false)), none)], exp := [(10, (.loc 0))] }
def q27r11 : ARegion := { ops := [(.move (.var 5), none), (.fieldAddr 3 (.var 3), none), (.load false 1 (.loc 0), none), (.move (.var 7), none), (.idxAddr 4 (.loc 1) (.loc 0), none), (.load true 4 (.loc 0), none), (.move (.var 1), none), (.bin .add (.loc 0) (.cst (.int .i64 1)), none), (.move (.var 2), none), (.move (.var 5), none), (.bin .sub (.loc 1) (.loc 0), none), (.call 27 [(.loc 5), (.loc 3), (.loc 0)], none), (.bin .add (.loc 11) (.loc 0), none), (.move (.loc 0), none)], exp := [(5, (.loc 0))] }
def q27r12 : ARegion := { ops := [(.move (.var 7), none), (.bin .add (.loc 0) (.cst (.int .i64 1)), none), (.move (.loc 0), none)], exp := [(7, (.loc 0))] }
def q27l13 : ACode := (.seq (.seq (.region q27r10) (.cond (.var 10) .skip (.exit 2))) (.seq (.block 3 (.region q27r11)) (.region q27r12)))
def q27r14 : ARegion := { ops := [(.move (.var 5), none), (.move (.loc 0), none)], exp := [(4, (.loc 0)), (5, (.cst .u))] }
def q27 : AFn := { nparams := 3, nslots := 11, slots := [0, 1, 2, 3, 6, 7, 8, 9, 35, 47, 67], results := [.var 4], body := (.seq (.region q27r0) (.seq (.region q27r1) (.seq (.seq (.region q27r2) (.cond (.var 8) (.seq (.region q27r3) .ret) .skip)) (.seq (.seq (.region q27r4) (.block 0 (.loop [0, 4, 7, 8, 9, 10] q27l8))) (.seq (.seq (.region q27r9) (.block 2 (.loop [0, 4, 6, 8, 9, 10] q27l13))) (.seq (.region q27r14) .ret)))))) }
theorem q27ok : fnOk Tryd.prog xfT gT Tryd.f27 q27 = true := by kernel_rfl
theorem q27at : Tryd.prog.funcs[27]? = some Tryd.f27 := by kernel_rfl
/-- slices.Index[[]string,string] -/
def q28r0 : ARegion := { ops := [(.move (.cst (.int .i64 0)), none)], exp := [(2, (.cst .u))] }
def q28r1 : ARegion := { ops := [(.move (.var 0), none), (.len .sli (.loc 0), none), (.move (.cst (.int .i64 0)), none)], exp := [(4, (.loc 1)), (5, (.loc 0))] }
def q28r2 : ARegion := { ops := [(.bin .lss (.var 5) (.var 4), none)], exp := [(6, (.loc 0))] }
def q28r3 : ARegion := { ops := [(.move (.var 5), none), (.move (.loc 0), none)], exp := [(3, (.loc 0))] }
def q28r4 : ARegion := { ops := [(.move (.var 1), none), (.move (.var 0), none), (.move (.var 3), none), (.idxAddr 1 (.loc 1) (.loc 0), none), (.load false 1 (.loc 0), none), (.bin .eql (.loc 4) (.loc 0), none)], exp := [(7, (.loc 0))] }
def q28r5 : ARegion := { ops := [(.move (.var 3), none), (.move (.loc 0), none)], exp := [(2, (.loc 0)), (3, (.cst .u))] }
def q28r6 : ARegion := { ops := [(.bin .add (.var 5) (.cst (.int .i64 1)), none), (.move (.loc 0), none)], exp := [(5, (.loc 0))] }
def q28l7 : ACode := (.seq (.region q28r2) (.seq (.cond (.var 6) .skip (.exit 0)) (.seq (.block 1 (.seq (.region q28r3) (.seq (.region q28r4) (.cond (.var 7) (.seq (.region q28r5) .ret) .skip)))) (.region q28r6))))
def q28r8 : ARegion := { ops := [(.move (.cst (.int .i64 (-1))), none)], exp := [(2, (.loc 0))] }
def q28 : AFn := { nparams := 2, nslots := 8, slots := [0, 1, 4, 5, 7, 8, 9, 16], results := [.var 2], body := (.seq (.region q28r0) (.seq (.seq (.region q28r1) (.block 0 (.loop [2, 3, 6, 7] q28l7))) (.seq (.region q28r8) .ret))) }
theorem q28ok : fnOk Tryd.prog xfT gT Tryd.f28 q28 = true := by kernel_rfl
theorem q28at : Tryd.prog.funcs[28]? = some Tryd.f28 := by kernel_rfl
/-- cringle/json.write -/
def q29r0 : ARegion := { ops := [(.box 26 (.var 1), none)], exp := [(1, (.cst .u)), (2, (.loc 0))] }
def q29r1 : ARegion := { ops := [(.move (.cst (.str [91, 93])), none)], exp := [(3, (.loc 0))] }
def q29r2 : ARegion := { ops := [(.fieldAddr 0 (.var 2), none), (.load false 1 (.loc 0), none)], exp := [(6, (.loc 0))] }
def q29r3 : ARegion := { ops := [(.bin .eql (.var 6) (.cst (.int .i64 1)), none), (.move (.loc 0), none)], exp := [(7, (.loc 0))] }
def q29r4 : ARegion := { ops := [(.move (.var 0), none), (.call 51 [(.loc 0), (.cst (.str [110, 117, 108, 108]))], none)], exp := [(0, (.cst .u))] }
def q29r5 : ARegion := { ops := [(.bin .eql (.var 6) (.cst (.int .i64 2)), none), (.move (.loc 0), none)], exp := [(8, (.loc 0))] }
def q29r6 : ARegion := { ops := [(.bin .eql (.var 6) (.cst (.int .i64 3)), none), (.move (.loc 0), none)], exp := [(8, (.loc 0))] }
def q29r7 : ARegion := { ops := [(.move (.var 0), none), (.fieldAddr 1 (.var 2), none), (.load false 1 (.loc 0), none), (.call 51 [(.loc 2), (.loc 0)], none)], exp := [(0, (.cst .u)), (2, (.cst .u))] }
def q29r8 : ARegion := { ops := [(.bin .eql (.var 6) (.cst (.int .i64 4)), none), (.move (.loc 0), none)], exp := [(9, (.loc 0))] }
def q29r9 : ARegion := { ops := [(.move (.var 0), none), (.fieldAddr 1 (.var 2), none), (.load false 1 (.loc 0), none), (.call 52 [(.loc 0)], none), (.call 51 [(.loc 3), (.loc 0)], none)], exp := [(0, (.cst .u)), (2, (.cst .u))] }
def q29r10 : ARegion := { ops := [(.bin .eql (.var 6) (.cst (.int .i64 6)), none), (.move (.loc 0), none)], exp := [(6, (.cst .u)), (10, (.loc 0))] }
def q29r11 : ARegion := { ops := [(.move (.cst (.str [123, 125])), none)], exp := [(3, (.loc 0))] }
def q29r12 : ARegion := { ops := [(.move (.var 0), none), (.move (.var 3), none), (.idxS (.loc 0) (.cst (.int .i64 0)), none), (.call 53 [(.loc 2), (.loc 0)], none)], exp := [] }
def q29r13 : ARegion := { ops := [(.fieldAddr 3 (.var 2), none), (.load false 1 (.loc 0), none), (.len .sli (.loc 0), none), (.move (.cst (.int .i64 0)), none)], exp := [(11, (.loc 2)), (12, (.loc 1)), (13, (.loc 0))] }
def q29r14 : ARegion := { ops := [(.bin .lss (.var 13) (.var 12), none)], exp := [(14, (.loc 0))] }
def q29r15 : ARegion := { ops := [(.move (.var 13), none), (.idxAddr 4 (.var 11) (.var 13), none), (.load true 4 (.loc 0), none), (.alloc 26 [(.int .i64 0), (.str []), .nilSl, .nilSl], none), (.move (.loc 3), none), (.store 4 (.loc 1) (.loc 2), none)], exp := [(4, (.loc 1)), (5, (.loc 2))] }
def q29r16 : ARegion := { ops := [(.move (.var 4), none), (.bin .gtr (.loc 0) (.cst (.int .i64 0)), none)], exp := [(15, (.loc 0))] }
def q29r17 : ARegion := { ops := [(.move (.var 0), none), (.call 53 [(.loc 0), (.cst (.int .u8 44))], none)], exp := [] }
def q29r18 : ARegion := { ops := [(.fieldAddr 0 (.var 2), none), (.load false 1 (.loc 0), none), (.bin .eql (.loc 0) (.cst (.int .i64 6)), none)], exp := [(16, (.loc 0))] }
def q29r19 : ARegion := { ops := [(.move (.var 0), none), (.fieldAddr 2 (.var 2), none), (.load false 1 (.loc 0), none), (.move (.var 4), none), (.idxAddr 1 (.loc 1) (.loc 0), none), (.load false 1 (.loc 0), none), (.call 52 [(.loc 0)], none), (.call 51 [(.loc 6), (.loc 0)], none)], exp := [(4, (.cst .u))] }
def q29r20 : ARegion := { ops := [(.move (.var 0), none), (.call 53 [(.loc 0), (.cst (.int .u8 58))], none)], exp := [] }
def q29r21 : ARegion := { ops := [(.move (.var 0), none), (.load true 4 (.var 5), none), (.call 29 [(.loc 1), (.loc 0)], none)], exp := [(5, (.cst .u))] }
def q29r22 : ARegion := { ops := [(.bin .add (.var 13) (.cst (.int .i64 1)), none), (.move (.loc 0), none)], exp := [(13, (.loc 0))] }
def q29l23 : ACode := (.seq (.region q29r14) (.seq (.cond (.var 14) .skip (.exit 1)) (.seq (.block 2 (.seq (.region q29r15) (.seq (.seq (.region q29r16) (.cond (.var 15) (.region q29r17) .skip)) (.seq (.seq (.region q29r18) (.cond (.var 16) (.seq (.region q29r19) (.region q29r20)) .skip)) (.region q29r21))))) (.region q29r22))))
def q29r24 : ARegion := { ops := [(.move (.var 0), none), (.move (.var 3), none), (.idxS (.loc 0) (.cst (.int .i64 1)), none), (.call 53 [(.loc 2), (.loc 0)], none)], exp := [(0, (.cst .u)), (3, (.cst .u))] }
def q29 : AFn := { nparams := 2, nslots := 17, slots := [0, 1, 3, 4, 5, 6, 8, 9, 13, 20, 27, 34, 35, 36, 37, 42, 47], results := [], body := (.seq (.region q29r0) (.seq (.region q29r1) (.seq (.seq (.region q29r2) (.block 0 (.seq (.region q29r3) (.cond (.var 7) (.seq (.region q29r4) .ret) (.seq (.seq (.region q29r5) (.cond (.var 8) .skip (.region q29r6))) (.cond (.var 8) (.seq (.region q29r7) .ret) (.seq (.region q29r8) (.cond (.var 9) (.seq (.region q29r9) .ret) (.seq (.region q29r10) (.cond (.var 10) (.region q29r11) .skip)))))))))) (.seq (.region q29r12) (.seq (.seq (.region q29r13) (.block 1 (.loop [1, 4, 5, 6, 7, 8, 9, 10, 14, 15, 16] q29l23))) (.region q29r24)))))) }
theorem q29ok : fnOk Tryd.prog xfT gT Tryd.f29 q29 = true := by kernel_rfl
theorem q29at : Tryd.prog.funcs[29]? = some Tryd.f29 := by kernel_rfl
/-- (*strings.Builder).Len -/
def q30r0 : ARegion := { ops := [(.move (.cst (.int .i64 0)), none)], exp := [(1, (.cst .u))] }
def q30r1 : ARegion := { ops := [(.move (.var 0), none), (.nilck (.loc 0), none), (.fieldAddr 1 (.loc 0), none), (.load false 1 (.loc 0), none), (.len .sli (.loc 0), none), (.move (.loc 0), none)], exp := [(0, (.cst .u)), (1, (.loc 0))] }
def q30 : AFn := { nparams := 1, nslots := 2, slots := [0, 2], results := [.var 1], body := (.seq (.region q30r0) (.seq (.region q30r1) .ret)) }
theorem q30ok : fnOk Tryd.prog xfT gT Tryd.f30 q30 = true := by kernel_rfl
theorem q30at : Tryd.prog.funcs[30]? = some Tryd.f30 := by kernel_rfl
/-- (*strings.Builder).String -/
def q31r0 : ARegion := { ops := [(.move (.cst (.str [])), none)], exp := [(1, (.cst .u))] }
def q31r1 : ARegion := { ops := [(.move (.var 0), none), (.nilck (.loc 0), none), (.fieldAddr 1 (.loc 0), none), (.load false 1 (.loc 0), none), (.sliceData (.loc 0), none), (.move (.var 0), none), (.nilck (.loc 0), none), (.fieldAddr 1 (.loc 0), none), (.load false 1 (.loc 0), none), (.len .sli (.loc 0), none), (.unsafeStr 5 (.loc 5) (.loc 0), none), (.move (.loc 0), none)], exp := [(0, (.cst .u)), (1, (.loc 0))], draws := true, pairs := [(8, 4)], okPan := [], preds := [[], [0], [0, 1], [1, 0, 2], [2, 0, 1, 3], [], [5], [5, 6], [6, 5, 7], [7, 5, 6, 8], [8, 6, 5, 7, 9, 3, 1, 0, 2, 4], [4, 2, 0, 1, 3, 9, 7, 5, 6, 8, 10]] }
def q31 : AFn := { nparams := 1, nslots := 2, slots := [0, 2], results := [.var 1], body := (.seq (.region q31r0) (.seq (.region q31r1) .ret)) }
theorem q31ok : fnOk Tryd.prog xfT gT Tryd.f31 q31 = true := by kernel_rfl
theorem q31at : Tryd.prog.funcs[31]? = some Tryd.f31 := by kernel_rfl
/-- cringle/cringleref07.text -/
def q32r0 : ARegion := { ops := [(.box 26 (.var 0), none), (.move (.cst (.str [])), none)], exp := [(0, (.cst .u)), (1, (.loc 1)), (2, (.cst .u))] }
def q32r1 : ARegion := { ops := [(.fieldAddr 0 (.var 1), none), (.load false 1 (.loc 0), none)], exp := [(5, (.loc 0))] }
def q32r2 : ARegion := { ops := [(.bin .eql (.var 5) (.cst (.int .i64 1)), none), (.move (.loc 0), none)], exp := [(6, (.loc 0))] }
def q32r3 : ARegion := { ops := [(.move (.cst (.str [110, 117, 108, 108])), none)], exp := [(2, (.loc 0))] }
def q32r4 : ARegion := { ops := [(.bin .eql (.var 5) (.cst (.int .i64 4)), none), (.move (.loc 0), none)], exp := [(7, (.loc 0))] }
def q32r5 : ARegion := { ops := [(.fieldAddr 1 (.var 1), none), (.load false 1 (.loc 0), none), (.call 54 [(.loc 0)], none), (.move (.loc 0), none)], exp := [(1, (.cst .u)), (2, (.loc 0))] }
def q32r6 : ARegion := { ops := [(.bin .eql (.var 5) (.cst (.int .i64 5)), none), (.move (.loc 0), none)], exp := [(8, (.loc 0))] }
def q32r7 : ARegion := { ops := [(.bin .eql (.var 5) (.cst (.int .i64 6)), none), (.move (.loc 0), none)], exp := [(5, (.cst .u)), (8, (.loc 0))] }
def q32r8 : ARegion := { ops := [(.move (.cst (.str [])), none)], exp := [(3, (.loc 0))] }
def q32r9 : ARegion := { ops := [(.move (.cst (.int .i64 0)), none)], exp := [(4, (.loc 0))] }
def q32r10 : ARegion := { ops := [(.move (.var 4), none), (.fieldAddr 3 (.var 1), none), (.load false 1 (.loc 0), none), (.len .sli (.loc 0), none), (.bin .lss (.loc 3) (.loc 0), none)], exp := [(9, (.loc 0))] }
def q32r11 : ARegion := { ops := [(.move (.var 4), none), (.bin .gtr (.loc 0) (.cst (.int .i64 0)), none)], exp := [(10, (.loc 0))] }
def q32r12 : ARegion := { ops := [(.move (.var 3), none), (.bin .add (.loc 0) (.cst (.str [44])), none), (.move (.loc 0), none)], exp := [(3, (.loc 0))] }
def q32r13 : ARegion := { ops := [(.fieldAddr 0 (.var 1), none), (.load false 1 (.loc 0), none), (.bin .eql (.loc 0) (.cst (.int .i64 6)), none), (.move (.loc 0), none), (.move (.var 4), some ((.loc 0), true)), (.fieldAddr 2 (.var 1), some ((.loc 1), true)), (.load false 1 (.loc 0), some ((.loc 2), true)), (.len .sli (.loc 0), some ((.loc 3), true)), (.bin .lss (.loc 3) (.loc 0), some ((.loc 4), true)), (.pick (.loc 5) (.loc 0) (.cst (.bool false)), none)], exp := [(11, (.loc 0))] }
def q32r14 : ARegion := { ops := [(.move (.var 3), none), (.fieldAddr 2 (.var 1), none), (.load false 1 (.loc 0), none), (.move (.var 4), none), (.idxAddr 1 (.loc 1) (.loc 0), none), (.load false 1 (.loc 0), none), (.call 54 [(.loc 0)], none), (.bin .add (.loc 0) (.cst (.str [58])), none), (.bin .add (.loc 7) (.loc 0), none), (.move (.loc 0), none)], exp := [(3, (.loc 0))] }
def q32r15 : ARegion := { ops := [(.move (.var 3), none), (.fieldAddr 3 (.var 1), none), (.load false 1 (.loc 0), none), (.move (.var 4), none), (.idxAddr 4 (.loc 1) (.loc 0), none), (.load true 4 (.loc 0), none), (.call 32 [(.loc 0)], none), (.bin .add (.loc 6) (.loc 0), none), (.move (.loc 0), none)], exp := [(3, (.loc 0))] }
def q32r16 : ARegion := { ops := [(.move (.var 4), none), (.bin .add (.loc 0) (.cst (.int .i64 1)), none), (.move (.loc 0), none)], exp := [(4, (.loc 0))] }
def q32l17 : ACode := (.seq (.seq (.region q32r10) (.cond (.var 9) .skip (.exit 1))) (.seq (.block 2 (.seq (.seq (.region q32r11) (.cond (.var 10) (.region q32r12) .skip)) (.seq (.seq (.region q32r13) (.cond (.var 11) (.region q32r14) .skip)) (.region q32r15)))) (.region q32r16)))
def q32r18 : ARegion := { ops := [(.fieldAddr 0 (.var 1), none), (.load false 1 (.loc 0), none), (.bin .eql (.loc 0) (.cst (.int .i64 5)), none)], exp := [(1, (.cst .u)), (12, (.loc 0))] }
def q32r19 : ARegion := { ops := [(.move (.var 3), none), (.bin .add (.cst (.str [91])) (.loc 0), none), (.bin .add (.loc 0) (.cst (.str [93])), none), (.move (.loc 0), none)], exp := [(2, (.loc 0)), (3, (.cst .u))] }
def q32r20 : ARegion := { ops := [(.move (.var 3), none), (.bin .add (.cst (.str [123])) (.loc 0), none), (.bin .add (.loc 0) (.cst (.str [125])), none), (.move (.loc 0), none)], exp := [(2, (.loc 0)), (3, (.cst .u))] }
def q32r21 : ARegion := { ops := [(.fieldAddr 1 (.var 1), none), (.load false 1 (.loc 0), none), (.move (.loc 0), none)], exp := [(1, (.cst .u)), (2, (.loc 0))] }
def q32 : AFn := { nparams := 1, nslots := 13, slots := [0, 1, 2, 3, 4, 6, 7, 9, 14, 21, 25, 37, 57], results := [.var 2], body := (.seq (.region q32r0) (.seq (.seq (.region q32r1) (.block 0 (.seq (.region q32r2) (.cond (.var 6) (.seq (.region q32r3) .ret) (.seq (.region q32r4) (.cond (.var 7) (.seq (.region q32r5) .ret) (.seq (.seq (.region q32r6) (.cond (.var 8) .skip (.region q32r7))) (.cond (.var 8) (.seq (.region q32r8) (.seq (.seq (.region q32r9) (.block 1 (.loop [0, 2, 5, 6, 7, 8, 9, 10, 11, 12] q32l17))) (.seq (.seq (.region q32r18) (.cond (.var 12) (.seq (.region q32r19) .ret) .skip)) (.seq (.region q32r20) .ret)))) .skip)))))))) (.seq (.region q32r21) .ret))) }
theorem q32ok : fnOk Tryd.prog xfT gT Tryd.f32 q32 = true := by kernel_rfl
theorem q32at : Tryd.prog.funcs[32]? = some Tryd.f32 := by kernel_rfl
/-- (*cringle/json.counter).count -/
def q33r0 : ARegion := { ops := [(.box 26 (.var 1), none)], exp := [(1, (.cst .u)), (3, (.loc 0))] }
def q33r1 : ARegion := { ops := [(.move (.var 0), none), (.nilck (.loc 0), none), (.fieldAddr 0 (.loc 0), none), (.load false 1 (.loc 0), none), (.bin .sub (.loc 0) (.cst (.int .i64 1)), none), (.nilck (.loc 4), none), (.fieldAddr 0 (.loc 0), none), (.store 1 (.loc 0) (.loc 2), none)], exp := [] }
def q33r2 : ARegion := { ops := [(.move (.var 0), none), (.nilck (.loc 0), none), (.fieldAddr 0 (.loc 0), none), (.load false 1 (.loc 0), none), (.bin .lss (.loc 0) (.cst (.int .i64 0)), none), (.move (.loc 0), none), (.load true 4 (.var 3), some ((.loc 0), false)), (.call 55 [(.loc 0)], some ((.loc 1), false)), (.not (.loc 0), some ((.loc 2), false)), (.pick (.loc 3) (.cst (.bool true)) (.loc 0), none), (.move (.loc 0), none), (.fieldAddr 0 (.var 3), some ((.loc 0), false)), (.load false 1 (.loc 0), some ((.loc 1), false)), (.bin .geq (.loc 0) (.cst (.int .i64 5)), some ((.loc 2), false)), (.move (.loc 0), some ((.loc 3), false)), (.move (.var 2), some ((.loc 0), true)), (.bin .eql (.loc 0) (.cst (.int .i64 64)), some ((.loc 1), true)), (.pick (.loc 2) (.loc 0) (.cst (.bool false)), some ((.loc 6), false)), (.pick (.loc 7) (.cst (.bool true)) (.loc 0), none)], exp := [(5, (.loc 0))] }
def q33r3 : ARegion := { ops := [(.move (.var 0), none), (.nilck (.loc 0), none), (.fieldAddr 1 (.loc 0), none), (.store 1 (.loc 0) (.cst (.bool true)), none)], exp := [] }
def q33r4 : ARegion := { ops := [(.move (.cst (.int .i64 0)), none)], exp := [(4, (.loc 0))] }
def q33r5 : ARegion := { ops := [(.move (.var 4), none), (.fieldAddr 3 (.var 3), none), (.load false 1 (.loc 0), none), (.len .sli (.loc 0), none), (.bin .lss (.loc 3) (.loc 0), none), (.move (.loc 0), none), (.move (.var 0), some ((.loc 0), true)), (.nilck (.loc 0), some ((.loc 1), true)), (.fieldAddr 1 (.loc 0), some ((.loc 2), true)), (.load false 1 (.loc 0), some ((.loc 3), true)), (.not (.loc 0), some ((.loc 4), true)), (.pick (.loc 5) (.loc 0) (.cst (.bool false)), none)], exp := [(6, (.loc 0))] }
def q33r6 : ARegion := { ops := [(.move (.var 0), none), (.fieldAddr 3 (.var 3), none), (.load false 1 (.loc 0), none), (.move (.var 4), none), (.idxAddr 4 (.loc 1) (.loc 0), none), (.load true 4 (.loc 0), none), (.move (.var 2), none), (.bin .add (.loc 0) (.cst (.int .i64 1)), none), (.call 33 [(.loc 7), (.loc 2), (.loc 0)], none)], exp := [] }
def q33r7 : ARegion := { ops := [(.move (.var 4), none), (.bin .add (.loc 0) (.cst (.int .i64 1)), none), (.move (.loc 0), none)], exp := [(4, (.loc 0))] }
def q33l8 : ACode := (.seq (.seq (.region q33r5) (.cond (.var 6) .skip (.exit 0))) (.seq (.block 1 (.region q33r6)) (.region q33r7)))
def q33 : AFn := { nparams := 3, nslots := 7, slots := [0, 1, 2, 4, 6, 32, 47], results := [], body := (.seq (.region q33r0) (.seq (.region q33r1) (.seq (.seq (.region q33r2) (.cond (.var 5) (.region q33r3) .skip)) (.seq (.region q33r4) (.block 0 (.loop [1, 5, 6] q33l8)))))) }
theorem q33ok : fnOk Tryd.prog xfT gT Tryd.f33 q33 = true := by kernel_rfl
theorem q33at : Tryd.prog.funcs[33]? = some Tryd.f33 := by kernel_rfl
/-- cringle/cringleref07.count -/
def q34r0 : ARegion := { ops := [(.box 26 (.var 0), none), (.move (.cst (.int .i64 0)), none)], exp := [(0, (.cst .u)), (3, (.loc 1)), (4, (.cst .u))] }
def q34r1 : ARegion := { ops := [(.move (.var 2), none), (.bin .leq (.loc 0) (.cst (.int .i64 0)), none), (.move (.loc 0), none), (.fieldAddr 3 (.var 3), some ((.loc 0), false)), (.load false 1 (.loc 0), some ((.loc 1), false)), (.len .sli (.loc 0), some ((.loc 2), false)), (.bin .gtr (.loc 0) (.cst (.int .i64 4096)), some ((.loc 3), false)), (.pick (.loc 4) (.cst (.bool true)) (.loc 0), none), (.move (.loc 0), none), (.fieldAddr 2 (.var 3), some ((.loc 0), false)), (.load false 1 (.loc 0), some ((.loc 1), false)), (.len .sli (.loc 0), some ((.loc 2), false)), (.bin .gtr (.loc 0) (.cst (.int .i64 4096)), some ((.loc 3), false)), (.pick (.loc 4) (.cst (.bool true)) (.loc 0), none), (.move (.loc 0), none), (.load true 4 (.var 3), some ((.loc 0), false)), (.call 56 [(.loc 0)], some ((.loc 1), false)), (.not (.loc 0), some ((.loc 2), false)), (.pick (.loc 3) (.cst (.bool true)) (.loc 0), none), (.move (.loc 0), none), (.fieldAddr 0 (.var 3), some ((.loc 0), false)), (.load false 1 (.loc 0), some ((.loc 1), false)), (.bin .eql (.loc 0) (.cst (.int .i64 5)), some ((.loc 2), false)), (.move (.loc 0), some ((.loc 3), false)), (.fieldAddr 0 (.var 3), some ((.loc 0), false)), (.load false 1 (.loc 0), some ((.loc 1), false)), (.bin .eql (.loc 0) (.cst (.int .i64 6)), some ((.loc 2), false)), (.pick (.loc 3) (.cst (.bool true)) (.loc 0), some ((.loc 7), false)), (.move (.loc 0), some ((.loc 8), false)), (.move (.var 1), some ((.loc 0), true)), (.bin .geq (.loc 0) (.cst (.int .i64 64)), some ((.loc 1), true)), (.pick (.loc 2) (.loc 0) (.cst (.bool false)), some ((.loc 11), false)), (.pick (.loc 12) (.cst (.bool true)) (.loc 0), none)], exp := [(7, (.loc 0))] }
def q34r2 : ARegion := { ops := [(.move (.cst (.int .i64 4097)), none)], exp := [(4, (.loc 0))] }
def q34r3 : ARegion := { ops := [(.move (.cst (.int .i64 1)), none)], exp := [(5, (.loc 0))] }
def q34r4 : ARegion := { ops := [(.move (.cst (.int .i64 0)), none)], exp := [(6, (.loc 0))] }
def q34r5 : ARegion := { ops := [(.move (.var 6), none), (.fieldAddr 3 (.var 3), none), (.load false 1 (.loc 0), none), (.len .sli (.loc 0), none), (.bin .lss (.loc 3) (.loc 0), none), (.move (.loc 0), none), (.move (.var 5), some ((.loc 0), true)), (.move (.var 2), some ((.loc 1), true)), (.bin .leq (.loc 1) (.loc 0), some ((.loc 2), true)), (.pick (.loc 3) (.loc 0) (.cst (.bool false)), none)], exp := [(8, (.loc 0))] }
def q34r6 : ARegion := { ops := [(.move (.var 5), none), (.fieldAddr 3 (.var 3), none), (.load false 1 (.loc 0), none), (.move (.var 6), none), (.idxAddr 4 (.loc 1) (.loc 0), none), (.load true 4 (.loc 0), none), (.move (.var 1), none), (.bin .add (.loc 0) (.cst (.int .i64 1)), none), (.move (.var 2), none), (.move (.var 5), none), (.bin .sub (.loc 1) (.loc 0), none), (.call 34 [(.loc 5), (.loc 3), (.loc 0)], none), (.bin .add (.loc 11) (.loc 0), none), (.move (.loc 0), none)], exp := [(5, (.loc 0))] }
def q34r7 : ARegion := { ops := [(.move (.var 6), none), (.bin .add (.loc 0) (.cst (.int .i64 1)), none), (.move (.loc 0), none)], exp := [(6, (.loc 0))] }
def q34l8 : ACode := (.seq (.seq (.region q34r5) (.cond (.var 8) .skip (.exit 0))) (.seq (.block 1 (.region q34r6)) (.region q34r7)))
def q34r9 : ARegion := { ops := [(.move (.var 5), none), (.min (.loc 0) (.cst (.int .i64 4097)), none), (.move (.loc 0), none)], exp := [(4, (.loc 0)), (5, (.cst .u))] }
def q34 : AFn := { nparams := 3, nslots := 9, slots := [0, 1, 2, 3, 6, 7, 8, 41, 51], results := [.var 4], body := (.seq (.region q34r0) (.seq (.seq (.region q34r1) (.cond (.var 7) (.seq (.region q34r2) .ret) .skip)) (.seq (.region q34r3) (.seq (.seq (.region q34r4) (.block 0 (.loop [0, 4, 7, 8] q34l8))) (.seq (.region q34r9) .ret))))) }
theorem q34ok : fnOk Tryd.prog xfT gT Tryd.f34 q34 = true := by kernel_rfl
theorem q34at : Tryd.prog.funcs[34]? = some Tryd.f34 := by kernel_rfl
/-- slices.Equal[[]string,string] -/
def q35r0 : ARegion := { ops := [(.move (.cst (.bool false)), none)], exp := [(2, (.cst .u))] }
def q35r1 : ARegion := { ops := [(.move (.var 0), none), (.len .sli (.loc 0), none), (.move (.var 1), none), (.len .sli (.loc 0), none), (.bin .neq (.loc 2) (.loc 0), none)], exp := [(4, (.loc 0))] }
def q35r2 : ARegion := { ops := [(.move (.cst (.bool false)), none)], exp := [(2, (.loc 0))] }
def q35r3 : ARegion := { ops := [(.move (.var 0), none), (.len .sli (.loc 0), none), (.move (.cst (.int .i64 0)), none)], exp := [(5, (.loc 1)), (6, (.loc 0))] }
def q35r4 : ARegion := { ops := [(.bin .lss (.var 6) (.var 5), none)], exp := [(7, (.loc 0))] }
def q35r5 : ARegion := { ops := [(.move (.var 6), none), (.move (.loc 0), none)], exp := [(3, (.loc 0))] }
def q35r6 : ARegion := { ops := [(.move (.var 0), none), (.move (.var 3), none), (.idxAddr 1 (.loc 1) (.loc 0), none), (.load false 1 (.loc 0), none), (.move (.var 1), none), (.move (.var 3), none), (.idxAddr 1 (.loc 1) (.loc 0), none), (.load false 1 (.loc 0), none), (.bin .neq (.loc 4) (.loc 0), none)], exp := [(3, (.cst .u)), (8, (.loc 0))], draws := true, pairs := [], okPan := [], preds := [[], [], [1, 0], [0, 1, 2], [], [], [5, 4], [4, 5, 6], [6, 5, 4, 7, 2, 1, 0, 3]] }
def q35r7 : ARegion := { ops := [(.move (.cst (.bool false)), none)], exp := [(2, (.loc 0))] }
def q35r8 : ARegion := { ops := [(.bin .add (.var 6) (.cst (.int .i64 1)), none), (.move (.loc 0), none)], exp := [(6, (.loc 0))] }
def q35l9 : ACode := (.seq (.region q35r4) (.seq (.cond (.var 7) .skip (.exit 0)) (.seq (.block 1 (.seq (.region q35r5) (.seq (.region q35r6) (.cond (.var 8) (.seq (.region q35r7) .ret) .skip)))) (.region q35r8))))
def q35r10 : ARegion := { ops := [(.move (.cst (.bool true)), none)], exp := [(2, (.loc 0))] }
def q35 : AFn := { nparams := 2, nslots := 9, slots := [0, 1, 4, 5, 10, 12, 13, 14, 24], results := [.var 2], body := (.seq (.region q35r0) (.seq (.seq (.region q35r1) (.cond (.var 4) (.seq (.region q35r2) .ret) .skip)) (.seq (.seq (.region q35r3) (.block 0 (.loop [2, 3, 4, 7, 8] q35l9))) (.seq (.region q35r10) .ret)))) }
theorem q35ok : fnOk Tryd.prog xfT gT Tryd.f35 q35 = true := by kernel_rfl
theorem q35at : Tryd.prog.funcs[35]? = some Tryd.f35 := by kernel_rfl
/-- slices.EqualFunc[[]cringle/api.Val,[]cringle/api.Val,cringle/api.Val,cringle/api.Val] -/
def q36r0 : ARegion := { ops := [(.move (.cst (.bool false)), none)], exp := [(3, (.cst .u))] }
def q36r1 : ARegion := { ops := [(.move (.var 0), none), (.len .sli (.loc 0), none), (.move (.var 1), none), (.len .sli (.loc 0), none), (.bin .neq (.loc 2) (.loc 0), none)], exp := [(7, (.loc 0))] }
def q36r2 : ARegion := { ops := [(.move (.cst (.bool false)), none)], exp := [(3, (.loc 0))] }
def q36r3 : ARegion := { ops := [(.move (.var 0), none), (.len .sli (.loc 0), none), (.move (.cst (.int .i64 0)), none)], exp := [(0, (.cst .u)), (8, (.loc 2)), (9, (.loc 1)), (10, (.loc 0))] }
def q36r4 : ARegion := { ops := [(.bin .lss (.var 10) (.var 9), none)], exp := [(11, (.loc 0))] }
def q36r5 : ARegion := { ops := [(.move (.var 10), none), (.idxAddr 4 (.var 8) (.var 10), none), (.load true 4 (.loc 0), none), (.alloc 26 [(.int .i64 0), (.str []), .nilSl, .nilSl], none), (.move (.loc 3), none), (.store 4 (.loc 1) (.loc 2), none)], exp := [(4, (.loc 1)), (5, (.loc 2))] }
def q36r6 : ARegion := { ops := [(.move (.var 1), none), (.move (.var 4), none), (.idxAddr 4 (.loc 1) (.loc 0), none), (.load true 4 (.loc 0), none), (.alloc 26 [(.int .i64 0), (.str []), .nilSl, .nilSl], none), (.store 4 (.loc 0) (.loc 1), none)], exp := [(4, (.cst .u)), (6, (.loc 1))] }
def q36r7 : ARegion := { ops := [(.move (.var 2), none), (.load true 4 (.var 5), none), (.load true 4 (.var 6), none), (.callV (.loc 2) [(.loc 1), (.loc 0)], none), (.not (.loc 0), none)], exp := [(5, (.cst .u)), (6, (.cst .u)), (12, (.loc 0))] }
def q36r8 : ARegion := { ops := [(.move (.cst (.bool false)), none)], exp := [(3, (.loc 0))] }
def q36r9 : ARegion := { ops := [(.bin .add (.var 10) (.cst (.int .i64 1)), none), (.move (.loc 0), none)], exp := [(10, (.loc 0))] }
def q36l10 : ACode := (.seq (.region q36r4) (.seq (.cond (.var 11) .skip (.exit 0)) (.seq (.block 1 (.seq (.region q36r5) (.seq (.region q36r6) (.seq (.region q36r7) (.cond (.var 12) (.seq (.region q36r8) .ret) .skip))))) (.region q36r9))))
def q36r11 : ARegion := { ops := [(.move (.cst (.bool true)), none)], exp := [(3, (.loc 0))] }
def q36 : AFn := { nparams := 3, nslots := 13, slots := [0, 1, 2, 6, 7, 8, 9, 14, 15, 16, 17, 18, 30], results := [.var 3], body := (.seq (.region q36r0) (.seq (.seq (.region q36r1) (.cond (.var 7) (.seq (.region q36r2) .ret) .skip)) (.seq (.seq (.region q36r3) (.block 0 (.loop [0, 3, 4, 5, 6, 7, 11, 12] q36l10))) (.seq (.region q36r11) .ret)))) }
theorem q36ok : fnOk Tryd.prog xfT gT Tryd.f36 q36 = true := by kernel_rfl
theorem q36at : Tryd.prog.funcs[36]? = some Tryd.f36 := by kernel_rfl
/-- cringle/cringleref02.Next -/
def q37r0 : ARegion := { ops := [(.move (.cst (.int .i32 0)), none), (.move (.cst (.int .i64 0)), none), (.move (.cst (.int .i64 0)), none)], exp := [(1, (.cst .u)), (2, (.cst .u)), (3, (.cst .u))] }
def q37r1 : ARegion := { ops := [(.move (.var 0), none), (.bin .eql (.loc 0) (.cst (.str [])), none)], exp := [(8, (.loc 0))] }
def q37r2 : ARegion := { ops := [(.move (.cst (.int .i32 0)), none), (.move (.cst (.int .i64 0)), none), (.move (.cst (.int .i64 9)), none)], exp := [(1, (.loc 2)), (2, (.loc 1)), (3, (.loc 0))] }
def q37r3 : ARegion := { ops := [(.move (.var 0), none), (.idxS (.loc 0) (.cst (.int .i64 0)), none), (.call 57 [(.loc 0)], none), (.move (.loc 0), none)], exp := [(4, (.loc 0))] }
def q37r4 : ARegion := { ops := [(.move (.var 4), none), (.bin .eql (.loc 0) (.cst (.int .i64 0)), none)], exp := [(9, (.loc 0))] }
def q37r5 : ARegion := { ops := [(.move (.cst (.int .i32 65533)), none), (.move (.cst (.int .i64 1)), none), (.move (.cst (.int .i64 9)), none)], exp := [(1, (.loc 2)), (2, (.loc 1)), (3, (.loc 0))] }
def q37r6 : ARegion := { ops := [(.move (.cst (.int .i64 1)), none)], exp := [(5, (.loc 0))] }
def q37r7 : ARegion := { ops := [(.move (.var 5), none), (.move (.var 4), none), (.bin .lss (.loc 1) (.loc 0), none), (.move (.loc 0), none), (.move (.var 5), some ((.loc 0), true)), (.move (.var 0), some ((.loc 1), true)), (.len .str (.loc 0), some ((.loc 2), true)), (.bin .lss (.loc 2) (.loc 0), some ((.loc 3), true)), (.pick (.loc 4) (.loc 0) (.cst (.bool false)), none), (.move (.loc 0), none), (.move (.var 0), some ((.loc 0), true)), (.idxS (.loc 0) (.cst (.int .i64 0)), some ((.loc 1), true)), (.move (.var 5), some ((.loc 2), true)), (.move (.var 0), some ((.loc 3), true)), (.move (.var 5), some ((.loc 4), true)), (.idxS (.loc 1) (.loc 0), some ((.loc 5), true)), (.call 58 [(.loc 4), (.loc 3), (.loc 0)], some ((.loc 6), true)), (.pick (.loc 7) (.loc 0) (.cst (.bool false)), none)], exp := [(10, (.loc 0))], draws := true, pairs := [], okPan := [16], preds := [[], [], [1, 0], [0, 1, 2], [2, 1, 0, 3], [2, 1, 0, 3], [3, 0, 1, 2, 5], [5, 6, 3, 0, 1, 2, 4], [4, 6, 5, 7, 2, 1, 0, 3], [3, 0, 1, 2, 7, 5, 6, 4, 8], [8, 4, 6, 5, 7, 2, 1, 0, 3, 9], [9, 3, 0, 1, 2, 7, 5, 6, 4, 8, 10], [8, 4, 6, 5, 7, 2, 1, 0, 3, 9], [8, 4, 6, 5, 7, 2, 1, 0, 3, 9], [8, 4, 6, 5, 7, 2, 1, 0, 3, 9], [14, 9, 3, 0, 1, 2, 7, 5, 6, 4, 8, 13], [13, 14, 15, 12, 10, 8, 4, 6, 5, 7, 2, 1, 0, 3, 9, 11], [11, 10, 12, 15, 14, 13, 16, 8, 4, 6, 5, 7, 2, 1, 0, 3, 9]] }
def q37r8 : ARegion := { ops := [(.move (.var 5), none), (.bin .add (.loc 0) (.cst (.int .i64 1)), none), (.move (.loc 0), none)], exp := [(5, (.loc 0))] }
def q37l9 : ACode := (.seq (.seq (.region q37r7) (.cond (.var 10) .skip (.exit 0))) (.block 1 (.region q37r8)))
def q37r10 : ARegion := { ops := [(.move (.var 5), none), (.move (.var 4), none), (.bin .lss (.loc 1) (.loc 0), none)], exp := [(11, (.loc 0))] }
def q37r11 : ARegion := { ops := [(.move (.var 5), none), (.move (.cst (.int .i32 65533)), none), (.move (.loc 1), none), (.move (.cst (.int .i64 9)), none)], exp := [(1, (.loc 2)), (2, (.loc 1)), (3, (.loc 0)), (5, (.cst .u))] }
def q37r12 : ARegion := { ops := [(.move (.var 0), none), (.idxS (.loc 0) (.cst (.int .i64 0)), none), (.convI .i32 (.loc 0), none), (.move (.loc 0), none)], exp := [(6, (.loc 0))] }
def q37r13 : ARegion := { ops := [(.move (.var 4), none)], exp := [(12, (.loc 0))] }
def q37r14 : ARegion := { ops := [(.bin .eql (.var 12) (.cst (.int .i64 2)), none), (.move (.loc 0), none)], exp := [(13, (.loc 0))] }
def q37r15 : ARegion := { ops := [(.move (.var 6), none), (.bin .sub (.loc 0) (.cst (.int .i32 192)), none), (.move (.loc 0), none)], exp := [(6, (.loc 0))] }
def q37r16 : ARegion := { ops := [(.bin .eql (.var 12) (.cst (.int .i64 3)), none), (.move (.loc 0), none)], exp := [(14, (.loc 0))] }
def q37r17 : ARegion := { ops := [(.move (.var 6), none), (.bin .sub (.loc 0) (.cst (.int .i32 224)), none), (.move (.loc 0), none)], exp := [(6, (.loc 0))] }
def q37r18 : ARegion := { ops := [(.bin .eql (.var 12) (.cst (.int .i64 4)), none), (.move (.loc 0), none)], exp := [(12, (.cst .u)), (15, (.loc 0))] }
def q37r19 : ARegion := { ops := [(.move (.var 6), none), (.bin .sub (.loc 0) (.cst (.int .i32 240)), none), (.move (.loc 0), none)], exp := [(6, (.loc 0))] }
def q37r20 : ARegion := { ops := [(.move (.cst (.int .i64 1)), none)], exp := [(7, (.loc 0))] }
def q37r21 : ARegion := { ops := [(.move (.var 7), none), (.move (.var 4), none), (.bin .lss (.loc 1) (.loc 0), none)], exp := [(16, (.loc 0))] }
def q37r22 : ARegion := { ops := [(.move (.var 6), none), (.bin .mul (.loc 0) (.cst (.int .i32 64)), none), (.move (.var 0), none), (.move (.var 7), none), (.idxS (.loc 1) (.loc 0), none), (.convI .i32 (.loc 0), none), (.bin .add (.loc 4) (.loc 0), none), (.bin .sub (.loc 0) (.cst (.int .i32 128)), none), (.move (.loc 0), none)], exp := [(6, (.loc 0))] }
def q37r23 : ARegion := { ops := [(.move (.var 7), none), (.bin .add (.loc 0) (.cst (.int .i64 1)), none), (.move (.loc 0), none)], exp := [(7, (.loc 0))] }
def q37l24 : ACode := (.seq (.seq (.region q37r21) (.cond (.var 16) .skip (.exit 3))) (.seq (.block 4 (.region q37r22)) (.region q37r23)))
def q37r25 : ARegion := { ops := [(.move (.var 6), none), (.move (.var 4), none), (.move (.loc 1), none), (.move (.loc 1), none), (.move (.cst (.int .i64 0)), none)], exp := [(1, (.loc 2)), (2, (.loc 1)), (3, (.loc 0)), (4, (.cst .u)), (6, (.cst .u))] }
def q37 : AFn := { nparams := 1, nslots := 17, slots := [0, 2, 3, 4, 5, 6, 7, 8, 10, 15, 33, 38, 43, 44, 48, 52, 58], results := [.var 1, .var 2, .var 3], body := (.seq (.region q37r0) (.seq (.seq (.region q37r1) (.cond (.var 8) (.seq (.region q37r2) .ret) .skip)) (.seq (.region q37r3) (.seq (.seq (.region q37r4) (.cond (.var 9) (.seq (.region q37r5) .ret) .skip)) (.seq (.region q37r6) (.seq (.block 0 (.loop [1, 2, 3, 6, 7, 8, 9, 10, 11, 12, 13, 14, 15, 16] q37l9)) (.seq (.seq (.region q37r10) (.cond (.var 11) (.seq (.region q37r11) .ret) .skip)) (.seq (.region q37r12) (.seq (.seq (.region q37r13) (.block 2 (.seq (.region q37r14) (.cond (.var 13) (.region q37r15) (.seq (.region q37r16) (.cond (.var 14) (.region q37r17) (.seq (.region q37r18) (.cond (.var 15) (.region q37r19) .skip)))))))) (.seq (.seq (.region q37r20) (.block 3 (.loop [1, 2, 3, 5, 8, 9, 10, 11, 12, 13, 14, 15, 16] q37l24))) (.seq (.region q37r25) .ret))))))))))) }
theorem q37ok : fnOk Tryd.prog xfT gT Tryd.f37 q37 = true := by kernel_rfl
theorem q37at : Tryd.prog.funcs[37]? = some Tryd.f37 := by kernel_rfl
/-- strings.HasPrefix -/
def q38r0 : ARegion := { ops := [(.move (.cst (.bool false)), none)], exp := [(2, (.cst .u))] }
def q38r1 : ARegion := { ops := [(.move (.var 0), none), (.move (.var 1), none), (.call 59 [(.loc 1), (.loc 0)], none), (.move (.loc 0), none)], exp := [(0, (.cst .u)), (1, (.cst .u)), (2, (.loc 0))] }
def q38 : AFn := { nparams := 2, nslots := 3, slots := [0, 1, 4], results := [.var 2], body := (.seq (.region q38r0) (.seq (.region q38r1) .ret)) }
theorem q38ok : fnOk Tryd.prog xfT gT Tryd.f38 q38 = true := by kernel_rfl
theorem q38at : Tryd.prog.funcs[38]? = some Tryd.f38 := by kernel_rfl
/-- (*cringle/json.parser).whole$1, in part -/
def q39r0 : ARegion := { ops := [(.move (.var 2), none), (.eq true (.leaf .ifaceE) (.loc 0) (.cst .nilIface), none)], exp := [(5, (.loc 0))] }
def q39r1 : ARegion := { ops := [(.move (.var 2), none), (.tassert 74 (.agg [(.int .i64 0), (.int .i64 0)]) true (.loc 0), none), (.move (.loc 0), none), (.extract 0 (.loc 0), none), (.extract 1 (.loc 1), none), (.alloc 74 [(.int .i64 0), (.int .i64 0)], none), (.store 2 (.loc 0) (.loc 2), none), (.move (.loc 2), none)], exp := [(3, (.loc 2)), (4, (.loc 0))] }
def q39r2 : ARegion := { ops := [(.move (.var 4), none), (.not (.loc 0), none)], exp := [(4, (.cst .u)), (6, (.loc 0))] }
def q39r3 : ARegion := { ops := [(.move (.var 2), none), (.panic (.loc 0), none)], exp := [(2, (.cst .u))] }
def q39r4 : ARegion := { ops := [(.build [(.int .i64 0), (.str []), .nilSl, .nilSl] [], none), (.fieldAddr 0 (.var 3), none), (.load true 2 (.loc 0), none), (.store 4 (.var 0) (.loc 2), none), (.store 2 (.var 1) (.loc 1), none)], exp := [(0, (.cst .u)), (1, (.cst .u)), (3, (.cst .u))], draws := true, pairs := [(2, 3)], okPan := [3, 4], preds := [[], [], [1], [0], [0, 3, 1, 2]] }
def q39 : AFn := { nparams := 0, nslots := 7, slots := [0, 1, 2, 3, 4, 7, 14], results := [], body := (.seq .stuck (.seq (.region q39r0) (.cond (.var 5) (.seq (.region q39r1) (.seq (.seq (.region q39r2) (.cond (.var 6) (.region q39r3) .skip)) (.region q39r4))) .skip))) }
theorem q39ok : fnOk Tryd.prog xfT gT Tryd.f39 q39 = true := by kernel_rfl
theorem q39at : Tryd.prog.funcs[39]? = some Tryd.f39 := by kernel_rfl
/-- (*cringle/json.parser).value -/
def q40r0 : ARegion := { ops := [(.alloc 26 [(.int .i64 0), (.str []), .nilSl, .nilSl], none)], exp := [(2, (.loc 0))] }
def q40r1 : ARegion := { ops := [(.move (.var 0), none), (.nilck (.loc 0), none), (.fieldAddr 0 (.loc 0), none), (.call 60 [(.loc 0)], none), (.move (.loc 0), none)], exp := [(3, (.loc 0))] }
def q40r2 : ARegion := { ops := [(.move (.var 0), none), (.nilck (.loc 0), none), (.fieldAddr 0 (.loc 0), none), (.fieldAddr 1 (.loc 0), none), (.load false 1 (.loc 0), none), (.move (.loc 0), none)], exp := [(4, (.loc 0))] }
def q40r3 : ARegion := { ops := [(.move (.var 0), none), (.nilck (.loc 0), none), (.fieldAddr 2 (.loc 0), none), (.load false 1 (.loc 0), none), (.bin .sub (.loc 0) (.cst (.int .i64 1)), none), (.nilck (.loc 4), none), (.fieldAddr 2 (.loc 0), none), (.store 1 (.loc 0) (.loc 2), none)], exp := [] }
def q40r4 : ARegion := { ops := [(.move (.var 0), none), (.nilck (.loc 0), none), (.fieldAddr 2 (.loc 0), none), (.load false 1 (.loc 0), none), (.bin .lss (.loc 0) (.cst (.int .i64 0)), none)], exp := [(7, (.loc 0))] }
def q40r5 : ARegion := { ops := [(.move (.var 0), none), (.nilck (.loc 0), none), (.fieldAddr 0 (.loc 0), none), (.move (.var 4), none), (.call 42 [(.loc 1), (.cst (.int .i64 5)), (.loc 0)], none)], exp := [] }
def q40r6 : ARegion := { ops := [(.move (.var 3), none), (.bin .eql (.loc 0) (.cst (.int .u8 34)), none), (.move (.loc 0), none)], exp := [(8, (.loc 0))] }
def q40r7 : ARegion := { ops := [(.move (.var 0), none), (.call 61 [(.loc 0)], none), (.build [(.int .i64 0), (.str []), .nilSl, .nilSl] [(0, 1, (.cst (.int .i64 4))), (1, 1, (.loc 0))], none), (.store 4 (.var 2) (.loc 0), none)], exp := [(0, (.cst .u))] }
def q40r8 : ARegion := { ops := [(.move (.var 3), none), (.bin .eql (.loc 0) (.cst (.int .u8 91)), none), (.move (.loc 0), none), (.move (.var 3), some ((.loc 0), false)), (.bin .eql (.loc 0) (.cst (.int .u8 123)), some ((.loc 1), false)), (.pick (.loc 2) (.cst (.bool true)) (.loc 0), none), (.move (.loc 0), none), (.move (.var 1), some ((.loc 0), true)), (.bin .eql (.loc 0) (.cst (.int .i64 64)), some ((.loc 1), true)), (.pick (.loc 2) (.loc 0) (.cst (.bool false)), none), (.move (.loc 0), none)], exp := [(9, (.loc 0))] }
def q40r9 : ARegion := { ops := [(.move (.var 0), none), (.nilck (.loc 0), none), (.fieldAddr 0 (.loc 0), none), (.move (.var 4), none), (.call 42 [(.loc 1), (.cst (.int .i64 8)), (.loc 0)], none)], exp := [] }
def q40r10 : ARegion := { ops := [(.move (.var 3), none), (.bin .eql (.loc 0) (.cst (.int .u8 91)), none), (.move (.loc 0), none)], exp := [(10, (.loc 0))] }
def q40r11 : ARegion := { ops := [(.move (.var 0), none), (.move (.var 1), none), (.bin .add (.loc 0) (.cst (.int .i64 1)), none), (.call 62 [(.loc 2), (.loc 0)], none), (.store 4 (.var 2) (.loc 0), none)], exp := [(0, (.cst .u)), (1, (.cst .u))] }
def q40r12 : ARegion := { ops := [(.move (.var 3), none), (.bin .eql (.loc 0) (.cst (.int .u8 123)), none), (.move (.loc 0), none)], exp := [(11, (.loc 0))] }
def q40r13 : ARegion := { ops := [(.move (.var 0), none), (.move (.var 1), none), (.bin .add (.loc 0) (.cst (.int .i64 1)), none), (.call 63 [(.loc 2), (.loc 0)], none), (.store 4 (.var 2) (.loc 0), none)], exp := [(0, (.cst .u)), (1, (.cst .u))] }
def q40r14 : ARegion := { ops := [(.move (.var 3), none), (.bin .eql (.loc 0) (.cst (.int .u8 45)), none), (.move (.loc 0), none), (.move (.var 3), some ((.loc 0), false)), (.call 64 [(.loc 0)], some ((.loc 1), false)), (.pick (.loc 2) (.cst (.bool true)) (.loc 0), none), (.move (.loc 0), none)], exp := [(3, (.cst .u)), (12, (.loc 0))] }
def q40r15 : ARegion := { ops := [(.move (.var 0), none), (.call 65 [(.loc 0), (.cst (.str [48, 49, 50, 51, 52, 53, 54, 55, 56, 57, 43, 45, 46, 101, 69]))], none), (.move (.loc 0), none)], exp := [(5, (.loc 0))] }
def q40r16 : ARegion := { ops := [(.move (.var 5), none), (.call 66 [(.loc 0)], none), (.not (.loc 0), none)], exp := [(13, (.loc 0))] }
def q40r17 : ARegion := { ops := [(.move (.var 0), none), (.nilck (.loc 0), none), (.fieldAddr 0 (.loc 0), none), (.move (.var 4), none), (.call 42 [(.loc 1), (.cst (.int .i64 3)), (.loc 0)], none)], exp := [(0, (.cst .u)), (4, (.cst .u))] }
def q40r18 : ARegion := { ops := [(.move (.var 5), none), (.build [(.int .i64 0), (.str []), .nilSl, .nilSl] [(0, 1, (.cst (.int .i64 3))), (1, 1, (.loc 0))], none), (.store 4 (.var 2) (.loc 0), none)], exp := [(5, (.cst .u))] }
def q40r19 : ARegion := { ops := [(.move (.var 0), none), (.call 65 [(.loc 0), (.cst (.str [97, 98, 99, 100, 101, 102, 103, 104, 105, 106, 107, 108, 109, 110, 111, 112, 113, 114, 115, 116, 117, 118, 119, 120, 121, 122]))], none), (.move (.loc 0), none)], exp := [(6, (.loc 0))] }
def q40r20 : ARegion := { ops := [(.move (.var 6), none)], exp := [(14, (.loc 0))] }
def q40r21 : ARegion := { ops := [(.bin .eql (.var 14) (.cst (.str [110, 117, 108, 108])), none), (.move (.loc 0), none)], exp := [(15, (.loc 0))] }
def q40r22 : ARegion := { ops := [(.build [(.int .i64 0), (.str []), .nilSl, .nilSl] [(0, 1, (.cst (.int .i64 1)))], none), (.store 4 (.var 2) (.loc 0), none)], exp := [] }
def q40r23 : ARegion := { ops := [(.bin .eql (.var 14) (.cst (.str [116, 114, 117, 101])), none), (.move (.loc 0), none)], exp := [(16, (.loc 0))] }
def q40r24 : ARegion := { ops := [(.bin .eql (.var 14) (.cst (.str [102, 97, 108, 115, 101])), none), (.move (.loc 0), none)], exp := [(14, (.cst .u)), (16, (.loc 0))] }
def q40r25 : ARegion := { ops := [(.move (.var 6), none), (.build [(.int .i64 0), (.str []), .nilSl, .nilSl] [(0, 1, (.cst (.int .i64 2))), (1, 1, (.loc 0))], none), (.store 4 (.var 2) (.loc 0), none)], exp := [(6, (.cst .u))] }
def q40r26 : ARegion := { ops := [(.move (.var 0), none), (.nilck (.loc 0), none), (.fieldAddr 0 (.loc 0), none), (.move (.var 4), none), (.call 42 [(.loc 1), (.cst (.int .i64 3)), (.loc 0)], none)], exp := [(0, (.cst .u)), (4, (.cst .u))] }
def q40r27 : ARegion := { ops := [(.build [(.int .i64 0), (.str []), .nilSl, .nilSl] [], none), (.store 4 (.var 2) (.loc 0), none)], exp := [] }
def q40 : AFn := { nparams := 2, nslots := 17, slots := [0, 1, 4, 5, 6, 7, 8, 29, 35, 41, 57, 64, 71, 82, 92, 93, 96], results := [.cell 2 true 4], body := (.seq (.region q40r0) (.seq (.region q40r1) (.seq (.region q40r2) (.seq (.region q40r3) (.seq (.seq (.region q40r4) (.cond (.var 7) (.region q40r5) .skip)) (.seq (.block 0 (.seq (.region q40r6) (.cond (.var 8) (.seq (.region q40r7) .ret) (.seq (.region q40r8) (.cond (.var 9) (.region q40r9) (.seq (.region q40r10) (.cond (.var 10) (.seq (.region q40r11) .ret) (.seq (.region q40r12) (.cond (.var 11) (.seq (.region q40r13) .ret) (.seq (.region q40r14) (.cond (.var 12) (.seq (.region q40r15) (.seq (.seq (.region q40r16) (.cond (.var 13) (.region q40r17) .skip)) (.seq (.region q40r18) .ret))) .skip))))))))))) (.seq (.seq (.region q40r19) (.seq (.region q40r20) (.block 1 (.seq (.region q40r21) (.cond (.var 15) (.seq (.region q40r22) .ret) (.seq (.seq (.region q40r23) (.cond (.var 16) .skip (.region q40r24))) (.cond (.var 16) (.seq (.region q40r25) .ret) .skip))))))) (.seq (.region q40r26) (.seq (.region q40r27) .ret))))))))) }
theorem q40ok : fnOk Tryd.prog xfT gT Tryd.f40 q40 = true := by kernel_rfl
theorem q40at : Tryd.prog.funcs[40]? = some Tryd.f40 := by kernel_rfl
/-- (*cringle/json.cursor).skip -/
def q41r0 : ARegion := { ops := [(.move (.var 0), none), (.nilck (.loc 0), none), (.fieldAddr 1 (.loc 0), none), (.load false 1 (.loc 0), none), (.move (.var 0), none), (.nilck (.loc 0), none), (.fieldAddr 0 (.loc 0), none), (.load false 1 (.loc 0), none), (.len .str (.loc 0), none), (.bin .lss (.loc 5) (.loc 0), none), (.move (.loc 0), none), (.move (.var 0), some ((.loc 0), true)), (.nilck (.loc 0), some ((.loc 1), true)), (.fieldAddr 0 (.loc 0), some ((.loc 2), true)), (.load false 1 (.loc 0), some ((.loc 3), true)), (.move (.var 0), some ((.loc 4), true)), (.nilck (.loc 0), some ((.loc 5), true)), (.fieldAddr 1 (.loc 0), some ((.loc 6), true)), (.load false 1 (.loc 0), some ((.loc 7), true)), (.idxS (.loc 4) (.loc 0), some ((.loc 8), true)), (.call 67 [(.cst (.str [9, 10, 13, 32])), (.loc 0)], some ((.loc 9), true)), (.bin .geq (.loc 0) (.cst (.int .i64 0)), some ((.loc 10), true)), (.pick (.loc 11) (.loc 0) (.cst (.bool false)), none)], exp := [(1, (.loc 0))], draws := true, pairs := [], okPan := [20], preds := [[], [0], [0, 1], [1, 0, 2], [], [4], [4, 5], [5, 4, 6], [6, 4, 5, 7], [7, 5, 4, 6, 8, 2, 0, 1, 3], [3, 1, 0, 2, 8, 6, 4, 5, 7, 9], [9, 7, 5, 4, 6, 8, 2, 0, 1, 3, 10], [10, 3, 1, 0, 2, 8, 6, 4, 5, 7, 9, 11], [11, 9, 7, 5, 4, 6, 8, 2, 0, 1, 3, 10, 12], [12, 10, 3, 1, 0, 2, 8, 6, 4, 5, 7, 9, 11, 13], [9, 7, 5, 4, 6, 8, 2, 0, 1, 3, 10], [10, 3, 1, 0, 2, 8, 6, 4, 5, 7, 9, 15], [15, 9, 7, 5, 4, 6, 8, 2, 0, 1, 3, 10, 16], [16, 10, 3, 1, 0, 2, 8, 6, 4, 5, 7, 9, 15, 17], [17, 15, 16, 18, 13, 11, 9, 7, 5, 4, 6, 8, 2, 0, 1, 3, 10, 12, 14], [14, 12, 10, 3, 1, 0, 2, 8, 6, 4, 5, 7, 9, 11, 13, 18, 16, 15, 17, 19], [19, 17, 15, 16, 18, 13, 11, 9, 7, 5, 4, 6, 8, 2, 0, 1, 3, 10, 12, 14, 20], [20, 14, 12, 11, 13, 18, 16, 15, 17, 19, 21, 9, 7, 5, 4, 6, 8, 2, 0, 1, 3, 10]] }
def q41r1 : ARegion := { ops := [(.move (.var 0), none), (.nilck (.loc 0), none), (.fieldAddr 1 (.loc 0), none), (.load false 1 (.loc 0), none), (.bin .add (.loc 0) (.cst (.int .i64 1)), none), (.nilck (.loc 4), none), (.fieldAddr 1 (.loc 0), none), (.store 1 (.loc 0) (.loc 2), none)], exp := [] }
def q41l2 : ACode := (.seq (.seq (.region q41r0) (.cond (.var 1) .skip (.exit 0))) (.block 1 (.region q41r1)))
def q41 : AFn := { nparams := 1, nslots := 2, slots := [0, 24], results := [], body := (.block 0 (.loop [1] q41l2)) }
theorem q41ok : fnOk Tryd.prog xfT gT Tryd.f41 q41 = true := by kernel_rfl
theorem q41at : Tryd.prog.funcs[41]? = some Tryd.f41 := by kernel_rfl
/-- (*cringle/json.cursor).fail -/
def q42r0 : ARegion := { ops := [(.move (.var 1), none), (.move (.var 2), none), (.build [(.int .i64 0), (.int .i64 0)] [(0, 1, (.loc 1)), (1, 1, (.loc 0))], none), (.build [(.int .i64 0), (.int .i64 0)] [(0, 2, (.loc 0))], none), (.mkIface 74 (.loc 0), none), (.panic (.loc 0), none)], exp := [(1, (.cst .u)), (2, (.cst .u))] }
def q42 : AFn := { nparams := 3, nslots := 3, slots := [0, 1, 2], results := [], body := (.region q42r0) }
theorem q42ok : fnOk Tryd.prog xfT gT Tryd.f42 q42 = true := by kernel_rfl
theorem q42at : Tryd.prog.funcs[42]? = some Tryd.f42 := by kernel_rfl
end Go.Proofs.YtinlfdkalijffaaDoor.Am.Q
