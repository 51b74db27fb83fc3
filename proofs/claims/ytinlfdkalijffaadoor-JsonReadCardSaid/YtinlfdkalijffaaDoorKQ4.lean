import Derived.Test.YtinlfdkalijffaaDoorKQ0
set_option linter.unusedSimpArgs false
set_option linter.unusedVariables false
/- MADE BY PROGRAM (Trans.lean): functions as texts of the abstract machine. -/
namespace Go.Proofs.YtinlfdkalijffaaDoor.Am.Q
open Go Go.Proofs Go.Proofs.YtinlfdkalijffaaDoor.Am
/-- (*cringle/json.parser).table -/
def q63r0 : ARegion := { ops := [(.alloc 26 [(.int .i64 0), (.str []), .nilSl, .nilSl], none)], exp := [(2, (.loc 0))] }
def q63r1 : ARegion := { ops := [(.build [(.int .i64 0), (.str []), .nilSl, .nilSl] [(0, 1, (.cst (.int .i64 6)))], none), (.alloc 26 [(.int .i64 0), (.str []), .nilSl, .nilSl], none), (.store 4 (.loc 0) (.loc 1), none)], exp := [(3, (.loc 1))] }
def q63r2 : ARegion := { ops := [(.mkMap, none), (.move (.loc 0), none)], exp := [(4, (.loc 0))] }
def q63r3 : ARegion := { ops := [(.move (.var 0), none), (.nilck (.loc 0), none), (.fieldAddr 0 (.loc 0), none), (.fieldAddr 1 (.loc 0), none), (.load false 1 (.loc 0), none), (.bin .add (.loc 0) (.cst (.int .i64 1)), none), (.nilck (.loc 5), none), (.fieldAddr 0 (.loc 0), none), (.fieldAddr 1 (.loc 0), none), (.store 1 (.loc 0) (.loc 3), none)], exp := [] }
def q63r4 : ARegion := { ops := [(.move (.var 0), none), (.fieldAddr 3 (.var 3), none), (.load false 1 (.loc 0), none), (.len .sli (.loc 0), none), (.bin .eql (.loc 0) (.cst (.int .i64 0)), none), (.call 79 [(.loc 4), (.loc 0), (.cst (.int .u8 125))], none)], exp := [(7, (.loc 0))] }
def q63r5 : ARegion := { ops := [(.move (.var 0), none), (.nilck (.loc 0), none), (.fieldAddr 0 (.loc 0), none), (.call 60 [(.loc 0)], none), (.bin .neq (.loc 0) (.cst (.int .u8 34)), none)], exp := [(8, (.loc 0))] }
def q63r6 : ARegion := { ops := [(.move (.var 0), none), (.nilck (.loc 0), none), (.fieldAddr 0 (.loc 0), none), (.move (.var 0), none), (.nilck (.loc 0), none), (.fieldAddr 0 (.loc 0), none), (.fieldAddr 1 (.loc 0), none), (.load false 1 (.loc 0), none), (.call 42 [(.loc 5), (.cst (.int .i64 3)), (.loc 0)], none)], exp := [], draws := true, pairs := [], okPan := [8], preds := [[], [0], [0, 1], [], [3], [3, 4], [4, 3, 5], [5, 3, 4, 6], [6, 4, 3, 5, 7, 1, 0, 2]] }
def q63r7 : ARegion := { ops := [(.move (.var 0), none), (.nilck (.loc 0), none), (.fieldAddr 0 (.loc 0), none), (.fieldAddr 1 (.loc 0), none), (.load false 1 (.loc 0), none), (.move (.loc 0), none)], exp := [(5, (.loc 0))] }
def q63r8 : ARegion := { ops := [(.move (.var 0), none), (.call 61 [(.loc 0)], none), (.move (.loc 0), none)], exp := [(6, (.loc 0))] }
def q63r9 : ARegion := { ops := [(.move (.var 4), none), (.move (.var 6), none), (.lookup .str (.bool false) false (.loc 1) (.loc 0), none)], exp := [(9, (.loc 0))] }
def q63r10 : ARegion := { ops := [(.move (.var 0), none), (.nilck (.loc 0), none), (.fieldAddr 0 (.loc 0), none), (.move (.var 5), none), (.call 42 [(.loc 1), (.cst (.int .i64 7)), (.loc 0)], none)], exp := [(5, (.cst .u))] }
def q63r11 : ARegion := { ops := [(.move (.var 4), none), (.move (.var 6), none), (.mapUpd .str (.loc 1) (.loc 0) (.cst (.bool true)), none)], exp := [] }
def q63r12 : ARegion := { ops := [(.move (.var 0), none), (.nilck (.loc 0), none), (.fieldAddr 0 (.loc 0), none), (.call 80 [(.loc 0), (.cst (.int .u8 58))], none)], exp := [] }
def q63r13 : ARegion := { ops := [(.fieldAddr 2 (.var 3), none), (.load false 1 (.loc 0), none), (.move (.var 6), none), (.buildSl 1 (.str []) 1 [(0, (.loc 0))], none), (.append 9 1 16 (.loc 2) (.loc 0), none), (.fieldAddr 2 (.var 3), none), (.store 1 (.loc 0) (.loc 1), none)], exp := [(6, (.cst .u))] }
def q63r14 : ARegion := { ops := [(.fieldAddr 3 (.var 3), none), (.load false 1 (.loc 0), none), (.move (.var 0), none), (.move (.var 1), none), (.call 40 [(.loc 1), (.loc 0)], none), (.buildSl 4 (.agg [(.int .i64 0), (.str []), .nilSl, .nilSl]) 1 [(0, (.loc 0))], none), (.append 26 4 72 (.loc 4) (.loc 0), none), (.fieldAddr 3 (.var 3), none), (.store 1 (.loc 0) (.loc 1), none)], exp := [], draws := true, pairs := [(1, 4)], okPan := [4, 6, 8], preds := [[], [0], [], [], [3, 2], [2, 3, 4], [4, 3, 2, 5, 0, 1], [6, 5, 4, 3, 2, 1, 0], [0, 1, 2, 3, 4, 5, 6, 7]] }
def q63l15 : ACode := (.seq (.seq (.region q63r4) (.cond (.var 7) .skip (.exit 0))) (.block 1 (.seq (.seq (.region q63r5) (.cond (.var 8) (.region q63r6) .skip)) (.seq (.region q63r7) (.seq (.region q63r8) (.seq (.seq (.region q63r9) (.cond (.var 9) (.region q63r10) .skip)) (.seq (.region q63r11) (.seq (.region q63r12) (.seq (.region q63r13) (.region q63r14))))))))))
def q63r16 : ARegion := { ops := [(.load true 4 (.var 3), none), (.store 4 (.var 2) (.loc 0), none)], exp := [(3, (.cst .u))] }
def q63 : AFn := { nparams := 2, nslots := 10, slots := [0, 1, 4, 5, 6, 7, 8, 25, 30, 49], results := [.cell 2 true 4], body := (.seq (.region q63r0) (.seq (.region q63r1) (.seq (.region q63r2) (.seq (.region q63r3) (.seq (.block 0 (.loop [5, 6, 7, 8, 9] q63l15)) (.seq (.region q63r16) .ret)))))) }
theorem q63ok : fnOk Tryd.prog xfT gT Tryd.f63 q63 = true := by kernel_rfl
theorem q63at : Tryd.prog.funcs[63]? = some Tryd.f63 := by kernel_rfl
/-- cringle/ascii.IsDigit -/
def q64r0 : ARegion := { ops := [(.move (.cst (.bool false)), none)], exp := [(1, (.cst .u))] }
def q64r1 : ARegion := { ops := [(.move (.var 0), none), (.bin .sub (.loc 0) (.cst (.int .u8 48)), none), (.bin .lss (.loc 0) (.cst (.int .u8 10)), none), (.move (.loc 0), none)], exp := [(0, (.cst .u)), (1, (.loc 0))] }
def q64 : AFn := { nparams := 1, nslots := 2, slots := [0, 2], results := [.var 1], body := (.seq (.region q64r0) (.seq (.region q64r1) .ret)) }
theorem q64ok : fnOk Tryd.prog xfT gT Tryd.f64 q64 = true := by kernel_rfl
theorem q64at : Tryd.prog.funcs[64]? = some Tryd.f64 := by kernel_rfl
/-- (*cringle/json.parser).word -/
def q65r0 : ARegion := { ops := [(.move (.cst (.str [])), none)], exp := [(2, (.cst .u))] }
def q65r1 : ARegion := { ops := [(.move (.var 0), none), (.nilck (.loc 0), none), (.fieldAddr 0 (.loc 0), none), (.fieldAddr 1 (.loc 0), none), (.load false 1 (.loc 0), none), (.move (.loc 0), none)], exp := [(3, (.loc 0))] }
def q65r2 : ARegion := { ops := [(.move (.var 0), none), (.nilck (.loc 0), none), (.fieldAddr 0 (.loc 0), none), (.fieldAddr 1 (.loc 0), none), (.load false 1 (.loc 0), none), (.move (.var 0), none), (.nilck (.loc 0), none), (.fieldAddr 0 (.loc 0), none), (.fieldAddr 0 (.loc 0), none), (.load false 1 (.loc 0), none), (.len .str (.loc 0), none), (.bin .lss (.loc 6) (.loc 0), none), (.move (.loc 0), none), (.move (.var 1), some ((.loc 0), true)), (.move (.var 0), some ((.loc 1), true)), (.nilck (.loc 0), some ((.loc 2), true)), (.fieldAddr 0 (.loc 0), some ((.loc 3), true)), (.fieldAddr 0 (.loc 0), some ((.loc 4), true)), (.load false 1 (.loc 0), some ((.loc 5), true)), (.move (.var 0), some ((.loc 6), true)), (.nilck (.loc 0), some ((.loc 7), true)), (.fieldAddr 0 (.loc 0), some ((.loc 8), true)), (.fieldAddr 1 (.loc 0), some ((.loc 9), true)), (.load false 1 (.loc 0), some ((.loc 10), true)), (.idxS (.loc 5) (.loc 0), some ((.loc 11), true)), (.call 67 [(.loc 11), (.loc 0)], some ((.loc 12), true)), (.bin .geq (.loc 0) (.cst (.int .i64 0)), some ((.loc 13), true)), (.pick (.loc 14) (.loc 0) (.cst (.bool false)), none)], exp := [(4, (.loc 0))], draws := true, pairs := [], okPan := [25], preds := [[], [0], [0, 1], [1, 0, 2], [2, 0, 1, 3], [], [5], [5, 6], [6, 5, 7], [7, 5, 6, 8], [8, 6, 5, 7, 9], [9, 7, 5, 6, 8, 10, 3, 1, 0, 2, 4], [4, 2, 0, 1, 3, 10, 8, 6, 5, 7, 9, 11], [11, 9, 7, 5, 6, 8, 10, 3, 1, 0, 2, 4, 12], [11, 9, 7, 5, 6, 8, 10, 3, 1, 0, 2, 4, 12], [12, 4, 2, 0, 1, 3, 10, 8, 6, 5, 7, 9, 11, 14], [14, 11, 9, 7, 5, 6, 8, 10, 3, 1, 0, 2, 4, 12, 15], [15, 12, 4, 2, 0, 1, 3, 10, 8, 6, 5, 7, 9, 11, 14, 16], [16, 14, 11, 9, 7, 5, 6, 8, 10, 3, 1, 0, 2, 4, 12, 15, 17], [11, 9, 7, 5, 6, 8, 10, 3, 1, 0, 2, 4, 12], [12, 4, 2, 0, 1, 3, 10, 8, 6, 5, 7, 9, 11, 19], [19, 11, 9, 7, 5, 6, 8, 10, 3, 1, 0, 2, 4, 12, 20], [20, 12, 4, 2, 0, 1, 3, 10, 8, 6, 5, 7, 9, 11, 19, 21], [21, 19, 11, 9, 7, 5, 6, 8, 10, 3, 1, 0, 2, 4, 12, 20, 22], [22, 20, 19, 21, 23, 17, 15, 12, 4, 2, 0, 1, 3, 10, 8, 6, 5, 7, 9, 11, 14, 16, 18], [18, 16, 14, 15, 17, 23, 21, 19, 20, 22, 24, 12, 4, 2, 0, 1, 3, 10, 8, 6, 5, 7, 9, 11, 13], [13, 11, 9, 7, 5, 6, 8, 10, 3, 1, 0, 2, 4, 12, 24, 22, 20, 19, 21, 23, 17, 15, 14, 16, 18, 25], [25, 18, 16, 14, 15, 17, 23, 21, 19, 20, 22, 24, 13, 26, 11, 9, 7, 5, 6, 8, 10, 3, 1, 0, 2, 4, 12]] }
def q65r3 : ARegion := { ops := [(.move (.var 0), none), (.nilck (.loc 0), none), (.fieldAddr 0 (.loc 0), none), (.fieldAddr 1 (.loc 0), none), (.load false 1 (.loc 0), none), (.bin .add (.loc 0) (.cst (.int .i64 1)), none), (.nilck (.loc 5), none), (.fieldAddr 0 (.loc 0), none), (.fieldAddr 1 (.loc 0), none), (.store 1 (.loc 0) (.loc 3), none)], exp := [] }
def q65l4 : ACode := (.seq (.seq (.region q65r2) (.cond (.var 4) .skip (.exit 0))) (.block 1 (.region q65r3)))
def q65r5 : ARegion := { ops := [(.move (.var 0), none), (.nilck (.loc 0), none), (.fieldAddr 0 (.loc 0), none), (.fieldAddr 0 (.loc 0), none), (.load false 1 (.loc 0), none), (.move (.var 3), none), (.move (.var 0), none), (.nilck (.loc 0), none), (.fieldAddr 0 (.loc 0), none), (.fieldAddr 1 (.loc 0), none), (.load false 1 (.loc 0), none), (.sliceS (.loc 6) (some (.loc 5)) (some (.loc 0)), none), (.move (.loc 0), none)], exp := [(0, (.cst .u)), (2, (.loc 0)), (3, (.cst .u))], draws := true, pairs := [], okPan := [], preds := [[], [0], [0, 1], [1, 0, 2], [2, 0, 1, 3], [], [], [6], [6, 7], [7, 6, 8], [8, 6, 7, 9], [9, 7, 6, 8, 10, 5, 3, 1, 0, 2, 4], [4, 2, 0, 1, 3, 5, 10, 8, 6, 7, 9, 11]] }
def q65 : AFn := { nparams := 2, nslots := 5, slots := [0, 1, 4, 5, 38], results := [.var 2], body := (.seq (.region q65r0) (.seq (.region q65r1) (.seq (.block 0 (.loop [2, 4] q65l4)) (.seq (.region q65r5) .ret)))) }
theorem q65ok : fnOk Tryd.prog xfT gT Tryd.f65 q65 = true := by kernel_rfl
theorem q65at : Tryd.prog.funcs[65]? = some Tryd.f65 := by kernel_rfl
/-- cringle/json.isNumber -/
def q66r0 : ARegion := { ops := [(.move (.cst (.bool false)), none)], exp := [(1, (.cst .u))] }
def q66r1 : ARegion := { ops := [(.move (.var 0), none), (.call 81 [(.loc 0), (.cst (.str [45]))], none), (.move (.loc 0), none)], exp := [(0, (.loc 0))] }
def q66r2 : ARegion := { ops := [(.move (.var 0), none), (.call 82 [(.loc 0)], none), (.move (.loc 0), none)], exp := [(2, (.loc 0))] }
def q66r3 : ARegion := { ops := [(.move (.var 2), none), (.bin .eql (.loc 0) (.cst (.int .i64 0)), none), (.move (.loc 0), none), (.move (.var 2), some ((.loc 0), false)), (.bin .gtr (.loc 0) (.cst (.int .i64 1)), some ((.loc 1), false)), (.move (.loc 0), some ((.loc 2), false)), (.move (.var 0), some ((.loc 0), true)), (.idxS (.loc 0) (.cst (.int .i64 0)), some ((.loc 1), true)), (.bin .eql (.loc 0) (.cst (.int .u8 48)), some ((.loc 2), true)), (.pick (.loc 3) (.loc 0) (.cst (.bool false)), some ((.loc 6), false)), (.pick (.loc 7) (.cst (.bool true)) (.loc 0), none)], exp := [(8, (.loc 0))] }
def q66r4 : ARegion := { ops := [(.move (.cst (.bool false)), none)], exp := [(1, (.loc 0))] }
def q66r5 : ARegion := { ops := [(.move (.var 0), none), (.move (.var 2), none), (.sliceS (.loc 1) (some (.loc 0)) none, none), (.move (.loc 0), none)], exp := [(0, (.loc 0)), (2, (.cst .u))] }
def q66r6 : ARegion := { ops := [(.move (.var 0), none), (.call 83 [(.loc 0), (.cst (.str [46]))], none), (.move (.loc 0), none), (.extract 0 (.loc 0), none), (.extract 1 (.loc 1), none), (.move (.loc 1), none), (.move (.loc 1), none)], exp := [(3, (.loc 1)), (4, (.loc 0))] }
def q66r7 : ARegion := { ops := [(.move (.var 4), none)], exp := [(4, (.cst .u)), (9, (.loc 0))] }
def q66r8 : ARegion := { ops := [(.move (.var 3), none), (.call 82 [(.loc 0)], none), (.move (.loc 0), none)], exp := [(5, (.loc 0))] }
def q66r9 : ARegion := { ops := [(.move (.var 5), none), (.bin .eql (.loc 0) (.cst (.int .i64 0)), none)], exp := [(10, (.loc 0))] }
def q66r10 : ARegion := { ops := [(.move (.cst (.bool false)), none)], exp := [(1, (.loc 0))] }
def q66r11 : ARegion := { ops := [(.move (.var 3), none), (.move (.var 5), none), (.sliceS (.loc 1) (some (.loc 0)) none, none), (.move (.loc 0), none)], exp := [(0, (.loc 0)), (3, (.cst .u)), (5, (.cst .u))] }
def q66r12 : ARegion := { ops := [(.move (.var 0), none), (.bin .eql (.loc 0) (.cst (.str [])), none)], exp := [(11, (.loc 0))] }
def q66r13 : ARegion := { ops := [(.move (.cst (.bool true)), none)], exp := [(1, (.loc 0))] }
def q66r14 : ARegion := { ops := [(.move (.var 0), none), (.move (.var 0), none), (.len .str (.loc 0), none), (.min (.loc 0) (.cst (.int .i64 2)), none), (.sliceS (.loc 3) (some (.cst (.int .i64 1))) (some (.loc 0)), none), (.call 84 [(.loc 0), (.cst (.str [43, 45]))], none), (.move (.loc 0), none)], exp := [(6, (.loc 0))] }
def q66r15 : ARegion := { ops := [(.move (.var 6), none), (.move (.var 0), none), (.move (.var 0), none), (.len .str (.loc 0), none), (.min (.loc 0) (.cst (.int .i64 2)), none), (.sliceS (.loc 3) (some (.loc 0)) none, none), (.bin .add (.loc 5) (.loc 0), none), (.move (.loc 0), none)], exp := [(6, (.cst .u)), (7, (.loc 0))] }
def q66r16 : ARegion := { ops := [(.move (.var 0), none), (.idxS (.loc 0) (.cst (.int .i64 0)), none), (.bin .eql (.loc 0) (.cst (.int .u8 101)), none), (.move (.loc 0), none), (.move (.var 0), some ((.loc 0), false)), (.idxS (.loc 0) (.cst (.int .i64 0)), some ((.loc 1), false)), (.bin .eql (.loc 0) (.cst (.int .u8 69)), some ((.loc 2), false)), (.pick (.loc 3) (.cst (.bool true)) (.loc 0), none), (.move (.loc 0), none), (.move (.var 7), some ((.loc 0), true)), (.bin .neq (.loc 0) (.cst (.str [])), some ((.loc 1), true)), (.pick (.loc 2) (.loc 0) (.cst (.bool false)), none), (.move (.loc 0), none), (.move (.var 7), some ((.loc 0), true)), (.call 82 [(.loc 0)], some ((.loc 1), true)), (.move (.var 7), some ((.loc 2), true)), (.len .str (.loc 0), some ((.loc 3), true)), (.bin .eql (.loc 2) (.loc 0), some ((.loc 4), true)), (.pick (.loc 5) (.loc 0) (.cst (.bool false)), none), (.move (.loc 0), none)], exp := [(0, (.cst .u)), (1, (.loc 0)), (7, (.cst .u))] }
def q66 : AFn := { nparams := 1, nslots := 12, slots := [0, 2, 3, 4, 5, 6, 7, 8, 23, 32, 36, 41], results := [.var 1], body := (.seq (.region q66r0) (.seq (.region q66r1) (.seq (.region q66r2) (.seq (.seq (.region q66r3) (.cond (.var 8) (.seq (.region q66r4) .ret) .skip)) (.seq (.region q66r5) (.seq (.seq (.region q66r6) (.seq (.region q66r7) (.cond (.var 9) (.seq (.region q66r8) (.seq (.seq (.region q66r9) (.cond (.var 10) (.seq (.region q66r10) .ret) .skip)) (.region q66r11))) .skip))) (.seq (.seq (.region q66r12) (.cond (.var 11) (.seq (.region q66r13) .ret) .skip)) (.seq (.region q66r14) (.seq (.region q66r15) (.seq (.region q66r16) .ret)))))))))) }
theorem q66ok : fnOk Tryd.prog xfT gT Tryd.f66 q66 = true := by kernel_rfl
theorem q66at : Tryd.prog.funcs[66]? = some Tryd.f66 := by kernel_rfl
/-- strings.IndexByte -/
def q67r0 : ARegion := { ops := [(.move (.cst (.int .i64 0)), none)], exp := [(2, (.cst .u))] }
def q67r1 : ARegion := { ops := [(.move (.var 0), none), (.move (.var 1), none), (.call 85 [(.loc 1), (.loc 0)], none), (.move (.loc 0), none)], exp := [(0, (.cst .u)), (1, (.cst .u)), (2, (.loc 0))] }
def q67 : AFn := { nparams := 2, nslots := 3, slots := [0, 1, 4], results := [.var 2], body := (.seq (.region q67r0) (.seq (.region q67r1) .ret)) }
theorem q67ok : fnOk Tryd.prog xfT gT Tryd.f67 q67 = true := by kernel_rfl
theorem q67at : Tryd.prog.funcs[67]? = some Tryd.f67 := by kernel_rfl
/-- (*cringle/cringleref07.parser).escape -/
def q68r0 : ARegion := { ops := [(.move (.cst .nilSl), none)], exp := [(1, (.cst .u))] }
def q68r1 : ARegion := { ops := [(.move (.var 0), none), (.nilck (.loc 0), none), (.fieldAddr 1 (.loc 0), none), (.load false 1 (.loc 0), none), (.move (.loc 0), none)], exp := [(2, (.loc 0))] }
def q68r2 : ARegion := { ops := [(.move (.var 2), none), (.bin .add (.loc 0) (.cst (.int .i64 1)), none), (.move (.var 0), none), (.nilck (.loc 0), none), (.fieldAddr 0 (.loc 0), none), (.load false 1 (.loc 0), none), (.len .str (.loc 0), none), (.bin .geq (.loc 5) (.loc 0), none)], exp := [(11, (.loc 0))] }
def q68r3 : ARegion := { ops := [(.move (.var 0), none), (.move (.var 0), none), (.nilck (.loc 0), none), (.fieldAddr 0 (.loc 0), none), (.load false 1 (.loc 0), none), (.len .str (.loc 0), none), (.call 25 [(.loc 5), (.cst (.int .i64 4)), (.loc 0)], none)], exp := [(0, (.cst .u))] }
def q68r4 : ARegion := { ops := [(.move (.cst .nilSl), none)], exp := [(1, (.loc 0))] }
def q68r5 : ARegion := { ops := [(.move (.var 0), none), (.nilck (.loc 0), none), (.fieldAddr 0 (.loc 0), none), (.load false 1 (.loc 0), none), (.move (.var 2), none), (.bin .add (.loc 0) (.cst (.int .i64 1)), none), (.idxS (.loc 2) (.loc 0), none), (.move (.loc 0), none)], exp := [(3, (.loc 0))] }
def q68r6 : ARegion := { ops := [(.move (.cst (.str [98, 116, 110, 102, 114, 34, 92, 47])), none), (.move (.cst (.str [8, 9, 10, 12, 13, 34, 92, 47])), none)], exp := [(4, (.loc 1)), (5, (.loc 0))] }
def q68r7 : ARegion := { ops := [(.move (.cst (.int .i64 0)), none)], exp := [(6, (.loc 0))] }
def q68r8 : ARegion := { ops := [(.move (.var 6), none), (.move (.var 4), none), (.len .str (.loc 0), none), (.bin .lss (.loc 2) (.loc 0), none)], exp := [(12, (.loc 0))] }
def q68r9 : ARegion := { ops := [(.move (.var 4), none), (.move (.var 6), none), (.idxS (.loc 1) (.loc 0), none), (.move (.var 3), none), (.bin .eql (.loc 1) (.loc 0), none)], exp := [(13, (.loc 0))] }
def q68r10 : ARegion := { ops := [(.move (.var 0), none), (.move (.var 2), none), (.bin .add (.loc 0) (.cst (.int .i64 2)), none), (.nilck (.loc 2), none), (.fieldAddr 1 (.loc 0), none), (.store 1 (.loc 0) (.loc 2), none)], exp := [(0, (.cst .u)), (2, (.cst .u))] }
def q68r11 : ARegion := { ops := [(.move (.var 5), none), (.move (.var 6), none), (.idxS (.loc 1) (.loc 0), none), (.buildSl 1 (.int .u8 0) 1 [(0, (.loc 0))], none), (.move (.loc 0), none)], exp := [(1, (.loc 0)), (5, (.cst .u)), (6, (.cst .u))] }
def q68r12 : ARegion := { ops := [(.move (.var 6), none), (.bin .add (.loc 0) (.cst (.int .i64 1)), none), (.move (.loc 0), none)], exp := [(6, (.loc 0))] }
def q68l13 : ACode := (.seq (.seq (.region q68r8) (.cond (.var 12) .skip (.exit 0))) (.seq (.block 1 (.seq (.region q68r9) (.cond (.var 13) (.seq (.region q68r10) (.seq (.region q68r11) .ret)) .skip))) (.region q68r12)))
def q68r14 : ARegion := { ops := [(.move (.var 3), none), (.bin .neq (.loc 0) (.cst (.int .u8 117)), none)], exp := [(3, (.cst .u)), (14, (.loc 0))] }
def q68r15 : ARegion := { ops := [(.move (.var 0), none), (.move (.var 2), none), (.call 25 [(.loc 1), (.cst (.int .i64 3)), (.loc 0)], none)], exp := [(0, (.cst .u)), (2, (.cst .u))] }
def q68r16 : ARegion := { ops := [(.move (.cst .nilSl), none)], exp := [(1, (.loc 0))] }
def q68r17 : ARegion := { ops := [(.move (.var 0), none), (.move (.var 2), none), (.bin .add (.loc 0) (.cst (.int .i64 2)), none), (.move (.var 2), none), (.call 86 [(.loc 3), (.loc 1), (.loc 0)], none), (.not (.loc 0), none)], exp := [(15, (.loc 0))] }
def q68r18 : ARegion := { ops := [(.move (.cst .nilSl), none)], exp := [(1, (.loc 0))] }
def q68r19 : ARegion := { ops := [(.move (.var 0), none), (.move (.var 2), none), (.bin .add (.loc 0) (.cst (.int .i64 2)), none), (.move (.var 2), none), (.call 87 [(.loc 3), (.loc 1), (.loc 0)], none), (.move (.loc 0), none)], exp := [(7, (.loc 0))] }
def q68r20 : ARegion := { ops := [(.move (.var 0), none), (.move (.var 2), none), (.bin .add (.loc 0) (.cst (.int .i64 6)), none), (.nilck (.loc 2), none), (.fieldAddr 1 (.loc 0), none), (.store 1 (.loc 0) (.loc 2), none)], exp := [] }
def q68r21 : ARegion := { ops := [(.move (.var 0), none), (.nilck (.loc 0), none), (.fieldAddr 3 (.loc 0), none), (.fieldAddr 0 (.loc 0), none), (.load false 1 (.loc 0), none), (.bin .neq (.loc 0) (.cst (.int .i64 0)), none), (.move (.loc 0), none), (.move (.var 7), some ((.loc 0), false)), (.bin .lss (.loc 0) (.cst (.int .i32 55296)), some ((.loc 1), false)), (.pick (.loc 2) (.cst (.bool true)) (.loc 0), none), (.move (.loc 0), none), (.move (.var 7), some ((.loc 0), false)), (.bin .gtr (.loc 0) (.cst (.int .i32 57343)), some ((.loc 1), false)), (.pick (.loc 2) (.cst (.bool true)) (.loc 0), none)], exp := [(16, (.loc 0))] }
def q68r22 : ARegion := { ops := [(.move (.var 7), none), (.buildSl 1 (.int .i32 0) 1 [(0, (.loc 0))], none), (.call 88 [(.cst .nilSl), (.loc 0)], none), (.move (.loc 0), none)], exp := [(1, (.loc 0)), (7, (.cst .u))] }
def q68r23 : ARegion := { ops := [(.move (.var 7), none), (.bin .geq (.loc 0) (.cst (.int .i32 56320)), none)], exp := [(17, (.loc 0))] }
def q68r24 : ARegion := { ops := [(.move (.var 0), none), (.move (.var 2), none), (.call 25 [(.loc 1), (.cst (.int .i64 3)), (.loc 0)], none)], exp := [(0, (.cst .u)), (2, (.cst .u))] }
def q68r25 : ARegion := { ops := [(.move (.cst .nilSl), none)], exp := [(1, (.loc 0))] }
def q68r26 : ARegion := { ops := [(.move (.cst (.str [92, 117])), none)], exp := [(8, (.loc 0))] }
def q68r27 : ARegion := { ops := [(.move (.cst (.int .i64 0)), none)], exp := [(9, (.loc 0))] }
def q68r28 : ARegion := { ops := [(.move (.var 9), none), (.bin .lss (.loc 0) (.cst (.int .i64 2)), none)], exp := [(18, (.loc 0))] }
def q68r29 : ARegion := { ops := [(.move (.var 0), none), (.nilck (.loc 0), none), (.fieldAddr 1 (.loc 0), none), (.load false 1 (.loc 0), none), (.move (.var 9), none), (.bin .add (.loc 1) (.loc 0), none), (.move (.var 0), none), (.nilck (.loc 0), none), (.fieldAddr 0 (.loc 0), none), (.load false 1 (.loc 0), none), (.len .str (.loc 0), none), (.bin .geq (.loc 5) (.loc 0), none)], exp := [(19, (.loc 0))], draws := true, pairs := [], okPan := [], preds := [[], [0], [0, 1], [1, 0, 2], [], [4, 2, 0, 1, 3], [], [6], [6, 7], [7, 6, 8], [8, 6, 7, 9], [9, 7, 6, 8, 10, 3, 1, 0, 2, 4, 5]] }
def q68r30 : ARegion := { ops := [(.move (.var 0), none), (.move (.var 0), none), (.nilck (.loc 0), none), (.fieldAddr 0 (.loc 0), none), (.load false 1 (.loc 0), none), (.len .str (.loc 0), none), (.call 25 [(.loc 5), (.cst (.int .i64 4)), (.loc 0)], none)], exp := [(0, (.cst .u))] }
def q68r31 : ARegion := { ops := [(.move (.cst .nilSl), none)], exp := [(1, (.loc 0))] }
def q68r32 : ARegion := { ops := [(.move (.var 0), none), (.nilck (.loc 0), none), (.fieldAddr 0 (.loc 0), none), (.load false 1 (.loc 0), none), (.move (.var 0), none), (.nilck (.loc 0), none), (.fieldAddr 1 (.loc 0), none), (.load false 1 (.loc 0), none), (.move (.var 9), none), (.bin .add (.loc 1) (.loc 0), none), (.idxS (.loc 6) (.loc 0), none), (.move (.var 8), none), (.move (.var 9), none), (.idxS (.loc 1) (.loc 0), none), (.bin .neq (.loc 3) (.loc 0), none)], exp := [(20, (.loc 0))], draws := true, pairs := [], okPan := [], preds := [[], [0], [0, 1], [1, 0, 2], [], [4], [4, 5], [5, 4, 6], [], [8, 6, 4, 5, 7], [7, 5, 4, 6, 8, 9, 2, 0, 1, 3], [], [], [12, 11], [11, 12, 13, 3, 1, 0, 2, 9, 8, 6, 4, 5, 7, 10]] }
def q68r33 : ARegion := { ops := [(.move (.var 0), none), (.move (.var 2), none), (.call 25 [(.loc 1), (.cst (.int .i64 3)), (.loc 0)], none)], exp := [(0, (.cst .u)), (2, (.cst .u))] }
def q68r34 : ARegion := { ops := [(.move (.cst .nilSl), none)], exp := [(1, (.loc 0))] }
def q68r35 : ARegion := { ops := [(.move (.var 9), none), (.bin .add (.loc 0) (.cst (.int .i64 1)), none), (.move (.loc 0), none)], exp := [(9, (.loc 0))] }
def q68l36 : ACode := (.seq (.seq (.region q68r28) (.cond (.var 18) .skip (.exit 2))) (.seq (.block 3 (.seq (.seq (.region q68r29) (.cond (.var 19) (.seq (.region q68r30) (.seq (.region q68r31) .ret)) .skip)) (.seq (.region q68r32) (.cond (.var 20) (.seq (.region q68r33) (.seq (.region q68r34) .ret)) .skip)))) (.region q68r35)))
def q68r37 : ARegion := { ops := [(.move (.var 0), none), (.move (.var 0), none), (.nilck (.loc 0), none), (.fieldAddr 1 (.loc 0), none), (.load false 1 (.loc 0), none), (.bin .add (.loc 0) (.cst (.int .i64 2)), none), (.move (.var 2), none), (.call 86 [(.loc 6), (.loc 1), (.loc 0)], none), (.not (.loc 0), none)], exp := [(21, (.loc 0))] }
def q68r38 : ARegion := { ops := [(.move (.cst .nilSl), none)], exp := [(1, (.loc 0))] }
def q68r39 : ARegion := { ops := [(.move (.var 0), none), (.move (.var 0), none), (.nilck (.loc 0), none), (.fieldAddr 1 (.loc 0), none), (.load false 1 (.loc 0), none), (.bin .add (.loc 0) (.cst (.int .i64 2)), none), (.move (.var 2), none), (.call 87 [(.loc 6), (.loc 1), (.loc 0)], none), (.move (.loc 0), none)], exp := [(10, (.loc 0))] }
def q68r40 : ARegion := { ops := [(.move (.var 0), none), (.nilck (.loc 0), none), (.fieldAddr 1 (.loc 0), none), (.load false 1 (.loc 0), none), (.bin .add (.loc 0) (.cst (.int .i64 6)), none), (.nilck (.loc 4), none), (.fieldAddr 1 (.loc 0), none), (.store 1 (.loc 0) (.loc 2), none)], exp := [] }
def q68r41 : ARegion := { ops := [(.move (.var 0), none), (.nilck (.loc 0), none), (.fieldAddr 3 (.loc 0), none), (.fieldAddr 0 (.loc 0), none), (.load false 1 (.loc 0), none), (.bin .eql (.loc 0) (.cst (.int .i64 0)), none), (.move (.loc 0), none), (.move (.var 10), some ((.loc 0), true)), (.bin .lss (.loc 0) (.cst (.int .i32 56320)), some ((.loc 1), true)), (.move (.loc 0), some ((.loc 2), true)), (.move (.var 10), some ((.loc 0), false)), (.bin .gtr (.loc 0) (.cst (.int .i32 57343)), some ((.loc 1), false)), (.pick (.loc 2) (.cst (.bool true)) (.loc 0), some ((.loc 5), true)), (.pick (.loc 6) (.loc 0) (.cst (.bool false)), none)], exp := [(22, (.loc 0))] }
def q68r42 : ARegion := { ops := [(.move (.var 0), none), (.move (.var 2), none), (.call 25 [(.loc 1), (.cst (.int .i64 3)), (.loc 0)], none)], exp := [(0, (.cst .u)), (2, (.cst .u))] }
def q68r43 : ARegion := { ops := [(.move (.var 7), none), (.bin .sub (.loc 0) (.cst (.int .i32 55296)), none), (.bin .mul (.loc 0) (.cst (.int .i32 1024)), none), (.bin .add (.cst (.int .i32 65536)) (.loc 0), none), (.move (.var 10), none), (.bin .add (.loc 1) (.loc 0), none), (.bin .sub (.loc 0) (.cst (.int .i32 56320)), none), (.buildSl 1 (.int .i32 0) 1 [(0, (.loc 0))], none), (.call 88 [(.cst .nilSl), (.loc 0)], none), (.move (.loc 0), none)], exp := [(1, (.loc 0)), (7, (.cst .u)), (10, (.cst .u))] }
def q68 : AFn := { nparams := 1, nslots := 23, slots := [0, 2, 3, 4, 5, 6, 7, 8, 9, 10, 11, 23, 41, 48, 59, 68, 92, 97, 102, 116, 138, 150, 179], results := [.var 1], body := (.seq (.region q68r0) (.seq (.region q68r1) (.seq (.seq (.region q68r2) (.cond (.var 11) (.seq (.region q68r3) (.seq (.region q68r4) .ret)) .skip)) (.seq (.region q68r5) (.seq (.region q68r6) (.seq (.seq (.region q68r7) (.block 0 (.loop [1, 7, 8, 9, 10, 11, 12, 13, 14, 15, 16, 17, 18, 19, 20, 21, 22] q68l13))) (.seq (.seq (.region q68r14) (.cond (.var 14) (.seq (.region q68r15) (.seq (.region q68r16) .ret)) .skip)) (.seq (.seq (.region q68r17) (.cond (.var 15) (.seq (.region q68r18) .ret) .skip)) (.seq (.region q68r19) (.seq (.region q68r20) (.seq (.seq (.region q68r21) (.cond (.var 16) (.seq (.region q68r22) .ret) .skip)) (.seq (.seq (.region q68r23) (.cond (.var 17) (.seq (.region q68r24) (.seq (.region q68r25) .ret)) .skip)) (.seq (.region q68r26) (.seq (.seq (.region q68r27) (.block 2 (.loop [1, 3, 4, 5, 6, 10, 11, 12, 13, 14, 15, 16, 17, 18, 19, 20, 21, 22] q68l36))) (.seq (.seq (.region q68r37) (.cond (.var 21) (.seq (.region q68r38) .ret) .skip)) (.seq (.region q68r39) (.seq (.region q68r40) (.seq (.seq (.region q68r41) (.cond (.var 22) (.region q68r42) .skip)) (.seq (.region q68r43) .ret))))))))))))))))))) }
theorem q68ok : fnOk Tryd.prog xfT gT Tryd.f68 q68 = true := by kernel_rfl
theorem q68at : Tryd.prog.funcs[68]? = some Tryd.f68 := by kernel_rfl
/-- cringle/cringleref07.num -/
def q69r0 : ARegion := { ops := [(.move (.cst (.bool false)), none)], exp := [(1, (.cst .u))] }
def q69r1 : ARegion := { ops := [(.move (.var 0), none), (.call 45 [(.loc 0)], none), (.move (.loc 0), none), (.move (.var 0), some ((.loc 0), false)), (.bin .eql (.loc 0) (.cst (.int .u8 45)), some ((.loc 1), false)), (.pick (.loc 2) (.cst (.bool true)) (.loc 0), none), (.move (.loc 0), none), (.move (.var 0), some ((.loc 0), false)), (.bin .eql (.loc 0) (.cst (.int .u8 43)), some ((.loc 1), false)), (.pick (.loc 2) (.cst (.bool true)) (.loc 0), none), (.move (.loc 0), none), (.move (.var 0), some ((.loc 0), false)), (.bin .eql (.loc 0) (.cst (.int .u8 46)), some ((.loc 1), false)), (.pick (.loc 2) (.cst (.bool true)) (.loc 0), none), (.move (.loc 0), none), (.move (.var 0), some ((.loc 0), false)), (.bin .eql (.loc 0) (.cst (.int .u8 101)), some ((.loc 1), false)), (.pick (.loc 2) (.cst (.bool true)) (.loc 0), none), (.move (.loc 0), none), (.move (.var 0), some ((.loc 0), false)), (.bin .eql (.loc 0) (.cst (.int .u8 69)), some ((.loc 1), false)), (.pick (.loc 2) (.cst (.bool true)) (.loc 0), none), (.move (.loc 0), none)], exp := [(0, (.cst .u)), (1, (.loc 0))] }
def q69 : AFn := { nparams := 1, nslots := 2, slots := [0, 2], results := [.var 1], body := (.seq (.region q69r0) (.seq (.region q69r1) .ret)) }
theorem q69ok : fnOk Tryd.prog xfT gT Tryd.f69 q69 = true := by kernel_rfl
theorem q69at : Tryd.prog.funcs[69]? = some Tryd.f69 := by kernel_rfl
/-- cringle/cringleref07.digits -/
def q70r0 : ARegion := { ops := [(.move (.cst (.int .i64 0)), none)], exp := [(1, (.cst .u))] }
def q70r1 : ARegion := { ops := [(.move (.cst (.int .i64 0)), none)], exp := [(2, (.loc 0))] }
def q70r2 : ARegion := { ops := [(.move (.var 2), none), (.move (.var 0), none), (.len .str (.loc 0), none), (.bin .lss (.loc 2) (.loc 0), none), (.move (.loc 0), none), (.move (.var 0), some ((.loc 0), true)), (.move (.var 2), some ((.loc 1), true)), (.idxS (.loc 1) (.loc 0), some ((.loc 2), true)), (.call 45 [(.loc 0)], some ((.loc 3), true)), (.pick (.loc 4) (.loc 0) (.cst (.bool false)), none)], exp := [(3, (.loc 0))] }
def q70r3 : ARegion := { ops := [(.move (.var 2), none), (.bin .add (.loc 0) (.cst (.int .i64 1)), none), (.move (.loc 0), none)], exp := [(2, (.loc 0))] }
def q70l4 : ACode := (.seq (.seq (.region q70r2) (.cond (.var 3) .skip (.exit 0))) (.block 1 (.region q70r3)))
def q70r5 : ARegion := { ops := [(.move (.var 2), none), (.move (.loc 0), none)], exp := [(1, (.loc 0)), (2, (.cst .u))] }
def q70 : AFn := { nparams := 1, nslots := 4, slots := [0, 2, 3, 13], results := [.var 1], body := (.seq (.region q70r0) (.seq (.region q70r1) (.seq (.block 0 (.loop [1, 3] q70l4)) (.seq (.region q70r5) .ret)))) }
theorem q70ok : fnOk Tryd.prog xfT gT Tryd.f70 q70 = true := by kernel_rfl
theorem q70at : Tryd.prog.funcs[70]? = some Tryd.f70 := by kernel_rfl
/-- (*cringle/cringleref07.parser).more -/
def q71r0 : ARegion := { ops := [(.move (.cst (.bool false)), none)], exp := [(3, (.cst .u))] }
def q71r1 : ARegion := { ops := [(.move (.var 0), none), (.call 43 [(.loc 0)], none), (.move (.loc 0), none)], exp := [(4, (.loc 0))] }
def q71r2 : ARegion := { ops := [(.move (.var 0), none), (.nilck (.loc 0), none), (.fieldAddr 3 (.loc 0), none), (.fieldAddr 0 (.loc 0), none), (.load false 1 (.loc 0), none), (.bin .neq (.loc 0) (.cst (.int .i64 0)), none), (.move (.loc 0), none)], exp := [(5, (.loc 0))] }
def q71r3 : ARegion := { ops := [(.move (.cst (.bool false)), none)], exp := [(3, (.loc 0))] }
def q71r4 : ARegion := { ops := [(.move (.var 4), none), (.move (.var 2), none), (.bin .eql (.loc 1) (.loc 0), none), (.move (.loc 0), none)], exp := [(2, (.cst .u)), (6, (.loc 0))] }
def q71r5 : ARegion := { ops := [(.move (.var 0), none), (.nilck (.loc 0), none), (.fieldAddr 1 (.loc 0), none), (.load false 1 (.loc 0), none), (.bin .add (.loc 0) (.cst (.int .i64 1)), none), (.nilck (.loc 4), none), (.fieldAddr 1 (.loc 0), none), (.store 1 (.loc 0) (.loc 2), none)], exp := [(0, (.cst .u))] }
def q71r6 : ARegion := { ops := [(.move (.cst (.bool false)), none)], exp := [(3, (.loc 0))] }
def q71r7 : ARegion := { ops := [(.move (.var 1), none), (.move (.loc 0), none)], exp := [(1, (.cst .u)), (7, (.loc 0))] }
def q71r8 : ARegion := { ops := [(.move (.cst (.bool true)), none)], exp := [(3, (.loc 0))] }
def q71r9 : ARegion := { ops := [(.move (.var 4), none), (.bin .neq (.loc 0) (.cst (.int .u8 44)), none), (.move (.loc 0), none)], exp := [(4, (.cst .u)), (8, (.loc 0))] }
def q71r10 : ARegion := { ops := [(.move (.var 0), none), (.move (.var 0), none), (.nilck (.loc 0), none), (.fieldAddr 1 (.loc 0), none), (.load false 1 (.loc 0), none), (.call 25 [(.loc 4), (.cst (.int .i64 3)), (.loc 0)], none)], exp := [(0, (.cst .u))] }
def q71r11 : ARegion := { ops := [(.move (.cst (.bool false)), none)], exp := [(3, (.loc 0))] }
def q71r12 : ARegion := { ops := [(.move (.var 0), none), (.nilck (.loc 0), none), (.fieldAddr 1 (.loc 0), none), (.load false 1 (.loc 0), none), (.bin .add (.loc 0) (.cst (.int .i64 1)), none), (.nilck (.loc 4), none), (.fieldAddr 1 (.loc 0), none), (.store 1 (.loc 0) (.loc 2), none)], exp := [(0, (.cst .u))] }
def q71r13 : ARegion := { ops := [(.move (.cst (.bool true)), none)], exp := [(3, (.loc 0))] }
def q71 : AFn := { nparams := 3, nslots := 9, slots := [0, 1, 2, 6, 7, 10, 17, 28, 30], results := [.var 3], body := (.seq (.region q71r0) (.seq (.region q71r1) (.seq (.block 0 (.seq (.region q71r2) (.cond (.var 5) (.seq (.region q71r3) .ret) (.seq (.region q71r4) (.cond (.var 6) (.seq (.region q71r5) (.seq (.region q71r6) .ret)) (.seq (.region q71r7) (.cond (.var 7) (.seq (.region q71r8) .ret) (.seq (.region q71r9) (.cond (.var 8) (.seq (.region q71r10) (.seq (.region q71r11) .ret)) .skip))))))))) (.seq (.region q71r12) (.seq (.region q71r13) .ret))))) }
theorem q71ok : fnOk Tryd.prog xfT gT Tryd.f71 q71 = true := by kernel_rfl
theorem q71at : Tryd.prog.funcs[71]? = some Tryd.f71 := by kernel_rfl
/-- cringle/cringleref01.Has -/
def q72r0 : ARegion := { ops := [(.move (.cst (.bool false)), none)], exp := [(2, (.cst .u))] }
def q72r1 : ARegion := { ops := [(.move (.cst (.int .i64 0)), none)], exp := [(3, (.loc 0))] }
def q72r2 : ARegion := { ops := [(.move (.var 3), none), (.move (.var 0), none), (.len .sli (.loc 0), none), (.bin .lss (.loc 2) (.loc 0), none)], exp := [(4, (.loc 0))] }
def q72r3 : ARegion := { ops := [(.move (.var 0), none), (.move (.var 3), none), (.idxAddr 1 (.loc 1) (.loc 0), none), (.load false 1 (.loc 0), none), (.move (.var 1), none), (.bin .eql (.loc 1) (.loc 0), none)], exp := [(5, (.loc 0))] }
def q72r4 : ARegion := { ops := [(.move (.cst (.bool true)), none)], exp := [(2, (.loc 0))] }
def q72r5 : ARegion := { ops := [(.move (.var 3), none), (.bin .add (.loc 0) (.cst (.int .i64 1)), none), (.move (.loc 0), none)], exp := [(3, (.loc 0))] }
def q72l6 : ACode := (.seq (.seq (.region q72r2) (.cond (.var 4) .skip (.exit 0))) (.seq (.block 1 (.seq (.region q72r3) (.cond (.var 5) (.seq (.region q72r4) .ret) .skip))) (.region q72r5)))
def q72r7 : ARegion := { ops := [(.move (.cst (.bool false)), none)], exp := [(2, (.loc 0))] }
def q72 : AFn := { nparams := 2, nslots := 6, slots := [0, 1, 4, 5, 9, 17], results := [.var 2], body := (.seq (.region q72r0) (.seq (.seq (.region q72r1) (.block 0 (.loop [2, 4, 5] q72l6))) (.seq (.region q72r7) .ret))) }
theorem q72ok : fnOk Tryd.prog xfT gT Tryd.f72 q72 = true := by kernel_rfl
theorem q72at : Tryd.prog.funcs[72]? = some Tryd.f72 := by kernel_rfl
/-- (*strings.Builder).copyCheck -/
def q73r0 : ARegion := { ops := [(.move (.var 0), none), (.nilck (.loc 0), none), (.fieldAddr 0 (.loc 0), none), (.load false 1 (.loc 0), none), (.eq false (.leaf .ptr) (.loc 0) (.cst .nilPtr), none)], exp := [(1, (.loc 0))] }
def q73r1 : ARegion := { ops := [(.move (.var 0), none), (.move (.var 0), none), (.convP (.loc 0), none), (.move (.loc 0), none), (.convU [(60, 2, 0)] (.loc 0), none), (.nilck (.loc 4), none), (.fieldAddr 0 (.loc 0), none), (.store 1 (.loc 0) (.loc 2), none)], exp := [(0, (.cst .u))] }
def q73r2 : ARegion := { ops := [(.move (.var 0), none), (.nilck (.loc 0), none), (.fieldAddr 0 (.loc 0), none), (.load false 1 (.loc 0), none), (.move (.var 0), none), (.eq true (.leaf .ptr) (.loc 1) (.loc 0), none)], exp := [(0, (.cst .u)), (2, (.loc 0))] }
def q73 : AFn := { nparams := 1, nslots := 3, slots := [0, 6, 19], results := [], body := (.seq (.region q73r0) (.cond (.var 1) (.region q73r1) (.seq (.region q73r2) (.cond (.var 2) .stuck .skip)))) }
theorem q73ok : fnOk Tryd.prog xfT gT Tryd.f73 q73 = true := by kernel_rfl
theorem q73at : Tryd.prog.funcs[73]? = some Tryd.f73 := by kernel_rfl
/-- cringle/json.isTwice -/
def q74r0 : ARegion := { ops := [(.move (.cst (.bool false)), none)], exp := [(1, (.cst .u))] }
def q74r1 : ARegion := { ops := [(.mkMap, none), (.move (.loc 0), none)], exp := [(2, (.loc 0))] }
def q74r2 : ARegion := { ops := [(.move (.var 0), none), (.len .sli (.loc 0), none), (.move (.cst (.int .i64 0)), none)], exp := [(0, (.cst .u)), (4, (.loc 2)), (5, (.loc 1)), (6, (.loc 0))] }
def q74r3 : ARegion := { ops := [(.bin .lss (.var 6) (.var 5), none)], exp := [(7, (.loc 0))] }
def q74r4 : ARegion := { ops := [(.idxAddr 1 (.var 4) (.var 6), none), (.load false 1 (.loc 0), none), (.move (.loc 0), none)], exp := [(3, (.loc 0))] }
def q74r5 : ARegion := { ops := [(.move (.var 2), none), (.move (.var 3), none), (.lookup .str (.bool false) false (.loc 1) (.loc 0), none)], exp := [(8, (.loc 0))] }
def q74r6 : ARegion := { ops := [(.move (.cst (.bool true)), none)], exp := [(1, (.loc 0))] }
def q74r7 : ARegion := { ops := [(.move (.var 2), none), (.move (.var 3), none), (.mapUpd .str (.loc 1) (.loc 0) (.cst (.bool true)), none)], exp := [(3, (.cst .u))] }
def q74r8 : ARegion := { ops := [(.bin .add (.var 6) (.cst (.int .i64 1)), none), (.move (.loc 0), none)], exp := [(6, (.loc 0))] }
def q74l9 : ACode := (.seq (.region q74r3) (.seq (.cond (.var 7) .skip (.exit 0)) (.seq (.block 1 (.seq (.region q74r4) (.seq (.seq (.region q74r5) (.cond (.var 8) (.seq (.region q74r6) .ret) .skip)) (.region q74r7)))) (.region q74r8))))
def q74r10 : ARegion := { ops := [(.move (.cst (.bool false)), none)], exp := [(1, (.loc 0))] }
def q74 : AFn := { nparams := 1, nslots := 9, slots := [0, 2, 3, 5, 7, 8, 9, 10, 15], results := [.var 1], body := (.seq (.region q74r0) (.seq (.region q74r1) (.seq (.seq (.region q74r2) (.block 0 (.loop [0, 1, 3, 7, 8] q74l9))) (.seq (.region q74r10) .ret)))) }
theorem q74ok : fnOk Tryd.prog xfT gT Tryd.f74 q74 = true := by kernel_rfl
theorem q74at : Tryd.prog.funcs[74]? = some Tryd.f74 := by kernel_rfl
/-- slices.ContainsFunc[[]string,string] -/
def q75r0 : ARegion := { ops := [(.move (.cst (.bool false)), none)], exp := [(2, (.cst .u))] }
def q75r1 : ARegion := { ops := [(.move (.var 0), none), (.move (.var 1), none), (.call 90 [(.loc 1), (.loc 0)], none), (.bin .geq (.loc 0) (.cst (.int .i64 0)), none), (.move (.loc 0), none)], exp := [(0, (.cst .u)), (1, (.cst .u)), (2, (.loc 0))] }
def q75 : AFn := { nparams := 2, nslots := 3, slots := [0, 1, 4], results := [.var 2], body := (.seq (.region q75r0) (.seq (.region q75r1) .ret)) }
theorem q75ok : fnOk Tryd.prog xfT gT Tryd.f75 q75 = true := by kernel_rfl
theorem q75at : Tryd.prog.funcs[75]? = some Tryd.f75 := by kernel_rfl
/-- cringle/json.isOne$1 -/
def q76r0 : ARegion := { ops := [(.move (.cst (.bool false)), none)], exp := [(1, (.cst .u))] }
def q76r1 : ARegion := { ops := [(.move (.var 0), none), (.call 22 [(.loc 0)], none), (.not (.loc 0), none), (.move (.loc 0), none)], exp := [(0, (.cst .u)), (1, (.loc 0))] }
def q76 : AFn := { nparams := 1, nslots := 2, slots := [0, 2], results := [.var 1], body := (.seq (.region q76r0) (.seq (.region q76r1) .ret)) }
theorem q76ok : fnOk Tryd.prog xfT gT Tryd.f76 q76 = true := by kernel_rfl
theorem q76at : Tryd.prog.funcs[76]? = some Tryd.f76 := by kernel_rfl
/-- (*cringle/json.cursor).peek -/
def q77r0 : ARegion := { ops := [(.move (.cst (.int .u8 0)), none)], exp := [(1, (.cst .u))] }
def q77r1 : ARegion := { ops := [(.move (.var 0), none), (.nilck (.loc 0), none), (.fieldAddr 1 (.loc 0), none), (.load false 1 (.loc 0), none), (.move (.var 0), none), (.nilck (.loc 0), none), (.fieldAddr 0 (.loc 0), none), (.load false 1 (.loc 0), none), (.len .str (.loc 0), none), (.bin .geq (.loc 5) (.loc 0), none)], exp := [(2, (.loc 0))], draws := true, pairs := [], okPan := [], preds := [[], [0], [0, 1], [1, 0, 2], [], [4], [4, 5], [5, 4, 6], [6, 4, 5, 7], [7, 5, 4, 6, 8, 2, 0, 1, 3]] }
def q77r2 : ARegion := { ops := [(.move (.var 0), none), (.move (.var 0), none), (.nilck (.loc 0), none), (.fieldAddr 0 (.loc 0), none), (.load false 1 (.loc 0), none), (.len .str (.loc 0), none), (.call 42 [(.loc 5), (.cst (.int .i64 4)), (.loc 0)], none)], exp := [] }
def q77r3 : ARegion := { ops := [(.move (.var 0), none), (.nilck (.loc 0), none), (.fieldAddr 0 (.loc 0), none), (.load false 1 (.loc 0), none), (.move (.var 0), none), (.nilck (.loc 0), none), (.fieldAddr 1 (.loc 0), none), (.load false 1 (.loc 0), none), (.idxS (.loc 4) (.loc 0), none), (.move (.loc 0), none)], exp := [(0, (.cst .u)), (1, (.loc 0))], draws := true, pairs := [], okPan := [], preds := [[], [0], [0, 1], [1, 0, 2], [], [4], [4, 5], [5, 4, 6], [6, 4, 5, 7, 2, 0, 1, 3], [3, 1, 0, 2, 7, 5, 4, 6, 8]] }
def q77 : AFn := { nparams := 1, nslots := 3, slots := [0, 2, 12], results := [.var 1], body := (.seq (.region q77r0) (.seq (.seq (.region q77r1) (.cond (.var 2) (.region q77r2) .skip)) (.seq (.region q77r3) .ret))) }
theorem q77ok : fnOk Tryd.prog xfT gT Tryd.f77 q77 = true := by kernel_rfl
theorem q77at : Tryd.prog.funcs[77]? = some Tryd.f77 := by kernel_rfl
/-- (*cringle/json.parser).escape -/
def q78r0 : ARegion := { ops := [(.move (.cst .nilSl), none)], exp := [(2, (.cst .u))] }
def q78r1 : ARegion := { ops := [(.move (.var 0), none), (.nilck (.loc 0), none), (.fieldAddr 0 (.loc 0), none), (.fieldAddr 1 (.loc 0), none), (.load false 1 (.loc 0), none), (.move (.loc 0), none)], exp := [(3, (.loc 0))] }
def q78r2 : ARegion := { ops := [(.move (.var 0), none), (.nilck (.loc 0), none), (.fieldAddr 0 (.loc 0), none), (.fieldAddr 1 (.loc 0), none), (.load false 1 (.loc 0), none), (.bin .add (.loc 0) (.cst (.int .i64 1)), none), (.nilck (.loc 5), none), (.fieldAddr 0 (.loc 0), none), (.fieldAddr 1 (.loc 0), none), (.store 1 (.loc 0) (.loc 3), none)], exp := [] }
def q78r3 : ARegion := { ops := [(.move (.var 0), none), (.nilck (.loc 0), none), (.fieldAddr 0 (.loc 0), none), (.call 77 [(.loc 0)], none), (.move (.loc 0), none)], exp := [(4, (.loc 0))] }
def q78r4 : ARegion := { ops := [(.move (.var 4), none), (.call 67 [(.cst (.str [98, 116, 110, 102, 114, 34, 92, 47])), (.loc 0)], none), (.move (.loc 0), none)], exp := [(5, (.loc 0))] }
def q78r5 : ARegion := { ops := [(.move (.var 5), none), (.bin .geq (.loc 0) (.cst (.int .i64 0)), none)], exp := [(6, (.loc 0))] }
def q78r6 : ARegion := { ops := [(.move (.var 0), none), (.nilck (.loc 0), none), (.fieldAddr 0 (.loc 0), none), (.fieldAddr 1 (.loc 0), none), (.load false 1 (.loc 0), none), (.bin .add (.loc 0) (.cst (.int .i64 1)), none), (.nilck (.loc 5), none), (.fieldAddr 0 (.loc 0), none), (.fieldAddr 1 (.loc 0), none), (.store 1 (.loc 0) (.loc 3), none)], exp := [(0, (.cst .u))] }
def q78r7 : ARegion := { ops := [(.move (.var 1), none), (.move (.var 5), none), (.idxS (.cst (.str [8, 9, 10, 12, 13, 34, 92, 47])) (.loc 0), none), (.buildSl 1 (.int .u8 0) 1 [(0, (.loc 0))], none), (.append 5 1 1 (.loc 3) (.loc 0), none), (.move (.loc 0), none)], exp := [(1, (.cst .u)), (2, (.loc 0)), (5, (.cst .u))] }
def q78r8 : ARegion := { ops := [(.move (.var 4), none), (.bin .neq (.loc 0) (.cst (.int .u8 117)), none)], exp := [(4, (.cst .u)), (7, (.loc 0))] }
def q78r9 : ARegion := { ops := [(.move (.var 0), none), (.nilck (.loc 0), none), (.fieldAddr 0 (.loc 0), none), (.move (.var 3), none), (.call 42 [(.loc 1), (.cst (.int .i64 3)), (.loc 0)], none)], exp := [] }
def q78r10 : ARegion := { ops := [(.move (.var 0), none), (.nilck (.loc 0), none), (.fieldAddr 0 (.loc 0), none), (.fieldAddr 1 (.loc 0), none), (.load false 1 (.loc 0), none), (.bin .add (.loc 0) (.cst (.int .i64 1)), none), (.nilck (.loc 5), none), (.fieldAddr 0 (.loc 0), none), (.fieldAddr 1 (.loc 0), none), (.store 1 (.loc 0) (.loc 3), none)], exp := [] }
def q78r11 : ARegion := { ops := [(.move (.var 1), none), (.move (.var 0), none), (.move (.var 3), none), (.call 92 [(.loc 1), (.loc 0)], none), (.buildSl 1 (.int .i32 0) 1 [(0, (.loc 0))], none), (.call 91 [(.loc 4), (.loc 0)], none), (.move (.loc 0), none)], exp := [(0, (.cst .u)), (1, (.cst .u)), (2, (.loc 0)), (3, (.cst .u))] }
def q78 : AFn := { nparams := 2, nslots := 8, slots := [0, 1, 4, 5, 6, 7, 29, 45], results := [.var 2], body := (.seq (.region q78r0) (.seq (.region q78r1) (.seq (.region q78r2) (.seq (.region q78r3) (.seq (.seq (.region q78r4) (.seq (.region q78r5) (.cond (.var 6) (.seq (.region q78r6) (.seq (.region q78r7) .ret)) .skip))) (.seq (.seq (.region q78r8) (.cond (.var 7) (.region q78r9) .skip)) (.seq (.region q78r10) (.seq (.region q78r11) .ret)))))))) }
theorem q78ok : fnOk Tryd.prog xfT gT Tryd.f78 q78 = true := by kernel_rfl
theorem q78at : Tryd.prog.funcs[78]? = some Tryd.f78 := by kernel_rfl
/-- (*cringle/json.parser).more -/
def q79r0 : ARegion := { ops := [(.move (.cst (.bool false)), none)], exp := [(3, (.cst .u))] }
def q79r1 : ARegion := { ops := [(.move (.var 0), none), (.nilck (.loc 0), none), (.fieldAddr 0 (.loc 0), none), (.call 60 [(.loc 0)], none), (.move (.loc 0), none)], exp := [(4, (.loc 0))] }
def q79r2 : ARegion := { ops := [(.move (.var 4), none), (.move (.var 2), none), (.bin .eql (.loc 1) (.loc 0), none), (.move (.loc 0), none)], exp := [(2, (.cst .u)), (4, (.cst .u)), (5, (.loc 0))] }
def q79r3 : ARegion := { ops := [(.move (.var 0), none), (.nilck (.loc 0), none), (.fieldAddr 0 (.loc 0), none), (.fieldAddr 1 (.loc 0), none), (.load false 1 (.loc 0), none), (.bin .add (.loc 0) (.cst (.int .i64 1)), none), (.nilck (.loc 5), none), (.fieldAddr 0 (.loc 0), none), (.fieldAddr 1 (.loc 0), none), (.store 1 (.loc 0) (.loc 3), none)], exp := [(0, (.cst .u))] }
def q79r4 : ARegion := { ops := [(.move (.cst (.bool false)), none)], exp := [(3, (.loc 0))] }
def q79r5 : ARegion := { ops := [(.move (.var 1), none), (.not (.loc 0), none), (.move (.loc 0), none)], exp := [(1, (.cst .u)), (6, (.loc 0))] }
def q79r6 : ARegion := { ops := [(.move (.var 0), none), (.nilck (.loc 0), none), (.fieldAddr 0 (.loc 0), none), (.call 80 [(.loc 0), (.cst (.int .u8 44))], none)], exp := [(0, (.cst .u))] }
def q79r7 : ARegion := { ops := [(.move (.cst (.bool true)), none)], exp := [(3, (.loc 0))] }
def q79 : AFn := { nparams := 3, nslots := 7, slots := [0, 1, 2, 6, 7, 12, 25], results := [.var 3], body := (.seq (.region q79r0) (.seq (.seq (.region q79r1) (.block 0 (.seq (.region q79r2) (.cond (.var 5) (.seq (.region q79r3) (.seq (.region q79r4) .ret)) (.seq (.region q79r5) (.cond (.var 6) (.region q79r6) .skip)))))) (.seq (.region q79r7) .ret))) }
theorem q79ok : fnOk Tryd.prog xfT gT Tryd.f79 q79 = true := by kernel_rfl
theorem q79at : Tryd.prog.funcs[79]? = some Tryd.f79 := by kernel_rfl
/-- (*cringle/json.cursor).must -/
def q80r0 : ARegion := { ops := [(.move (.var 0), none), (.call 60 [(.loc 0)], none), (.move (.var 1), none), (.bin .neq (.loc 1) (.loc 0), none)], exp := [(1, (.cst .u)), (2, (.loc 0))] }
def q80r1 : ARegion := { ops := [(.move (.var 0), none), (.move (.var 0), none), (.nilck (.loc 0), none), (.fieldAddr 1 (.loc 0), none), (.load false 1 (.loc 0), none), (.call 42 [(.loc 4), (.cst (.int .i64 3)), (.loc 0)], none)], exp := [] }
def q80r2 : ARegion := { ops := [(.move (.var 0), none), (.nilck (.loc 0), none), (.fieldAddr 1 (.loc 0), none), (.load false 1 (.loc 0), none), (.bin .add (.loc 0) (.cst (.int .i64 1)), none), (.nilck (.loc 4), none), (.fieldAddr 1 (.loc 0), none), (.store 1 (.loc 0) (.loc 2), none)], exp := [(0, (.cst .u))] }
def q80 : AFn := { nparams := 2, nslots := 3, slots := [0, 1, 7], results := [], body := (.seq (.seq (.region q80r0) (.cond (.var 2) (.region q80r1) .skip)) (.region q80r2)) }
theorem q80ok : fnOk Tryd.prog xfT gT Tryd.f80 q80 = true := by kernel_rfl
theorem q80at : Tryd.prog.funcs[80]? = some Tryd.f80 := by kernel_rfl
/-- strings.TrimPrefix -/
def q81r0 : ARegion := { ops := [(.move (.cst (.str [])), none)], exp := [(2, (.cst .u))] }
def q81r1 : ARegion := { ops := [(.move (.var 0), none), (.move (.var 1), none), (.call 93 [(.loc 1), (.loc 0)], none), (.move (.loc 0), none)], exp := [(0, (.cst .u)), (1, (.cst .u)), (2, (.loc 0))] }
def q81 : AFn := { nparams := 2, nslots := 3, slots := [0, 1, 4], results := [.var 2], body := (.seq (.region q81r0) (.seq (.region q81r1) .ret)) }
theorem q81ok : fnOk Tryd.prog xfT gT Tryd.f81 q81 = true := by kernel_rfl
theorem q81at : Tryd.prog.funcs[81]? = some Tryd.f81 := by kernel_rfl
/-- cringle/json.run -/
def q82r0 : ARegion := { ops := [(.move (.cst (.int .i64 0)), none)], exp := [(1, (.cst .u))] }
def q82r1 : ARegion := { ops := [(.move (.var 0), none), (.len .str (.loc 0), none), (.move (.var 0), none), (.call 84 [(.loc 0), (.cst (.str [48, 49, 50, 51, 52, 53, 54, 55, 56, 57]))], none), (.len .str (.loc 0), none), (.bin .sub (.loc 3) (.loc 0), none), (.move (.loc 0), none)], exp := [(0, (.cst .u)), (1, (.loc 0))] }
def q82 : AFn := { nparams := 1, nslots := 2, slots := [0, 2], results := [.var 1], body := (.seq (.region q82r0) (.seq (.region q82r1) .ret)) }
theorem q82ok : fnOk Tryd.prog xfT gT Tryd.f82 q82 = true := by kernel_rfl
theorem q82at : Tryd.prog.funcs[82]? = some Tryd.f82 := by kernel_rfl
end Go.Proofs.YtinlfdkalijffaaDoor.Am.Q
