import Derived.Test.YtinlfdkalijffaaDoorKQ0
set_option linter.unusedSimpArgs false
set_option linter.unusedVariables false
/- MADE BY PROGRAM (Trans.lean): functions as texts of the abstract machine. -/
namespace Go.Proofs.YtinlfdkalijffaaDoor.Am.Q
open Go Go.Proofs Go.Proofs.YtinlfdkalijffaaDoor.Am
/-- strings.CutPrefix -/
def q83r0 : ARegion := { ops := [(.move (.cst (.str [])), none), (.move (.cst (.bool false)), none)], exp := [(2, (.cst .u)), (3, (.cst .u))] }
def q83r1 : ARegion := { ops := [(.move (.var 0), none), (.move (.var 1), none), (.call 94 [(.loc 1), (.loc 0)], none), (.extract 0 (.loc 0), none), (.extract 1 (.loc 1), none), (.move (.loc 1), none), (.move (.loc 1), none)], exp := [(0, (.cst .u)), (1, (.cst .u)), (2, (.loc 1)), (3, (.loc 0))] }
def q83 : AFn := { nparams := 2, nslots := 4, slots := [0, 1, 4, 5], results := [.var 2, .var 3], body := (.seq (.region q83r0) (.seq (.region q83r1) .ret)) }
theorem q83ok : fnOk Tryd.prog xfT gT Tryd.f83 q83 = true := by kernel_rfl
theorem q83at : Tryd.prog.funcs[83]? = some Tryd.f83 := by kernel_rfl
/-- strings.TrimLeft -/
def q84r0 : ARegion := { ops := [(.move (.cst (.str [])), none)], exp := [(2, (.cst .u))] }
def q84r1 : ARegion := { ops := [(.move (.var 0), none), (.bin .eql (.loc 0) (.cst (.str [])), none), (.move (.loc 0), none), (.move (.var 1), some ((.loc 0), false)), (.bin .eql (.loc 0) (.cst (.str [])), some ((.loc 1), false)), (.pick (.loc 2) (.cst (.bool true)) (.loc 0), none)], exp := [(5, (.loc 0))] }
def q84r2 : ARegion := { ops := [(.move (.var 0), none), (.move (.loc 0), none)], exp := [(0, (.cst .u)), (2, (.loc 0))] }
def q84r3 : ARegion := { ops := [(.move (.var 1), none), (.len .str (.loc 0), none), (.bin .eql (.loc 0) (.cst (.int .i64 1)), none), (.move (.loc 0), none), (.move (.var 1), some ((.loc 0), true)), (.idxS (.loc 0) (.cst (.int .i64 0)), some ((.loc 1), true)), (.bin .lss (.loc 0) (.cst (.int .u8 128)), some ((.loc 2), true)), (.pick (.loc 3) (.loc 0) (.cst (.bool false)), none)], exp := [(6, (.loc 0))] }
def q84r4 : ARegion := { ops := [(.move (.var 0), none), (.move (.var 1), none), (.idxS (.loc 0) (.cst (.int .i64 0)), none), (.call 95 [(.loc 2), (.loc 0)], none), (.move (.loc 0), none)], exp := [(0, (.cst .u)), (1, (.cst .u)), (2, (.loc 0))] }
def q84r5 : ARegion := { ops := [(.move (.var 1), none), (.call 96 [(.loc 0)], none), (.move (.loc 0), none), (.extract 0 (.loc 0), none), (.extract 1 (.loc 1), none), (.alloc 116 [(.bool false), (.bool false), (.bool false), (.bool false), (.bool false), (.bool false), (.bool false), (.bool false), (.bool false), (.bool false), (.bool false), (.bool false), (.bool false), (.bool false), (.bool false), (.bool false), (.bool false), (.bool false), (.bool false), (.bool false), (.bool false), (.bool false), (.bool false), (.bool false), (.bool false), (.bool false), (.bool false), (.bool false), (.bool false), (.bool false), (.bool false), (.bool false), (.bool false), (.bool false), (.bool false), (.bool false), (.bool false), (.bool false), (.bool false), (.bool false), (.bool false), (.bool false), (.bool false), (.bool false), (.bool false), (.bool false), (.bool false), (.bool false), (.bool false), (.bool false), (.bool false), (.bool false), (.bool false), (.bool false), (.bool false), (.bool false), (.bool false), (.bool false), (.bool false), (.bool false), (.bool false), (.bool false), (.bool false), (.bool false), (.bool false), (.bool false), (.bool false), (.bool false), (.bool false), (.bool false), (.bool false), (.bool false), (.bool false), (.bool false), (.bool false), (.bool false), (.bool false), (.bool false), (.bool false), (.bool false), (.bool false), (.bool false), (.bool false), (.bool false), (.bool false), (.bool false), (.bool false), (.bool false), (.bool false), (.bool false), (.bool false), (.bool false), (.bool false), (.bool false), (.bool false), (.bool false), (.bool false), (.bool false), (.bool false), (.bool false), (.bool false), (.bool false), (.bool false), (.bool false), (.bool false), (.bool false), (.bool false), (.bool false), (.bool false), (.bool false), (.bool false), (.bool false), (.bool false), (.bool false), (.bool false), (.bool false), (.bool false), (.bool false), (.bool false), (.bool false), (.bool false), (.bool false), (.bool false), (.bool false), (.bool false), (.bool false), (.bool false), (.bool false), (.bool false), (.bool false), (.bool false), (.bool false), (.bool false), (.bool false), (.bool false), (.bool false), (.bool false), (.bool false), (.bool false), (.bool false), (.bool false), (.bool false), (.bool false), (.bool false), (.bool false), (.bool false), (.bool false), (.bool false), (.bool false), (.bool false), (.bool false), (.bool false), (.bool false), (.bool false), (.bool false), (.bool false), (.bool false), (.bool false), (.bool false), (.bool false), (.bool false), (.bool false), (.bool false), (.bool false), (.bool false), (.bool false), (.bool false), (.bool false), (.bool false), (.bool false), (.bool false), (.bool false), (.bool false), (.bool false), (.bool false), (.bool false), (.bool false), (.bool false), (.bool false), (.bool false), (.bool false), (.bool false), (.bool false), (.bool false), (.bool false), (.bool false), (.bool false), (.bool false), (.bool false), (.bool false), (.bool false), (.bool false), (.bool false), (.bool false), (.bool false), (.bool false), (.bool false), (.bool false), (.bool false), (.bool false), (.bool false), (.bool false), (.bool false), (.bool false), (.bool false), (.bool false), (.bool false), (.bool false), (.bool false), (.bool false), (.bool false), (.bool false), (.bool false), (.bool false), (.bool false), (.bool false), (.bool false), (.bool false), (.bool false), (.bool false), (.bool false), (.bool false), (.bool false), (.bool false), (.bool false), (.bool false), (.bool false), (.bool false), (.bool false), (.bool false), (.bool false), (.bool false), (.bool false), (.bool false), (.bool false), (.bool false), (.bool false), (.bool false), (.bool false), (.bool false), (.bool false), (.bool false), (.bool false), (.bool false), (.bool false), (.bool false), (.bool false), (.bool false), (.bool false), (.bool false), (.bool false), (.bool false), (.bool false), (.bool false), (.bool false), (.bool false)], none), (.store 256 (.loc 0) (.loc 2), none), (.move (.loc 2), none)], exp := [(3, (.loc 2)), (4, (.loc 0))] }
def q84r6 : ARegion := { ops := [(.move (.var 4), none)], exp := [(4, (.cst .u)), (7, (.loc 0))] }
def q84r7 : ARegion := { ops := [(.move (.var 0), none), (.call 97 [(.loc 0), (.var 3)], none), (.move (.loc 0), none)], exp := [(0, (.cst .u)), (2, (.loc 0)), (3, (.cst .u))] }
def q84r8 : ARegion := { ops := [(.move (.var 0), none), (.move (.var 1), none), (.call 98 [(.loc 1), (.loc 0)], none), (.move (.loc 0), none)], exp := [(0, (.cst .u)), (1, (.cst .u)), (2, (.loc 0))] }
def q84 : AFn := { nparams := 2, nslots := 8, slots := [0, 1, 4, 5, 6, 12, 21, 31], results := [.var 2], body := (.seq (.region q84r0) (.seq (.seq (.region q84r1) (.cond (.var 5) (.seq (.region q84r2) .ret) .skip)) (.seq (.seq (.region q84r3) (.cond (.var 6) (.seq (.region q84r4) .ret) .skip)) (.seq (.seq (.region q84r5) (.seq (.region q84r6) (.cond (.var 7) (.seq (.region q84r7) .ret) .skip))) (.seq (.region q84r8) .ret))))) }
theorem q84ok : fnOk Tryd.prog xfT gT Tryd.f84 q84 = true := by kernel_rfl
theorem q84at : Tryd.prog.funcs[84]? = some Tryd.f84 := by kernel_rfl
/-- internal/stringslite.IndexByte -/
def q85r0 : ARegion := { ops := [(.move (.cst (.int .i64 0)), none)], exp := [(2, (.cst .u))] }
def q85r1 : ARegion := { ops := [(.move (.var 0), none), (.move (.var 1), none), (.idxByte (.loc 1) (.loc 0), none), (.move (.loc 0), none)], exp := [(0, (.cst .u)), (1, (.cst .u)), (2, (.loc 0))] }
def q85 : AFn := { nparams := 2, nslots := 3, slots := [0, 1, 4], results := [.var 2], body := (.seq (.region q85r0) (.seq (.region q85r1) .ret)) }
theorem q85ok : fnOk Tryd.prog xfT gT Tryd.f85 q85 = true := by kernel_rfl
theorem q85at : Tryd.prog.funcs[85]? = some Tryd.f85 := by kernel_rfl
/-- (*cringle/cringleref07.parser).allHex -/
def q86r0 : ARegion := { ops := [(.move (.cst (.bool false)), none)], exp := [(3, (.cst .u))] }
def q86r1 : ARegion := { ops := [(.move (.cst (.int .i64 0)), none)], exp := [(4, (.loc 0))] }
def q86r2 : ARegion := { ops := [(.move (.var 4), none), (.bin .lss (.loc 0) (.cst (.int .i64 4)), none), (.move (.loc 0), none), (.move (.var 1), some ((.loc 0), true)), (.move (.var 4), some ((.loc 1), true)), (.bin .add (.loc 1) (.loc 0), some ((.loc 2), true)), (.move (.var 0), some ((.loc 3), true)), (.nilck (.loc 0), some ((.loc 4), true)), (.fieldAddr 0 (.loc 0), some ((.loc 5), true)), (.load false 1 (.loc 0), some ((.loc 6), true)), (.len .str (.loc 0), some ((.loc 7), true)), (.bin .lss (.loc 5) (.loc 0), some ((.loc 8), true)), (.pick (.loc 9) (.loc 0) (.cst (.bool false)), none)], exp := [(5, (.loc 0))] }
def q86r3 : ARegion := { ops := [(.move (.var 0), none), (.nilck (.loc 0), none), (.fieldAddr 0 (.loc 0), none), (.load false 1 (.loc 0), none), (.move (.var 1), none), (.move (.var 4), none), (.bin .add (.loc 1) (.loc 0), none), (.idxS (.loc 3) (.loc 0), none), (.call 100 [(.loc 0)], none), (.bin .gtr (.loc 0) (.cst (.int .u32 15)), none)], exp := [(6, (.loc 0))] }
def q86r4 : ARegion := { ops := [(.move (.var 0), none), (.move (.var 2), none), (.call 25 [(.loc 1), (.cst (.int .i64 3)), (.loc 0)], none)], exp := [(0, (.cst .u)), (2, (.cst .u))] }
def q86r5 : ARegion := { ops := [(.move (.cst (.bool false)), none)], exp := [(3, (.loc 0))] }
def q86r6 : ARegion := { ops := [(.move (.var 4), none), (.bin .add (.loc 0) (.cst (.int .i64 1)), none), (.move (.loc 0), none)], exp := [(4, (.loc 0))] }
def q86l7 : ACode := (.seq (.seq (.region q86r2) (.cond (.var 5) .skip (.exit 0))) (.seq (.block 1 (.seq (.region q86r3) (.cond (.var 6) (.seq (.region q86r4) (.seq (.region q86r5) .ret)) .skip))) (.region q86r6)))
def q86r8 : ARegion := { ops := [(.move (.cst (.bool true)), none)], exp := [(3, (.loc 0))] }
def q86 : AFn := { nparams := 3, nslots := 7, slots := [0, 1, 2, 6, 7, 20, 32], results := [.var 3], body := (.seq (.region q86r0) (.seq (.seq (.region q86r1) (.block 0 (.loop [3, 5, 6] q86l7))) (.seq (.region q86r8) .ret))) }
theorem q86ok : fnOk Tryd.prog xfT gT Tryd.f86 q86 = true := by kernel_rfl
theorem q86at : Tryd.prog.funcs[86]? = some Tryd.f86 := by kernel_rfl
/-- (*cringle/cringleref07.parser).hex -/
def q87r0 : ARegion := { ops := [(.move (.cst (.int .i32 0)), none)], exp := [(3, (.cst .u))] }
def q87r1 : ARegion := { ops := [(.move (.cst (.int .i32 0)), none)], exp := [(4, (.loc 0))] }
def q87r2 : ARegion := { ops := [(.move (.cst (.int .i64 0)), none)], exp := [(5, (.loc 0))] }
def q87r3 : ARegion := { ops := [(.move (.var 5), none), (.bin .lss (.loc 0) (.cst (.int .i64 4)), none)], exp := [(7, (.loc 0))] }
def q87r4 : ARegion := { ops := [(.move (.var 1), none), (.move (.var 5), none), (.bin .add (.loc 1) (.loc 0), none), (.move (.var 0), none), (.nilck (.loc 0), none), (.fieldAddr 0 (.loc 0), none), (.load false 1 (.loc 0), none), (.len .str (.loc 0), none), (.bin .geq (.loc 5) (.loc 0), none)], exp := [(8, (.loc 0))] }
def q87r5 : ARegion := { ops := [(.move (.var 0), none), (.move (.var 0), none), (.nilck (.loc 0), none), (.fieldAddr 0 (.loc 0), none), (.load false 1 (.loc 0), none), (.len .str (.loc 0), none), (.call 25 [(.loc 5), (.cst (.int .i64 4)), (.loc 0)], none)], exp := [(0, (.cst .u))] }
def q87r6 : ARegion := { ops := [(.move (.cst (.int .i32 0)), none)], exp := [(3, (.loc 0))] }
def q87r7 : ARegion := { ops := [(.move (.var 0), none), (.nilck (.loc 0), none), (.fieldAddr 0 (.loc 0), none), (.load false 1 (.loc 0), none), (.move (.var 1), none), (.move (.var 5), none), (.bin .add (.loc 1) (.loc 0), none), (.idxS (.loc 3) (.loc 0), none), (.call 100 [(.loc 0)], none), (.move (.loc 0), none)], exp := [(6, (.loc 0))] }
def q87r8 : ARegion := { ops := [(.move (.var 6), none), (.bin .gtr (.loc 0) (.cst (.int .u32 15)), none)], exp := [(9, (.loc 0))] }
def q87r9 : ARegion := { ops := [(.move (.var 0), none), (.move (.var 2), none), (.call 25 [(.loc 1), (.cst (.int .i64 3)), (.loc 0)], none)], exp := [(0, (.cst .u)), (2, (.cst .u))] }
def q87r10 : ARegion := { ops := [(.move (.cst (.int .i32 0)), none)], exp := [(3, (.loc 0))] }
def q87r11 : ARegion := { ops := [(.move (.var 4), none), (.bin .mul (.loc 0) (.cst (.int .i32 16)), none), (.move (.var 6), none), (.convI .i32 (.loc 0), none), (.bin .add (.loc 2) (.loc 0), none), (.move (.loc 0), none)], exp := [(4, (.loc 0)), (6, (.cst .u))] }
def q87r12 : ARegion := { ops := [(.move (.var 5), none), (.bin .add (.loc 0) (.cst (.int .i64 1)), none), (.move (.loc 0), none)], exp := [(5, (.loc 0))] }
def q87l13 : ACode := (.seq (.seq (.region q87r3) (.cond (.var 7) .skip (.exit 0))) (.seq (.block 1 (.seq (.seq (.region q87r4) (.cond (.var 8) (.seq (.region q87r5) (.seq (.region q87r6) .ret)) .skip)) (.seq (.region q87r7) (.seq (.seq (.region q87r8) (.cond (.var 9) (.seq (.region q87r9) (.seq (.region q87r10) .ret)) .skip)) (.region q87r11))))) (.region q87r12)))
def q87r14 : ARegion := { ops := [(.move (.var 4), none), (.move (.loc 0), none)], exp := [(3, (.loc 0)), (4, (.cst .u))] }
def q87 : AFn := { nparams := 3, nslots := 10, slots := [0, 1, 2, 6, 7, 8, 9, 11, 22, 40], results := [.var 3], body := (.seq (.region q87r0) (.seq (.region q87r1) (.seq (.seq (.region q87r2) (.block 0 (.loop [3, 6, 7, 8, 9] q87l13))) (.seq (.region q87r14) .ret)))) }
theorem q87ok : fnOk Tryd.prog xfT gT Tryd.f87 q87 = true := by kernel_rfl
theorem q87at : Tryd.prog.funcs[87]? = some Tryd.f87 := by kernel_rfl
/-- cringle/cringleref02.Put -/
def q88r0 : ARegion := { ops := [(.move (.cst .nilSl), none)], exp := [(2, (.cst .u))] }
def q88r1 : ARegion := { ops := [(.move (.var 0), none), (.append 5 1 1 (.cst .nilSl) (.loc 0), none), (.move (.loc 0), none)], exp := [(0, (.cst .u)), (3, (.loc 0))] }
def q88r2 : ARegion := { ops := [(.move (.cst (.int .i64 0)), none)], exp := [(4, (.loc 0))] }
def q88r3 : ARegion := { ops := [(.move (.var 4), none), (.move (.var 1), none), (.len .sli (.loc 0), none), (.bin .lss (.loc 2) (.loc 0), none)], exp := [(5, (.loc 0))] }
def q88r4 : ARegion := { ops := [(.move (.var 3), none), (.move (.var 1), none), (.move (.var 4), none), (.idxAddr 1 (.loc 1) (.loc 0), none), (.load false 1 (.loc 0), none), (.call 101 [(.loc 0)], none), (.append 5 1 1 (.loc 5) (.loc 0), none), (.move (.loc 0), none)], exp := [(3, (.loc 0))] }
def q88r5 : ARegion := { ops := [(.move (.var 4), none), (.bin .add (.loc 0) (.cst (.int .i64 1)), none), (.move (.loc 0), none)], exp := [(4, (.loc 0))] }
def q88l6 : ACode := (.seq (.seq (.region q88r3) (.cond (.var 5) .skip (.exit 0))) (.seq (.block 1 (.region q88r4)) (.region q88r5)))
def q88r7 : ARegion := { ops := [(.move (.var 3), none), (.move (.loc 0), none)], exp := [(2, (.loc 0)), (3, (.cst .u))] }
def q88 : AFn := { nparams := 2, nslots := 6, slots := [0, 1, 4, 5, 6, 12], results := [.var 2], body := (.seq (.region q88r0) (.seq (.region q88r1) (.seq (.seq (.region q88r2) (.block 0 (.loop [0, 2, 5] q88l6))) (.seq (.region q88r7) .ret)))) }
theorem q88ok : fnOk Tryd.prog xfT gT Tryd.f88 q88 = true := by kernel_rfl
theorem q88at : Tryd.prog.funcs[88]? = some Tryd.f88 := by kernel_rfl
/-- slices.IndexFunc[[]string,string] -/
def q90r0 : ARegion := { ops := [(.move (.cst (.int .i64 0)), none)], exp := [(2, (.cst .u))] }
def q90r1 : ARegion := { ops := [(.move (.var 0), none), (.len .sli (.loc 0), none), (.move (.cst (.int .i64 0)), none)], exp := [(4, (.loc 1)), (5, (.loc 0))] }
def q90r2 : ARegion := { ops := [(.bin .lss (.var 5) (.var 4), none)], exp := [(6, (.loc 0))] }
def q90r3 : ARegion := { ops := [(.move (.var 5), none), (.move (.loc 0), none)], exp := [(3, (.loc 0))] }
def q90r4 : ARegion := { ops := [(.move (.var 1), none), (.move (.var 0), none), (.move (.var 3), none), (.idxAddr 1 (.loc 1) (.loc 0), none), (.load false 1 (.loc 0), none), (.callV (.loc 4) [(.loc 0)], none)], exp := [(7, (.loc 0))] }
def q90r5 : ARegion := { ops := [(.move (.var 3), none), (.move (.loc 0), none)], exp := [(2, (.loc 0)), (3, (.cst .u))] }
def q90r6 : ARegion := { ops := [(.bin .add (.var 5) (.cst (.int .i64 1)), none), (.move (.loc 0), none)], exp := [(5, (.loc 0))] }
def q90l7 : ACode := (.seq (.region q90r2) (.seq (.cond (.var 6) .skip (.exit 0)) (.seq (.block 1 (.seq (.region q90r3) (.seq (.region q90r4) (.cond (.var 7) (.seq (.region q90r5) .ret) .skip)))) (.region q90r6))))
def q90r8 : ARegion := { ops := [(.move (.cst (.int .i64 (-1))), none)], exp := [(2, (.loc 0))] }
def q90 : AFn := { nparams := 2, nslots := 8, slots := [0, 1, 4, 5, 7, 8, 9, 16], results := [.var 2], body := (.seq (.region q90r0) (.seq (.seq (.region q90r1) (.block 0 (.loop [2, 3, 6, 7] q90l7))) (.seq (.region q90r8) .ret))) }
theorem q90ok : fnOk Tryd.prog xfT gT Tryd.f90 q90 = true := by kernel_rfl
theorem q90at : Tryd.prog.funcs[90]? = some Tryd.f90 := by kernel_rfl
/-- cringle/utf.Put -/
def q91r0 : ARegion := { ops := [(.move (.cst .nilSl), none)], exp := [(2, (.cst .u))] }
def q91r1 : ARegion := { ops := [(.move (.var 0), none), (.append 5 1 1 (.cst .nilSl) (.loc 0), none), (.move (.loc 0), none)], exp := [(0, (.cst .u)), (3, (.loc 0))] }
def q91r2 : ARegion := { ops := [(.move (.var 1), none), (.len .sli (.loc 0), none), (.move (.cst (.int .i64 0)), none)], exp := [(1, (.cst .u)), (5, (.loc 2)), (6, (.loc 1)), (7, (.loc 0))] }
def q91r3 : ARegion := { ops := [(.bin .lss (.var 7) (.var 6), none)], exp := [(8, (.loc 0))] }
def q91r4 : ARegion := { ops := [(.idxAddr 1 (.var 5) (.var 7), none), (.load false 1 (.loc 0), none), (.move (.loc 0), none)], exp := [(4, (.loc 0))] }
def q91r5 : ARegion := { ops := [(.move (.var 3), none), (.move (.var 4), none), (.call 102 [(.loc 1), (.loc 0)], none), (.move (.loc 0), none)], exp := [(3, (.loc 0)), (4, (.cst .u))] }
def q91r6 : ARegion := { ops := [(.bin .add (.var 7) (.cst (.int .i64 1)), none), (.move (.loc 0), none)], exp := [(7, (.loc 0))] }
def q91l7 : ACode := (.seq (.region q91r3) (.seq (.cond (.var 8) .skip (.exit 0)) (.seq (.block 1 (.seq (.region q91r4) (.region q91r5))) (.region q91r6))))
def q91r8 : ARegion := { ops := [(.move (.var 3), none), (.move (.loc 0), none)], exp := [(2, (.loc 0)), (3, (.cst .u))] }
def q91 : AFn := { nparams := 2, nslots := 9, slots := [0, 1, 4, 5, 7, 10, 11, 12, 13], results := [.var 2], body := (.seq (.region q91r0) (.seq (.region q91r1) (.seq (.seq (.region q91r2) (.block 0 (.loop [0, 1, 2, 4, 8] q91l7))) (.seq (.region q91r8) .ret)))) }
theorem q91ok : fnOk Tryd.prog xfT gT Tryd.f91 q91 = true := by kernel_rfl
theorem q91at : Tryd.prog.funcs[91]? = some Tryd.f91 := by kernel_rfl
/-- (*cringle/json.parser).sign -/
def q92r0 : ARegion := { ops := [(.move (.cst (.int .i32 0)), none)], exp := [(2, (.cst .u))] }
def q92r1 : ARegion := { ops := [(.move (.var 0), none), (.move (.var 1), none), (.call 103 [(.loc 1), (.loc 0)], none), (.move (.loc 0), none)], exp := [(3, (.loc 0))] }
def q92r2 : ARegion := { ops := [(.move (.var 3), none), (.bin .lss (.loc 0) (.cst (.int .i32 55296)), none), (.move (.loc 0), none), (.move (.var 3), some ((.loc 0), false)), (.bin .gtr (.loc 0) (.cst (.int .i32 57343)), some ((.loc 1), false)), (.pick (.loc 2) (.cst (.bool true)) (.loc 0), none)], exp := [(6, (.loc 0))] }
def q92r3 : ARegion := { ops := [(.move (.var 3), none), (.move (.loc 0), none)], exp := [(2, (.loc 0)), (3, (.cst .u))] }
def q92r4 : ARegion := { ops := [(.move (.var 3), none), (.bin .geq (.loc 0) (.cst (.int .i32 56320)), none)], exp := [(7, (.loc 0))] }
def q92r5 : ARegion := { ops := [(.move (.var 0), none), (.nilck (.loc 0), none), (.fieldAddr 0 (.loc 0), none), (.move (.var 1), none), (.call 42 [(.loc 1), (.cst (.int .i64 3)), (.loc 0)], none)], exp := [] }
def q92r6 : ARegion := { ops := [(.buildSlT 5 1 (.int .u8 0) 2 [(0, (.cst (.int .u8 92))), (1, (.cst (.int .u8 117)))], none), (.convB (.loc 0), none), (.len .sli (.loc 0), none), (.move (.cst (.int .i64 0)), none)], exp := [(8, (.loc 2)), (9, (.loc 1)), (10, (.loc 0))] }
def q92r7 : ARegion := { ops := [(.bin .lss (.var 10) (.var 9), none)], exp := [(11, (.loc 0))] }
def q92r8 : ARegion := { ops := [(.idxAddr 1 (.var 8) (.var 10), none), (.load false 1 (.loc 0), none), (.move (.loc 0), none)], exp := [(4, (.loc 0))] }
def q92r9 : ARegion := { ops := [(.move (.var 0), none), (.nilck (.loc 0), none), (.fieldAddr 0 (.loc 0), none), (.call 77 [(.loc 0)], none), (.move (.var 4), none), (.bin .neq (.loc 1) (.loc 0), none)], exp := [(4, (.cst .u)), (12, (.loc 0))] }
def q92r10 : ARegion := { ops := [(.move (.var 0), none), (.nilck (.loc 0), none), (.fieldAddr 0 (.loc 0), none), (.move (.var 1), none), (.call 42 [(.loc 1), (.cst (.int .i64 3)), (.loc 0)], none)], exp := [] }
def q92r11 : ARegion := { ops := [(.move (.var 0), none), (.nilck (.loc 0), none), (.fieldAddr 0 (.loc 0), none), (.fieldAddr 1 (.loc 0), none), (.load false 1 (.loc 0), none), (.bin .add (.loc 0) (.cst (.int .i64 1)), none), (.nilck (.loc 5), none), (.fieldAddr 0 (.loc 0), none), (.fieldAddr 1 (.loc 0), none), (.store 1 (.loc 0) (.loc 3), none)], exp := [] }
def q92r12 : ARegion := { ops := [(.bin .add (.var 10) (.cst (.int .i64 1)), none), (.move (.loc 0), none)], exp := [(10, (.loc 0))] }
def q92l13 : ACode := (.seq (.region q92r7) (.seq (.cond (.var 11) .skip (.exit 0)) (.seq (.block 1 (.seq (.region q92r8) (.seq (.seq (.region q92r9) (.cond (.var 12) (.region q92r10) .skip)) (.region q92r11)))) (.region q92r12))))
def q92r14 : ARegion := { ops := [(.move (.var 0), none), (.move (.var 1), none), (.call 103 [(.loc 1), (.loc 0)], none), (.move (.loc 0), none)], exp := [(5, (.loc 0))] }
def q92r15 : ARegion := { ops := [(.move (.var 5), none), (.bin .lss (.loc 0) (.cst (.int .i32 56320)), none), (.move (.loc 0), none), (.move (.var 5), some ((.loc 0), false)), (.bin .gtr (.loc 0) (.cst (.int .i32 57343)), some ((.loc 1), false)), (.pick (.loc 2) (.cst (.bool true)) (.loc 0), none)], exp := [(13, (.loc 0))] }
def q92r16 : ARegion := { ops := [(.move (.var 0), none), (.nilck (.loc 0), none), (.fieldAddr 0 (.loc 0), none), (.move (.var 1), none), (.call 42 [(.loc 1), (.cst (.int .i64 3)), (.loc 0)], none)], exp := [(0, (.cst .u)), (1, (.cst .u))] }
def q92r17 : ARegion := { ops := [(.move (.var 3), none), (.bin .sub (.loc 0) (.cst (.int .i32 55296)), none), (.bin .shl (.loc 0) (.cst (.int .u64 10)), none), (.bin .add (.cst (.int .i32 65536)) (.loc 0), none), (.move (.var 5), none), (.bin .sub (.loc 0) (.cst (.int .i32 56320)), none), (.bin .add (.loc 2) (.loc 0), none), (.move (.loc 0), none)], exp := [(2, (.loc 0)), (3, (.cst .u)), (5, (.cst .u))] }
def q92 : AFn := { nparams := 2, nslots := 14, slots := [0, 1, 4, 5, 7, 8, 17, 20, 27, 28, 29, 30, 38, 62], results := [.var 2], body := (.seq (.region q92r0) (.seq (.region q92r1) (.seq (.seq (.region q92r2) (.cond (.var 6) (.seq (.region q92r3) .ret) .skip)) (.seq (.seq (.region q92r4) (.cond (.var 7) (.region q92r5) .skip)) (.seq (.seq (.region q92r6) (.block 0 (.loop [2, 4, 5, 6, 7, 11, 12, 13] q92l13))) (.seq (.region q92r14) (.seq (.seq (.region q92r15) (.cond (.var 13) (.region q92r16) .skip)) (.seq (.region q92r17) .ret)))))))) }
theorem q92ok : fnOk Tryd.prog xfT gT Tryd.f92 q92 = true := by kernel_rfl
theorem q92at : Tryd.prog.funcs[92]? = some Tryd.f92 := by kernel_rfl
/-- internal/stringslite.TrimPrefix -/
def q93r0 : ARegion := { ops := [(.move (.cst (.str [])), none)], exp := [(2, (.cst .u))] }
def q93r1 : ARegion := { ops := [(.move (.var 0), none), (.move (.var 1), none), (.call 59 [(.loc 1), (.loc 0)], none)], exp := [(3, (.loc 0))] }
def q93r2 : ARegion := { ops := [(.move (.var 0), none), (.move (.var 1), none), (.len .str (.loc 0), none), (.sliceS (.loc 2) (some (.loc 0)) none, none), (.move (.loc 0), none)], exp := [(0, (.cst .u)), (1, (.cst .u)), (2, (.loc 0))] }
def q93r3 : ARegion := { ops := [(.move (.var 0), none), (.move (.loc 0), none)], exp := [(0, (.cst .u)), (2, (.loc 0))] }
def q93 : AFn := { nparams := 2, nslots := 4, slots := [0, 1, 4, 7], results := [.var 2], body := (.seq (.region q93r0) (.seq (.seq (.region q93r1) (.cond (.var 3) (.seq (.region q93r2) .ret) .skip)) (.seq (.region q93r3) .ret))) }
theorem q93ok : fnOk Tryd.prog xfT gT Tryd.f93 q93 = true := by kernel_rfl
theorem q93at : Tryd.prog.funcs[93]? = some Tryd.f93 := by kernel_rfl
/-- internal/stringslite.CutPrefix -/
def q94r0 : ARegion := { ops := [(.move (.cst (.str [])), none), (.move (.cst (.bool false)), none)], exp := [(2, (.cst .u)), (3, (.cst .u))] }
def q94r1 : ARegion := { ops := [(.move (.var 0), none), (.move (.var 1), none), (.call 59 [(.loc 1), (.loc 0)], none), (.not (.loc 0), none)], exp := [(4, (.loc 0))] }
def q94r2 : ARegion := { ops := [(.move (.var 0), none), (.move (.loc 0), none), (.move (.cst (.bool false)), none)], exp := [(0, (.cst .u)), (2, (.loc 1)), (3, (.loc 0))] }
def q94r3 : ARegion := { ops := [(.move (.var 0), none), (.move (.var 1), none), (.len .str (.loc 0), none), (.sliceS (.loc 2) (some (.loc 0)) none, none), (.move (.loc 0), none), (.move (.cst (.bool true)), none)], exp := [(0, (.cst .u)), (1, (.cst .u)), (2, (.loc 1)), (3, (.loc 0))] }
def q94 : AFn := { nparams := 2, nslots := 5, slots := [0, 1, 4, 5, 9], results := [.var 2, .var 3], body := (.seq (.region q94r0) (.seq (.seq (.region q94r1) (.cond (.var 4) (.seq (.region q94r2) .ret) .skip)) (.seq (.region q94r3) .ret))) }
theorem q94ok : fnOk Tryd.prog xfT gT Tryd.f94 q94 = true := by kernel_rfl
theorem q94at : Tryd.prog.funcs[94]? = some Tryd.f94 := by kernel_rfl
/-- strings.trimLeftByte -/
def q95r0 : ARegion := { ops := [(.move (.cst (.str [])), none)], exp := [(2, (.cst .u))] }
def q95r1 : ARegion := { ops := [(.move (.var 0), none), (.len .str (.loc 0), none), (.bin .gtr (.loc 0) (.cst (.int .i64 0)), none), (.move (.loc 0), none), (.move (.var 0), some ((.loc 0), true)), (.idxS (.loc 0) (.cst (.int .i64 0)), some ((.loc 1), true)), (.move (.var 1), some ((.loc 2), true)), (.bin .eql (.loc 1) (.loc 0), some ((.loc 3), true)), (.pick (.loc 4) (.loc 0) (.cst (.bool false)), none)], exp := [(3, (.loc 0))] }
def q95r2 : ARegion := { ops := [(.move (.var 0), none), (.sliceS (.loc 0) (some (.cst (.int .i64 1))) none, none), (.move (.loc 0), none)], exp := [(0, (.loc 0))] }
def q95l3 : ACode := (.seq (.seq (.region q95r1) (.cond (.var 3) .skip (.exit 0))) (.block 1 (.region q95r2)))
def q95r4 : ARegion := { ops := [(.move (.var 0), none), (.move (.loc 0), none)], exp := [(0, (.cst .u)), (2, (.loc 0))] }
def q95 : AFn := { nparams := 2, nslots := 4, slots := [0, 1, 4, 13], results := [.var 2], body := (.seq (.region q95r0) (.seq (.block 0 (.loop [2, 3] q95l3)) (.seq (.region q95r4) .ret))) }
theorem q95ok : fnOk Tryd.prog xfT gT Tryd.f95 q95 = true := by kernel_rfl
theorem q95at : Tryd.prog.funcs[95]? = some Tryd.f95 := by kernel_rfl
/-- strings.makeASCIISet -/
def q96r0 : ARegion := { ops := [(.alloc 116 [(.bool false), (.bool false), (.bool false), (.bool false), (.bool false), (.bool false), (.bool false), (.bool false), (.bool false), (.bool false), (.bool false), (.bool false), (.bool false), (.bool false), (.bool false), (.bool false), (.bool false), (.bool false), (.bool false), (.bool false), (.bool false), (.bool false), (.bool false), (.bool false), (.bool false), (.bool false), (.bool false), (.bool false), (.bool false), (.bool false), (.bool false), (.bool false), (.bool false), (.bool false), (.bool false), (.bool false), (.bool false), (.bool false), (.bool false), (.bool false), (.bool false), (.bool false), (.bool false), (.bool false), (.bool false), (.bool false), (.bool false), (.bool false), (.bool false), (.bool false), (.bool false), (.bool false), (.bool false), (.bool false), (.bool false), (.bool false), (.bool false), (.bool false), (.bool false), (.bool false), (.bool false), (.bool false), (.bool false), (.bool false), (.bool false), (.bool false), (.bool false), (.bool false), (.bool false), (.bool false), (.bool false), (.bool false), (.bool false), (.bool false), (.bool false), (.bool false), (.bool false), (.bool false), (.bool false), (.bool false), (.bool false), (.bool false), (.bool false), (.bool false), (.bool false), (.bool false), (.bool false), (.bool false), (.bool false), (.bool false), (.bool false), (.bool false), (.bool false), (.bool false), (.bool false), (.bool false), (.bool false), (.bool false), (.bool false), (.bool false), (.bool false), (.bool false), (.bool false), (.bool false), (.bool false), (.bool false), (.bool false), (.bool false), (.bool false), (.bool false), (.bool false), (.bool false), (.bool false), (.bool false), (.bool false), (.bool false), (.bool false), (.bool false), (.bool false), (.bool false), (.bool false), (.bool false), (.bool false), (.bool false), (.bool false), (.bool false), (.bool false), (.bool false), (.bool false), (.bool false), (.bool false), (.bool false), (.bool false), (.bool false), (.bool false), (.bool false), (.bool false), (.bool false), (.bool false), (.bool false), (.bool false), (.bool false), (.bool false), (.bool false), (.bool false), (.bool false), (.bool false), (.bool false), (.bool false), (.bool false), (.bool false), (.bool false), (.bool false), (.bool false), (.bool false), (.bool false), (.bool false), (.bool false), (.bool false), (.bool false), (.bool false), (.bool false), (.bool false), (.bool false), (.bool false), (.bool false), (.bool false), (.bool false), (.bool false), (.bool false), (.bool false), (.bool false), (.bool false), (.bool false), (.bool false), (.bool false), (.bool false), (.bool false), (.bool false), (.bool false), (.bool false), (.bool false), (.bool false), (.bool false), (.bool false), (.bool false), (.bool false), (.bool false), (.bool false), (.bool false), (.bool false), (.bool false), (.bool false), (.bool false), (.bool false), (.bool false), (.bool false), (.bool false), (.bool false), (.bool false), (.bool false), (.bool false), (.bool false), (.bool false), (.bool false), (.bool false), (.bool false), (.bool false), (.bool false), (.bool false), (.bool false), (.bool false), (.bool false), (.bool false), (.bool false), (.bool false), (.bool false), (.bool false), (.bool false), (.bool false), (.bool false), (.bool false), (.bool false), (.bool false), (.bool false), (.bool false), (.bool false), (.bool false), (.bool false), (.bool false), (.bool false), (.bool false), (.bool false), (.bool false), (.bool false), (.bool false), (.bool false), (.bool false), (.bool false), (.bool false), (.bool false), (.bool false), (.bool false), (.bool false), (.bool false), (.bool false), (.bool false), (.bool false), (.bool false), (.bool false), (.bool false), (.bool false), (.bool false), (.bool false), (.bool false), (.bool false)], none), (.move (.cst (.bool false)), none)], exp := [(1, (.loc 1)), (2, (.cst .u))] }
def q96r1 : ARegion := { ops := [(.move (.cst (.int .i64 0)), none)], exp := [(3, (.loc 0))] }
def q96r2 : ARegion := { ops := [(.move (.var 3), none), (.move (.var 0), none), (.len .str (.loc 0), none), (.bin .lss (.loc 2) (.loc 0), none)], exp := [(5, (.loc 0))] }
def q96r3 : ARegion := { ops := [(.move (.var 0), none), (.move (.var 3), none), (.idxS (.loc 1) (.loc 0), none), (.move (.loc 0), none)], exp := [(4, (.loc 0))] }
def q96r4 : ARegion := { ops := [(.move (.var 4), none), (.bin .geq (.loc 0) (.cst (.int .u8 128)), none)], exp := [(6, (.loc 0))] }
def q96r5 : ARegion := { ops := [(.load true 256 (.var 1), none), (.store 256 (.var 1) (.loc 0), none), (.move (.cst (.bool false)), none)], exp := [(2, (.loc 0))] }
def q96r6 : ARegion := { ops := [(.move (.var 4), none), (.idxAddrA 256 1 (.var 1) (.loc 0), none), (.store 1 (.loc 0) (.cst (.bool true)), none)], exp := [(4, (.cst .u))] }
def q96r7 : ARegion := { ops := [(.move (.var 3), none), (.bin .add (.loc 0) (.cst (.int .i64 1)), none), (.move (.loc 0), none)], exp := [(3, (.loc 0))] }
def q96l8 : ACode := (.seq (.seq (.region q96r2) (.cond (.var 5) .skip (.exit 0))) (.seq (.block 1 (.seq (.region q96r3) (.seq (.seq (.region q96r4) (.cond (.var 6) (.seq (.region q96r5) .ret) .skip)) (.region q96r6)))) (.region q96r7)))
def q96r9 : ARegion := { ops := [(.load true 256 (.var 1), none), (.store 256 (.var 1) (.loc 0), none), (.move (.cst (.bool true)), none)], exp := [(2, (.loc 0))] }
def q96 : AFn := { nparams := 1, nslots := 7, slots := [0, 2, 3, 4, 5, 9, 16], results := [.cell 1 true 256, .var 2], body := (.seq (.region q96r0) (.seq (.seq (.region q96r1) (.block 0 (.loop [2, 4, 5, 6] q96l8))) (.seq (.region q96r9) .ret))) }
theorem q96ok : fnOk Tryd.prog xfT gT Tryd.f96 q96 = true := by kernel_rfl
theorem q96at : Tryd.prog.funcs[96]? = some Tryd.f96 := by kernel_rfl
/-- strings.trimLeftASCII -/
def q97r0 : ARegion := { ops := [(.move (.cst (.str [])), none)], exp := [(2, (.cst .u))] }
def q97r1 : ARegion := { ops := [(.move (.var 0), none), (.len .str (.loc 0), none), (.bin .gtr (.loc 0) (.cst (.int .i64 0)), none)], exp := [(3, (.loc 0))] }
def q97r2 : ARegion := { ops := [(.move (.var 1), none), (.move (.var 0), none), (.idxS (.loc 0) (.cst (.int .i64 0)), none), (.call 104 [(.loc 2), (.loc 0)], none), (.not (.loc 0), none)], exp := [(4, (.loc 0))] }
def q97r3 : ARegion := { ops := [(.move (.var 0), none), (.sliceS (.loc 0) (some (.cst (.int .i64 1))) none, none), (.move (.loc 0), none)], exp := [(0, (.loc 0))] }
def q97l4 : ACode := (.seq (.seq (.region q97r1) (.cond (.var 3) .skip (.exit 0))) (.block 1 (.seq (.seq (.region q97r2) (.cond (.var 4) (.exit 0) .skip)) (.region q97r3))))
def q97r5 : ARegion := { ops := [(.move (.var 0), none), (.move (.loc 0), none)], exp := [(0, (.cst .u)), (2, (.loc 0))] }
def q97 : AFn := { nparams := 2, nslots := 5, slots := [0, 1, 4, 7, 12], results := [.var 2], body := (.seq (.region q97r0) (.seq (.block 0 (.loop [2, 3, 4] q97l4)) (.seq (.region q97r5) .ret))) }
theorem q97ok : fnOk Tryd.prog xfT gT Tryd.f97 q97 = true := by kernel_rfl
theorem q97at : Tryd.prog.funcs[97]? = some Tryd.f97 := by kernel_rfl
/-- strings.trimLeftUnicode -/
def q98r0 : ARegion := { ops := [(.move (.cst (.str [])), none)], exp := [(2, (.cst .u))] }
def q98r1 : ARegion := { ops := [(.move (.var 0), none), (.len .str (.loc 0), none), (.bin .gtr (.loc 0) (.cst (.int .i64 0)), none)], exp := [(5, (.loc 0))] }
def q98r2 : ARegion := { ops := [(.move (.var 0), none), (.call 105 [(.loc 0)], none), (.move (.loc 0), none), (.extract 0 (.loc 0), none), (.extract 1 (.loc 1), none), (.move (.loc 1), none), (.move (.loc 1), none)], exp := [(3, (.loc 1)), (4, (.loc 0))] }
def q98r3 : ARegion := { ops := [(.move (.var 1), none), (.move (.var 3), none), (.call 106 [(.loc 1), (.loc 0)], none), (.not (.loc 0), none)], exp := [(3, (.cst .u)), (6, (.loc 0))] }
def q98r4 : ARegion := { ops := [(.move (.var 0), none), (.move (.var 4), none), (.sliceS (.loc 1) (some (.loc 0)) none, none), (.move (.loc 0), none)], exp := [(0, (.loc 0)), (4, (.cst .u))] }
def q98l5 : ACode := (.seq (.seq (.region q98r1) (.cond (.var 5) .skip (.exit 0))) (.block 1 (.seq (.region q98r2) (.seq (.seq (.region q98r3) (.cond (.var 6) (.exit 0) .skip)) (.region q98r4)))))
def q98r6 : ARegion := { ops := [(.move (.var 0), none), (.move (.loc 0), none)], exp := [(0, (.cst .u)), (2, (.loc 0))] }
def q98 : AFn := { nparams := 2, nslots := 7, slots := [0, 1, 4, 5, 6, 9, 18], results := [.var 2], body := (.seq (.region q98r0) (.seq (.block 0 (.loop [2, 3, 4, 5, 6] q98l5)) (.seq (.region q98r6) .ret))) }
theorem q98ok : fnOk Tryd.prog xfT gT Tryd.f98 q98 = true := by kernel_rfl
theorem q98at : Tryd.prog.funcs[98]? = some Tryd.f98 := by kernel_rfl
/-- cringle/cringleref01.Nibble -/
def q100r0 : ARegion := { ops := [(.move (.cst (.int .u32 0)), none)], exp := [(1, (.cst .u))] }
def q100r1 : ARegion := { ops := [(.move (.var 0), none), (.call 107 [(.loc 0)], none), (.move (.loc 0), none)], exp := [(0, (.cst .u)), (1, (.loc 0))] }
def q100 : AFn := { nparams := 1, nslots := 2, slots := [0, 2], results := [.var 1], body := (.seq (.region q100r0) (.seq (.region q100r1) .ret)) }
theorem q100ok : fnOk Tryd.prog xfT gT Tryd.f100 q100 = true := by kernel_rfl
theorem q100at : Tryd.prog.funcs[100]? = some Tryd.f100 := by kernel_rfl
/-- cringle/cringleref02.one -/
def q101r0 : ARegion := { ops := [(.move (.cst .nilSl), none)], exp := [(1, (.cst .u))] }
def q101r1 : ARegion := { ops := [(.move (.var 0), none), (.call 108 [(.loc 0)], none), (.not (.loc 0), none), (.move (.loc 0), none)], exp := [(2, (.loc 0))] }
def q101r2 : ARegion := { ops := [(.call 101 [(.cst (.int .i32 65533))], none), (.move (.loc 0), none)], exp := [(1, (.loc 0))] }
def q101r3 : ARegion := { ops := [(.move (.var 0), none), (.bin .lss (.loc 0) (.cst (.int .i32 128)), none), (.move (.loc 0), none)], exp := [(3, (.loc 0))] }
def q101r4 : ARegion := { ops := [(.move (.var 0), none), (.convI .u8 (.loc 0), none), (.buildSl 1 (.int .u8 0) 1 [(0, (.loc 0))], none), (.move (.loc 0), none)], exp := [(0, (.cst .u)), (1, (.loc 0))] }
def q101r5 : ARegion := { ops := [(.move (.var 0), none), (.bin .lss (.loc 0) (.cst (.int .i32 2048)), none), (.move (.loc 0), none)], exp := [(4, (.loc 0))] }
def q101r6 : ARegion := { ops := [(.move (.var 0), none), (.bin .quo (.loc 0) (.cst (.int .i32 64)), none), (.convI .u8 (.loc 0), none), (.bin .add (.cst (.int .u8 192)) (.loc 0), none), (.move (.var 0), none), (.bin .rem (.loc 0) (.cst (.int .i32 64)), none), (.convI .u8 (.loc 0), none), (.bin .add (.cst (.int .u8 128)) (.loc 0), none), (.buildSl 1 (.int .u8 0) 2 [(0, (.loc 4)), (1, (.loc 0))], none), (.move (.loc 0), none)], exp := [(0, (.cst .u)), (1, (.loc 0))] }
def q101r7 : ARegion := { ops := [(.move (.var 0), none), (.bin .lss (.loc 0) (.cst (.int .i32 65536)), none), (.move (.loc 0), none)], exp := [(5, (.loc 0))] }
def q101r8 : ARegion := { ops := [(.move (.var 0), none), (.bin .quo (.loc 0) (.cst (.int .i32 4096)), none), (.convI .u8 (.loc 0), none), (.bin .add (.cst (.int .u8 224)) (.loc 0), none), (.move (.var 0), none), (.bin .quo (.loc 0) (.cst (.int .i32 64)), none), (.bin .rem (.loc 0) (.cst (.int .i32 64)), none), (.convI .u8 (.loc 0), none), (.bin .add (.cst (.int .u8 128)) (.loc 0), none), (.move (.var 0), none), (.bin .rem (.loc 0) (.cst (.int .i32 64)), none), (.convI .u8 (.loc 0), none), (.bin .add (.cst (.int .u8 128)) (.loc 0), none), (.buildSl 1 (.int .u8 0) 3 [(0, (.loc 9)), (1, (.loc 4)), (2, (.loc 0))], none), (.move (.loc 0), none)], exp := [(0, (.cst .u)), (1, (.loc 0))] }
def q101r9 : ARegion := { ops := [(.move (.var 0), none), (.bin .quo (.loc 0) (.cst (.int .i32 262144)), none), (.convI .u8 (.loc 0), none), (.bin .add (.cst (.int .u8 240)) (.loc 0), none), (.move (.var 0), none), (.bin .quo (.loc 0) (.cst (.int .i32 4096)), none), (.bin .rem (.loc 0) (.cst (.int .i32 64)), none), (.convI .u8 (.loc 0), none), (.bin .add (.cst (.int .u8 128)) (.loc 0), none), (.move (.var 0), none), (.bin .quo (.loc 0) (.cst (.int .i32 64)), none), (.bin .rem (.loc 0) (.cst (.int .i32 64)), none), (.convI .u8 (.loc 0), none), (.bin .add (.cst (.int .u8 128)) (.loc 0), none), (.move (.var 0), none), (.bin .rem (.loc 0) (.cst (.int .i32 64)), none), (.convI .u8 (.loc 0), none), (.bin .add (.cst (.int .u8 128)) (.loc 0), none), (.buildSl 1 (.int .u8 0) 4 [(0, (.loc 14)), (1, (.loc 9)), (2, (.loc 4)), (3, (.loc 0))], none), (.move (.loc 0), none)], exp := [(0, (.cst .u)), (1, (.loc 0))] }
def q101 : AFn := { nparams := 1, nslots := 6, slots := [0, 2, 3, 8, 14, 26], results := [.var 1], body := (.seq (.region q101r0) (.seq (.block 0 (.seq (.region q101r1) (.cond (.var 2) (.seq (.region q101r2) .ret) (.seq (.region q101r3) (.cond (.var 3) (.seq (.region q101r4) .ret) (.seq (.region q101r5) (.cond (.var 4) (.seq (.region q101r6) .ret) (.seq (.region q101r7) (.cond (.var 5) (.seq (.region q101r8) .ret) .skip))))))))) (.seq (.region q101r9) .ret))) }
theorem q101ok : fnOk Tryd.prog xfT gT Tryd.f101 q101 = true := by kernel_rfl
theorem q101at : Tryd.prog.funcs[101]? = some Tryd.f101 := by kernel_rfl
/-- unicode/utf8.AppendRune -/
def q102r0 : ARegion := { ops := [(.move (.cst .nilSl), none)], exp := [(2, (.cst .u))] }
def q102r1 : ARegion := { ops := [(.move (.var 1), none), (.convI .u32 (.loc 0), none), (.bin .leq (.loc 0) (.cst (.int .u32 127)), none)], exp := [(3, (.loc 0))] }
def q102r2 : ARegion := { ops := [(.move (.var 0), none), (.move (.var 1), none), (.convI .u8 (.loc 0), none), (.buildSl 1 (.int .u8 0) 1 [(0, (.loc 0))], none), (.append 5 1 1 (.loc 3) (.loc 0), none), (.move (.loc 0), none)], exp := [(0, (.cst .u)), (1, (.cst .u)), (2, (.loc 0))] }
def q102r3 : ARegion := { ops := [(.move (.var 0), none), (.move (.var 1), none), (.call 109 [(.loc 1), (.loc 0)], none), (.move (.loc 0), none)], exp := [(0, (.cst .u)), (1, (.cst .u)), (2, (.loc 0))] }
def q102 : AFn := { nparams := 2, nslots := 4, slots := [0, 1, 4, 7], results := [.var 2], body := (.seq (.region q102r0) (.seq (.seq (.region q102r1) (.cond (.var 3) (.seq (.region q102r2) .ret) .skip)) (.seq (.region q102r3) .ret))) }
theorem q102ok : fnOk Tryd.prog xfT gT Tryd.f102 q102 = true := by kernel_rfl
theorem q102at : Tryd.prog.funcs[102]? = some Tryd.f102 := by kernel_rfl
/-- (*cringle/json.parser).hex -/
def q103r0 : ARegion := { ops := [(.move (.cst (.int .i32 0)), none)], exp := [(2, (.cst .u))] }
def q103r1 : ARegion := { ops := [(.move (.var 0), none), (.nilck (.loc 0), none), (.fieldAddr 0 (.loc 0), none), (.fieldAddr 0 (.loc 0), none), (.load false 1 (.loc 0), none), (.move (.var 0), none), (.nilck (.loc 0), none), (.fieldAddr 0 (.loc 0), none), (.fieldAddr 1 (.loc 0), none), (.load false 1 (.loc 0), none), (.move (.var 0), none), (.nilck (.loc 0), none), (.fieldAddr 0 (.loc 0), none), (.fieldAddr 1 (.loc 0), none), (.load false 1 (.loc 0), none), (.bin .add (.loc 0) (.cst (.int .i64 4)), none), (.move (.var 0), none), (.nilck (.loc 0), none), (.fieldAddr 0 (.loc 0), none), (.fieldAddr 0 (.loc 0), none), (.load false 1 (.loc 0), none), (.len .str (.loc 0), none), (.min (.loc 6) (.loc 0), none), (.sliceS (.loc 18) (some (.loc 13)) (some (.loc 0)), none), (.move (.loc 0), none)], exp := [(3, (.loc 0))], draws := true, pairs := [], okPan := [], preds := [[], [0], [0, 1], [1, 0, 2], [2, 0, 1, 3], [], [5], [5, 6], [6, 5, 7], [7, 5, 6, 8], [], [10], [10, 11], [11, 10, 12], [12, 10, 11, 13], [13, 11, 10, 12, 14], [], [16], [16, 17], [17, 16, 18], [18, 16, 17, 19], [19, 17, 16, 18, 20], [20, 18, 16, 17, 19, 21, 14, 12, 10, 11, 13, 15], [15, 13, 11, 10, 12, 14, 21, 19, 17, 16, 18, 20, 22, 8, 6, 5, 7, 9, 3, 1, 0, 2, 4], [4, 2, 0, 1, 3, 9, 7, 5, 6, 8, 22, 20, 18, 16, 17, 19, 21, 14, 12, 10, 11, 13, 15, 23]] }
def q103r2 : ARegion := { ops := [(.move (.var 3), none), (.call 110 [(.loc 0)], none), (.move (.loc 0), none), (.extract 0 (.loc 0), none), (.extract 1 (.loc 1), none), (.move (.loc 1), none), (.move (.loc 1), none)], exp := [(4, (.loc 1)), (5, (.loc 0))] }
def q103r3 : ARegion := { ops := [(.move (.var 5), none), (.bin .eql (.loc 0) (.cst (.int .i64 0)), none), (.move (.loc 0), none), (.move (.var 3), some ((.loc 0), true)), (.len .str (.loc 0), some ((.loc 1), true)), (.bin .eql (.loc 0) (.cst (.int .i64 4)), some ((.loc 2), true)), (.pick (.loc 3) (.loc 0) (.cst (.bool false)), none)], exp := [(6, (.loc 0))] }
def q103r4 : ARegion := { ops := [(.move (.var 0), none), (.nilck (.loc 0), none), (.fieldAddr 0 (.loc 0), none), (.fieldAddr 1 (.loc 0), none), (.load false 1 (.loc 0), none), (.bin .add (.loc 0) (.cst (.int .i64 4)), none), (.nilck (.loc 5), none), (.fieldAddr 0 (.loc 0), none), (.fieldAddr 1 (.loc 0), none), (.store 1 (.loc 0) (.loc 3), none)], exp := [(0, (.cst .u))] }
def q103r5 : ARegion := { ops := [(.move (.var 4), none), (.convI .i32 (.loc 0), none), (.move (.loc 0), none)], exp := [(2, (.loc 0)), (4, (.cst .u))] }
def q103r6 : ARegion := { ops := [(.move (.var 5), none), (.bin .neq (.loc 0) (.cst (.int .i64 0)), none), (.move (.loc 0), none), (.move (.var 3), some ((.loc 0), true)), (.bin .neq (.loc 0) (.cst (.str [])), some ((.loc 1), true)), (.pick (.loc 2) (.loc 0) (.cst (.bool false)), none)], exp := [(3, (.cst .u)), (5, (.cst .u)), (7, (.loc 0))] }
def q103r7 : ARegion := { ops := [(.move (.var 0), none), (.nilck (.loc 0), none), (.fieldAddr 0 (.loc 0), none), (.move (.var 1), none), (.call 42 [(.loc 1), (.cst (.int .i64 3)), (.loc 0)], none)], exp := [(1, (.cst .u))] }
def q103r8 : ARegion := { ops := [(.move (.var 0), none), (.nilck (.loc 0), none), (.fieldAddr 0 (.loc 0), none), (.move (.var 0), none), (.nilck (.loc 0), none), (.fieldAddr 0 (.loc 0), none), (.fieldAddr 0 (.loc 0), none), (.load false 1 (.loc 0), none), (.len .str (.loc 0), none), (.call 42 [(.loc 6), (.cst (.int .i64 4)), (.loc 0)], none)], exp := [(0, (.cst .u))], draws := true, pairs := [], okPan := [9], preds := [[], [0], [0, 1], [], [3], [3, 4], [4, 3, 5], [5, 3, 4, 6], [6, 4, 3, 5, 7], [7, 5, 3, 4, 6, 8, 1, 0, 2]] }
def q103r9 : ARegion := { ops := [(.move (.cst (.int .i32 0)), none)], exp := [(2, (.loc 0))] }
def q103 : AFn := { nparams := 2, nslots := 8, slots := [0, 1, 4, 5, 6, 7, 43, 60], results := [.var 2], body := (.seq (.region q103r0) (.seq (.region q103r1) (.seq (.seq (.region q103r2) (.seq (.region q103r3) (.cond (.var 6) (.seq (.region q103r4) (.seq (.region q103r5) .ret)) (.seq (.region q103r6) (.cond (.var 7) (.region q103r7) .skip))))) (.seq (.region q103r8) (.seq (.region q103r9) .ret))))) }
theorem q103ok : fnOk Tryd.prog xfT gT Tryd.f103 q103 = true := by kernel_rfl
theorem q103at : Tryd.prog.funcs[103]? = some Tryd.f103 := by kernel_rfl
/-- (*strings.asciiSet).contains -/
def q104r0 : ARegion := { ops := [(.move (.cst (.bool false)), none)], exp := [(2, (.cst .u))] }
def q104r1 : ARegion := { ops := [(.move (.var 0), none), (.move (.var 1), none), (.nilck (.loc 1), none), (.idxAddrA 256 1 (.loc 0) (.loc 1), none), (.load false 1 (.loc 0), none), (.move (.loc 0), none)], exp := [(0, (.cst .u)), (1, (.cst .u)), (2, (.loc 0))] }
def q104 : AFn := { nparams := 2, nslots := 3, slots := [0, 1, 4], results := [.var 2], body := (.seq (.region q104r0) (.seq (.region q104r1) .ret)) }
theorem q104ok : fnOk Tryd.prog xfT gT Tryd.f104 q104 = true := by kernel_rfl
theorem q104at : Tryd.prog.funcs[104]? = some Tryd.f104 := by kernel_rfl
end Go.Proofs.YtinlfdkalijffaaDoor.Am.Q
