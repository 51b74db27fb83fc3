import Derived.Test.YtinlfdkalijffaaDoorKQ0
set_option linter.unusedSimpArgs false
set_option linter.unusedVariables false
/- MADE BY PROGRAM (Trans.lean): functions as texts of the abstract machine. -/
namespace Go.Proofs.YtinlfdkalijffaaDoor.Am.Q
open Go Go.Proofs Go.Proofs.YtinlfdkalijffaaDoor.Am
/-- unicode/utf8.DecodeRuneInString -/
def q105r0 : ARegion := { ops := [(.move (.cst (.int .i32 0)), none), (.move (.cst (.int .i64 0)), none)], exp := [(1, (.cst .u)), (2, (.cst .u))] }
def q105r1 : ARegion := { ops := [(.move (.var 0), none), (.bin .neq (.loc 0) (.cst (.str [])), none), (.move (.loc 0), none), (.move (.var 0), some ((.loc 0), true)), (.idxS (.loc 0) (.cst (.int .i64 0)), some ((.loc 1), true)), (.bin .lss (.loc 0) (.cst (.int .u8 128)), some ((.loc 2), true)), (.pick (.loc 3) (.loc 0) (.cst (.bool false)), none)], exp := [(3, (.loc 0))] }
def q105r2 : ARegion := { ops := [(.move (.var 0), none), (.idxS (.loc 0) (.cst (.int .i64 0)), none), (.convI .i32 (.loc 0), none), (.move (.loc 0), none), (.move (.cst (.int .i64 1)), none)], exp := [(0, (.cst .u)), (1, (.loc 1)), (2, (.loc 0))] }
def q105r3 : ARegion := { ops := [(.move (.var 0), none), (.call 111 [(.loc 0)], none), (.move (.loc 0), none), (.extract 0 (.loc 0), none), (.extract 1 (.loc 1), none), (.move (.loc 1), none), (.move (.loc 1), none)], exp := [(0, (.cst .u)), (1, (.loc 1)), (2, (.loc 0))] }
def q105 : AFn := { nparams := 1, nslots := 4, slots := [0, 2, 3, 10], results := [.var 1, .var 2], body := (.seq (.region q105r0) (.seq (.seq (.region q105r1) (.cond (.var 3) (.seq (.region q105r2) .ret) (.region q105r3))) .ret)) }
theorem q105ok : fnOk Tryd.prog xfT gT Tryd.f105 q105 = true := by kernel_rfl
theorem q105at : Tryd.prog.funcs[105]? = some Tryd.f105 := by kernel_rfl
/-- strings.ContainsRune -/
def q106r0 : ARegion := { ops := [(.move (.cst (.bool false)), none)], exp := [(2, (.cst .u))] }
def q106r1 : ARegion := { ops := [(.move (.var 0), none), (.move (.var 1), none), (.call 112 [(.loc 1), (.loc 0)], none), (.bin .geq (.loc 0) (.cst (.int .i64 0)), none), (.move (.loc 0), none)], exp := [(0, (.cst .u)), (1, (.cst .u)), (2, (.loc 0))] }
def q106 : AFn := { nparams := 2, nslots := 3, slots := [0, 1, 4], results := [.var 2], body := (.seq (.region q106r0) (.seq (.region q106r1) .ret)) }
theorem q106ok : fnOk Tryd.prog xfT gT Tryd.f106 q106 = true := by kernel_rfl
theorem q106at : Tryd.prog.funcs[106]? = some Tryd.f106 := by kernel_rfl
/-- cringle/cringleref01.nibble -/
def q107r0 : ARegion := { ops := [(.move (.cst (.int .u32 0)), none)], exp := [(1, (.cst .u))] }
def q107r1 : ARegion := { ops := [(.move (.var 0), none), (.call 45 [(.loc 0)], none), (.move (.loc 0), none)], exp := [(2, (.loc 0))] }
def q107r2 : ARegion := { ops := [(.move (.var 0), none), (.bin .sub (.loc 0) (.cst (.int .u8 48)), none), (.convI .u32 (.loc 0), none), (.move (.loc 0), none)], exp := [(0, (.cst .u)), (1, (.loc 0))] }
def q107r3 : ARegion := { ops := [(.move (.var 0), none), (.bin .geq (.loc 0) (.cst (.int .u8 97)), none), (.move (.loc 0), none), (.move (.var 0), some ((.loc 0), true)), (.bin .leq (.loc 0) (.cst (.int .u8 102)), some ((.loc 1), true)), (.pick (.loc 2) (.loc 0) (.cst (.bool false)), none), (.move (.loc 0), none)], exp := [(3, (.loc 0))] }
def q107r4 : ARegion := { ops := [(.move (.var 0), none), (.bin .sub (.loc 0) (.cst (.int .u8 97)), none), (.convI .u32 (.loc 0), none), (.bin .add (.loc 0) (.cst (.int .u32 10)), none), (.move (.loc 0), none)], exp := [(0, (.cst .u)), (1, (.loc 0))] }
def q107r5 : ARegion := { ops := [(.move (.var 0), none), (.bin .geq (.loc 0) (.cst (.int .u8 65)), none), (.move (.loc 0), none), (.move (.var 0), some ((.loc 0), true)), (.bin .leq (.loc 0) (.cst (.int .u8 70)), some ((.loc 1), true)), (.pick (.loc 2) (.loc 0) (.cst (.bool false)), none), (.move (.loc 0), none)], exp := [(4, (.loc 0))] }
def q107r6 : ARegion := { ops := [(.move (.var 0), none), (.bin .sub (.loc 0) (.cst (.int .u8 65)), none), (.convI .u32 (.loc 0), none), (.bin .add (.loc 0) (.cst (.int .u32 10)), none), (.move (.loc 0), none)], exp := [(0, (.cst .u)), (1, (.loc 0))] }
def q107r7 : ARegion := { ops := [(.move (.cst (.int .u32 16)), none)], exp := [(1, (.loc 0))] }
def q107 : AFn := { nparams := 1, nslots := 5, slots := [0, 2, 3, 9, 20], results := [.var 1], body := (.seq (.region q107r0) (.seq (.block 0 (.seq (.region q107r1) (.cond (.var 2) (.seq (.region q107r2) .ret) (.seq (.region q107r3) (.cond (.var 3) (.seq (.region q107r4) .ret) (.seq (.region q107r5) (.cond (.var 4) (.seq (.region q107r6) .ret) .skip))))))) (.seq (.region q107r7) .ret))) }
theorem q107ok : fnOk Tryd.prog xfT gT Tryd.f107 q107 = true := by kernel_rfl
theorem q107at : Tryd.prog.funcs[107]? = some Tryd.f107 := by kernel_rfl
/-- cringle/cringleref02.Right -/
def q108r0 : ARegion := { ops := [(.move (.cst (.bool false)), none)], exp := [(1, (.cst .u))] }
def q108r1 : ARegion := { ops := [(.move (.var 0), none), (.bin .geq (.loc 0) (.cst (.int .i32 0)), none), (.move (.loc 0), none), (.move (.var 0), some ((.loc 0), true)), (.bin .leq (.loc 0) (.cst (.int .i32 1114111)), some ((.loc 1), true)), (.pick (.loc 2) (.loc 0) (.cst (.bool false)), none), (.move (.loc 0), none), (.move (.var 0), some ((.loc 0), true)), (.bin .lss (.loc 0) (.cst (.int .i32 55296)), some ((.loc 1), true)), (.move (.loc 0), some ((.loc 2), true)), (.move (.var 0), some ((.loc 0), false)), (.bin .gtr (.loc 0) (.cst (.int .i32 57343)), some ((.loc 1), false)), (.pick (.loc 2) (.cst (.bool true)) (.loc 0), some ((.loc 5), true)), (.pick (.loc 6) (.loc 0) (.cst (.bool false)), none), (.move (.loc 0), none)], exp := [(0, (.cst .u)), (1, (.loc 0))] }
def q108 : AFn := { nparams := 1, nslots := 2, slots := [0, 2], results := [.var 1], body := (.seq (.region q108r0) (.seq (.region q108r1) .ret)) }
theorem q108ok : fnOk Tryd.prog xfT gT Tryd.f108 q108 = true := by kernel_rfl
theorem q108at : Tryd.prog.funcs[108]? = some Tryd.f108 := by kernel_rfl
/-- unicode/utf8.appendRuneNonASCII -/
def q109r0 : ARegion := { ops := [(.move (.cst .nilSl), none)], exp := [(2, (.cst .u))] }
def q109r1 : ARegion := { ops := [(.move (.var 1), none), (.convI .u32 (.loc 0), none), (.move (.loc 0), none)], exp := [(3, (.loc 0))] }
def q109r2 : ARegion := { ops := [(.move (.var 3), none), (.bin .leq (.loc 0) (.cst (.int .u32 2047)), none), (.move (.loc 0), none)], exp := [(4, (.loc 0))] }
def q109r3 : ARegion := { ops := [(.move (.var 0), none), (.move (.var 1), none), (.bin .shr (.loc 0) (.cst (.int .u64 6)), none), (.convI .u8 (.loc 0), none), (.bin .or (.cst (.int .u8 192)) (.loc 0), none), (.move (.var 1), none), (.convI .u8 (.loc 0), none), (.bin .and (.loc 0) (.cst (.int .u8 63)), none), (.bin .or (.cst (.int .u8 128)) (.loc 0), none), (.buildSl 1 (.int .u8 0) 2 [(0, (.loc 4)), (1, (.loc 0))], none), (.append 5 1 1 (.loc 9) (.loc 0), none), (.move (.loc 0), none)], exp := [(0, (.cst .u)), (1, (.cst .u)), (2, (.loc 0))] }
def q109r4 : ARegion := { ops := [(.move (.var 3), none), (.bin .lss (.loc 0) (.cst (.int .u32 55296)), none), (.move (.loc 0), none)], exp := [(5, (.loc 0))] }
def q109r5 : ARegion := { ops := [(.move (.var 3), none), (.bin .lss (.cst (.int .u32 57343)) (.loc 0), none), (.move (.loc 0), none), (.move (.var 3), some ((.loc 0), true)), (.bin .leq (.loc 0) (.cst (.int .u32 65535)), some ((.loc 1), true)), (.pick (.loc 2) (.loc 0) (.cst (.bool false)), none), (.move (.loc 0), none)], exp := [(5, (.loc 0))] }
def q109r6 : ARegion := { ops := [(.move (.var 0), none), (.move (.var 1), none), (.bin .shr (.loc 0) (.cst (.int .u64 12)), none), (.convI .u8 (.loc 0), none), (.bin .or (.cst (.int .u8 224)) (.loc 0), none), (.move (.var 1), none), (.bin .shr (.loc 0) (.cst (.int .u64 6)), none), (.convI .u8 (.loc 0), none), (.bin .and (.loc 0) (.cst (.int .u8 63)), none), (.bin .or (.cst (.int .u8 128)) (.loc 0), none), (.move (.var 1), none), (.convI .u8 (.loc 0), none), (.bin .and (.loc 0) (.cst (.int .u8 63)), none), (.bin .or (.cst (.int .u8 128)) (.loc 0), none), (.buildSl 1 (.int .u8 0) 3 [(0, (.loc 9)), (1, (.loc 4)), (2, (.loc 0))], none), (.append 5 1 1 (.loc 14) (.loc 0), none), (.move (.loc 0), none)], exp := [(0, (.cst .u)), (1, (.cst .u)), (2, (.loc 0))] }
def q109r7 : ARegion := { ops := [(.move (.var 3), none), (.bin .gtr (.loc 0) (.cst (.int .u32 65535)), none), (.move (.loc 0), none), (.move (.var 3), some ((.loc 0), true)), (.bin .leq (.loc 0) (.cst (.int .u32 1114111)), some ((.loc 1), true)), (.pick (.loc 2) (.loc 0) (.cst (.bool false)), none), (.move (.loc 0), none)], exp := [(3, (.cst .u)), (6, (.loc 0))] }
def q109r8 : ARegion := { ops := [(.move (.var 0), none), (.move (.var 1), none), (.bin .shr (.loc 0) (.cst (.int .u64 18)), none), (.convI .u8 (.loc 0), none), (.bin .or (.cst (.int .u8 240)) (.loc 0), none), (.move (.var 1), none), (.bin .shr (.loc 0) (.cst (.int .u64 12)), none), (.convI .u8 (.loc 0), none), (.bin .and (.loc 0) (.cst (.int .u8 63)), none), (.bin .or (.cst (.int .u8 128)) (.loc 0), none), (.move (.var 1), none), (.bin .shr (.loc 0) (.cst (.int .u64 6)), none), (.convI .u8 (.loc 0), none), (.bin .and (.loc 0) (.cst (.int .u8 63)), none), (.bin .or (.cst (.int .u8 128)) (.loc 0), none), (.move (.var 1), none), (.convI .u8 (.loc 0), none), (.bin .and (.loc 0) (.cst (.int .u8 63)), none), (.bin .or (.cst (.int .u8 128)) (.loc 0), none), (.buildSl 1 (.int .u8 0) 4 [(0, (.loc 14)), (1, (.loc 9)), (2, (.loc 4)), (3, (.loc 0))], none), (.append 5 1 1 (.loc 19) (.loc 0), none), (.move (.loc 0), none)], exp := [(0, (.cst .u)), (1, (.cst .u)), (2, (.loc 0))] }
def q109r9 : ARegion := { ops := [(.move (.var 0), none), (.buildSl 1 (.int .u8 0) 3 [(0, (.cst (.int .u8 239))), (1, (.cst (.int .u8 191))), (2, (.cst (.int .u8 189)))], none), (.append 5 1 1 (.loc 1) (.loc 0), none), (.move (.loc 0), none)], exp := [(0, (.cst .u)), (2, (.loc 0))] }
def q109 : AFn := { nparams := 2, nslots := 7, slots := [0, 1, 4, 5, 11, 25, 50], results := [.var 2], body := (.seq (.region q109r0) (.seq (.region q109r1) (.block 0 (.seq (.region q109r2) (.cond (.var 4) (.seq (.region q109r3) .ret) (.seq (.seq (.region q109r4) (.cond (.var 5) .skip (.region q109r5))) (.cond (.var 5) (.seq (.region q109r6) .ret) (.seq (.region q109r7) (.cond (.var 6) (.seq (.region q109r8) .ret) (.seq (.region q109r9) .ret)))))))))) }
theorem q109ok : fnOk Tryd.prog xfT gT Tryd.f109 q109 = true := by kernel_rfl
theorem q109at : Tryd.prog.funcs[109]? = some Tryd.f109 := by kernel_rfl
/-- cringle/ascii.Hex -/
def q110r0 : ARegion := { ops := [(.move (.cst (.int .u32 0)), none), (.move (.cst (.int .i64 0)), none)], exp := [(1, (.cst .u)), (2, (.cst .u))] }
def q110r1 : ARegion := { ops := [(.move (.var 0), none), (.bin .eql (.loc 0) (.cst (.str [])), none)], exp := [(8, (.loc 0))] }
def q110r2 : ARegion := { ops := [(.move (.cst (.int .u32 0)), none), (.move (.cst (.int .i64 3)), none)], exp := [(1, (.loc 1)), (2, (.loc 0))] }
def q110r3 : ARegion := { ops := [(.move (.cst (.int .u32 0)), none), (.move (.cst (.bool false)), none)], exp := [(3, (.loc 1)), (4, (.loc 0))] }
def q110r4 : ARegion := { ops := [(.move (.var 0), none), (.len .str (.loc 0), none), (.move (.cst (.int .i64 0)), none)], exp := [(9, (.loc 1)), (10, (.loc 0))] }
def q110r5 : ARegion := { ops := [(.bin .lss (.var 10) (.var 9), none)], exp := [(11, (.loc 0))] }
def q110r6 : ARegion := { ops := [(.move (.var 10), none), (.move (.loc 0), none)], exp := [(5, (.loc 0))] }
def q110r7 : ARegion := { ops := [(.move (.var 0), none), (.move (.var 5), none), (.idxS (.loc 1) (.loc 0), none), (.call 113 [(.loc 0)], none), (.move (.loc 0), none), (.extract 0 (.loc 0), none), (.extract 1 (.loc 1), none), (.move (.loc 1), none), (.move (.loc 1), none)], exp := [(5, (.cst .u)), (6, (.loc 1)), (7, (.loc 0))] }
def q110r8 : ARegion := { ops := [(.move (.var 7), none), (.not (.loc 0), none)], exp := [(7, (.cst .u)), (12, (.loc 0))] }
def q110r9 : ARegion := { ops := [(.move (.cst (.int .u32 0)), none), (.move (.cst (.int .i64 3)), none)], exp := [(1, (.loc 1)), (2, (.loc 0))] }
def q110r10 : ARegion := { ops := [(.move (.var 4), none), (.move (.loc 0), none), (.move (.var 3), some ((.loc 0), false)), (.bin .shr (.loc 0) (.cst (.int .u64 28)), some ((.loc 1), false)), (.bin .neq (.loc 0) (.cst (.int .u32 0)), some ((.loc 2), false)), (.pick (.loc 3) (.cst (.bool true)) (.loc 0), none), (.move (.loc 0), none)], exp := [(4, (.loc 0))] }
def q110r11 : ARegion := { ops := [(.move (.var 3), none), (.bin .shl (.loc 0) (.cst (.int .u64 4)), none), (.move (.var 6), none), (.bin .or (.loc 1) (.loc 0), none), (.move (.loc 0), none)], exp := [(3, (.loc 0)), (6, (.cst .u))] }
def q110r12 : ARegion := { ops := [(.bin .add (.var 10) (.cst (.int .i64 1)), none), (.move (.loc 0), none)], exp := [(10, (.loc 0))] }
def q110l13 : ACode := (.seq (.region q110r5) (.seq (.cond (.var 11) .skip (.exit 0)) (.seq (.block 1 (.seq (.region q110r6) (.seq (.region q110r7) (.seq (.seq (.region q110r8) (.cond (.var 12) (.seq (.region q110r9) .ret) .skip)) (.seq (.region q110r10) (.region q110r11)))))) (.region q110r12))))
def q110r14 : ARegion := { ops := [(.move (.var 4), none)], exp := [(4, (.cst .u)), (13, (.loc 0))] }
def q110r15 : ARegion := { ops := [(.move (.cst (.int .u32 0)), none), (.move (.cst (.int .i64 5)), none)], exp := [(1, (.loc 1)), (2, (.loc 0))] }
def q110r16 : ARegion := { ops := [(.move (.var 3), none), (.move (.loc 0), none), (.move (.cst (.int .i64 0)), none)], exp := [(1, (.loc 1)), (2, (.loc 0)), (3, (.cst .u))] }
def q110 : AFn := { nparams := 1, nslots := 14, slots := [0, 2, 3, 4, 5, 6, 7, 8, 10, 12, 13, 14, 24, 36], results := [.var 1, .var 2], body := (.seq (.region q110r0) (.seq (.seq (.region q110r1) (.cond (.var 8) (.seq (.region q110r2) .ret) .skip)) (.seq (.region q110r3) (.seq (.seq (.region q110r4) (.block 0 (.loop [1, 2, 5, 6, 7, 8, 11, 12, 13] q110l13))) (.seq (.seq (.region q110r14) (.cond (.var 13) (.seq (.region q110r15) .ret) .skip)) (.seq (.region q110r16) .ret)))))) }
theorem q110ok : fnOk Tryd.prog xfT gT Tryd.f110 q110 = true := by kernel_rfl
theorem q110at : Tryd.prog.funcs[110]? = some Tryd.f110 := by kernel_rfl
/-- unicode/utf8.decodeRuneInStringSlow -/
def q111r0 : ARegion := { ops := [(.move (.cst (.int .i32 0)), none), (.move (.cst (.int .i64 0)), none)], exp := [(1, (.cst .u)), (2, (.cst .u))] }
def q111r1 : ARegion := { ops := [(.move (.var 0), none), (.len .str (.loc 0), none), (.move (.loc 0), none)], exp := [(3, (.loc 0))] }
def q111r2 : ARegion := { ops := [(.move (.var 3), none), (.bin .lss (.loc 0) (.cst (.int .i64 1)), none)], exp := [(12, (.loc 0))] }
def q111r3 : ARegion := { ops := [(.move (.cst (.int .i32 65533)), none), (.move (.cst (.int .i64 0)), none)], exp := [(1, (.loc 1)), (2, (.loc 0))] }
def q111r4 : ARegion := { ops := [(.move (.var 0), none), (.idxS (.loc 0) (.cst (.int .i64 0)), none), (.move (.loc 0), none)], exp := [(4, (.loc 0))] }
def q111r5 : ARegion := { ops := [(.move (.var 4), none), (.idxAddrA 256 1 (.cst (.sptr t_unicode_utf8_first 0)) (.loc 0), none), (.load false 1 (.loc 0), none), (.move (.loc 0), none)], exp := [(5, (.loc 0))] }
def q111r6 : ARegion := { ops := [(.move (.var 5), none), (.bin .geq (.loc 0) (.cst (.int .u8 240)), none)], exp := [(13, (.loc 0))] }
def q111r7 : ARegion := { ops := [(.move (.var 5), none), (.convI .i32 (.loc 0), none), (.bin .shl (.loc 0) (.cst (.int .u64 31)), none), (.bin .shr (.loc 0) (.cst (.int .u64 31)), none), (.move (.loc 0), none)], exp := [(5, (.cst .u)), (6, (.loc 0))] }
def q111r8 : ARegion := { ops := [(.move (.var 0), none), (.idxS (.loc 0) (.cst (.int .i64 0)), none), (.convI .i32 (.loc 0), none), (.move (.var 6), none), (.bin .andNot (.loc 1) (.loc 0), none), (.move (.var 6), none), (.bin .and (.cst (.int .i32 65533)) (.loc 0), none), (.bin .or (.loc 2) (.loc 0), none), (.move (.loc 0), none), (.move (.cst (.int .i64 1)), none)], exp := [(0, (.cst .u)), (1, (.loc 1)), (2, (.loc 0)), (6, (.cst .u))] }
def q111r9 : ARegion := { ops := [(.move (.var 5), none), (.bin .and (.loc 0) (.cst (.int .u8 7)), none), (.convI .i64 (.loc 0), none), (.move (.loc 0), none)], exp := [(7, (.loc 0))] }
def q111r10 : ARegion := { ops := [(.move (.var 5), none), (.bin .shr (.loc 0) (.cst (.int .u64 4)), none), (.idxAddrA 16 2 (.cst (.sptr t_unicode_utf8_acceptRanges 0)) (.loc 0), none), (.load true 2 (.loc 0), none), (.alloc 136 [(.int .u8 0), (.int .u8 0)], none), (.store 2 (.loc 0) (.loc 1), none)], exp := [(5, (.cst .u)), (8, (.loc 1))] }
def q111r11 : ARegion := { ops := [(.move (.var 3), none), (.move (.var 7), none), (.bin .lss (.loc 1) (.loc 0), none)], exp := [(3, (.cst .u)), (14, (.loc 0))] }
def q111r12 : ARegion := { ops := [(.move (.cst (.int .i32 65533)), none), (.move (.cst (.int .i64 1)), none)], exp := [(1, (.loc 1)), (2, (.loc 0))] }
def q111r13 : ARegion := { ops := [(.move (.var 0), none), (.idxS (.loc 0) (.cst (.int .i64 1)), none), (.move (.loc 0), none)], exp := [(9, (.loc 0))] }
def q111r14 : ARegion := { ops := [(.move (.var 9), none), (.fieldAddr 0 (.var 8), none), (.load false 1 (.loc 0), none), (.bin .lss (.loc 2) (.loc 0), none), (.move (.loc 0), none), (.fieldAddr 1 (.var 8), some ((.loc 0), false)), (.load false 1 (.loc 0), some ((.loc 1), false)), (.move (.var 9), some ((.loc 2), false)), (.bin .lss (.loc 1) (.loc 0), some ((.loc 3), false)), (.pick (.loc 4) (.cst (.bool true)) (.loc 0), none)], exp := [(8, (.cst .u)), (15, (.loc 0))] }
def q111r15 : ARegion := { ops := [(.move (.cst (.int .i32 65533)), none), (.move (.cst (.int .i64 1)), none)], exp := [(1, (.loc 1)), (2, (.loc 0))] }
def q111r16 : ARegion := { ops := [(.move (.var 7), none), (.bin .leq (.loc 0) (.cst (.int .i64 2)), none)], exp := [(16, (.loc 0))] }
def q111r17 : ARegion := { ops := [(.move (.var 4), none), (.bin .and (.loc 0) (.cst (.int .u8 31)), none), (.convI .i32 (.loc 0), none), (.bin .shl (.loc 0) (.cst (.int .u64 6)), none), (.move (.var 9), none), (.bin .and (.loc 0) (.cst (.int .u8 63)), none), (.convI .i32 (.loc 0), none), (.bin .or (.loc 3) (.loc 0), none), (.move (.loc 0), none), (.move (.cst (.int .i64 2)), none)], exp := [(1, (.loc 1)), (2, (.loc 0)), (4, (.cst .u)), (9, (.cst .u))] }
def q111r18 : ARegion := { ops := [(.move (.var 0), none), (.idxS (.loc 0) (.cst (.int .i64 2)), none), (.move (.loc 0), none)], exp := [(10, (.loc 0))] }
def q111r19 : ARegion := { ops := [(.move (.var 10), none), (.bin .lss (.loc 0) (.cst (.int .u8 128)), none), (.move (.loc 0), none), (.move (.var 10), some ((.loc 0), false)), (.bin .lss (.cst (.int .u8 191)) (.loc 0), some ((.loc 1), false)), (.pick (.loc 2) (.cst (.bool true)) (.loc 0), none)], exp := [(17, (.loc 0))] }
def q111r20 : ARegion := { ops := [(.move (.cst (.int .i32 65533)), none), (.move (.cst (.int .i64 1)), none)], exp := [(1, (.loc 1)), (2, (.loc 0))] }
def q111r21 : ARegion := { ops := [(.move (.var 7), none), (.bin .leq (.loc 0) (.cst (.int .i64 3)), none)], exp := [(7, (.cst .u)), (18, (.loc 0))] }
def q111r22 : ARegion := { ops := [(.move (.var 4), none), (.bin .and (.loc 0) (.cst (.int .u8 15)), none), (.convI .i32 (.loc 0), none), (.bin .shl (.loc 0) (.cst (.int .u64 12)), none), (.move (.var 9), none), (.bin .and (.loc 0) (.cst (.int .u8 63)), none), (.convI .i32 (.loc 0), none), (.bin .shl (.loc 0) (.cst (.int .u64 6)), none), (.bin .or (.loc 4) (.loc 0), none), (.move (.var 10), none), (.bin .and (.loc 0) (.cst (.int .u8 63)), none), (.convI .i32 (.loc 0), none), (.bin .or (.loc 3) (.loc 0), none), (.move (.loc 0), none), (.move (.cst (.int .i64 3)), none)], exp := [(1, (.loc 1)), (2, (.loc 0)), (4, (.cst .u)), (9, (.cst .u)), (10, (.cst .u))] }
def q111r23 : ARegion := { ops := [(.move (.var 0), none), (.idxS (.loc 0) (.cst (.int .i64 3)), none), (.move (.loc 0), none)], exp := [(0, (.cst .u)), (11, (.loc 0))] }
def q111r24 : ARegion := { ops := [(.move (.var 11), none), (.bin .lss (.loc 0) (.cst (.int .u8 128)), none), (.move (.loc 0), none), (.move (.var 11), some ((.loc 0), false)), (.bin .lss (.cst (.int .u8 191)) (.loc 0), some ((.loc 1), false)), (.pick (.loc 2) (.cst (.bool true)) (.loc 0), none)], exp := [(19, (.loc 0))] }
def q111r25 : ARegion := { ops := [(.move (.cst (.int .i32 65533)), none), (.move (.cst (.int .i64 1)), none)], exp := [(1, (.loc 1)), (2, (.loc 0))] }
def q111r26 : ARegion := { ops := [(.move (.var 4), none), (.bin .and (.loc 0) (.cst (.int .u8 7)), none), (.convI .i32 (.loc 0), none), (.bin .shl (.loc 0) (.cst (.int .u64 18)), none), (.move (.var 9), none), (.bin .and (.loc 0) (.cst (.int .u8 63)), none), (.convI .i32 (.loc 0), none), (.bin .shl (.loc 0) (.cst (.int .u64 12)), none), (.bin .or (.loc 4) (.loc 0), none), (.move (.var 10), none), (.bin .and (.loc 0) (.cst (.int .u8 63)), none), (.convI .i32 (.loc 0), none), (.bin .shl (.loc 0) (.cst (.int .u64 6)), none), (.bin .or (.loc 4) (.loc 0), none), (.move (.var 11), none), (.bin .and (.loc 0) (.cst (.int .u8 63)), none), (.convI .i32 (.loc 0), none), (.bin .or (.loc 3) (.loc 0), none), (.move (.loc 0), none), (.move (.cst (.int .i64 4)), none)], exp := [(1, (.loc 1)), (2, (.loc 0)), (4, (.cst .u)), (9, (.cst .u)), (10, (.cst .u)), (11, (.cst .u))] }
def q111 : AFn := { nparams := 1, nslots := 20, slots := [0, 2, 3, 4, 5, 6, 7, 8, 9, 10, 11, 12, 16, 23, 45, 57, 59, 75, 77, 98], results := [.var 1, .var 2], body := (.seq (.region q111r0) (.seq (.region q111r1) (.seq (.seq (.region q111r2) (.cond (.var 12) (.seq (.region q111r3) .ret) .skip)) (.seq (.region q111r4) (.seq (.region q111r5) (.seq (.seq (.region q111r6) (.cond (.var 13) (.seq (.region q111r7) (.seq (.region q111r8) .ret)) .skip)) (.seq (.region q111r9) (.seq (.region q111r10) (.seq (.seq (.region q111r11) (.cond (.var 14) (.seq (.region q111r12) .ret) .skip)) (.seq (.region q111r13) (.seq (.seq (.region q111r14) (.cond (.var 15) (.seq (.region q111r15) .ret) .skip)) (.seq (.seq (.region q111r16) (.cond (.var 16) (.seq (.region q111r17) .ret) .skip)) (.seq (.region q111r18) (.seq (.seq (.region q111r19) (.cond (.var 17) (.seq (.region q111r20) .ret) .skip)) (.seq (.seq (.region q111r21) (.cond (.var 18) (.seq (.region q111r22) .ret) .skip)) (.seq (.region q111r23) (.seq (.seq (.region q111r24) (.cond (.var 19) (.seq (.region q111r25) .ret) .skip)) (.seq (.region q111r26) .ret)))))))))))))))))) }
theorem q111ok : fnOk Tryd.prog xfT gT Tryd.f111 q111 = true := by kernel_rfl
theorem q111at : Tryd.prog.funcs[111]? = some Tryd.f111 := by kernel_rfl
/-- strings.IndexRune, in part -/
def q112r0 : ARegion := { ops := [(.move (.cst (.int .i64 0)), none)], exp := [(2, (.cst .u))] }
def q112r1 : ARegion := { ops := [(.move (.var 1), none), (.bin .leq (.cst (.int .i32 0)) (.loc 0), none), (.move (.loc 0), none), (.move (.var 1), some ((.loc 0), true)), (.bin .lss (.loc 0) (.cst (.int .i32 128)), some ((.loc 1), true)), (.pick (.loc 2) (.loc 0) (.cst (.bool false)), none), (.move (.loc 0), none)], exp := [(26, (.loc 0))] }
def q112r2 : ARegion := { ops := [(.move (.var 0), none), (.move (.var 1), none), (.convI .u8 (.loc 0), none), (.call 67 [(.loc 2), (.loc 0)], none), (.move (.loc 0), none)], exp := [(0, (.cst .u)), (1, (.cst .u)), (2, (.loc 0))] }
def q112r3 : ARegion := { ops := [(.move (.var 1), none), (.bin .eql (.loc 0) (.cst (.int .i32 65533)), none), (.move (.loc 0), none)], exp := [(27, (.loc 0))] }
def q112r4 : ARegion := { ops := [(.move (.var 0), none), (.rangeS (.loc 0), none)], exp := [(0, (.cst .u)), (28, (.loc 0))] }
def q112r5 : ARegion := { ops := [(.nextS (.var 28), none), (.extract 0 (.loc 0), none)], exp := [(29, (.loc 1)), (30, (.loc 0))] }
def q112r6 : ARegion := { ops := [(.extract 1 (.var 29), none), (.extract 2 (.var 29), none), (.move (.loc 1), none), (.move (.loc 1), none)], exp := [(3, (.loc 1)), (4, (.loc 0)), (29, (.cst .u))] }
def q112r7 : ARegion := { ops := [(.move (.var 4), none), (.bin .eql (.loc 0) (.cst (.int .i32 65533)), none)], exp := [(4, (.cst .u)), (31, (.loc 0))] }
def q112r8 : ARegion := { ops := [(.move (.var 3), none), (.move (.loc 0), none)], exp := [(2, (.loc 0)), (3, (.cst .u))] }
def q112l9 : ACode := (.seq (.region q112r5) (.seq (.cond (.var 30) .skip (.exit 9)) (.block 10 (.seq (.region q112r6) (.seq (.region q112r7) (.cond (.var 31) (.seq (.region q112r8) .ret) .skip))))))
def q112r10 : ARegion := { ops := [(.move (.cst (.int .i64 (-1))), none)], exp := [(2, (.loc 0))] }
def q112r11 : ARegion := { ops := [(.move (.var 1), none), (.call 114 [(.loc 0)], none), (.not (.loc 0), none), (.move (.loc 0), none)], exp := [(32, (.loc 0))] }
def q112r12 : ARegion := { ops := [(.move (.cst (.int .i64 (-1))), none)], exp := [(2, (.loc 0))] }
def q112 : AFn := { nparams := 2, nslots := 33, slots := [0, 1, 4, 5, 6, 7, 8, 9, 10, 11, 12, 13, 14, 15, 16, 26, 33, 43, 51, 64, 98, 108, 124, 139, 143, 156, 160, 171, 175, 176, 177, 181, 183], results := [.var 2], body := (.seq (.region q112r0) (.block 0 (.seq (.region q112r1) (.cond (.var 26) (.seq (.region q112r2) .ret) (.seq (.region q112r3) (.cond (.var 27) (.seq (.seq (.region q112r4) (.block 9 (.loop [0, 1, 2, 3, 4, 5, 6, 7, 8, 9, 10, 11, 12, 13, 14, 15, 16, 17, 18, 19, 20, 21, 22, 23, 24, 25, 26, 27, 29, 30, 31, 32] q112l9))) (.seq (.region q112r10) .ret)) (.seq (.region q112r11) (.cond (.var 32) (.seq (.region q112r12) .ret) .stuck)))))))) }
theorem q112ok : fnOk Tryd.prog xfT gT Tryd.f112 q112 = true := by kernel_rfl
theorem q112at : Tryd.prog.funcs[112]? = some Tryd.f112 := by kernel_rfl
/-- cringle/ascii.nibble -/
def q113r0 : ARegion := { ops := [(.move (.cst (.int .u32 0)), none), (.move (.cst (.bool false)), none)], exp := [(1, (.cst .u)), (2, (.cst .u))] }
def q113r1 : ARegion := { ops := [(.move (.var 0), none), (.call 117 [(.loc 0)], none), (.move (.loc 0), none)], exp := [(0, (.loc 0))] }
def q113r2 : ARegion := { ops := [(.move (.var 0), none), (.call 64 [(.loc 0)], none), (.move (.loc 0), none)], exp := [(3, (.loc 0))] }
def q113r3 : ARegion := { ops := [(.move (.var 0), none), (.bin .sub (.loc 0) (.cst (.int .u8 48)), none), (.convI .u32 (.loc 0), none), (.move (.loc 0), none), (.move (.cst (.bool true)), none)], exp := [(0, (.cst .u)), (1, (.loc 1)), (2, (.loc 0))] }
def q113r4 : ARegion := { ops := [(.move (.var 0), none), (.bin .sub (.loc 0) (.cst (.int .u8 97)), none), (.bin .lss (.loc 0) (.cst (.int .u8 6)), none), (.move (.loc 0), none)], exp := [(4, (.loc 0))] }
def q113r5 : ARegion := { ops := [(.move (.var 0), none), (.bin .sub (.loc 0) (.cst (.int .u8 97)), none), (.convI .u32 (.loc 0), none), (.bin .add (.loc 0) (.cst (.int .u32 10)), none), (.move (.loc 0), none), (.move (.cst (.bool true)), none)], exp := [(0, (.cst .u)), (1, (.loc 1)), (2, (.loc 0))] }
def q113r6 : ARegion := { ops := [(.move (.cst (.int .u32 0)), none), (.move (.cst (.bool false)), none)], exp := [(1, (.loc 1)), (2, (.loc 0))] }
def q113 : AFn := { nparams := 1, nslots := 5, slots := [0, 2, 3, 6, 12], results := [.var 1, .var 2], body := (.seq (.region q113r0) (.seq (.seq (.region q113r1) (.block 0 (.seq (.region q113r2) (.cond (.var 3) (.seq (.region q113r3) .ret) (.seq (.region q113r4) (.cond (.var 4) (.seq (.region q113r5) .ret) .skip)))))) (.seq (.region q113r6) .ret))) }
theorem q113ok : fnOk Tryd.prog xfT gT Tryd.f113 q113 = true := by kernel_rfl
theorem q113at : Tryd.prog.funcs[113]? = some Tryd.f113 := by kernel_rfl
/-- unicode/utf8.ValidRune -/
def q114r0 : ARegion := { ops := [(.move (.cst (.bool false)), none)], exp := [(1, (.cst .u))] }
def q114r1 : ARegion := { ops := [(.move (.var 0), none), (.bin .leq (.cst (.int .i32 0)) (.loc 0), none), (.move (.loc 0), none), (.move (.var 0), some ((.loc 0), true)), (.bin .lss (.loc 0) (.cst (.int .i32 55296)), some ((.loc 1), true)), (.pick (.loc 2) (.loc 0) (.cst (.bool false)), none), (.move (.loc 0), none)], exp := [(2, (.loc 0))] }
def q114r2 : ARegion := { ops := [(.move (.cst (.bool true)), none)], exp := [(1, (.loc 0))] }
def q114r3 : ARegion := { ops := [(.move (.var 0), none), (.bin .lss (.cst (.int .i32 57343)) (.loc 0), none), (.move (.loc 0), none), (.move (.var 0), some ((.loc 0), true)), (.bin .leq (.loc 0) (.cst (.int .i32 1114111)), some ((.loc 1), true)), (.pick (.loc 2) (.loc 0) (.cst (.bool false)), none), (.move (.loc 0), none)], exp := [(0, (.cst .u)), (3, (.loc 0))] }
def q114r4 : ARegion := { ops := [(.move (.cst (.bool true)), none)], exp := [(1, (.loc 0))] }
def q114r5 : ARegion := { ops := [(.move (.cst (.bool false)), none)], exp := [(1, (.loc 0))] }
def q114 : AFn := { nparams := 1, nslots := 4, slots := [0, 2, 3, 10], results := [.var 1], body := (.seq (.region q114r0) (.seq (.block 0 (.seq (.region q114r1) (.cond (.var 2) (.seq (.region q114r2) .ret) (.seq (.region q114r3) (.cond (.var 3) (.seq (.region q114r4) .ret) .skip))))) (.seq (.region q114r5) .ret))) }
theorem q114ok : fnOk Tryd.prog xfT gT Tryd.f114 q114 = true := by kernel_rfl
theorem q114at : Tryd.prog.funcs[114]? = some Tryd.f114 := by kernel_rfl
/-- internal/bytealg.Cutover -/
def q115r0 : ARegion := { ops := [(.move (.cst (.int .i64 0)), none)], exp := [(1, (.cst .u))] }
def q115r1 : ARegion := { ops := [(.move (.var 0), none), (.bin .add (.loc 0) (.cst (.int .i64 16)), none), (.bin .quo (.loc 0) (.cst (.int .i64 8)), none), (.move (.loc 0), none)], exp := [(0, (.cst .u)), (1, (.loc 0))] }
def q115 : AFn := { nparams := 1, nslots := 2, slots := [0, 2], results := [.var 1], body := (.seq (.region q115r0) (.seq (.region q115r1) .ret)) }
theorem q115ok : fnOk Tryd.prog xfT gT Tryd.f115 q115 = true := by kernel_rfl
theorem q115at : Tryd.prog.funcs[115]? = some Tryd.f115 := by kernel_rfl
/-- cringle/ascii.low -/
def q117r0 : ARegion := { ops := [(.move (.cst (.int .u8 0)), none)], exp := [(1, (.cst .u))] }
def q117r1 : ARegion := { ops := [(.move (.var 0), none), (.bin .sub (.loc 0) (.cst (.int .u8 65)), none), (.bin .lss (.loc 0) (.cst (.int .u8 26)), none)], exp := [(2, (.loc 0))] }
def q117r2 : ARegion := { ops := [(.move (.var 0), none), (.bin .or (.loc 0) (.cst (.int .u8 32)), none), (.move (.loc 0), none)], exp := [(0, (.cst .u)), (1, (.loc 0))] }
def q117r3 : ARegion := { ops := [(.move (.var 0), none), (.move (.loc 0), none)], exp := [(0, (.cst .u)), (1, (.loc 0))] }
def q117 : AFn := { nparams := 1, nslots := 3, slots := [0, 2, 5], results := [.var 1], body := (.seq (.region q117r0) (.seq (.seq (.region q117r1) (.cond (.var 2) (.seq (.region q117r2) .ret) .skip)) (.seq (.region q117r3) .ret))) }
theorem q117ok : fnOk Tryd.prog xfT gT Tryd.f117 q117 = true := by kernel_rfl
theorem q117at : Tryd.prog.funcs[117]? = some Tryd.f117 := by kernel_rfl
end Go.Proofs.YtinlfdkalijffaaDoor.Am.Q
