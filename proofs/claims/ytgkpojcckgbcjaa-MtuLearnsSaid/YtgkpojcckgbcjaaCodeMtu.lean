import Derived.Test.YtgkpojcckgbcjaaVmCall
import Derived.Test.YtgkpojcckgbcjaaProg
import Derived.KernelRfl
namespace Go.Vm.Code
open Go Go.Vm Go.Proofs
/- 3: cloakroom/cloakroomlaw56.MtuLearns -/
def k3_0 : VC := .reg [⟨(some 4), .mv (.const (.bool false)), none⟩]
def k3_1 : VC := .reg [⟨(some 10), .mv (.tmp 1), none⟩,
    ⟨(some 11), .lenL (.tmp 10), none⟩,
    ⟨(some 12), .bin .gtr (.tmp 11) (.const (.int .i64 20)), none⟩]
def k3_2 : VC := .reg [⟨(some 13), .callF 15 [], none⟩,
    ⟨(some 4), .mv (.tmp 13), none⟩]
def k3_3 : VC := .seq k3_2 .ret
def k3_4 : VC := .cond (.tmp 12) k3_3 .skip
def k3_5 : VC := .seq k3_1 k3_4
def k3_6 : VC := .reg [⟨(some 14), .mv (.tmp 0), none⟩,
    ⟨(some 15), .conv .i64 (.tmp 14), none⟩,
    ⟨(some 16), .bin .rem (.tmp 15) (.const (.int .i64 8425)), none⟩,
    ⟨(some 17), .bin .add (.const (.int .i64 576)) (.tmp 16), none⟩,
    ⟨(some 5), .mv (.tmp 17), none⟩]
def k3_7 : VC := .reg [⟨(some 18), .mv (.tmp 5), none⟩,
    ⟨(some 19), .mv (.tmp 5), none⟩,
    ⟨(some 6), .mv (.tmp 18), none⟩,
    ⟨(some 7), .mv (.tmp 19), none⟩]
def k3_8 : VC := .reg [⟨(some 8), .mv (.const (.int .i64 0)), none⟩]
def k3_9 : VC := .reg [⟨(some 20), .mv (.tmp 8), none⟩,
    ⟨(some 21), .mv (.tmp 1), none⟩,
    ⟨(some 22), .lenL (.tmp 21), none⟩,
    ⟨(some 23), .bin .lss (.tmp 20) (.tmp 22), none⟩]
def k3_10 : VC := .cond (.tmp 23) .skip (.exit 0)
def k3_11 : VC := .seq k3_9 k3_10
def k3_12 : VC := .reg [⟨(some 26), .mv (.tmp 6), none⟩,
    ⟨(some 27), .mv (.tmp 1), none⟩,
    ⟨(some 28), .mv (.tmp 8), none⟩,
    ⟨(some 29), .idxAL 1 (.tmp 27) (.tmp 28), none⟩,
    ⟨(some 30), .load1 (.int .i64) (.tmp 29), none⟩,
    ⟨(some 31), .callF 16 [(.tmp 26), (.tmp 30)], none⟩,
    ⟨(some 9), .mv (.tmp 31), none⟩]
def k3_13 : VC := .reg [⟨(some 32), .mv (.tmp 9), none⟩,
    ⟨(some 33), .mv (.tmp 6), none⟩,
    ⟨(some 34), .bin .gtr (.tmp 32) (.tmp 33), none⟩,
    ⟨(some 35), .mv (.tmp 34), none⟩,
    ⟨(some 36), .mv (.tmp 9), (some (35, false))⟩,
    ⟨(some 37), .bin .lss (.tmp 36) (.const (.int .i64 576)), (some (35, false))⟩,
    ⟨(some 38), .pick (.tmp 35) (.const (.bool true)) (.tmp 37), none⟩]
def k3_14 : VC := .reg [⟨(some 4), .mv (.const (.bool false)), none⟩]
def k3_15 : VC := .seq k3_14 .ret
def k3_16 : VC := .cond (.tmp 38) k3_15 .skip
def k3_17 : VC := .seq k3_13 k3_16
def k3_18 : VC := .reg [⟨(some 39), .mv (.tmp 9), none⟩,
    ⟨(some 6), .mv (.tmp 39), none⟩]
def k3_19 : VC := .reg [⟨(some 40), .mv (.tmp 7), none⟩,
    ⟨(some 41), .mv (.tmp 1), none⟩,
    ⟨(some 42), .mv (.tmp 1), none⟩,
    ⟨(some 43), .lenL (.tmp 42), none⟩,
    ⟨(some 44), .bin .sub (.tmp 43) (.const (.int .i64 1)), none⟩,
    ⟨(some 45), .mv (.tmp 8), none⟩,
    ⟨(some 46), .bin .sub (.tmp 44) (.tmp 45), none⟩,
    ⟨(some 47), .idxAL 1 (.tmp 41) (.tmp 46), none⟩,
    ⟨(some 48), .load1 (.int .i64) (.tmp 47), none⟩,
    ⟨(some 49), .callF 16 [(.tmp 40), (.tmp 48)], none⟩,
    ⟨(some 7), .mv (.tmp 49), none⟩]
def k3_20 : VC := .seq k3_18 k3_19
def k3_21 : VC := .seq k3_17 k3_20
def k3_22 : VC := .seq k3_12 k3_21
def k3_23 : VC := .block 1 k3_22
def k3_24 : VC := .reg [⟨(some 24), .mv (.tmp 8), none⟩,
    ⟨(some 25), .bin .add (.tmp 24) (.const (.int .i64 1)), none⟩,
    ⟨(some 8), .mv (.tmp 25), none⟩]
def k3_25 : VC := .seq k3_23 k3_24
def k3_26 : VC := .seq k3_11 k3_25
def k3_27 : VC := .loop k3_26
def k3_28 : VC := .block 0 k3_27
def k3_29 : VC := .seq k3_8 k3_28
def k3_30 : VC := .reg [⟨(some 50), .mv (.tmp 6), none⟩,
    ⟨(some 51), .mv (.tmp 7), none⟩,
    ⟨(some 52), .bin .eql (.tmp 50) (.tmp 51), none⟩,
    ⟨(some 53), .mv (.tmp 52), none⟩,
    ⟨(some 54), .mv (.tmp 1), (some (53, true))⟩,
    ⟨(some 55), .callF 17 [(.tmp 54)], (some (53, true))⟩,
    ⟨(some 56), .mv (.tmp 5), (some (53, true))⟩,
    ⟨(some 57), .bin .geq (.tmp 55) (.tmp 56), (some (53, true))⟩,
    ⟨(some 58), .mv (.tmp 57), (some (53, true))⟩,
    ⟨(some 59), .mv (.tmp 6), (some (58, true))⟩,
    ⟨(some 60), .mv (.tmp 5), (some (58, true))⟩,
    ⟨(some 61), .bin .eql (.tmp 59) (.tmp 60), (some (58, true))⟩,
    ⟨(some 62), .pick (.tmp 58) (.tmp 61) (.const (.bool false)), (some (53, true))⟩,
    ⟨(some 63), .mv (.tmp 62), (some (53, true))⟩,
    ⟨(some 64), .mv (.tmp 1), (some (63, false))⟩,
    ⟨(some 65), .callF 17 [(.tmp 64)], (some (63, false))⟩,
    ⟨(some 66), .mv (.tmp 5), (some (63, false))⟩,
    ⟨(some 67), .bin .lss (.tmp 65) (.tmp 66), (some (63, false))⟩,
    ⟨(some 68), .mv (.tmp 67), (some (63, false))⟩,
    ⟨(some 69), .mv (.tmp 6), (some (68, true))⟩,
    ⟨(some 70), .mv (.tmp 1), (some (68, true))⟩,
    ⟨(some 71), .callF 17 [(.tmp 70)], (some (68, true))⟩,
    ⟨(some 72), .bin .eql (.tmp 69) (.tmp 71), (some (68, true))⟩,
    ⟨(some 73), .pick (.tmp 68) (.tmp 72) (.const (.bool false)), (some (63, false))⟩,
    ⟨(some 74), .pick (.tmp 63) (.const (.bool true)) (.tmp 73), (some (53, true))⟩,
    ⟨(some 75), .pick (.tmp 53) (.tmp 74) (.const (.bool false)), none⟩,
    ⟨(some 76), .mv (.tmp 75), none⟩,
    ⟨(some 77), .callF 15 [], (some (76, true))⟩,
    ⟨(some 78), .pick (.tmp 76) (.tmp 77) (.const (.bool false)), none⟩,
    ⟨(some 4), .mv (.tmp 78), none⟩]
def k3_31 : VC := .seq k3_30 .ret
def k3_32 : VC := .seq k3_29 k3_31
def k3_33 : VC := .seq k3_7 k3_32
def k3_34 : VC := .seq k3_6 k3_33
def k3_35 : VC := .seq k3_5 k3_34
def k3_36 : VC := .seq k3_0 k3_35
def fn3 : VFn := ⟨79, k3_36, [.tmp 4]⟩
/- 15: cloakroom/cloakroomlaw56.awake -/
def k15_0 : VC := .reg [⟨(some 0), .mv (.const (.bool false)), none⟩]
def k15_1 : VC := .reg [⟨(some 1), .callF 56 [(.const (.int .i64 1500)), (.const (.bool false))], none⟩,
    ⟨(some 2), .bin .eql (.tmp 1) (.const (.int .i64 1454)), none⟩,
    ⟨(some 3), .mv (.tmp 2), none⟩,
    ⟨(some 4), .callF 56 [(.const (.int .i64 575)), (.const (.bool true))], (some (3, true))⟩,
    ⟨(some 5), .bin .eql (.tmp 4) (.const (.int .i64 0)), (some (3, true))⟩,
    ⟨(some 6), .pick (.tmp 3) (.tmp 5) (.const (.bool false)), none⟩,
    ⟨(some 7), .mv (.tmp 6), none⟩,
    ⟨(some 8), .callF 16 [(.const (.int .i64 1500)), (.const (.int .i64 1400))], (some (7, true))⟩,
    ⟨(some 9), .bin .eql (.tmp 8) (.const (.int .i64 1400)), (some (7, true))⟩,
    ⟨(some 10), .pick (.tmp 7) (.tmp 9) (.const (.bool false)), none⟩,
    ⟨(some 11), .mv (.tmp 10), none⟩,
    ⟨(some 12), .callF 17 [(.const (.slice none 0 0))], (some (11, true))⟩,
    ⟨(some 13), .bin .eql (.tmp 12) (.const (.int .i64 9000)), (some (11, true))⟩,
    ⟨(some 14), .pick (.tmp 11) (.tmp 13) (.const (.bool false)), none⟩,
    ⟨(some 15), .mv (.tmp 14), none⟩,
    ⟨(some 16), .callF 57 [(.const (.string ⟨⟨[]⟩⟩)), (.const (.int .i64 600)), (.const (.bool true))], (some (15, true))⟩,
    ⟨(some 17), .pick (.tmp 15) (.tmp 16) (.const (.bool false)), none⟩,
    ⟨(some 0), .mv (.tmp 17), none⟩]
def k15_2 : VC := .seq k15_1 .ret
def k15_3 : VC := .seq k15_0 k15_2
def fn15 : VFn := ⟨18, k15_3, [.tmp 0]⟩
/- 56: cloakroom/mtu.Room -/
def k56_0 : VC := .reg [⟨(some 4), .mv (.const (.int .i64 0)), none⟩]
def k56_1 : VC := .reg [⟨(some 5), .mv (.tmp 0), none⟩,
    ⟨(some 6), .callF 89 [(.tmp 5)], none⟩,
    ⟨(some 7), .not (.tmp 6), none⟩]
def k56_2 : VC := .reg [⟨(some 4), .mv (.const (.int .i64 0)), none⟩]
def k56_3 : VC := .seq k56_2 .ret
def k56_4 : VC := .cond (.tmp 7) k56_3 .skip
def k56_5 : VC := .seq k56_1 k56_4
def k56_6 : VC := .reg [⟨(some 8), .mv (.tmp 0), none⟩,
    ⟨(some 9), .mv (.tmp 1), none⟩,
    ⟨(some 10), .callF 90 [(.tmp 9)], none⟩,
    ⟨(some 11), .bin .sub (.tmp 8) (.tmp 10), none⟩,
    ⟨(some 12), .bin .sub (.tmp 11) (.const (.int .i64 18)), none⟩,
    ⟨(some 4), .mv (.tmp 12), none⟩]
def k56_7 : VC := .seq k56_6 .ret
def k56_8 : VC := .seq k56_5 k56_7
def k56_9 : VC := .seq k56_0 k56_8
def fn56 : VFn := ⟨13, k56_9, [.tmp 4]⟩
/- 89: cloakroom/mtu.may -/
def k89_0 : VC := .reg [⟨(some 2), .mv (.const (.bool false)), none⟩]
def k89_1 : VC := .reg [⟨(some 3), .mv (.tmp 0), none⟩,
    ⟨(some 4), .callF 58 [(.tmp 3), (.const (.int .i64 576)), (.const (.int .i64 9000))], none⟩,
    ⟨(some 2), .mv (.tmp 4), none⟩]
def k89_2 : VC := .seq k89_1 .ret
def k89_3 : VC := .seq k89_0 k89_2
def fn89 : VFn := ⟨5, k89_3, [.tmp 2]⟩
/- 58: cloakroom/mtu.within[int] -/
def k58_0 : VC := .reg [⟨(some 6), .mv (.const (.bool false)), none⟩]
def k58_1 : VC := .reg [⟨(some 7), .mv (.tmp 1), none⟩,
    ⟨(some 8), .mv (.tmp 0), none⟩,
    ⟨(some 9), .bin .leq (.tmp 7) (.tmp 8), none⟩,
    ⟨(some 10), .mv (.tmp 9), none⟩,
    ⟨(some 11), .mv (.tmp 0), (some (10, true))⟩,
    ⟨(some 12), .mv (.tmp 2), (some (10, true))⟩,
    ⟨(some 13), .bin .leq (.tmp 11) (.tmp 12), (some (10, true))⟩,
    ⟨(some 14), .pick (.tmp 10) (.tmp 13) (.const (.bool false)), none⟩,
    ⟨(some 6), .mv (.tmp 14), none⟩]
def k58_2 : VC := .seq k58_1 .ret
def k58_3 : VC := .seq k58_0 k58_2
def fn58 : VFn := ⟨15, k58_3, [.tmp 6]⟩
/- 90: cloakroom/mtu.heads -/
def k90_0 : VC := .reg [⟨(some 2), .mv (.const (.int .i64 0)), none⟩]
def k90_1 : VC := .reg [⟨(some 3), .mv (.tmp 0), none⟩]
def k90_2 : VC := .reg [⟨(some 2), .mv (.const (.int .i64 48)), none⟩]
def k90_3 : VC := .seq k90_2 .ret
def k90_4 : VC := .cond (.tmp 3) k90_3 .skip
def k90_5 : VC := .seq k90_1 k90_4
def k90_6 : VC := .reg [⟨(some 2), .mv (.const (.int .i64 28)), none⟩]
def k90_7 : VC := .seq k90_6 .ret
def k90_8 : VC := .seq k90_5 k90_7
def k90_9 : VC := .seq k90_0 k90_8
def fn90 : VFn := ⟨4, k90_9, [.tmp 2]⟩
/- 16: cloakroom/mtu.Learn -/
def k16_0 : VC := .reg [⟨(some 4), .mv (.const (.int .i64 0)), none⟩]
def k16_1 : VC := .reg [⟨(some 5), .mv (.tmp 1), none⟩,
    ⟨(some 6), .mv (.tmp 0), none⟩,
    ⟨(some 7), .callF 58 [(.tmp 5), (.const (.int .i64 576)), (.tmp 6)], none⟩]
def k16_2 : VC := .reg [⟨(some 8), .mv (.tmp 1), none⟩,
    ⟨(some 4), .mv (.tmp 8), none⟩]
def k16_3 : VC := .seq k16_2 .ret
def k16_4 : VC := .cond (.tmp 7) k16_3 .skip
def k16_5 : VC := .seq k16_1 k16_4
def k16_6 : VC := .reg [⟨(some 9), .mv (.tmp 0), none⟩,
    ⟨(some 4), .mv (.tmp 9), none⟩]
def k16_7 : VC := .seq k16_6 .ret
def k16_8 : VC := .seq k16_5 k16_7
def k16_9 : VC := .seq k16_0 k16_8
def fn16 : VFn := ⟨10, k16_9, [.tmp 4]⟩
/- 17: cloakroom/mtu.Least -/
def k17_0 : VC := .reg [⟨(some 2), .mv (.const (.int .i64 0)), none⟩]
def k17_1 : VC := .reg [⟨(some 3), .mv (.const (.int .i64 9000)), none⟩]
def k17_2 : VC := .reg [⟨(some 6), .mv (.tmp 0), none⟩,
    ⟨(some 7), .lenL (.tmp 6), none⟩,
    ⟨(some 8), .mv (.const (.int .i64 0)), none⟩]
def k17_3 : VC := .reg [⟨(some 9), .bin .lss (.tmp 8) (.tmp 7), none⟩]
def k17_4 : VC := .cond (.tmp 9) .skip (.exit 0)
def k17_5 : VC := .reg [⟨(some 10), .idxAL 1 (.tmp 6) (.tmp 8), none⟩,
    ⟨(some 11), .load1 (.int .i64) (.tmp 10), none⟩,
    ⟨(some 5), .mv (.tmp 11), none⟩]
def k17_6 : VC := .reg [⟨(some 12), .mv (.tmp 3), none⟩,
    ⟨(some 13), .mv (.tmp 5), none⟩,
    ⟨(some 14), .callF 16 [(.tmp 12), (.tmp 13)], none⟩,
    ⟨(some 3), .mv (.tmp 14), none⟩]
def k17_7 : VC := .seq k17_5 k17_6
def k17_8 : VC := .block 1 k17_7
def k17_9 : VC := .reg [⟨(some 15), .bin .add (.tmp 8) (.const (.int .i64 1)), none⟩,
    ⟨(some 8), .mv (.tmp 15), none⟩]
def k17_10 : VC := .seq k17_8 k17_9
def k17_11 : VC := .seq k17_4 k17_10
def k17_12 : VC := .seq k17_3 k17_11
def k17_13 : VC := .loop k17_12
def k17_14 : VC := .block 0 k17_13
def k17_15 : VC := .seq k17_2 k17_14
def k17_16 : VC := .reg [⟨(some 16), .mv (.tmp 3), none⟩,
    ⟨(some 2), .mv (.tmp 16), none⟩]
def k17_17 : VC := .seq k17_16 .ret
def k17_18 : VC := .seq k17_15 k17_17
def k17_19 : VC := .seq k17_1 k17_18
def k17_20 : VC := .seq k17_0 k17_19
def fn17 : VFn := ⟨17, k17_20, [.tmp 2]⟩
/- 57: cloakroom/mtu.Fits -/
def k57_0 : VC := .reg [⟨(some 6), .mv (.const (.bool false)), none⟩]
def k57_1 : VC := .reg [⟨(some 7), .mv (.tmp 0), none⟩,
    ⟨(some 8), .lenS (.tmp 7), none⟩,
    ⟨(some 9), .mv (.tmp 1), none⟩,
    ⟨(some 10), .mv (.tmp 2), none⟩,
    ⟨(some 11), .callF 56 [(.tmp 9), (.tmp 10)], none⟩,
    ⟨(some 12), .bin .leq (.tmp 8) (.tmp 11), none⟩,
    ⟨(some 6), .mv (.tmp 12), none⟩]
def k57_2 : VC := .seq k57_1 .ret
def k57_3 : VC := .seq k57_0 k57_2
def fn57 : VFn := ⟨13, k57_3, [.tmp 6]⟩
theorem fn3_ok : (Try.prog.funcs[3]?).bind (compFn Try.prog) = some fn3 := by kernel_rfl
theorem fn15_ok : (Try.prog.funcs[15]?).bind (compFn Try.prog) = some fn15 := by kernel_rfl
theorem fn56_ok : (Try.prog.funcs[56]?).bind (compFn Try.prog) = some fn56 := by kernel_rfl
theorem fn89_ok : (Try.prog.funcs[89]?).bind (compFn Try.prog) = some fn89 := by kernel_rfl
theorem fn58_ok : (Try.prog.funcs[58]?).bind (compFn Try.prog) = some fn58 := by kernel_rfl
theorem fn90_ok : (Try.prog.funcs[90]?).bind (compFn Try.prog) = some fn90 := by kernel_rfl
theorem fn16_ok : (Try.prog.funcs[16]?).bind (compFn Try.prog) = some fn16 := by kernel_rfl
theorem fn17_ok : (Try.prog.funcs[17]?).bind (compFn Try.prog) = some fn17 := by kernel_rfl
theorem fn57_ok : (Try.prog.funcs[57]?).bind (compFn Try.prog) = some fn57 := by kernel_rfl
def tab : List (Nat × VFn) := [(3, fn3),(15, fn15),(56, fn56),(89, fn89),(58, fn58),(90, fn90),(16, fn16),(17, fn17),(57, fn57)]
theorem tab_ok : FnsOK Try.prog (aget tab) := FnsOK.of_tab ⟨fn3_ok,fn15_ok,fn56_ok,fn89_ok,fn58_ok,fn90_ok,fn16_ok,fn17_ok,fn57_ok, trivial⟩
end Go.Vm.Code
