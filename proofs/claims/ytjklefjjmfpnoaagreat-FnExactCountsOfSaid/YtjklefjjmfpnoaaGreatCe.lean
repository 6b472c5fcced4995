/-
  The code of the reference's functions, as the model's own. Printed by a program.
-/
import Derived.Test.YtjklefjjmfpnoaaGreatCd
namespace Go.Fw
open Go.Proofs.Tryz
set_option maxRecDepth 100000
def mc_spec_CountsOf : MCode :=
 .seq
 (.reg [
 ⟨some 2, none, .box 2 (.t 0)⟩,
 ⟨some 4, none, .mov (.v (.nl 1))⟩,
 ⟨some 5, none, .mov (.v (.b false))⟩] [1, 2])
 (.seq
 (.reg [
 ⟨some 12, none, .buildSlice 1 []⟩,
 ⟨some 6, none, .mov (.t 12)⟩] [1, 2, 6])
 (.seq
 (.reg [
 ⟨some 14, none, .load true 2 (.t 2)⟩,
 ⟨some 15, none, .mov (.t 1)⟩,
 ⟨some 16, none, .call fid_spec_RunTurns false [.im, .im] [(.t 14), (.t 15)]⟩,
 ⟨some 13, none, .mov (.t 16)⟩,
 ⟨some 17, none, .extract (.t 13) 0⟩,
 ⟨some 18, none, .extract (.t 13) 1⟩,
 ⟨some 7, none, .alloc [.i .i64 0, .nl 2]⟩,
 ⟨none, none, .store 2 (.t 7) (.t 17)⟩,
 ⟨some 8, none, .mov (.t 18)⟩] [1, 2, 6, 8])
 (.seq
 (.seq
 (.reg [
 ⟨some 19, none, .mov (.t 8)⟩,
 ⟨some 20, none, .un .not (.t 19)⟩] [1, 2, 6, 20])
 (.cond (.t 20)
 (.seq
 (.reg [
 ⟨some 21, none, .mov (.t 6)⟩,
 ⟨some 4, none, .mov (.t 21)⟩,
 ⟨some 5, none, .mov (.v (.b false))⟩] [4, 5])
 (.ret))
 (.skip)))
 (.seq
 (.seq
 (.reg [
 ⟨some 9, none, .mov (.v (.i .i64 0))⟩] [1, 2, 6, 9])
 (.block 0
 (.loop [1, 2, 6, 9]
 (.seq
 (.seq
 (.reg [
 ⟨some 22, none, .mov (.t 9)⟩,
 ⟨some 23, none, .mov (.t 1)⟩,
 ⟨some 24, none, .len (.t 23)⟩,
 ⟨some 25, none, .bin .leq (.t 22) (.t 24)⟩] [1, 2, 6, 9, 25])
 (.cond (.t 25)
 (.skip)
 (.exit 0)))
 (.seq
 (.block 1
 (.seq
 (.draw [0, 0, 0, 6, 15, 31, 63, 63, 0, 383, 1023] [
 ⟨some 29, none, .load true 2 (.t 2)⟩,
 ⟨some 30, none, .mov (.t 1)⟩,
 ⟨some 31, none, .mov (.t 9)⟩,
 ⟨some 32, none, .slice 2 (.t 30) none (some (.t 31))⟩,
 ⟨some 33, none, .call fid_spec_RunTurns false [.im, .im] [(.t 29), (.t 32)]⟩,
 ⟨some 28, none, .mov (.t 33)⟩,
 ⟨some 34, none, .extract (.t 28) 0⟩,
 ⟨some 35, none, .extract (.t 28) 1⟩,
 ⟨some 10, none, .alloc [.i .i64 0, .nl 2]⟩,
 ⟨none, none, .store 2 (.t 10) (.t 34)⟩,
 ⟨some 11, none, .mov (.t 35)⟩] [1, 2, 6, 9, 10])
 (.draw [0, 0, 2, 0, 14, 30, 0, 94, 222, 510, 1022, 2047, 4095] [
 ⟨some 36, none, .mov (.t 6)⟩,
 ⟨some 37, none, .load true 2 (.t 10)⟩,
 ⟨some 38, none, .call fid_spec_PartCount false [.im] [(.t 37)]⟩,
 ⟨some 39, none, .load true 2 (.t 10)⟩,
 ⟨some 40, none, .call fid_spec_l4Bridges false [.im] [(.t 39)]⟩,
 ⟨some 41, none, .len (.t 40)⟩,
 ⟨some 42, none, .load true 2 (.t 10)⟩,
 ⟨some 43, none, .call fid_spec_CutNodesOf false [.im] [(.t 42)]⟩,
 ⟨some 44, none, .len (.t 43)⟩,
 ⟨some 45, none, .buildSlice 1 [(.t 38), (.t 41), (.t 44)]⟩,
 ⟨some 46, none, .buildSlice 1 [(.t 45)]⟩,
 ⟨some 47, none, .append 1 24 true (.t 36) (.t 46)⟩,
 ⟨some 6, none, .mov (.t 47)⟩] [1, 2, 6, 9])))
 (.reg [
 ⟨some 26, none, .mov (.t 9)⟩,
 ⟨some 27, none, .bin .add (.t 26) (.v (.i .i64 1))⟩,
 ⟨some 9, none, .mov (.t 27)⟩] [1, 2, 6, 9]))))))
 (.seq
 (.reg [
 ⟨some 48, none, .mov (.t 6)⟩,
 ⟨some 4, none, .mov (.t 48)⟩,
 ⟨some 5, none, .mov (.v (.b true))⟩] [4, 5])
 (.ret))))))
theorem get_spec_CountsOf : prog.funcs[fid_spec_CountsOf]? = some f6 := func6
theorem ok_spec_CountsOf : okFn prog f6 49 [] [(4, none), (5, none)] mc_spec_CountsOf = true := by kernel_rfl
def mc_spec_RunTurns : MCode :=
 .seq
 (.reg [
 ⟨some 2, none, .box 2 (.t 0)⟩,
 ⟨some 4, none, .alloc [.i .i64 0, .nl 2]⟩,
 ⟨some 5, none, .mov (.v (.b false))⟩] [1, 2, 4])
 (.seq
 (.seq
 (.reg [
 ⟨some 10, none, .load true 2 (.t 2)⟩,
 ⟨some 11, none, .call fid_spec_GraphValid false [.im] [(.t 10)]⟩,
 ⟨some 12, none, .un .not (.t 11)⟩,
 ⟨some 13, none, .mov (.t 12)⟩,
 ⟨some 14, (some (13, false)), .mov (.t 1)⟩,
 ⟨some 15, (some (13, false)), .len (.t 14)⟩,
 ⟨some 16, (some (13, false)), .bin .gtr (.t 15) (.v (.i .i64 60))⟩,
 ⟨some 17, none, .pick (.t 13) (.v (.b true)) (.t 16)⟩] [1, 2, 4, 17])
 (.cond (.t 17)
 (.seq
 (.reg [
 ⟨some 18, none, .build [.i .i64 0, .nl 2] []⟩,
 ⟨none, none, .store 2 (.t 4) (.t 18)⟩,
 ⟨some 5, none, .mov (.v (.b false))⟩] [4, 5])
 (.ret))
 (.skip)))
 (.seq
 (.reg [
 ⟨some 19, none, .load true 2 (.t 2)⟩,
 ⟨some 20, none, .call fid_spec_l1Copy false [.im] [(.t 19)]⟩,
 ⟨some 6, none, .alloc [.i .i64 0, .nl 2]⟩,
 ⟨none, none, .store 2 (.t 6) (.t 20)⟩] [1, 4, 6])
 (.seq
 (.seq
 (.reg [
 ⟨some 7, none, .mov (.v (.i .i64 0))⟩] [1, 4, 6, 7])
 (.block 0
 (.loop [1, 4, 6, 7]
 (.seq
 (.seq
 (.reg [
 ⟨some 21, none, .mov (.t 7)⟩,
 ⟨some 22, none, .mov (.t 1)⟩,
 ⟨some 23, none, .len (.t 22)⟩,
 ⟨some 24, none, .bin .lss (.t 21) (.t 23)⟩] [1, 4, 6, 7, 24])
 (.cond (.t 24)
 (.skip)
 (.exit 0)))
 (.seq
 (.block 1
 (.seq
 (.draw [0, 0, 0, 6, 14, 30, 63, 127, 255, 255, 0, 1535, 4095] [
 ⟨some 28, none, .load true 2 (.t 6)⟩,
 ⟨some 29, none, .mov (.t 1)⟩,
 ⟨some 30, none, .mov (.t 7)⟩,
 ⟨some 31, none, .indexAddr 2 (.t 29) (.t 30)⟩,
 ⟨some 32, none, .fieldAddr 0 (.t 31)⟩,
 ⟨some 33, none, .load true 2 (.t 32)⟩,
 ⟨some 34, none, .call fid_spec_TurnEdge false [.im, .im] [(.t 28), (.t 33)]⟩,
 ⟨some 27, none, .mov (.t 34)⟩,
 ⟨some 35, none, .extract (.t 27) 0⟩,
 ⟨some 36, none, .extract (.t 27) 1⟩,
 ⟨some 8, none, .alloc [.i .i64 0, .nl 2]⟩,
 ⟨none, none, .store 2 (.t 8) (.t 35)⟩,
 ⟨some 9, none, .mov (.t 36)⟩] [1, 4, 6, 7, 8, 9])
 (.seq
 (.seq
 (.reg [
 ⟨some 37, none, .mov (.t 9)⟩,
 ⟨some 38, none, .un .not (.t 37)⟩] [1, 4, 6, 7, 8, 38])
 (.cond (.t 38)
 (.seq
 (.reg [
 ⟨some 39, none, .build [.i .i64 0, .nl 2] []⟩,
 ⟨none, none, .store 2 (.t 4) (.t 39)⟩,
 ⟨some 5, none, .mov (.v (.b false))⟩] [4, 5])
 (.ret))
 (.skip)))
 (.reg [
 ⟨some 40, none, .load true 2 (.t 8)⟩,
 ⟨none, none, .store 2 (.t 6) (.t 40)⟩] [1, 4, 6, 7]))))
 (.reg [
 ⟨some 25, none, .mov (.t 7)⟩,
 ⟨some 26, none, .bin .add (.t 25) (.v (.i .i64 1))⟩,
 ⟨some 7, none, .mov (.t 26)⟩] [1, 4, 6, 7]))))))
 (.seq
 (.reg [
 ⟨some 41, none, .load true 2 (.t 6)⟩,
 ⟨none, none, .store 2 (.t 4) (.t 41)⟩,
 ⟨some 5, none, .mov (.v (.b true))⟩] [4, 5])
 (.ret)))))
theorem get_spec_RunTurns : prog.funcs[fid_spec_RunTurns]? = some f18 := func18
theorem ok_spec_RunTurns : okFn prog f18 42 [] [(4, some (true, 2)), (5, none)] mc_spec_RunTurns = true := by kernel_rfl
def mc_spec_PartCount : MCode :=
 .seq
 (.reg [
 ⟨some 1, none, .box 2 (.t 0)⟩,
 ⟨some 2, none, .mov (.v (.i .i64 0))⟩] [1])
 (.seq
 (.reg [
 ⟨some 3, none, .mov (.v (.i .i64 0))⟩] [1, 3])
 (.seq
 (.reg [
 ⟨some 6, none, .load true 2 (.t 1)⟩,
 ⟨some 7, none, .call fid_spec_PartsOf false [.im] [(.t 6)]⟩,
 ⟨some 4, none, .mov (.t 7)⟩] [3, 4])
 (.seq
 (.seq
 (.reg [
 ⟨some 5, none, .mov (.v (.i .i64 0))⟩] [3, 4, 5])
 (.block 0
 (.loop [3, 4, 5]
 (.seq
 (.seq
 (.reg [
 ⟨some 8, none, .mov (.t 5)⟩,
 ⟨some 9, none, .mov (.t 4)⟩,
 ⟨some 10, none, .len (.t 9)⟩,
 ⟨some 11, none, .bin .lss (.t 8) (.t 10)⟩] [3, 4, 5, 11])
 (.cond (.t 11)
 (.skip)
 (.exit 0)))
 (.seq
 (.block 1
 (.seq
 (.reg [
 ⟨some 14, none, .mov (.t 4)⟩,
 ⟨some 15, none, .mov (.t 5)⟩,
 ⟨some 16, none, .indexAddr 1 (.t 14) (.t 15)⟩,
 ⟨some 17, none, .load false 1 (.t 16)⟩,
 ⟨some 18, none, .mov (.t 5)⟩,
 ⟨some 19, none, .bin .eql (.t 17) (.t 18)⟩] [3, 4, 5, 19])
 (.cond (.t 19)
 (.reg [
 ⟨some 20, none, .mov (.t 3)⟩,
 ⟨some 21, none, .bin .add (.t 20) (.v (.i .i64 1))⟩,
 ⟨some 3, none, .mov (.t 21)⟩] [3, 4, 5])
 (.skip))))
 (.reg [
 ⟨some 12, none, .mov (.t 5)⟩,
 ⟨some 13, none, .bin .add (.t 12) (.v (.i .i64 1))⟩,
 ⟨some 5, none, .mov (.t 13)⟩] [3, 4, 5]))))))
 (.seq
 (.reg [
 ⟨some 22, none, .mov (.t 3)⟩,
 ⟨some 2, none, .mov (.t 22)⟩] [2])
 (.ret)))))
theorem get_spec_PartCount : prog.funcs[fid_spec_PartCount]? = some f19 := func19
theorem ok_spec_PartCount : okFn prog f19 23 [] [(2, none)] mc_spec_PartCount = true := by kernel_rfl
def mc_spec_l4Bridges : MCode :=
 .seq
 (.reg [
 ⟨some 1, none, .box 2 (.t 0)⟩,
 ⟨some 2, none, .mov (.v (.nl 2))⟩] [1])
 (.seq
 (.reg [
 ⟨some 5, none, .buildSlice 2 []⟩,
 ⟨some 3, none, .mov (.t 5)⟩] [1, 3])
 (.seq
 (.seq
 (.reg [
 ⟨some 4, none, .mov (.v (.i .i64 0))⟩] [1, 3, 4])
 (.block 0
 (.loop [1, 3, 4]
 (.seq
 (.seq
 (.reg [
 ⟨some 6, none, .mov (.t 4)⟩,
 ⟨some 7, none, .fieldAddr 1 (.t 1)⟩,
 ⟨some 8, none, .load false 1 (.t 7)⟩,
 ⟨some 9, none, .len (.t 8)⟩,
 ⟨some 10, none, .bin .lss (.t 6) (.t 9)⟩] [1, 3, 4, 10])
 (.cond (.t 10)
 (.skip)
 (.exit 0)))
 (.seq
 (.block 1
 (.seq
 (.draw [0, 0, 2, 0, 14, 30, 63] [
 ⟨some 13, none, .load true 2 (.t 1)⟩,
 ⟨some 14, none, .fieldAddr 1 (.t 1)⟩,
 ⟨some 15, none, .load false 1 (.t 14)⟩,
 ⟨some 16, none, .mov (.t 4)⟩,
 ⟨some 17, none, .indexAddr 2 (.t 15) (.t 16)⟩,
 ⟨some 18, none, .load true 2 (.t 17)⟩,
 ⟨some 19, none, .call fid_spec_l4Bridge false [.im, .im] [(.t 13), (.t 18)]⟩] [1, 3, 4, 19])
 (.cond (.t 19)
 (.reg [
 ⟨some 20, none, .mov (.t 3)⟩,
 ⟨some 21, none, .fieldAddr 1 (.t 1)⟩,
 ⟨some 22, none, .load false 1 (.t 21)⟩,
 ⟨some 23, none, .mov (.t 4)⟩,
 ⟨some 24, none, .indexAddr 2 (.t 22) (.t 23)⟩,
 ⟨some 25, none, .load true 2 (.t 24)⟩,
 ⟨some 26, none, .buildSlice 2 [(.t 25)]⟩,
 ⟨some 27, none, .append 2 16 true (.t 20) (.t 26)⟩,
 ⟨some 3, none, .mov (.t 27)⟩] [1, 3, 4])
 (.skip))))
 (.reg [
 ⟨some 11, none, .mov (.t 4)⟩,
 ⟨some 12, none, .bin .add (.t 11) (.v (.i .i64 1))⟩,
 ⟨some 4, none, .mov (.t 12)⟩] [1, 3, 4]))))))
 (.seq
 (.reg [
 ⟨some 28, none, .mov (.t 3)⟩,
 ⟨some 2, none, .mov (.t 28)⟩] [2])
 (.ret))))
theorem get_spec_l4Bridges : prog.funcs[fid_spec_l4Bridges]? = some f20 := func20
theorem ok_spec_l4Bridges : okFn prog f20 29 [] [(2, none)] mc_spec_l4Bridges = true := by kernel_rfl
def mc_spec_CutNodesOf : MCode :=
 .seq
 (.reg [
 ⟨some 1, none, .box 2 (.t 0)⟩,
 ⟨some 2, none, .mov (.v (.nl 1))⟩] [1])
 (.seq
 (.reg [
 ⟨some 5, none, .buildSlice 1 []⟩,
 ⟨some 3, none, .mov (.t 5)⟩] [1, 3])
 (.seq
 (.seq
 (.reg [
 ⟨some 4, none, .mov (.v (.i .i64 0))⟩] [1, 3, 4])
 (.block 0
 (.loop [1, 3, 4]
 (.seq
 (.seq
 (.reg [
 ⟨some 6, none, .mov (.t 4)⟩,
 ⟨some 7, none, .fieldAddr 0 (.t 1)⟩,
 ⟨some 8, none, .load false 1 (.t 7)⟩,
 ⟨some 9, none, .bin .lss (.t 6) (.t 8)⟩,
 ⟨some 10, none, .mov (.t 9)⟩,
 ⟨some 11, (some (10, true)), .load true 2 (.t 1)⟩,
 ⟨some 12, (some (10, true)), .call fid_spec_GraphValid false [.im] [(.t 11)]⟩,
 ⟨some 13, none, .pick (.t 10) (.t 12) (.v (.b false))⟩] [1, 3, 4, 13])
 (.cond (.t 13)
 (.skip)
 (.exit 0)))
 (.seq
 (.block 1
 (.seq
 (.reg [
 ⟨some 16, none, .load true 2 (.t 1)⟩,
 ⟨some 17, none, .mov (.t 4)⟩,
 ⟨some 18, none, .call fid_spec_l4Cut false [.im, .im] [(.t 16), (.t 17)]⟩] [1, 3, 4, 18])
 (.cond (.t 18)
 (.reg [
 ⟨some 19, none, .mov (.t 3)⟩,
 ⟨some 20, none, .mov (.t 4)⟩,
 ⟨some 21, none, .buildSlice 1 [(.t 20)]⟩,
 ⟨some 22, none, .append 1 8 true (.t 19) (.t 21)⟩,
 ⟨some 3, none, .mov (.t 22)⟩] [1, 3, 4])
 (.skip))))
 (.reg [
 ⟨some 14, none, .mov (.t 4)⟩,
 ⟨some 15, none, .bin .add (.t 14) (.v (.i .i64 1))⟩,
 ⟨some 4, none, .mov (.t 15)⟩] [1, 3, 4]))))))
 (.seq
 (.reg [
 ⟨some 23, none, .mov (.t 3)⟩,
 ⟨some 2, none, .mov (.t 23)⟩] [2])
 (.ret))))
theorem get_spec_CutNodesOf : prog.funcs[fid_spec_CutNodesOf]? = some f21 := func21
theorem ok_spec_CutNodesOf : okFn prog f21 24 [] [(2, none)] mc_spec_CutNodesOf = true := by kernel_rfl
def mc_spec_GraphValid : MCode :=
 .seq
 (.reg [
 ⟨some 1, none, .box 2 (.t 0)⟩,
 ⟨some 2, none, .mov (.v (.b false))⟩] [1])
 (.seq
 (.seq
 (.reg [
 ⟨some 5, none, .fieldAddr 0 (.t 1)⟩,
 ⟨some 6, none, .load false 1 (.t 5)⟩,
 ⟨some 7, none, .bin .lss (.t 6) (.v (.i .i64 1))⟩,
 ⟨some 8, none, .mov (.t 7)⟩,
 ⟨some 9, (some (8, false)), .fieldAddr 0 (.t 1)⟩,
 ⟨some 10, (some (8, false)), .load false 1 (.t 9)⟩,
 ⟨some 11, (some (8, false)), .bin .gtr (.t 10) (.v (.i .i64 16))⟩,
 ⟨some 12, none, .pick (.t 8) (.v (.b true)) (.t 11)⟩,
 ⟨some 13, none, .mov (.t 12)⟩,
 ⟨some 14, (some (13, false)), .fieldAddr 1 (.t 1)⟩,
 ⟨some 15, (some (13, false)), .load false 1 (.t 14)⟩,
 ⟨some 16, (some (13, false)), .len (.t 15)⟩,
 ⟨some 17, (some (13, false)), .bin .gtr (.t 16) (.v (.i .i64 40))⟩,
 ⟨some 18, none, .pick (.t 13) (.v (.b true)) (.t 17)⟩] [1, 18])
 (.cond (.t 18)
 (.seq
 (.reg [
 ⟨some 2, none, .mov (.v (.b false))⟩] [2])
 (.ret))
 (.skip)))
 (.seq
 (.seq
 (.reg [
 ⟨some 3, none, .mov (.v (.i .i64 0))⟩] [1, 3])
 (.block 0
 (.loop [1, 3]
 (.seq
 (.seq
 (.reg [
 ⟨some 19, none, .mov (.t 3)⟩,
 ⟨some 20, none, .fieldAddr 1 (.t 1)⟩,
 ⟨some 21, none, .load false 1 (.t 20)⟩,
 ⟨some 22, none, .len (.t 21)⟩,
 ⟨some 23, none, .bin .lss (.t 19) (.t 22)⟩] [1, 3, 23])
 (.cond (.t 23)
 (.skip)
 (.exit 0)))
 (.seq
 (.block 1
 (.seq
 (.reg [
 ⟨some 26, none, .fieldAddr 1 (.t 1)⟩,
 ⟨some 27, none, .load false 1 (.t 26)⟩,
 ⟨some 28, none, .mov (.t 3)⟩,
 ⟨some 29, none, .indexAddr 2 (.t 27) (.t 28)⟩,
 ⟨some 30, none, .load true 2 (.t 29)⟩,
 ⟨some 4, none, .alloc [.i .i64 0, .i .i64 0]⟩,
 ⟨none, none, .store 2 (.t 4) (.t 30)⟩] [1, 3, 4])
 (.seq
 (.draw [0, 1, 3, 7, 15, 31, 15, 79, 255, 511, 1023, 2047, 4095, 2047, 10239, 32767, 65535, 131071, 262143, 524287, 1048575, 2097151, 4194303, 2097151, 10485759, 33554431, 67108863, 2097151, 268435455, 536870911, 1073741823, 2147483647] [
 ⟨some 31, none, .fieldAddr 0 (.t 4)⟩,
 ⟨some 32, none, .load false 1 (.t 31)⟩,
 ⟨some 33, none, .bin .lss (.t 32) (.v (.i .i64 0))⟩,
 ⟨some 34, none, .mov (.t 33)⟩,
 ⟨some 35, (some (34, false)), .fieldAddr 0 (.t 4)⟩,
 ⟨some 36, (some (34, false)), .load false 1 (.t 35)⟩,
 ⟨some 37, (some (34, false)), .fieldAddr 1 (.t 4)⟩,
 ⟨some 38, (some (34, false)), .load false 1 (.t 37)⟩,
 ⟨some 39, (some (34, false)), .bin .geq (.t 36) (.t 38)⟩,
 ⟨some 40, none, .pick (.t 34) (.v (.b true)) (.t 39)⟩,
 ⟨some 41, none, .mov (.t 40)⟩,
 ⟨some 42, (some (41, false)), .fieldAddr 1 (.t 4)⟩,
 ⟨some 43, (some (41, false)), .load false 1 (.t 42)⟩,
 ⟨some 44, (some (41, false)), .fieldAddr 0 (.t 1)⟩,
 ⟨some 45, (some (41, false)), .load false 1 (.t 44)⟩,
 ⟨some 46, (some (41, false)), .bin .geq (.t 43) (.t 45)⟩,
 ⟨some 47, none, .pick (.t 41) (.v (.b true)) (.t 46)⟩,
 ⟨some 48, none, .mov (.t 47)⟩,
 ⟨some 49, (some (48, false)), .mov (.t 3)⟩,
 ⟨some 50, (some (48, false)), .bin .gtr (.t 49) (.v (.i .i64 0))⟩,
 ⟨some 51, (some (48, false)), .mov (.t 50)⟩,
 ⟨some 52, (some (51, true)), .fieldAddr 1 (.t 1)⟩,
 ⟨some 53, (some (51, true)), .load false 1 (.t 52)⟩,
 ⟨some 54, (some (51, true)), .mov (.t 3)⟩,
 ⟨some 55, (some (51, true)), .bin .sub (.t 54) (.v (.i .i64 1))⟩,
 ⟨some 56, (some (51, true)), .indexAddr 2 (.t 53) (.t 55)⟩,
 ⟨some 57, (some (51, true)), .load true 2 (.t 56)⟩,
 ⟨some 58, (some (51, true)), .load true 2 (.t 4)⟩,
 ⟨some 59, (some (51, true)), .call fid_spec_l1Less false [.im, .im] [(.t 57), (.t 58)]⟩,
 ⟨some 60, (some (51, true)), .un .not (.t 59)⟩,
 ⟨some 61, (some (48, false)), .pick (.t 51) (.t 60) (.v (.b false))⟩,
 ⟨some 62, none, .pick (.t 48) (.v (.b true)) (.t 61)⟩] [1, 3, 62])
 (.cond (.t 62)
 (.seq
 (.reg [
 ⟨some 2, none, .mov (.v (.b false))⟩] [2])
 (.ret))
 (.skip)))))
 (.reg [
 ⟨some 24, none, .mov (.t 3)⟩,
 ⟨some 25, none, .bin .add (.t 24) (.v (.i .i64 1))⟩,
 ⟨some 3, none, .mov (.t 25)⟩] [1, 3]))))))
 (.seq
 (.reg [
 ⟨some 2, none, .mov (.v (.b true))⟩] [2])
 (.ret))))
theorem get_spec_GraphValid : prog.funcs[fid_spec_GraphValid]? = some f34 := func34
theorem ok_spec_GraphValid : okFn prog f34 63 [] [(2, none)] mc_spec_GraphValid = true := by kernel_rfl
def mc_spec_l1Copy : MCode :=
 .seq
 (.reg [
 ⟨some 1, none, .box 2 (.t 0)⟩,
 ⟨some 2, none, .alloc [.i .i64 0, .nl 2]⟩] [1, 2])
 (.seq
 (.draw [0, 1, 0, 0, 8, 28, 63, 127] [
 ⟨some 3, none, .fieldAddr 0 (.t 1)⟩,
 ⟨some 4, none, .load false 1 (.t 3)⟩,
 ⟨some 5, none, .buildSlice 2 []⟩,
 ⟨some 6, none, .fieldAddr 1 (.t 1)⟩,
 ⟨some 7, none, .load false 1 (.t 6)⟩,
 ⟨some 8, none, .append 2 16 false (.t 5) (.t 7)⟩,
 ⟨some 9, none, .build [.i .i64 0, .nl 2] [(0, 1, (.t 4)), (1, 1, (.t 8))]⟩,
 ⟨none, none, .store 2 (.t 2) (.t 9)⟩] [2])
 (.ret))
theorem get_spec_l1Copy : prog.funcs[fid_spec_l1Copy]? = some f35 := func35
theorem ok_spec_l1Copy : okFn prog f35 10 [] [(2, some (true, 2))] mc_spec_l1Copy = true := by kernel_rfl
def mc_spec_TurnEdge : MCode :=
 .seq
 (.reg [
 ⟨some 2, none, .box 2 (.t 0)⟩,
 ⟨some 3, none, .box 2 (.t 1)⟩,
 ⟨some 4, none, .alloc [.i .i64 0, .nl 2]⟩,
 ⟨some 5, none, .mov (.v (.b false))⟩] [2, 3, 4])
 (.seq
 (.seq
 (.reg [
 ⟨some 6, none, .load true 2 (.t 2)⟩,
 ⟨some 7, none, .load true 2 (.t 3)⟩,
 ⟨some 8, none, .call fid_spec_HasEdge false [.im, .im] [(.t 6), (.t 7)]⟩] [2, 3, 4, 8])
 (.cond (.t 8)
 (.seq
 (.reg [
 ⟨some 9, none, .load true 2 (.t 2)⟩,
 ⟨some 10, none, .load true 2 (.t 3)⟩,
 ⟨some 11, none, .call fid_spec_CutEdge false [.im, .im] [(.t 9), (.t 10)]⟩,
 ⟨some 12, none, .extract (.t 11) 0⟩,
 ⟨some 13, none, .extract (.t 11) 1⟩,
 ⟨none, none, .store 2 (.t 4) (.t 12)⟩,
 ⟨some 5, none, .mov (.t 13)⟩] [4, 5])
 (.ret))
 (.skip)))
 (.seq
 (.reg [
 ⟨some 14, none, .load true 2 (.t 2)⟩,
 ⟨some 15, none, .load true 2 (.t 3)⟩,
 ⟨some 16, none, .call fid_spec_PutEdge false [.im, .im] [(.t 14), (.t 15)]⟩,
 ⟨some 17, none, .extract (.t 16) 0⟩,
 ⟨some 18, none, .extract (.t 16) 1⟩,
 ⟨none, none, .store 2 (.t 4) (.t 17)⟩,
 ⟨some 5, none, .mov (.t 18)⟩] [4, 5])
 (.ret)))
theorem get_spec_TurnEdge : prog.funcs[fid_spec_TurnEdge]? = some f36 := func36
theorem ok_spec_TurnEdge : okFn prog f36 19 [] [(4, some (true, 2)), (5, none)] mc_spec_TurnEdge = true := by kernel_rfl
def mc_spec_PartsOf : MCode :=
 .seq
 (.reg [
 ⟨some 1, none, .box 2 (.t 0)⟩,
 ⟨some 2, none, .mov (.v (.nl 1))⟩] [1])
 (.seq
 (.seq
 (.reg [
 ⟨some 3, none, .load true 2 (.t 1)⟩,
 ⟨some 4, none, .call fid_spec_GraphValid false [.im] [(.t 3)]⟩,
 ⟨some 5, none, .un .not (.t 4)⟩] [1, 5])
 (.cond (.t 5)
 (.seq
 (.reg [
 ⟨some 6, none, .buildSlice 1 []⟩,
 ⟨some 2, none, .mov (.t 6)⟩] [2])
 (.ret))
 (.skip)))
 (.seq
 (.reg [
 ⟨some 7, none, .load true 2 (.t 1)⟩,
 ⟨some 8, none, .call fid_spec_l2Labels false [.im] [(.t 7)]⟩,
 ⟨some 2, none, .mov (.t 8)⟩] [2])
 (.ret)))
theorem get_spec_PartsOf : prog.funcs[fid_spec_PartsOf]? = some f37 := func37
theorem ok_spec_PartsOf : okFn prog f37 9 [] [(2, none)] mc_spec_PartsOf = true := by kernel_rfl
def mc_spec_l4Bridge : MCode :=
 .seq
 (.reg [
 ⟨some 2, none, .box 2 (.t 0)⟩,
 ⟨some 3, none, .box 2 (.t 1)⟩,
 ⟨some 4, none, .mov (.v (.b false))⟩] [2, 3])
 (.seq
 (.draw [0, 1, 0, 4, 0, 28, 63, 0, 128, 0, 512, 2047, 4095, 8191] [
 ⟨some 5, none, .fieldAddr 0 (.t 2)⟩,
 ⟨some 6, none, .load false 1 (.t 5)⟩,
 ⟨some 7, none, .fieldAddr 1 (.t 2)⟩,
 ⟨some 8, none, .load false 1 (.t 7)⟩,
 ⟨some 9, none, .load true 2 (.t 3)⟩,
 ⟨some 10, none, .call fid_spec_l1Without false [.im, .im] [(.t 8), (.t 9)]⟩,
 ⟨some 11, none, .build [.i .i64 0, .nl 2] [(0, 1, (.t 6)), (1, 1, (.t 10))]⟩,
 ⟨some 12, none, .fieldAddr 0 (.t 3)⟩,
 ⟨some 13, none, .load false 1 (.t 12)⟩,
 ⟨some 14, none, .fieldAddr 1 (.t 3)⟩,
 ⟨some 15, none, .load false 1 (.t 14)⟩,
 ⟨some 16, none, .call fid_spec_l2Joined false [.im, .im, .im] [(.t 11), (.t 13), (.t 15)]⟩,
 ⟨some 17, none, .un .not (.t 16)⟩,
 ⟨some 4, none, .mov (.t 17)⟩] [4])
 (.ret))
theorem get_spec_l4Bridge : prog.funcs[fid_spec_l4Bridge]? = some f38 := func38
theorem ok_spec_l4Bridge : okFn prog f38 18 [] [(4, none)] mc_spec_l4Bridge = true := by kernel_rfl
def mc_spec_l4Cut : MCode :=
 .seq
 (.reg [
 ⟨some 2, none, .box 2 (.t 0)⟩,
 ⟨some 4, none, .mov (.v (.b false))⟩] [1, 2])
 (.seq
 (.reg [
 ⟨some 8, none, .load true 2 (.t 2)⟩,
 ⟨some 9, none, .mov (.t 1)⟩,
 ⟨some 10, none, .call fid_spec_l1Next false [.im, .im] [(.t 8), (.t 9)]⟩,
 ⟨some 5, none, .mov (.t 10)⟩] [1, 2, 5])
 (.seq
 (.reg [
 ⟨some 11, none, .load true 2 (.t 2)⟩,
 ⟨some 12, none, .mov (.t 1)⟩,
 ⟨some 13, none, .call fid_spec_l1Alone false [.im, .im] [(.t 11), (.t 12)]⟩,
 ⟨some 6, none, .alloc [.i .i64 0, .nl 2]⟩,
 ⟨none, none, .store 2 (.t 6) (.t 13)⟩] [5, 6])
 (.seq
 (.seq
 (.reg [
 ⟨some 7, none, .mov (.v (.i .i64 1))⟩] [5, 6, 7])
 (.block 0
 (.loop [5, 6, 7]
 (.seq
 (.seq
 (.reg [
 ⟨some 14, none, .mov (.t 7)⟩,
 ⟨some 15, none, .mov (.t 5)⟩,
 ⟨some 16, none, .len (.t 15)⟩,
 ⟨some 17, none, .bin .lss (.t 14) (.t 16)⟩] [5, 6, 7, 17])
 (.cond (.t 17)
 (.skip)
 (.exit 0)))
 (.seq
 (.block 1
 (.seq
 (.draw [0, 0, 2, 6, 0, 0, 48, 112, 255, 511] [
 ⟨some 20, none, .load true 2 (.t 6)⟩,
 ⟨some 21, none, .mov (.t 5)⟩,
 ⟨some 22, none, .indexAddr 1 (.t 21) (.v (.i .i64 0))⟩,
 ⟨some 23, none, .load false 1 (.t 22)⟩,
 ⟨some 24, none, .mov (.t 5)⟩,
 ⟨some 25, none, .mov (.t 7)⟩,
 ⟨some 26, none, .indexAddr 1 (.t 24) (.t 25)⟩,
 ⟨some 27, none, .load false 1 (.t 26)⟩,
 ⟨some 28, none, .call fid_spec_l2Joined false [.im, .im, .im] [(.t 20), (.t 23), (.t 27)]⟩,
 ⟨some 29, none, .un .not (.t 28)⟩] [5, 6, 7, 29])
 (.cond (.t 29)
 (.seq
 (.reg [
 ⟨some 4, none, .mov (.v (.b true))⟩] [4])
 (.ret))
 (.skip))))
 (.reg [
 ⟨some 18, none, .mov (.t 7)⟩,
 ⟨some 19, none, .bin .add (.t 18) (.v (.i .i64 1))⟩,
 ⟨some 7, none, .mov (.t 19)⟩] [5, 6, 7]))))))
 (.seq
 (.reg [
 ⟨some 4, none, .mov (.v (.b false))⟩] [4])
 (.ret)))))
theorem get_spec_l4Cut : prog.funcs[fid_spec_l4Cut]? = some f39 := func39
theorem ok_spec_l4Cut : okFn prog f39 30 [] [(4, none)] mc_spec_l4Cut = true := by kernel_rfl
def mc_spec_l1Less : MCode :=
 .seq
 (.reg [
 ⟨some 2, none, .box 2 (.t 0)⟩,
 ⟨some 3, none, .box 2 (.t 1)⟩,
 ⟨some 4, none, .mov (.v (.b false))⟩] [2, 3])
 (.seq
 (.reg [
 ⟨some 5, none, .fieldAddr 0 (.t 2)⟩,
 ⟨some 6, none, .load false 1 (.t 5)⟩,
 ⟨some 7, none, .fieldAddr 0 (.t 3)⟩,
 ⟨some 8, none, .load false 1 (.t 7)⟩,
 ⟨some 9, none, .bin .lss (.t 6) (.t 8)⟩,
 ⟨some 10, none, .mov (.t 9)⟩,
 ⟨some 11, (some (10, false)), .fieldAddr 0 (.t 2)⟩,
 ⟨some 12, (some (10, false)), .load false 1 (.t 11)⟩,
 ⟨some 13, (some (10, false)), .fieldAddr 0 (.t 3)⟩,
 ⟨some 14, (some (10, false)), .load false 1 (.t 13)⟩,
 ⟨some 15, (some (10, false)), .bin .eql (.t 12) (.t 14)⟩,
 ⟨some 16, (some (10, false)), .mov (.t 15)⟩,
 ⟨some 17, (some (16, true)), .fieldAddr 1 (.t 2)⟩,
 ⟨some 18, (some (16, true)), .load false 1 (.t 17)⟩,
 ⟨some 19, (some (16, true)), .fieldAddr 1 (.t 3)⟩,
 ⟨some 20, (some (16, true)), .load false 1 (.t 19)⟩,
 ⟨some 21, (some (16, true)), .bin .lss (.t 18) (.t 20)⟩,
 ⟨some 22, (some (10, false)), .pick (.t 16) (.t 21) (.v (.b false))⟩,
 ⟨some 23, none, .pick (.t 10) (.v (.b true)) (.t 22)⟩,
 ⟨some 4, none, .mov (.t 23)⟩] [4])
 (.ret))
theorem get_spec_l1Less : prog.funcs[fid_spec_l1Less]? = some f49 := func49
theorem ok_spec_l1Less : okFn prog f49 24 [] [(4, none)] mc_spec_l1Less = true := by kernel_rfl
def mc_spec_HasEdge : MCode :=
 .seq
 (.reg [
 ⟨some 2, none, .box 2 (.t 0)⟩,
 ⟨some 3, none, .box 2 (.t 1)⟩,
 ⟨some 4, none, .mov (.v (.b false))⟩] [2, 3])
 (.seq
 (.reg [
 ⟨some 5, none, .load true 2 (.t 2)⟩,
 ⟨some 6, none, .call fid_spec_GraphValid false [.im] [(.t 5)]⟩,
 ⟨some 7, none, .mov (.t 6)⟩,
 ⟨some 8, (some (7, true)), .fieldAddr 1 (.t 2)⟩,
 ⟨some 9, (some (7, true)), .load false 1 (.t 8)⟩,
 ⟨some 10, (some (7, true)), .load true 2 (.t 3)⟩,
 ⟨some 11, (some (7, true)), .call fid_spec_l1Find false [.im, .im] [(.t 9), (.t 10)]⟩,
 ⟨some 12, (some (7, true)), .bin .geq (.t 11) (.v (.i .i64 0))⟩,
 ⟨some 13, none, .pick (.t 7) (.t 12) (.v (.b false))⟩,
 ⟨some 4, none, .mov (.t 13)⟩] [4])
 (.ret))
theorem get_spec_HasEdge : prog.funcs[fid_spec_HasEdge]? = some f50 := func50
theorem ok_spec_HasEdge : okFn prog f50 14 [] [(4, none)] mc_spec_HasEdge = true := by kernel_rfl
def mc_spec_CutEdge : MCode :=
 .seq
 (.reg [
 ⟨some 2, none, .box 2 (.t 0)⟩,
 ⟨some 3, none, .box 2 (.t 1)⟩,
 ⟨some 4, none, .alloc [.i .i64 0, .nl 2]⟩,
 ⟨some 5, none, .mov (.v (.b false))⟩] [2, 3, 4])
 (.seq
 (.seq
 (.reg [
 ⟨some 6, none, .load true 2 (.t 2)⟩,
 ⟨some 7, none, .call fid_spec_GraphValid false [.im] [(.t 6)]⟩,
 ⟨some 8, none, .un .not (.t 7)⟩,
 ⟨some 9, none, .mov (.t 8)⟩,
 ⟨some 10, (some (9, false)), .fieldAddr 1 (.t 2)⟩,
 ⟨some 11, (some (9, false)), .load false 1 (.t 10)⟩,
 ⟨some 12, (some (9, false)), .load true 2 (.t 3)⟩,
 ⟨some 13, (some (9, false)), .call fid_spec_l1Find false [.im, .im] [(.t 11), (.t 12)]⟩,
 ⟨some 14, (some (9, false)), .bin .lss (.t 13) (.v (.i .i64 0))⟩,
 ⟨some 15, none, .pick (.t 9) (.v (.b true)) (.t 14)⟩] [2, 3, 4, 15])
 (.cond (.t 15)
 (.seq
 (.reg [
 ⟨some 16, none, .build [.i .i64 0, .nl 2] []⟩,
 ⟨none, none, .store 2 (.t 4) (.t 16)⟩,
 ⟨some 5, none, .mov (.v (.b false))⟩] [4, 5])
 (.ret))
 (.skip)))
 (.seq
 (.draw [0, 1, 0, 4, 0, 28, 63, 127, 255] [
 ⟨some 17, none, .fieldAddr 0 (.t 2)⟩,
 ⟨some 18, none, .load false 1 (.t 17)⟩,
 ⟨some 19, none, .fieldAddr 1 (.t 2)⟩,
 ⟨some 20, none, .load false 1 (.t 19)⟩,
 ⟨some 21, none, .load true 2 (.t 3)⟩,
 ⟨some 22, none, .call fid_spec_l1Without false [.im, .im] [(.t 20), (.t 21)]⟩,
 ⟨some 23, none, .build [.i .i64 0, .nl 2] [(0, 1, (.t 18)), (1, 1, (.t 22))]⟩,
 ⟨none, none, .store 2 (.t 4) (.t 23)⟩,
 ⟨some 5, none, .mov (.v (.b true))⟩] [4, 5])
 (.ret)))
theorem get_spec_CutEdge : prog.funcs[fid_spec_CutEdge]? = some f51 := func51
theorem ok_spec_CutEdge : okFn prog f51 24 [] [(4, some (true, 2)), (5, none)] mc_spec_CutEdge = true := by kernel_rfl
def mc_spec_PutEdge : MCode :=
 .seq
 (.reg [
 ⟨some 2, none, .box 2 (.t 0)⟩,
 ⟨some 3, none, .box 2 (.t 1)⟩,
 ⟨some 4, none, .alloc [.i .i64 0, .nl 2]⟩,
 ⟨some 5, none, .mov (.v (.b false))⟩] [2, 3, 4])
 (.seq
 (.seq
 (.reg [
 ⟨some 7, none, .load true 2 (.t 2)⟩,
 ⟨some 8, none, .call fid_spec_GraphValid false [.im] [(.t 7)]⟩,
 ⟨some 9, none, .un .not (.t 8)⟩,
 ⟨some 10, none, .mov (.t 9)⟩,
 ⟨some 11, (some (10, false)), .fieldAddr 1 (.t 2)⟩,
 ⟨some 12, (some (10, false)), .load false 1 (.t 11)⟩,
 ⟨some 13, (some (10, false)), .load true 2 (.t 3)⟩,
 ⟨some 14, (some (10, false)), .call fid_spec_l1Find false [.im, .im] [(.t 12), (.t 13)]⟩,
 ⟨some 15, (some (10, false)), .bin .geq (.t 14) (.v (.i .i64 0))⟩,
 ⟨some 16, none, .pick (.t 10) (.v (.b true)) (.t 15)⟩] [2, 3, 4, 16])
 (.cond (.t 16)
 (.seq
 (.reg [
 ⟨some 17, none, .build [.i .i64 0, .nl 2] []⟩,
 ⟨none, none, .store 2 (.t 4) (.t 17)⟩,
 ⟨some 5, none, .mov (.v (.b false))⟩] [4, 5])
 (.ret))
 (.skip)))
 (.seq
 (.draw [0, 1, 0, 4, 0, 28, 63, 0, 255] [
 ⟨some 18, none, .fieldAddr 0 (.t 2)⟩,
 ⟨some 19, none, .load false 1 (.t 18)⟩,
 ⟨some 20, none, .fieldAddr 1 (.t 2)⟩,
 ⟨some 21, none, .load false 1 (.t 20)⟩,
 ⟨some 22, none, .load true 2 (.t 3)⟩,
 ⟨some 23, none, .call fid_spec_l1Put false [.im, .im] [(.t 21), (.t 22)]⟩,
 ⟨some 24, none, .build [.i .i64 0, .nl 2] [(0, 1, (.t 19)), (1, 1, (.t 23))]⟩,
 ⟨some 6, none, .alloc [.i .i64 0, .nl 2]⟩,
 ⟨none, none, .store 2 (.t 6) (.t 24)⟩] [4, 6])
 (.seq
 (.seq
 (.reg [
 ⟨some 25, none, .load true 2 (.t 6)⟩,
 ⟨some 26, none, .call fid_spec_GraphValid false [.im] [(.t 25)]⟩,
 ⟨some 27, none, .un .not (.t 26)⟩] [4, 6, 27])
 (.cond (.t 27)
 (.seq
 (.reg [
 ⟨some 28, none, .build [.i .i64 0, .nl 2] []⟩,
 ⟨none, none, .store 2 (.t 4) (.t 28)⟩,
 ⟨some 5, none, .mov (.v (.b false))⟩] [4, 5])
 (.ret))
 (.skip)))
 (.seq
 (.reg [
 ⟨some 29, none, .load true 2 (.t 6)⟩,
 ⟨none, none, .store 2 (.t 4) (.t 29)⟩,
 ⟨some 5, none, .mov (.v (.b true))⟩] [4, 5])
 (.ret)))))
theorem get_spec_PutEdge : prog.funcs[fid_spec_PutEdge]? = some f52 := func52
theorem ok_spec_PutEdge : okFn prog f52 30 [] [(4, some (true, 2)), (5, none)] mc_spec_PutEdge = true := by kernel_rfl
def mc_spec_l2Labels : MCode :=
 .seq
 (.reg [
 ⟨some 1, none, .box 2 (.t 0)⟩,
 ⟨some 2, none, .mov (.v (.nl 1))⟩] [1])
 (.seq
 (.reg [
 ⟨some 9, none, .buildSlice 1 []⟩,
 ⟨some 3, none, .mov (.t 9)⟩] [1, 3])
 (.seq
 (.seq
 (.reg [
 ⟨some 4, none, .mov (.v (.i .i64 0))⟩] [1, 3, 4])
 (.block 0
 (.loop [1, 3, 4]
 (.seq
 (.seq
 (.reg [
 ⟨some 10, none, .mov (.t 4)⟩,
 ⟨some 11, none, .fieldAddr 0 (.t 1)⟩,
 ⟨some 12, none, .load false 1 (.t 11)⟩,
 ⟨some 13, none, .bin .lss (.t 10) (.t 12)⟩] [1, 3, 4, 13])
 (.cond (.t 13)
 (.skip)
 (.exit 0)))
 (.seq
 (.block 1
 (.reg [
 ⟨some 16, none, .mov (.t 3)⟩,
 ⟨some 17, none, .mov (.t 4)⟩,
 ⟨some 18, none, .buildSlice 1 [(.t 17)]⟩,
 ⟨some 19, none, .append 1 8 true (.t 16) (.t 18)⟩,
 ⟨some 3, none, .mov (.t 19)⟩] [1, 3, 4]))
 (.reg [
 ⟨some 14, none, .mov (.t 4)⟩,
 ⟨some 15, none, .bin .add (.t 14) (.v (.i .i64 1))⟩,
 ⟨some 4, none, .mov (.t 15)⟩] [1, 3, 4]))))))
 (.seq
 (.seq
 (.reg [
 ⟨some 5, none, .mov (.v (.b true))⟩] [1, 3, 5])
 (.block 2
 (.loop [1, 3, 5]
 (.seq
 (.seq
 (.reg [
 ⟨some 20, none, .mov (.t 5)⟩] [1, 3, 20])
 (.cond (.t 20)
 (.skip)
 (.exit 2)))
 (.block 3
 (.seq
 (.reg [
 ⟨some 5, none, .mov (.v (.b false))⟩] [1, 3, 5])
 (.seq
 (.reg [
 ⟨some 6, none, .mov (.v (.i .i64 0))⟩] [1, 3, 5, 6])
 (.block 4
 (.loop [1, 3, 5, 6]
 (.seq
 (.seq
 (.reg [
 ⟨some 21, none, .mov (.t 6)⟩,
 ⟨some 22, none, .fieldAddr 1 (.t 1)⟩,
 ⟨some 23, none, .load false 1 (.t 22)⟩,
 ⟨some 24, none, .len (.t 23)⟩,
 ⟨some 25, none, .bin .lss (.t 21) (.t 24)⟩] [1, 3, 5, 6, 25])
 (.cond (.t 25)
 (.skip)
 (.exit 4)))
 (.seq
 (.block 5
 (.seq
 (.reg [
 ⟨some 28, none, .mov (.t 3)⟩,
 ⟨some 29, none, .fieldAddr 1 (.t 1)⟩,
 ⟨some 30, none, .load false 1 (.t 29)⟩,
 ⟨some 31, none, .mov (.t 6)⟩,
 ⟨some 32, none, .indexAddr 2 (.t 30) (.t 31)⟩,
 ⟨some 33, none, .fieldAddr 0 (.t 32)⟩,
 ⟨some 34, none, .load false 1 (.t 33)⟩,
 ⟨some 35, none, .indexAddr 1 (.t 28) (.t 34)⟩,
 ⟨some 36, none, .load false 1 (.t 35)⟩,
 ⟨some 7, none, .mov (.t 36)⟩] [1, 3, 5, 6, 7])
 (.seq
 (.reg [
 ⟨some 37, none, .mov (.t 3)⟩,
 ⟨some 38, none, .fieldAddr 1 (.t 1)⟩,
 ⟨some 39, none, .load false 1 (.t 38)⟩,
 ⟨some 40, none, .mov (.t 6)⟩,
 ⟨some 41, none, .indexAddr 2 (.t 39) (.t 40)⟩,
 ⟨some 42, none, .fieldAddr 1 (.t 41)⟩,
 ⟨some 43, none, .load false 1 (.t 42)⟩,
 ⟨some 44, none, .indexAddr 1 (.t 37) (.t 43)⟩,
 ⟨some 45, none, .load false 1 (.t 44)⟩,
 ⟨some 8, none, .mov (.t 45)⟩] [1, 3, 5, 6, 7, 8])
 (.seq
 (.seq
 (.reg [
 ⟨some 46, none, .mov (.t 7)⟩,
 ⟨some 47, none, .mov (.t 8)⟩,
 ⟨some 48, none, .bin .lss (.t 46) (.t 47)⟩] [1, 3, 5, 6, 7, 8, 48])
 (.cond (.t 48)
 (.seq
 (.reg [
 ⟨some 49, none, .mov (.t 3)⟩,
 ⟨some 50, none, .fieldAddr 1 (.t 1)⟩,
 ⟨some 51, none, .load false 1 (.t 50)⟩,
 ⟨some 52, none, .mov (.t 6)⟩,
 ⟨some 53, none, .indexAddr 2 (.t 51) (.t 52)⟩,
 ⟨some 54, none, .fieldAddr 1 (.t 53)⟩,
 ⟨some 55, none, .load false 1 (.t 54)⟩,
 ⟨some 56, none, .mov (.t 7)⟩,
 ⟨some 57, none, .indexAddr 1 (.t 49) (.t 55)⟩,
 ⟨none, none, .store 1 (.t 57) (.t 56)⟩] [1, 3, 6, 7, 8])
 (.reg [
 ⟨some 5, none, .mov (.v (.b true))⟩] [1, 3, 5, 6, 7, 8]))
 (.skip)))
 (.seq
 (.reg [
 ⟨some 58, none, .mov (.t 8)⟩,
 ⟨some 59, none, .mov (.t 7)⟩,
 ⟨some 60, none, .bin .lss (.t 58) (.t 59)⟩] [1, 3, 5, 6, 8, 60])
 (.cond (.t 60)
 (.seq
 (.reg [
 ⟨some 61, none, .mov (.t 3)⟩,
 ⟨some 62, none, .fieldAddr 1 (.t 1)⟩,
 ⟨some 63, none, .load false 1 (.t 62)⟩,
 ⟨some 64, none, .mov (.t 6)⟩,
 ⟨some 65, none, .indexAddr 2 (.t 63) (.t 64)⟩,
 ⟨some 66, none, .fieldAddr 0 (.t 65)⟩,
 ⟨some 67, none, .load false 1 (.t 66)⟩,
 ⟨some 68, none, .mov (.t 8)⟩,
 ⟨some 69, none, .indexAddr 1 (.t 61) (.t 67)⟩,
 ⟨none, none, .store 1 (.t 69) (.t 68)⟩] [1, 3, 6])
 (.reg [
 ⟨some 5, none, .mov (.v (.b true))⟩] [1, 3, 5, 6]))
 (.skip)))))))
 (.reg [
 ⟨some 26, none, .mov (.t 6)⟩,
 ⟨some 27, none, .bin .add (.t 26) (.v (.i .i64 1))⟩,
 ⟨some 6, none, .mov (.t 27)⟩] [1, 3, 5, 6]))))))))))))
 (.seq
 (.reg [
 ⟨some 70, none, .mov (.t 3)⟩,
 ⟨some 2, none, .mov (.t 70)⟩] [2])
 (.ret)))))
theorem get_spec_l2Labels : prog.funcs[fid_spec_l2Labels]? = some f53 := func53
theorem ok_spec_l2Labels : okFn prog f53 71 [] [(2, none)] mc_spec_l2Labels = true := by kernel_rfl
def mc_spec_l2Joined : MCode :=
 .seq
 (.reg [
 ⟨some 3, none, .box 2 (.t 0)⟩,
 ⟨some 6, none, .mov (.v (.b false))⟩] [1, 2, 3])
 (.seq
 (.reg [
 ⟨some 8, none, .load true 2 (.t 3)⟩,
 ⟨some 9, none, .call fid_spec_l2Labels false [.im] [(.t 8)]⟩,
 ⟨some 7, none, .mov (.t 9)⟩] [1, 2, 7])
 (.seq
 (.draw [0, 0, 3, 7, 0, 0, 48, 112, 255, 511] [
 ⟨some 10, none, .mov (.t 7)⟩,
 ⟨some 11, none, .mov (.t 1)⟩,
 ⟨some 12, none, .indexAddr 1 (.t 10) (.t 11)⟩,
 ⟨some 13, none, .load false 1 (.t 12)⟩,
 ⟨some 14, none, .mov (.t 7)⟩,
 ⟨some 15, none, .mov (.t 2)⟩,
 ⟨some 16, none, .indexAddr 1 (.t 14) (.t 15)⟩,
 ⟨some 17, none, .load false 1 (.t 16)⟩,
 ⟨some 18, none, .bin .eql (.t 13) (.t 17)⟩,
 ⟨some 6, none, .mov (.t 18)⟩] [6])
 (.ret)))
theorem get_spec_l2Joined : prog.funcs[fid_spec_l2Joined]? = some f54 := func54
theorem ok_spec_l2Joined : okFn prog f54 19 [] [(6, none)] mc_spec_l2Joined = true := by kernel_rfl
def mc_spec_l1Without : MCode :=
 .seq
 (.reg [
 ⟨some 3, none, .box 2 (.t 1)⟩,
 ⟨some 4, none, .mov (.v (.nl 2))⟩] [0, 3])
 (.seq
 (.reg [
 ⟨some 7, none, .buildSlice 2 []⟩,
 ⟨some 5, none, .mov (.t 7)⟩] [0, 3, 5])
 (.seq
 (.seq
 (.reg [
 ⟨some 6, none, .mov (.v (.i .i64 0))⟩] [0, 3, 5, 6])
 (.block 0
 (.loop [0, 3, 5, 6]
 (.seq
 (.seq
 (.reg [
 ⟨some 8, none, .mov (.t 6)⟩,
 ⟨some 9, none, .mov (.t 0)⟩,
 ⟨some 10, none, .len (.t 9)⟩,
 ⟨some 11, none, .bin .lss (.t 8) (.t 10)⟩] [0, 3, 5, 6, 11])
 (.cond (.t 11)
 (.skip)
 (.exit 0)))
 (.seq
 (.block 1
 (.seq
 (.draw [0, 0, 3, 7, 0, 31] [
 ⟨some 14, none, .mov (.t 0)⟩,
 ⟨some 15, none, .mov (.t 6)⟩,
 ⟨some 16, none, .indexAddr 2 (.t 14) (.t 15)⟩,
 ⟨some 17, none, .load true 2 (.t 16)⟩,
 ⟨some 18, none, .load true 2 (.t 3)⟩,
 ⟨some 19, none, .eqAgg true [true, true] (.t 17) (.t 18)⟩] [0, 3, 5, 6, 19])
 (.cond (.t 19)
 (.reg [
 ⟨some 20, none, .mov (.t 5)⟩,
 ⟨some 21, none, .mov (.t 0)⟩,
 ⟨some 22, none, .mov (.t 6)⟩,
 ⟨some 23, none, .indexAddr 2 (.t 21) (.t 22)⟩,
 ⟨some 24, none, .load true 2 (.t 23)⟩,
 ⟨some 25, none, .buildSlice 2 [(.t 24)]⟩,
 ⟨some 26, none, .append 2 16 true (.t 20) (.t 25)⟩,
 ⟨some 5, none, .mov (.t 26)⟩] [0, 3, 5, 6])
 (.skip))))
 (.reg [
 ⟨some 12, none, .mov (.t 6)⟩,
 ⟨some 13, none, .bin .add (.t 12) (.v (.i .i64 1))⟩,
 ⟨some 6, none, .mov (.t 13)⟩] [0, 3, 5, 6]))))))
 (.seq
 (.reg [
 ⟨some 27, none, .mov (.t 5)⟩,
 ⟨some 4, none, .mov (.t 27)⟩] [4])
 (.ret))))
theorem get_spec_l1Without : prog.funcs[fid_spec_l1Without]? = some f55 := func55
theorem ok_spec_l1Without : okFn prog f55 28 [] [(4, none)] mc_spec_l1Without = true := by kernel_rfl
def mc_spec_l1Next : MCode :=
 .seq
 (.reg [
 ⟨some 2, none, .box 2 (.t 0)⟩,
 ⟨some 4, none, .mov (.v (.nl 1))⟩] [1, 2])
 (.seq
 (.reg [
 ⟨some 7, none, .buildSlice 1 []⟩,
 ⟨some 5, none, .mov (.t 7)⟩] [1, 2, 5])
 (.seq
 (.seq
 (.reg [
 ⟨some 6, none, .mov (.v (.i .i64 0))⟩] [1, 2, 5, 6])
 (.block 0
 (.loop [1, 2, 5, 6]
 (.seq
 (.seq
 (.reg [
 ⟨some 8, none, .mov (.t 6)⟩,
 ⟨some 9, none, .fieldAddr 0 (.t 2)⟩,
 ⟨some 10, none, .load false 1 (.t 9)⟩,
 ⟨some 11, none, .bin .lss (.t 8) (.t 10)⟩] [1, 2, 5, 6, 11])
 (.cond (.t 11)
 (.skip)
 (.exit 0)))
 (.seq
 (.block 1
 (.seq
 (.draw [0, 0, 3, 7, 15, 31, 15, 15, 207, 511, 1023, 2047] [
 ⟨some 14, none, .mov (.t 6)⟩,
 ⟨some 15, none, .mov (.t 1)⟩,
 ⟨some 16, none, .bin .neq (.t 14) (.t 15)⟩,
 ⟨some 17, none, .mov (.t 16)⟩,
 ⟨some 18, (some (17, true)), .fieldAddr 1 (.t 2)⟩,
 ⟨some 19, (some (17, true)), .load false 1 (.t 18)⟩,
 ⟨some 20, (some (17, true)), .mov (.t 6)⟩,
 ⟨some 21, (some (17, true)), .mov (.t 1)⟩,
 ⟨some 22, (some (17, true)), .call fid_spec_l1Edge false [.im, .im] [(.t 20), (.t 21)]⟩,
 ⟨some 23, (some (17, true)), .call fid_spec_l1Find false [.im, .im] [(.t 19), (.t 22)]⟩,
 ⟨some 24, (some (17, true)), .bin .geq (.t 23) (.v (.i .i64 0))⟩,
 ⟨some 25, none, .pick (.t 17) (.t 24) (.v (.b false))⟩] [1, 2, 5, 6, 25])
 (.cond (.t 25)
 (.reg [
 ⟨some 26, none, .mov (.t 5)⟩,
 ⟨some 27, none, .mov (.t 6)⟩,
 ⟨some 28, none, .buildSlice 1 [(.t 27)]⟩,
 ⟨some 29, none, .append 1 8 true (.t 26) (.t 28)⟩,
 ⟨some 5, none, .mov (.t 29)⟩] [1, 2, 5, 6])
 (.skip))))
 (.reg [
 ⟨some 12, none, .mov (.t 6)⟩,
 ⟨some 13, none, .bin .add (.t 12) (.v (.i .i64 1))⟩,
 ⟨some 6, none, .mov (.t 13)⟩] [1, 2, 5, 6]))))))
 (.seq
 (.reg [
 ⟨some 30, none, .mov (.t 5)⟩,
 ⟨some 4, none, .mov (.t 30)⟩] [4])
 (.ret))))
theorem get_spec_l1Next : prog.funcs[fid_spec_l1Next]? = some f56 := func56
theorem ok_spec_l1Next : okFn prog f56 31 [] [(4, none)] mc_spec_l1Next = true := by kernel_rfl
def mc_spec_l1Alone : MCode :=
 .seq
 (.reg [
 ⟨some 2, none, .box 2 (.t 0)⟩,
 ⟨some 4, none, .alloc [.i .i64 0, .nl 2]⟩] [1, 2, 4])
 (.seq
 (.reg [
 ⟨some 7, none, .fieldAddr 0 (.t 2)⟩,
 ⟨some 8, none, .load false 1 (.t 7)⟩,
 ⟨some 9, none, .buildSlice 2 []⟩,
 ⟨some 10, none, .build [.i .i64 0, .nl 2] [(0, 1, (.t 8)), (1, 1, (.t 9))]⟩,
 ⟨some 5, none, .alloc [.i .i64 0, .nl 2]⟩,
 ⟨none, none, .store 2 (.t 5) (.t 10)⟩] [1, 2, 4, 5])
 (.seq
 (.seq
 (.reg [
 ⟨some 6, none, .mov (.v (.i .i64 0))⟩] [1, 2, 4, 5, 6])
 (.block 0
 (.loop [1, 2, 4, 5, 6]
 (.seq
 (.seq
 (.reg [
 ⟨some 11, none, .mov (.t 6)⟩,
 ⟨some 12, none, .fieldAddr 1 (.t 2)⟩,
 ⟨some 13, none, .load false 1 (.t 12)⟩,
 ⟨some 14, none, .len (.t 13)⟩,
 ⟨some 15, none, .bin .lss (.t 11) (.t 14)⟩] [1, 2, 4, 5, 6, 15])
 (.cond (.t 15)
 (.skip)
 (.exit 0)))
 (.seq
 (.block 1
 (.seq
 (.reg [
 ⟨some 18, none, .fieldAddr 1 (.t 2)⟩,
 ⟨some 19, none, .load false 1 (.t 18)⟩,
 ⟨some 20, none, .mov (.t 6)⟩,
 ⟨some 21, none, .indexAddr 2 (.t 19) (.t 20)⟩,
 ⟨some 22, none, .fieldAddr 0 (.t 21)⟩,
 ⟨some 23, none, .load false 1 (.t 22)⟩,
 ⟨some 24, none, .mov (.t 1)⟩,
 ⟨some 25, none, .bin .neq (.t 23) (.t 24)⟩,
 ⟨some 26, none, .mov (.t 25)⟩,
 ⟨some 27, (some (26, true)), .fieldAddr 1 (.t 2)⟩,
 ⟨some 28, (some (26, true)), .load false 1 (.t 27)⟩,
 ⟨some 29, (some (26, true)), .mov (.t 6)⟩,
 ⟨some 30, (some (26, true)), .indexAddr 2 (.t 28) (.t 29)⟩,
 ⟨some 31, (some (26, true)), .fieldAddr 1 (.t 30)⟩,
 ⟨some 32, (some (26, true)), .load false 1 (.t 31)⟩,
 ⟨some 33, (some (26, true)), .mov (.t 1)⟩,
 ⟨some 34, (some (26, true)), .bin .neq (.t 32) (.t 33)⟩,
 ⟨some 35, none, .pick (.t 26) (.t 34) (.v (.b false))⟩] [1, 2, 4, 5, 6, 35])
 (.cond (.t 35)
 (.draw [0, 1, 0, 4, 0, 28, 60, 124, 255, 511, 1023] [
 ⟨some 36, none, .fieldAddr 1 (.t 5)⟩,
 ⟨some 37, none, .load false 1 (.t 36)⟩,
 ⟨some 38, none, .fieldAddr 1 (.t 2)⟩,
 ⟨some 39, none, .load false 1 (.t 38)⟩,
 ⟨some 40, none, .mov (.t 6)⟩,
 ⟨some 41, none, .indexAddr 2 (.t 39) (.t 40)⟩,
 ⟨some 42, none, .load true 2 (.t 41)⟩,
 ⟨some 43, none, .buildSlice 2 [(.t 42)]⟩,
 ⟨some 44, none, .append 2 16 true (.t 37) (.t 43)⟩,
 ⟨some 45, none, .fieldAddr 1 (.t 5)⟩,
 ⟨none, none, .store 1 (.t 45) (.t 44)⟩] [1, 2, 4, 5, 6])
 (.skip))))
 (.reg [
 ⟨some 16, none, .mov (.t 6)⟩,
 ⟨some 17, none, .bin .add (.t 16) (.v (.i .i64 1))⟩,
 ⟨some 6, none, .mov (.t 17)⟩] [1, 2, 4, 5, 6]))))))
 (.seq
 (.reg [
 ⟨some 46, none, .load true 2 (.t 5)⟩,
 ⟨none, none, .store 2 (.t 4) (.t 46)⟩] [4])
 (.ret))))
theorem get_spec_l1Alone : prog.funcs[fid_spec_l1Alone]? = some f57 := func57
theorem ok_spec_l1Alone : okFn prog f57 47 [] [(4, some (true, 2))] mc_spec_l1Alone = true := by kernel_rfl
def mc_spec_l1Find : MCode :=
 .seq
 (.reg [
 ⟨some 3, none, .box 2 (.t 1)⟩,
 ⟨some 4, none, .mov (.v (.i .i64 0))⟩] [0, 3])
 (.seq
 (.seq
 (.reg [
 ⟨some 5, none, .mov (.v (.i .i64 0))⟩] [0, 3, 5])
 (.block 0
 (.loop [0, 3, 5]
 (.seq
 (.seq
 (.reg [
 ⟨some 6, none, .mov (.t 5)⟩,
 ⟨some 7, none, .mov (.t 0)⟩,
 ⟨some 8, none, .len (.t 7)⟩,
 ⟨some 9, none, .bin .lss (.t 6) (.t 8)⟩] [0, 3, 5, 9])
 (.cond (.t 9)
 (.skip)
 (.exit 0)))
 (.seq
 (.block 1
 (.seq
 (.draw [0, 0, 3, 7, 0, 31] [
 ⟨some 12, none, .mov (.t 0)⟩,
 ⟨some 13, none, .mov (.t 5)⟩,
 ⟨some 14, none, .indexAddr 2 (.t 12) (.t 13)⟩,
 ⟨some 15, none, .load true 2 (.t 14)⟩,
 ⟨some 16, none, .load true 2 (.t 3)⟩,
 ⟨some 17, none, .eqAgg false [true, true] (.t 15) (.t 16)⟩] [0, 3, 5, 17])
 (.cond (.t 17)
 (.seq
 (.reg [
 ⟨some 18, none, .mov (.t 5)⟩,
 ⟨some 4, none, .mov (.t 18)⟩] [4])
 (.ret))
 (.skip))))
 (.reg [
 ⟨some 10, none, .mov (.t 5)⟩,
 ⟨some 11, none, .bin .add (.t 10) (.v (.i .i64 1))⟩,
 ⟨some 5, none, .mov (.t 11)⟩] [0, 3, 5]))))))
 (.seq
 (.reg [
 ⟨some 4, none, .mov (.v (.i .i64 (-1)))⟩] [4])
 (.ret)))
theorem get_spec_l1Find : prog.funcs[fid_spec_l1Find]? = some f71 := func71
theorem ok_spec_l1Find : okFn prog f71 19 [] [(4, none)] mc_spec_l1Find = true := by kernel_rfl
def mc_spec_l1Put : MCode :=
 .seq
 (.reg [
 ⟨some 3, none, .box 2 (.t 1)⟩,
 ⟨some 4, none, .mov (.v (.nl 2))⟩] [0, 3])
 (.seq
 (.reg [
 ⟨some 8, none, .buildSlice 2 []⟩,
 ⟨some 5, none, .mov (.t 8)⟩] [0, 3, 5])
 (.seq
 (.reg [
 ⟨some 6, none, .mov (.v (.b false))⟩] [0, 3, 5, 6])
 (.seq
 (.seq
 (.reg [
 ⟨some 7, none, .mov (.v (.i .i64 0))⟩] [0, 3, 5, 6, 7])
 (.block 0
 (.loop [0, 3, 5, 6, 7]
 (.seq
 (.seq
 (.reg [
 ⟨some 9, none, .mov (.t 7)⟩,
 ⟨some 10, none, .mov (.t 0)⟩,
 ⟨some 11, none, .len (.t 10)⟩,
 ⟨some 12, none, .bin .lss (.t 9) (.t 11)⟩] [0, 3, 5, 6, 7, 12])
 (.cond (.t 12)
 (.skip)
 (.exit 0)))
 (.seq
 (.block 1
 (.seq
 (.seq
 (.draw [0, 1, 3, 7, 7, 7, 55, 119, 255, 511] [
 ⟨some 15, none, .mov (.t 6)⟩,
 ⟨some 16, none, .un .not (.t 15)⟩,
 ⟨some 17, none, .mov (.t 16)⟩,
 ⟨some 18, (some (17, true)), .load true 2 (.t 3)⟩,
 ⟨some 19, (some (17, true)), .mov (.t 0)⟩,
 ⟨some 20, (some (17, true)), .mov (.t 7)⟩,
 ⟨some 21, (some (17, true)), .indexAddr 2 (.t 19) (.t 20)⟩,
 ⟨some 22, (some (17, true)), .load true 2 (.t 21)⟩,
 ⟨some 23, (some (17, true)), .call fid_spec_l1Less false [.im, .im] [(.t 18), (.t 22)]⟩,
 ⟨some 24, none, .pick (.t 17) (.t 23) (.v (.b false))⟩] [0, 3, 5, 6, 7, 24])
 (.cond (.t 24)
 (.seq
 (.reg [
 ⟨some 25, none, .mov (.t 5)⟩,
 ⟨some 26, none, .load true 2 (.t 3)⟩,
 ⟨some 27, none, .buildSlice 2 [(.t 26)]⟩,
 ⟨some 28, none, .append 2 16 true (.t 25) (.t 27)⟩,
 ⟨some 5, none, .mov (.t 28)⟩] [0, 3, 5, 7])
 (.reg [
 ⟨some 6, none, .mov (.v (.b true))⟩] [0, 3, 5, 6, 7]))
 (.skip)))
 (.reg [
 ⟨some 29, none, .mov (.t 5)⟩,
 ⟨some 30, none, .mov (.t 0)⟩,
 ⟨some 31, none, .mov (.t 7)⟩,
 ⟨some 32, none, .indexAddr 2 (.t 30) (.t 31)⟩,
 ⟨some 33, none, .load true 2 (.t 32)⟩,
 ⟨some 34, none, .buildSlice 2 [(.t 33)]⟩,
 ⟨some 35, none, .append 2 16 true (.t 29) (.t 34)⟩,
 ⟨some 5, none, .mov (.t 35)⟩] [0, 3, 5, 6, 7])))
 (.reg [
 ⟨some 13, none, .mov (.t 7)⟩,
 ⟨some 14, none, .bin .add (.t 13) (.v (.i .i64 1))⟩,
 ⟨some 7, none, .mov (.t 14)⟩] [0, 3, 5, 6, 7]))))))
 (.seq
 (.seq
 (.reg [
 ⟨some 36, none, .mov (.t 6)⟩,
 ⟨some 37, none, .un .not (.t 36)⟩] [3, 5, 37])
 (.cond (.t 37)
 (.reg [
 ⟨some 38, none, .mov (.t 5)⟩,
 ⟨some 39, none, .load true 2 (.t 3)⟩,
 ⟨some 40, none, .buildSlice 2 [(.t 39)]⟩,
 ⟨some 41, none, .append 2 16 true (.t 38) (.t 40)⟩,
 ⟨some 5, none, .mov (.t 41)⟩] [5])
 (.skip)))
 (.seq
 (.reg [
 ⟨some 42, none, .mov (.t 5)⟩,
 ⟨some 4, none, .mov (.t 42)⟩] [4])
 (.ret))))))
theorem get_spec_l1Put : prog.funcs[fid_spec_l1Put]? = some f72 := func72
theorem ok_spec_l1Put : okFn prog f72 43 [] [(4, none)] mc_spec_l1Put = true := by kernel_rfl
def mc_spec_l1Edge : MCode :=
 .seq
 (.reg [
 ⟨some 4, none, .alloc [.i .i64 0, .i .i64 0]⟩] [0, 1, 4])
 (.seq
 (.seq
 (.reg [
 ⟨some 5, none, .mov (.t 0)⟩,
 ⟨some 6, none, .mov (.t 1)⟩,
 ⟨some 7, none, .bin .lss (.t 5) (.t 6)⟩] [0, 1, 4, 7])
 (.cond (.t 7)
 (.seq
 (.reg [
 ⟨some 8, none, .mov (.t 0)⟩,
 ⟨some 9, none, .mov (.t 1)⟩,
 ⟨some 10, none, .build [.i .i64 0, .i .i64 0] [(0, 1, (.t 8)), (1, 1, (.t 9))]⟩,
 ⟨none, none, .store 2 (.t 4) (.t 10)⟩] [4])
 (.ret))
 (.skip)))
 (.seq
 (.reg [
 ⟨some 11, none, .mov (.t 1)⟩,
 ⟨some 12, none, .mov (.t 0)⟩,
 ⟨some 13, none, .build [.i .i64 0, .i .i64 0] [(0, 1, (.t 11)), (1, 1, (.t 12))]⟩,
 ⟨none, none, .store 2 (.t 4) (.t 13)⟩] [4])
 (.ret)))
theorem get_spec_l1Edge : prog.funcs[fid_spec_l1Edge]? = some f73 := func73
theorem ok_spec_l1Edge : okFn prog f73 14 [] [(4, some (true, 2))] mc_spec_l1Edge = true := by kernel_rfl

end Go.Fw
