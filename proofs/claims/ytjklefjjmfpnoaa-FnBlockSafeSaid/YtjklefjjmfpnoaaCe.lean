/-
  The code of the reference's functions, as the model's own. Printed by a program.
-/
import Derived.Test.YtjklefjjmfpnoaaCd
namespace Go.Fw
open Go.Proofs.Try
set_option maxRecDepth 100000
def mc_spec_DrawIsOneBlock : MCode :=
 .seq
 (.reg [
 ⟨some 2, none, .alloc [.i .i64 0, .nl 2]⟩] [0, 2])
 (.seq
 (.reg [
 ⟨some 3, none, .mov (.t 0)⟩,
 ⟨some 4, none, .call fid_spec_DrawIsSafeGraph false [.im] [(.t 3)]⟩,
 ⟨none, none, .store 2 (.t 2) (.t 4)⟩] [2])
 (.ret))
theorem get_spec_DrawIsOneBlock : prog.funcs[fid_spec_DrawIsOneBlock]? = some f50 := func50
theorem ok_spec_DrawIsOneBlock : okFn prog f50 5 [] [(2, some (true, 2))] mc_spec_DrawIsOneBlock = true := by kernel_rfl
def mc_spec_IsOneBlock : MCode :=
 .seq
 (.reg [
 ⟨some 1, none, .box 2 (.t 0)⟩,
 ⟨some 2, none, .mov (.v (.b false))⟩] [1])
 (.seq
 (.reg [
 ⟨some 3, none, .load true 2 (.t 1)⟩,
 ⟨some 4, none, .call fid_spec_PartCount false [.im] [(.t 3)]⟩,
 ⟨some 5, none, .bin .eql (.t 4) (.v (.i .i64 1))⟩,
 ⟨some 6, none, .mov (.t 5)⟩,
 ⟨some 7, (some (6, true)), .load true 2 (.t 1)⟩,
 ⟨some 8, (some (6, true)), .call fid_spec_CutNodesOf false [.im] [(.t 7)]⟩,
 ⟨some 9, (some (6, true)), .len (.t 8)⟩,
 ⟨some 10, (some (6, true)), .bin .eql (.t 9) (.v (.i .i64 0))⟩,
 ⟨some 11, none, .pick (.t 6) (.t 10) (.v (.b false))⟩,
 ⟨some 2, none, .mov (.t 11)⟩] [2])
 (.ret))
theorem get_spec_IsOneBlock : prog.funcs[fid_spec_IsOneBlock]? = some f52 := func52
theorem ok_spec_IsOneBlock : okFn prog f52 12 [] [(2, none)] mc_spec_IsOneBlock = true := by kernel_rfl
def mc_spec_GraphValid : MCode :=
 .seq
 (.reg [
 ⟨some 1, none, .box 2 (.t 0)⟩,
 ⟨some 2, none, .mov (.v (.b false))⟩] [1])
 (.seq
 (.seq
 (.reg [
 ⟨some 5, none, .fieldAddr 0 (.t 1)⟩,
 ⟨some 6, none, .load false 1 (.t 5)⟩,
 ⟨some 7, none, .bin .lss (.t 6) (.v (.i .i64 1))⟩,
 ⟨some 8, none, .mov (.t 7)⟩,
 ⟨some 9, (some (8, false)), .fieldAddr 0 (.t 1)⟩,
 ⟨some 10, (some (8, false)), .load false 1 (.t 9)⟩,
 ⟨some 11, (some (8, false)), .bin .gtr (.t 10) (.v (.i .i64 16))⟩,
 ⟨some 12, none, .pick (.t 8) (.v (.b true)) (.t 11)⟩,
 ⟨some 13, none, .mov (.t 12)⟩,
 ⟨some 14, (some (13, false)), .fieldAddr 1 (.t 1)⟩,
 ⟨some 15, (some (13, false)), .load false 1 (.t 14)⟩,
 ⟨some 16, (some (13, false)), .len (.t 15)⟩,
 ⟨some 17, (some (13, false)), .bin .gtr (.t 16) (.v (.i .i64 40))⟩,
 ⟨some 18, none, .pick (.t 13) (.v (.b true)) (.t 17)⟩] [1, 18])
 (.cond (.t 18)
 (.seq
 (.reg [
 ⟨some 2, none, .mov (.v (.b false))⟩] [2])
 (.ret))
 (.skip)))
 (.seq
 (.seq
 (.reg [
 ⟨some 3, none, .mov (.v (.i .i64 0))⟩] [1, 3])
 (.block 0
 (.loop [1, 3]
 (.seq
 (.seq
 (.reg [
 ⟨some 19, none, .mov (.t 3)⟩,
 ⟨some 20, none, .fieldAddr 1 (.t 1)⟩,
 ⟨some 21, none, .load false 1 (.t 20)⟩,
 ⟨some 22, none, .len (.t 21)⟩,
 ⟨some 23, none, .bin .lss (.t 19) (.t 22)⟩] [1, 3, 23])
 (.cond (.t 23)
 (.skip)
 (.exit 0)))
 (.seq
 (.block 1
 (.seq
 (.reg [
 ⟨some 26, none, .fieldAddr 1 (.t 1)⟩,
 ⟨some 27, none, .load false 1 (.t 26)⟩,
 ⟨some 28, none, .mov (.t 3)⟩,
 ⟨some 29, none, .indexAddr 2 (.t 27) (.t 28)⟩,
 ⟨some 30, none, .load true 2 (.t 29)⟩,
 ⟨some 4, none, .alloc [.i .i64 0, .i .i64 0]⟩,
 ⟨none, none, .store 2 (.t 4) (.t 30)⟩] [1, 3, 4])
 (.seq
 (.draw [0, 1, 3, 7, 15, 31, 15, 79, 255, 511, 1023, 2047, 4095, 2047, 10239, 32767, 65535, 131071, 262143, 524287, 1048575, 2097151, 4194303, 2097151, 10485759, 33554431, 67108863, 2097151, 268435455, 536870911, 1073741823, 2147483647] [
 ⟨some 31, none, .fieldAddr 0 (.t 4)⟩,
 ⟨some 32, none, .load false 1 (.t 31)⟩,
 ⟨some 33, none, .bin .lss (.t 32) (.v (.i .i64 0))⟩,
 ⟨some 34, none, .mov (.t 33)⟩,
 ⟨some 35, (some (34, false)), .fieldAddr 0 (.t 4)⟩,
 ⟨some 36, (some (34, false)), .load false 1 (.t 35)⟩,
 ⟨some 37, (some (34, false)), .fieldAddr 1 (.t 4)⟩,
 ⟨some 38, (some (34, false)), .load false 1 (.t 37)⟩,
 ⟨some 39, (some (34, false)), .bin .geq (.t 36) (.t 38)⟩,
 ⟨some 40, none, .pick (.t 34) (.v (.b true)) (.t 39)⟩,
 ⟨some 41, none, .mov (.t 40)⟩,
 ⟨some 42, (some (41, false)), .fieldAddr 1 (.t 4)⟩,
 ⟨some 43, (some (41, false)), .load false 1 (.t 42)⟩,
 ⟨some 44, (some (41, false)), .fieldAddr 0 (.t 1)⟩,
 ⟨some 45, (some (41, false)), .load false 1 (.t 44)⟩,
 ⟨some 46, (some (41, false)), .bin .geq (.t 43) (.t 45)⟩,
 ⟨some 47, none, .pick (.t 41) (.v (.b true)) (.t 46)⟩,
 ⟨some 48, none, .mov (.t 47)⟩,
 ⟨some 49, (some (48, false)), .mov (.t 3)⟩,
 ⟨some 50, (some (48, false)), .bin .gtr (.t 49) (.v (.i .i64 0))⟩,
 ⟨some 51, (some (48, false)), .mov (.t 50)⟩,
 ⟨some 52, (some (51, true)), .fieldAddr 1 (.t 1)⟩,
 ⟨some 53, (some (51, true)), .load false 1 (.t 52)⟩,
 ⟨some 54, (some (51, true)), .mov (.t 3)⟩,
 ⟨some 55, (some (51, true)), .bin .sub (.t 54) (.v (.i .i64 1))⟩,
 ⟨some 56, (some (51, true)), .indexAddr 2 (.t 53) (.t 55)⟩,
 ⟨some 57, (some (51, true)), .load true 2 (.t 56)⟩,
 ⟨some 58, (some (51, true)), .load true 2 (.t 4)⟩,
 ⟨some 59, (some (51, true)), .call fid_spec_l1Less false [.im, .im] [(.t 57), (.t 58)]⟩,
 ⟨some 60, (some (51, true)), .un .not (.t 59)⟩,
 ⟨some 61, (some (48, false)), .pick (.t 51) (.t 60) (.v (.b false))⟩,
 ⟨some 62, none, .pick (.t 48) (.v (.b true)) (.t 61)⟩] [1, 3, 62])
 (.cond (.t 62)
 (.seq
 (.reg [
 ⟨some 2, none, .mov (.v (.b false))⟩] [2])
 (.ret))
 (.skip)))))
 (.reg [
 ⟨some 24, none, .mov (.t 3)⟩,
 ⟨some 25, none, .bin .add (.t 24) (.v (.i .i64 1))⟩,
 ⟨some 3, none, .mov (.t 25)⟩] [1, 3]))))))
 (.seq
 (.reg [
 ⟨some 2, none, .mov (.v (.b true))⟩] [2])
 (.ret))))
theorem get_spec_GraphValid : prog.funcs[fid_spec_GraphValid]? = some f60 := func60
theorem ok_spec_GraphValid : okFn prog f60 63 [] [(2, none)] mc_spec_GraphValid = true := by kernel_rfl
def mc_spec_l2Forest : MCode :=
 .seq
 (.reg [
 ⟨some 4, none, .mov (.v (.nl 2))⟩] [0, 1])
 (.seq
 (.reg [
 ⟨some 7, none, .buildSlice 2 []⟩,
 ⟨some 5, none, .mov (.t 7)⟩] [0, 1, 5])
 (.seq
 (.seq
 (.reg [
 ⟨some 6, none, .mov (.v (.i .i64 0))⟩] [0, 1, 5, 6])
 (.block 0
 (.loop [0, 1, 5, 6]
 (.seq
 (.seq
 (.reg [
 ⟨some 8, none, .mov (.t 6)⟩,
 ⟨some 9, none, .mov (.t 1)⟩,
 ⟨some 10, none, .len (.t 9)⟩,
 ⟨some 11, none, .bin .lss (.t 8) (.t 10)⟩] [0, 1, 5, 6, 11])
 (.cond (.t 11)
 (.skip)
 (.exit 0)))
 (.seq
 (.block 1
 (.seq
 (.draw [0, 0, 3, 0, 0, 24, 56, 120, 0, 0, 768, 1792, 3840, 8191, 16383] [
 ⟨some 14, none, .mov (.t 0)⟩,
 ⟨some 15, none, .mov (.t 5)⟩,
 ⟨some 16, none, .build [.i .i64 0, .nl 2] [(0, 1, (.t 14)), (1, 1, (.t 15))]⟩,
 ⟨some 17, none, .mov (.t 1)⟩,
 ⟨some 18, none, .mov (.t 6)⟩,
 ⟨some 19, none, .indexAddr 2 (.t 17) (.t 18)⟩,
 ⟨some 20, none, .fieldAddr 0 (.t 19)⟩,
 ⟨some 21, none, .load false 1 (.t 20)⟩,
 ⟨some 22, none, .mov (.t 1)⟩,
 ⟨some 23, none, .mov (.t 6)⟩,
 ⟨some 24, none, .indexAddr 2 (.t 22) (.t 23)⟩,
 ⟨some 25, none, .fieldAddr 1 (.t 24)⟩,
 ⟨some 26, none, .load false 1 (.t 25)⟩,
 ⟨some 27, none, .call fid_spec_l2Joined false [.im, .im, .im] [(.t 16), (.t 21), (.t 26)]⟩,
 ⟨some 28, none, .un .not (.t 27)⟩] [0, 1, 5, 6, 28])
 (.cond (.t 28)
 (.reg [
 ⟨some 29, none, .mov (.t 5)⟩,
 ⟨some 30, none, .mov (.t 1)⟩,
 ⟨some 31, none, .mov (.t 6)⟩,
 ⟨some 32, none, .indexAddr 2 (.t 30) (.t 31)⟩,
 ⟨some 33, none, .load true 2 (.t 32)⟩,
 ⟨some 34, none, .buildSlice 2 [(.t 33)]⟩,
 ⟨some 35, none, .append 2 16 true (.t 29) (.t 34)⟩,
 ⟨some 5, none, .mov (.t 35)⟩] [0, 1, 5, 6])
 (.skip))))
 (.reg [
 ⟨some 12, none, .mov (.t 6)⟩,
 ⟨some 13, none, .bin .add (.t 12) (.v (.i .i64 1))⟩,
 ⟨some 6, none, .mov (.t 13)⟩] [0, 1, 5, 6]))))))
 (.seq
 (.reg [
 ⟨some 36, none, .mov (.t 5)⟩,
 ⟨some 4, none, .mov (.t 36)⟩] [4])
 (.ret))))
theorem get_spec_l2Forest : prog.funcs[fid_spec_l2Forest]? = some f79 := func79
theorem ok_spec_l2Forest : okFn prog f79 37 [] [(4, none)] mc_spec_l2Forest = true := by kernel_rfl
def mc_spec_l1Without : MCode :=
 .seq
 (.reg [
 ⟨some 3, none, .box 2 (.t 1)⟩,
 ⟨some 4, none, .mov (.v (.nl 2))⟩] [0, 3])
 (.seq
 (.reg [
 ⟨some 7, none, .buildSlice 2 []⟩,
 ⟨some 5, none, .mov (.t 7)⟩] [0, 3, 5])
 (.seq
 (.seq
 (.reg [
 ⟨some 6, none, .mov (.v (.i .i64 0))⟩] [0, 3, 5, 6])
 (.block 0
 (.loop [0, 3, 5, 6]
 (.seq
 (.seq
 (.reg [
 ⟨some 8, none, .mov (.t 6)⟩,
 ⟨some 9, none, .mov (.t 0)⟩,
 ⟨some 10, none, .len (.t 9)⟩,
 ⟨some 11, none, .bin .lss (.t 8) (.t 10)⟩] [0, 3, 5, 6, 11])
 (.cond (.t 11)
 (.skip)
 (.exit 0)))
 (.seq
 (.block 1
 (.seq
 (.draw [0, 0, 3, 7, 0, 31] [
 ⟨some 14, none, .mov (.t 0)⟩,
 ⟨some 15, none, .mov (.t 6)⟩,
 ⟨some 16, none, .indexAddr 2 (.t 14) (.t 15)⟩,
 ⟨some 17, none, .load true 2 (.t 16)⟩,
 ⟨some 18, none, .load true 2 (.t 3)⟩,
 ⟨some 19, none, .eqAgg true [true, true] (.t 17) (.t 18)⟩] [0, 3, 5, 6, 19])
 (.cond (.t 19)
 (.reg [
 ⟨some 20, none, .mov (.t 5)⟩,
 ⟨some 21, none, .mov (.t 0)⟩,
 ⟨some 22, none, .mov (.t 6)⟩,
 ⟨some 23, none, .indexAddr 2 (.t 21) (.t 22)⟩,
 ⟨some 24, none, .load true 2 (.t 23)⟩,
 ⟨some 25, none, .buildSlice 2 [(.t 24)]⟩,
 ⟨some 26, none, .append 2 16 true (.t 20) (.t 25)⟩,
 ⟨some 5, none, .mov (.t 26)⟩] [0, 3, 5, 6])
 (.skip))))
 (.reg [
 ⟨some 12, none, .mov (.t 6)⟩,
 ⟨some 13, none, .bin .add (.t 12) (.v (.i .i64 1))⟩,
 ⟨some 6, none, .mov (.t 13)⟩] [0, 3, 5, 6]))))))
 (.seq
 (.reg [
 ⟨some 27, none, .mov (.t 5)⟩,
 ⟨some 4, none, .mov (.t 27)⟩] [4])
 (.ret))))
theorem get_spec_l1Without : prog.funcs[fid_spec_l1Without]? = some f80 := func80
theorem ok_spec_l1Without : okFn prog f80 28 [] [(4, none)] mc_spec_l1Without = true := by kernel_rfl
def mc_spec_l14Open : MCode :=
 .seq
 (.reg [
 ⟨some 2, none, .mov (.v (.u))⟩] [0])
 (.seq
 (.seq
 (.reg [
 ⟨some 3, none, .mov (.t 0)⟩,
 ⟨some 4, none, .len (.t 3)⟩,
 ⟨some 5, none, .bin .gtr (.t 4) (.v (.i .i64 2000))⟩] [0, 5])
 (.cond (.t 5)
 (.reg [
 ⟨some 6, none, .mov (.t 0)⟩,
 ⟨some 7, none, .slice 1 (.t 6) none (some (.v (.i .i64 2000)))⟩,
 ⟨some 0, none, .mov (.t 7)⟩] [0])
 (.skip)))
 (.seq
 (.reg [
 ⟨some 8, none, .mov (.t 0)⟩,
 ⟨some 9, none, .build [.nl 1, .i .i64 0] [(0, 1, (.t 8))]⟩,
 ⟨some 10, none, .box 2 (.t 9)⟩,
 ⟨some 2, none, .mov (.t 10)⟩] [2])
 (.ret)))
theorem get_spec_l14Open : prog.funcs[fid_spec_l14Open]? = some f86 := func86
theorem ok_spec_l14Open : okFn prog f86 11 [] [(2, none)] mc_spec_l14Open = true := by kernel_rfl
def mc_spec_l1Wrong : MCode :=
 .seq
 (.reg [
 ⟨some 3, none, .box 2 (.t 1)⟩,
 ⟨some 4, none, .alloc [.i .i64 0, .nl 2]⟩] [0, 3, 4])
 (.seq
 (.reg [
 ⟨some 7, none, .load true 2 (.t 3)⟩,
 ⟨some 8, none, .call fid_spec_l1Copy false [.im] [(.t 7)]⟩,
 ⟨some 5, none, .alloc [.i .i64 0, .nl 2]⟩,
 ⟨none, none, .store 2 (.t 5) (.t 8)⟩] [0, 4, 5])
 (.seq
 (.seq
 (.reg [
 ⟨some 9, none, .mov (.t 0)⟩,
 ⟨some 10, none, .call fid_p_spec_l14Rd_pick false [.io, .im] [(.t 9), (.v (.i .i64 16))]⟩,
 ⟨some 11, none, .bin .gtr (.t 10) (.v (.i .i64 0))⟩,
 ⟨some 12, none, .mov (.t 11)⟩,
 ⟨some 13, (some (12, false)), .fieldAddr 1 (.t 5)⟩,
 ⟨some 14, (some (12, false)), .load false 1 (.t 13)⟩,
 ⟨some 15, (some (12, false)), .len (.t 14)⟩,
 ⟨some 16, (some (12, false)), .bin .eql (.t 15) (.v (.i .i64 0))⟩,
 ⟨some 17, none, .pick (.t 12) (.v (.b true)) (.t 16)⟩] [0, 4, 5, 17])
 (.cond (.t 17)
 (.seq
 (.reg [
 ⟨some 18, none, .load true 2 (.t 5)⟩,
 ⟨none, none, .store 2 (.t 4) (.t 18)⟩] [0, 4])
 (.ret))
 (.skip)))
 (.seq
 (.reg [
 ⟨some 19, none, .mov (.t 0)⟩,
 ⟨some 20, none, .fieldAddr 1 (.t 5)⟩,
 ⟨some 21, none, .load false 1 (.t 20)⟩,
 ⟨some 22, none, .len (.t 21)⟩,
 ⟨some 23, none, .call fid_p_spec_l14Rd_pick false [.io, .im] [(.t 19), (.t 22)]⟩,
 ⟨some 6, none, .mov (.t 23)⟩] [0, 4, 5, 6])
 (.seq
 (.seq
 (.reg [
 ⟨some 24, none, .mov (.t 0)⟩,
 ⟨some 25, none, .call fid_p_spec_l14Rd_pick false [.io, .im] [(.t 24), (.v (.i .i64 5))]⟩] [0, 4, 5, 6, 25])
 (.block 0
 (.seq
 (.reg [
 ⟨some 27, none, .bin .eql (.t 25) (.v (.i .i64 0))⟩,
 ⟨some 26, none, .mov (.t 27)⟩] [0, 4, 5, 6, 25, 26])
 (.cond (.t 26)
 (.draw [0, 1, 0, 0, 0, 24, 63, 127, 255] [
 ⟨some 28, none, .fieldAddr 1 (.t 5)⟩,
 ⟨some 29, none, .load false 1 (.t 28)⟩,
 ⟨some 30, none, .mov (.t 6)⟩,
 ⟨some 31, none, .mov (.t 0)⟩,
 ⟨some 32, none, .buildSlice 1 [(.v (.i .i64 16)), (.v (.i .i64 (-1))), (.v (.i .i64 0))]⟩,
 ⟨some 33, none, .call fid_p_spec_l14Rd_num false [.io, .im] [(.t 31), (.t 32)]⟩,
 ⟨some 34, none, .indexAddr 2 (.t 29) (.t 30)⟩,
 ⟨some 35, none, .fieldAddr 1 (.t 34)⟩,
 ⟨none, none, .store 1 (.t 35) (.t 33)⟩] [0, 4, 5])
 (.seq
 (.reg [
 ⟨some 37, none, .bin .eql (.t 25) (.v (.i .i64 1))⟩,
 ⟨some 36, none, .mov (.t 37)⟩] [0, 4, 5, 6, 25, 36])
 (.cond (.t 36)
 (.reg [
 ⟨some 38, none, .mov (.t 0)⟩,
 ⟨some 39, none, .buildSlice 1 [(.v (.i .i64 0)), (.v (.i .i64 17)), (.v (.i .i64 1))]⟩,
 ⟨some 40, none, .call fid_p_spec_l14Rd_num false [.io, .im] [(.t 38), (.t 39)]⟩,
 ⟨some 41, none, .fieldAddr 0 (.t 5)⟩,
 ⟨none, none, .store 1 (.t 41) (.t 40)⟩] [0, 4, 5])
 (.seq
 (.reg [
 ⟨some 43, none, .bin .eql (.t 25) (.v (.i .i64 2))⟩,
 ⟨some 42, none, .mov (.t 43)⟩] [0, 4, 5, 6, 42])
 (.cond (.t 42)
 (.draw [0, 1, 0, 4, 0, 28, 60, 124, 255, 511, 1023] [
 ⟨some 44, none, .fieldAddr 1 (.t 5)⟩,
 ⟨some 45, none, .load false 1 (.t 44)⟩,
 ⟨some 46, none, .fieldAddr 1 (.t 5)⟩,
 ⟨some 47, none, .load false 1 (.t 46)⟩,
 ⟨some 48, none, .mov (.t 6)⟩,
 ⟨some 49, none, .indexAddr 2 (.t 47) (.t 48)⟩,
 ⟨some 50, none, .load true 2 (.t 49)⟩,
 ⟨some 51, none, .buildSlice 2 [(.t 50)]⟩,
 ⟨some 52, none, .append 2 16 true (.t 45) (.t 51)⟩,
 ⟨some 53, none, .fieldAddr 1 (.t 5)⟩,
 ⟨none, none, .store 1 (.t 53) (.t 52)⟩] [0, 4, 5])
 (.skip)))))))))
 (.seq
 (.reg [
 ⟨some 54, none, .load true 2 (.t 5)⟩,
 ⟨none, none, .store 2 (.t 4) (.t 54)⟩] [0, 4])
 (.ret))))))
theorem get_spec_l1Wrong : prog.funcs[fid_spec_l1Wrong]? = some f87 := func87
theorem ok_spec_l1Wrong : okFn prog f87 55 [0] [(4, some (true, 2))] mc_spec_l1Wrong = true := by kernel_rfl
def mc_p_spec_l14Rd_num : MCode :=
 .seq
 (.reg [
 ⟨some 4, none, .mov (.v (.i .i64 0))⟩] [0, 1])
 (.seq
 (.reg [
 ⟨some 5, none, .mov (.t 1)⟩,
 ⟨some 6, none, .mov (.t 0)⟩,
 ⟨some 7, none, .mov (.t 1)⟩,
 ⟨some 8, none, .len (.t 7)⟩,
 ⟨some 9, none, .call fid_p_spec_l14Rd_pick false [.io, .im] [(.t 6), (.t 8)]⟩,
 ⟨some 10, none, .indexAddr 1 (.t 5) (.t 9)⟩,
 ⟨some 11, none, .load false 1 (.t 10)⟩,
 ⟨some 4, none, .mov (.t 11)⟩] [0, 4])
 (.ret))
theorem get_p_spec_l14Rd_num : prog.funcs[fid_p_spec_l14Rd_num]? = some f89 := func89
theorem ok_p_spec_l14Rd_num : okFn prog f89 12 [0] [(4, none)] mc_p_spec_l14Rd_num = true := by kernel_rfl
def mc_spec_l1Put : MCode :=
 .seq
 (.reg [
 ⟨some 3, none, .box 2 (.t 1)⟩,
 ⟨some 4, none, .mov (.v (.nl 2))⟩] [0, 3])
 (.seq
 (.reg [
 ⟨some 8, none, .buildSlice 2 []⟩,
 ⟨some 5, none, .mov (.t 8)⟩] [0, 3, 5])
 (.seq
 (.reg [
 ⟨some 6, none, .mov (.v (.b false))⟩] [0, 3, 5, 6])
 (.seq
 (.seq
 (.reg [
 ⟨some 7, none, .mov (.v (.i .i64 0))⟩] [0, 3, 5, 6, 7])
 (.block 0
 (.loop [0, 3, 5, 6, 7]
 (.seq
 (.seq
 (.reg [
 ⟨some 9, none, .mov (.t 7)⟩,
 ⟨some 10, none, .mov (.t 0)⟩,
 ⟨some 11, none, .len (.t 10)⟩,
 ⟨some 12, none, .bin .lss (.t 9) (.t 11)⟩] [0, 3, 5, 6, 7, 12])
 (.cond (.t 12)
 (.skip)
 (.exit 0)))
 (.seq
 (.block 1
 (.seq
 (.seq
 (.draw [0, 1, 3, 7, 7, 7, 55, 119, 255, 511] [
 ⟨some 15, none, .mov (.t 6)⟩,
 ⟨some 16, none, .un .not (.t 15)⟩,
 ⟨some 17, none, .mov (.t 16)⟩,
 ⟨some 18, (some (17, true)), .load true 2 (.t 3)⟩,
 ⟨some 19, (some (17, true)), .mov (.t 0)⟩,
 ⟨some 20, (some (17, true)), .mov (.t 7)⟩,
 ⟨some 21, (some (17, true)), .indexAddr 2 (.t 19) (.t 20)⟩,
 ⟨some 22, (some (17, true)), .load true 2 (.t 21)⟩,
 ⟨some 23, (some (17, true)), .call fid_spec_l1Less false [.im, .im] [(.t 18), (.t 22)]⟩,
 ⟨some 24, none, .pick (.t 17) (.t 23) (.v (.b false))⟩] [0, 3, 5, 6, 7, 24])
 (.cond (.t 24)
 (.seq
 (.reg [
 ⟨some 25, none, .mov (.t 5)⟩,
 ⟨some 26, none, .load true 2 (.t 3)⟩,
 ⟨some 27, none, .buildSlice 2 [(.t 26)]⟩,
 ⟨some 28, none, .append 2 16 true (.t 25) (.t 27)⟩,
 ⟨some 5, none, .mov (.t 28)⟩] [0, 3, 5, 7])
 (.reg [
 ⟨some 6, none, .mov (.v (.b true))⟩] [0, 3, 5, 6, 7]))
 (.skip)))
 (.reg [
 ⟨some 29, none, .mov (.t 5)⟩,
 ⟨some 30, none, .mov (.t 0)⟩,
 ⟨some 31, none, .mov (.t 7)⟩,
 ⟨some 32, none, .indexAddr 2 (.t 30) (.t 31)⟩,
 ⟨some 33, none, .load true 2 (.t 32)⟩,
 ⟨some 34, none, .buildSlice 2 [(.t 33)]⟩,
 ⟨some 35, none, .append 2 16 true (.t 29) (.t 34)⟩,
 ⟨some 5, none, .mov (.t 35)⟩] [0, 3, 5, 6, 7])))
 (.reg [
 ⟨some 13, none, .mov (.t 7)⟩,
 ⟨some 14, none, .bin .add (.t 13) (.v (.i .i64 1))⟩,
 ⟨some 7, none, .mov (.t 14)⟩] [0, 3, 5, 6, 7]))))))
 (.seq
 (.seq
 (.reg [
 ⟨some 36, none, .mov (.t 6)⟩,
 ⟨some 37, none, .un .not (.t 36)⟩] [3, 5, 37])
 (.cond (.t 37)
 (.reg [
 ⟨some 38, none, .mov (.t 5)⟩,
 ⟨some 39, none, .load true 2 (.t 3)⟩,
 ⟨some 40, none, .buildSlice 2 [(.t 39)]⟩,
 ⟨some 41, none, .append 2 16 true (.t 38) (.t 40)⟩,
 ⟨some 5, none, .mov (.t 41)⟩] [5])
 (.skip)))
 (.seq
 (.reg [
 ⟨some 42, none, .mov (.t 5)⟩,
 ⟨some 4, none, .mov (.t 42)⟩] [4])
 (.ret))))))
theorem get_spec_l1Put : prog.funcs[fid_spec_l1Put]? = some f93 := func93
theorem ok_spec_l1Put : okFn prog f93 43 [] [(4, none)] mc_spec_l1Put = true := by kernel_rfl
def mc_spec_DrawIsSafeGraph : MCode :=
 .seq
 (.reg [
 ⟨some 2, none, .alloc [.i .i64 0, .nl 2]⟩] [0, 2])
 (.seq
 (.reg [
 ⟨some 6, none, .mov (.t 0)⟩,
 ⟨some 7, none, .call fid_spec_l14Open true [.im] [(.t 6)]⟩,
 ⟨some 3, none, .mov (.t 7)⟩] [2, 3])
 (.seq
 (.reg [
 ⟨some 8, none, .mov (.t 3)⟩,
 ⟨some 9, none, .call fid_spec_l5Small true [.io] [(.t 8)]⟩,
 ⟨some 4, none, .alloc [.i .i64 0, .nl 2]⟩,
 ⟨none, none, .store 2 (.t 4) (.t 9)⟩] [2, 3, 4])
 (.seq
 (.seq
 (.reg [
 ⟨some 10, none, .mov (.t 3)⟩,
 ⟨some 11, none, .call fid_p_spec_l14Rd_pick true [.io, .im] [(.t 10), (.v (.i .i64 2))]⟩,
 ⟨some 12, none, .bin .eql (.t 11) (.v (.i .i64 0))⟩,
 ⟨some 13, none, .mov (.t 12)⟩,
 ⟨some 14, (some (13, true)), .load true 2 (.t 4)⟩,
 ⟨some 15, (some (13, true)), .call fid_spec_GraphValid false [.im] [(.t 14)]⟩,
 ⟨some 16, none, .pick (.t 13) (.t 15) (.v (.b false))⟩] [2, 3, 4, 16])
 (.cond (.t 16)
 (.seq
 (.seq
 (.reg [
 ⟨some 5, none, .mov (.v (.i .i64 1))⟩] [2, 3, 4, 5])
 (.block 0
 (.loop [2, 3, 4, 5]
 (.seq
 (.seq
 (.reg [
 ⟨some 17, none, .mov (.t 5)⟩,
 ⟨some 18, none, .fieldAddr 0 (.t 4)⟩,
 ⟨some 19, none, .load false 1 (.t 18)⟩,
 ⟨some 20, none, .bin .lss (.t 17) (.t 19)⟩] [2, 3, 4, 5, 20])
 (.cond (.t 20)
 (.skip)
 (.exit 0)))
 (.seq
 (.block 1
 (.seq
 (.draw [0, 1, 0, 4, 0, 28, 63, 127] [
 ⟨some 23, none, .fieldAddr 1 (.t 4)⟩,
 ⟨some 24, none, .load false 1 (.t 23)⟩,
 ⟨some 25, none, .mov (.t 5)⟩,
 ⟨some 26, none, .bin .sub (.t 25) (.v (.i .i64 1))⟩,
 ⟨some 27, none, .mov (.t 5)⟩,
 ⟨some 28, none, .call fid_spec_l1Edge false [.im, .im] [(.t 26), (.t 27)]⟩,
 ⟨some 29, none, .call fid_spec_l1Find false [.im, .im] [(.t 24), (.t 28)]⟩,
 ⟨some 30, none, .bin .lss (.t 29) (.v (.i .i64 0))⟩] [2, 3, 4, 5, 30])
 (.cond (.t 30)
 (.draw [0, 1, 0, 4, 0, 28, 63, 127, 255] [
 ⟨some 31, none, .fieldAddr 1 (.t 4)⟩,
 ⟨some 32, none, .load false 1 (.t 31)⟩,
 ⟨some 33, none, .mov (.t 5)⟩,
 ⟨some 34, none, .bin .sub (.t 33) (.v (.i .i64 1))⟩,
 ⟨some 35, none, .mov (.t 5)⟩,
 ⟨some 36, none, .call fid_spec_l1Edge false [.im, .im] [(.t 34), (.t 35)]⟩,
 ⟨some 37, none, .call fid_spec_l1Put false [.im, .im] [(.t 32), (.t 36)]⟩,
 ⟨some 38, none, .fieldAddr 1 (.t 4)⟩,
 ⟨none, none, .store 1 (.t 38) (.t 37)⟩] [2, 3, 4, 5])
 (.skip))))
 (.reg [
 ⟨some 21, none, .mov (.t 5)⟩,
 ⟨some 22, none, .bin .add (.t 21) (.v (.i .i64 1))⟩,
 ⟨some 5, none, .mov (.t 22)⟩] [2, 3, 4, 5]))))))
 (.seq
 (.draw [0, 1, 3, 7, 15, 31, 15, 79, 207, 463, 1023, 2047, 4095, 8191, 16383, 32767, 65535, 131071] [
 ⟨some 39, none, .fieldAddr 0 (.t 4)⟩,
 ⟨some 40, none, .load false 1 (.t 39)⟩,
 ⟨some 41, none, .bin .gtr (.t 40) (.v (.i .i64 2))⟩,
 ⟨some 42, none, .mov (.t 41)⟩,
 ⟨some 43, (some (42, true)), .fieldAddr 1 (.t 4)⟩,
 ⟨some 44, (some (42, true)), .load false 1 (.t 43)⟩,
 ⟨some 45, (some (42, true)), .fieldAddr 0 (.t 4)⟩,
 ⟨some 46, (some (42, true)), .load false 1 (.t 45)⟩,
 ⟨some 47, (some (42, true)), .bin .sub (.t 46) (.v (.i .i64 1))⟩,
 ⟨some 48, (some (42, true)), .call fid_spec_l1Edge false [.im, .im] [(.v (.i .i64 0)), (.t 47)]⟩,
 ⟨some 49, (some (42, true)), .call fid_spec_l1Find false [.im, .im] [(.t 44), (.t 48)]⟩,
 ⟨some 50, (some (42, true)), .bin .lss (.t 49) (.v (.i .i64 0))⟩,
 ⟨some 51, none, .pick (.t 42) (.t 50) (.v (.b false))⟩,
 ⟨some 52, none, .mov (.t 51)⟩,
 ⟨some 53, (some (52, true)), .mov (.t 3)⟩,
 ⟨some 54, (some (52, true)), .call fid_p_spec_l14Rd_pick true [.io, .im] [(.t 53), (.v (.i .i64 3))]⟩,
 ⟨some 55, (some (52, true)), .bin .gtr (.t 54) (.v (.i .i64 0))⟩,
 ⟨some 56, none, .pick (.t 52) (.t 55) (.v (.b false))⟩] [2, 4, 56])
 (.cond (.t 56)
 (.draw [0, 1, 0, 4, 12, 28, 63, 127, 255] [
 ⟨some 57, none, .fieldAddr 1 (.t 4)⟩,
 ⟨some 58, none, .load false 1 (.t 57)⟩,
 ⟨some 59, none, .fieldAddr 0 (.t 4)⟩,
 ⟨some 60, none, .load false 1 (.t 59)⟩,
 ⟨some 61, none, .bin .sub (.t 60) (.v (.i .i64 1))⟩,
 ⟨some 62, none, .call fid_spec_l1Edge false [.im, .im] [(.v (.i .i64 0)), (.t 61)]⟩,
 ⟨some 63, none, .call fid_spec_l1Put false [.im, .im] [(.t 58), (.t 62)]⟩,
 ⟨some 64, none, .fieldAddr 1 (.t 4)⟩,
 ⟨none, none, .store 1 (.t 64) (.t 63)⟩] [2, 4])
 (.skip))))
 (.skip)))
 (.seq
 (.reg [
 ⟨some 65, none, .load true 2 (.t 4)⟩,
 ⟨none, none, .store 2 (.t 2) (.t 65)⟩] [2])
 (.ret)))))
theorem get_spec_DrawIsSafeGraph : prog.funcs[fid_spec_DrawIsSafeGraph]? = some f97 := func97
theorem ok_spec_DrawIsSafeGraph : okFn prog f97 66 [] [(2, some (true, 2))] mc_spec_DrawIsSafeGraph = true := by kernel_rfl
def mc_spec_PartCount : MCode :=
 .seq
 (.reg [
 ⟨some 1, none, .box 2 (.t 0)⟩,
 ⟨some 2, none, .mov (.v (.i .i64 0))⟩] [1])
 (.seq
 (.reg [
 ⟨some 3, none, .mov (.v (.i .i64 0))⟩] [1, 3])
 (.seq
 (.reg [
 ⟨some 6, none, .load true 2 (.t 1)⟩,
 ⟨some 7, none, .call fid_spec_PartsOf false [.im] [(.t 6)]⟩,
 ⟨some 4, none, .mov (.t 7)⟩] [3, 4])
 (.seq
 (.seq
 (.reg [
 ⟨some 5, none, .mov (.v (.i .i64 0))⟩] [3, 4, 5])
 (.block 0
 (.loop [3, 4, 5]
 (.seq
 (.seq
 (.reg [
 ⟨some 8, none, .mov (.t 5)⟩,
 ⟨some 9, none, .mov (.t 4)⟩,
 ⟨some 10, none, .len (.t 9)⟩,
 ⟨some 11, none, .bin .lss (.t 8) (.t 10)⟩] [3, 4, 5, 11])
 (.cond (.t 11)
 (.skip)
 (.exit 0)))
 (.seq
 (.block 1
 (.seq
 (.reg [
 ⟨some 14, none, .mov (.t 4)⟩,
 ⟨some 15, none, .mov (.t 5)⟩,
 ⟨some 16, none, .indexAddr 1 (.t 14) (.t 15)⟩,
 ⟨some 17, none, .load false 1 (.t 16)⟩,
 ⟨some 18, none, .mov (.t 5)⟩,
 ⟨some 19, none, .bin .eql (.t 17) (.t 18)⟩] [3, 4, 5, 19])
 (.cond (.t 19)
 (.reg [
 ⟨some 20, none, .mov (.t 3)⟩,
 ⟨some 21, none, .bin .add (.t 20) (.v (.i .i64 1))⟩,
 ⟨some 3, none, .mov (.t 21)⟩] [3, 4, 5])
 (.skip))))
 (.reg [
 ⟨some 12, none, .mov (.t 5)⟩,
 ⟨some 13, none, .bin .add (.t 12) (.v (.i .i64 1))⟩,
 ⟨some 5, none, .mov (.t 13)⟩] [3, 4, 5]))))))
 (.seq
 (.reg [
 ⟨some 22, none, .mov (.t 3)⟩,
 ⟨some 2, none, .mov (.t 22)⟩] [2])
 (.ret)))))
theorem get_spec_PartCount : prog.funcs[fid_spec_PartCount]? = some f100 := func100
theorem ok_spec_PartCount : okFn prog f100 23 [] [(2, none)] mc_spec_PartCount = true := by kernel_rfl
def mc_spec_CutNodesOf : MCode :=
 .seq
 (.reg [
 ⟨some 1, none, .box 2 (.t 0)⟩,
 ⟨some 2, none, .mov (.v (.nl 1))⟩] [1])
 (.seq
 (.reg [
 ⟨some 5, none, .buildSlice 1 []⟩,
 ⟨some 3, none, .mov (.t 5)⟩] [1, 3])
 (.seq
 (.seq
 (.reg [
 ⟨some 4, none, .mov (.v (.i .i64 0))⟩] [1, 3, 4])
 (.block 0
 (.loop [1, 3, 4]
 (.seq
 (.seq
 (.reg [
 ⟨some 6, none, .mov (.t 4)⟩,
 ⟨some 7, none, .fieldAddr 0 (.t 1)⟩,
 ⟨some 8, none, .load false 1 (.t 7)⟩,
 ⟨some 9, none, .bin .lss (.t 6) (.t 8)⟩,
 ⟨some 10, none, .mov (.t 9)⟩,
 ⟨some 11, (some (10, true)), .load true 2 (.t 1)⟩,
 ⟨some 12, (some (10, true)), .call fid_spec_GraphValid false [.im] [(.t 11)]⟩,
 ⟨some 13, none, .pick (.t 10) (.t 12) (.v (.b false))⟩] [1, 3, 4, 13])
 (.cond (.t 13)
 (.skip)
 (.exit 0)))
 (.seq
 (.block 1
 (.seq
 (.reg [
 ⟨some 16, none, .load true 2 (.t 1)⟩,
 ⟨some 17, none, .mov (.t 4)⟩,
 ⟨some 18, none, .call fid_spec_l4Cut false [.im, .im] [(.t 16), (.t 17)]⟩] [1, 3, 4, 18])
 (.cond (.t 18)
 (.reg [
 ⟨some 19, none, .mov (.t 3)⟩,
 ⟨some 20, none, .mov (.t 4)⟩,
 ⟨some 21, none, .buildSlice 1 [(.t 20)]⟩,
 ⟨some 22, none, .append 1 8 true (.t 19) (.t 21)⟩,
 ⟨some 3, none, .mov (.t 22)⟩] [1, 3, 4])
 (.skip))))
 (.reg [
 ⟨some 14, none, .mov (.t 4)⟩,
 ⟨some 15, none, .bin .add (.t 14) (.v (.i .i64 1))⟩,
 ⟨some 4, none, .mov (.t 15)⟩] [1, 3, 4]))))))
 (.seq
 (.reg [
 ⟨some 23, none, .mov (.t 3)⟩,
 ⟨some 2, none, .mov (.t 23)⟩] [2])
 (.ret))))
theorem get_spec_CutNodesOf : prog.funcs[fid_spec_CutNodesOf]? = some f101 := func101
theorem ok_spec_CutNodesOf : okFn prog f101 24 [] [(2, none)] mc_spec_CutNodesOf = true := by kernel_rfl
def mc_spec_l1Draw : MCode :=
 .seq
 (.reg [
 ⟨some 2, none, .alloc [.i .i64 0, .nl 2]⟩] [0, 2])
 (.seq
 (.reg [
 ⟨some 8, none, .mov (.t 0)⟩,
 ⟨some 9, none, .buildSlice 1 [(.v (.i .i64 6)), (.v (.i .i64 5)), (.v (.i .i64 7)), (.v (.i .i64 4)), (.v (.i .i64 8)), (.v (.i .i64 10)), (.v (.i .i64 3)), (.v (.i .i64 1)), (.v (.i .i64 16))]⟩,
 ⟨some 10, none, .call fid_p_spec_l14Rd_num false [.io, .im] [(.t 8), (.t 9)]⟩,
 ⟨some 11, none, .build [.i .i64 0, .nl 2] [(0, 1, (.t 10))]⟩,
 ⟨some 3, none, .alloc [.i .i64 0, .nl 2]⟩,
 ⟨none, none, .store 2 (.t 3) (.t 11)⟩] [0, 2, 3])
 (.seq
 (.seq
 (.reg [
 ⟨some 4, none, .mov (.v (.i .i64 1))⟩] [0, 2, 3, 4])
 (.block 0
 (.loop [0, 2, 3, 4]
 (.seq
 (.seq
 (.reg [
 ⟨some 12, none, .mov (.t 4)⟩,
 ⟨some 13, none, .fieldAddr 0 (.t 3)⟩,
 ⟨some 14, none, .load false 1 (.t 13)⟩,
 ⟨some 15, none, .bin .lss (.t 12) (.t 14)⟩] [0, 2, 3, 4, 15])
 (.cond (.t 15)
 (.skip)
 (.exit 0)))
 (.seq
 (.block 1
 (.seq
 (.reg [
 ⟨some 18, none, .mov (.t 0)⟩,
 ⟨some 19, none, .call fid_p_spec_l14Rd_pick false [.io, .im] [(.t 18), (.v (.i .i64 4))]⟩,
 ⟨some 20, none, .bin .gtr (.t 19) (.v (.i .i64 0))⟩] [0, 2, 3, 4, 20])
 (.cond (.t 20)
 (.draw [0, 1, 0, 0, 12, 0, 60, 127, 255, 511] [
 ⟨some 21, none, .fieldAddr 1 (.t 3)⟩,
 ⟨some 22, none, .load false 1 (.t 21)⟩,
 ⟨some 23, none, .mov (.t 0)⟩,
 ⟨some 24, none, .mov (.t 4)⟩,
 ⟨some 25, none, .call fid_p_spec_l14Rd_pick false [.io, .im] [(.t 23), (.t 24)]⟩,
 ⟨some 26, none, .mov (.t 4)⟩,
 ⟨some 27, none, .call fid_spec_l1Edge false [.im, .im] [(.t 25), (.t 26)]⟩,
 ⟨some 28, none, .call fid_spec_l1Put false [.im, .im] [(.t 22), (.t 27)]⟩,
 ⟨some 29, none, .fieldAddr 1 (.t 3)⟩,
 ⟨none, none, .store 1 (.t 29) (.t 28)⟩] [0, 2, 3, 4])
 (.skip))))
 (.reg [
 ⟨some 16, none, .mov (.t 4)⟩,
 ⟨some 17, none, .bin .add (.t 16) (.v (.i .i64 1))⟩,
 ⟨some 4, none, .mov (.t 17)⟩] [0, 2, 3, 4]))))))
 (.seq
 (.seq
 (.reg [
 ⟨some 30, none, .mov (.t 0)⟩,
 ⟨some 31, none, .buildSlice 1 [(.v (.i .i64 2)), (.v (.i .i64 1)), (.v (.i .i64 3)), (.v (.i .i64 0)), (.v (.i .i64 5)), (.v (.i .i64 8))]⟩,
 ⟨some 32, none, .call fid_p_spec_l14Rd_num false [.io, .im] [(.t 30), (.t 31)]⟩,
 ⟨some 5, none, .mov (.t 32)⟩] [0, 2, 3, 5])
 (.block 2
 (.loop [0, 2, 3, 5]
 (.seq
 (.seq
 (.reg [
 ⟨some 33, none, .mov (.t 5)⟩,
 ⟨some 34, none, .bin .gtr (.t 33) (.v (.i .i64 0))⟩] [0, 2, 3, 5, 34])
 (.cond (.t 34)
 (.skip)
 (.exit 2)))
 (.seq
 (.block 3
 (.seq
 (.reg [
 ⟨some 37, none, .mov (.t 0)⟩,
 ⟨some 38, none, .fieldAddr 0 (.t 3)⟩,
 ⟨some 39, none, .load false 1 (.t 38)⟩,
 ⟨some 40, none, .call fid_p_spec_l14Rd_pick false [.io, .im] [(.t 37), (.t 39)]⟩,
 ⟨some 6, none, .mov (.t 40)⟩] [0, 2, 3, 5, 6])
 (.seq
 (.reg [
 ⟨some 41, none, .mov (.t 0)⟩,
 ⟨some 42, none, .fieldAddr 0 (.t 3)⟩,
 ⟨some 43, none, .load false 1 (.t 42)⟩,
 ⟨some 44, none, .call fid_p_spec_l14Rd_pick false [.io, .im] [(.t 41), (.t 43)]⟩,
 ⟨some 7, none, .mov (.t 44)⟩] [0, 2, 3, 5, 6, 7])
 (.seq
 (.draw [0, 0, 3, 7, 15, 31, 15, 15, 207, 511, 1023, 2047] [
 ⟨some 45, none, .mov (.t 6)⟩,
 ⟨some 46, none, .mov (.t 7)⟩,
 ⟨some 47, none, .bin .neq (.t 45) (.t 46)⟩,
 ⟨some 48, none, .mov (.t 47)⟩,
 ⟨some 49, (some (48, true)), .fieldAddr 1 (.t 3)⟩,
 ⟨some 50, (some (48, true)), .load false 1 (.t 49)⟩,
 ⟨some 51, (some (48, true)), .mov (.t 6)⟩,
 ⟨some 52, (some (48, true)), .mov (.t 7)⟩,
 ⟨some 53, (some (48, true)), .call fid_spec_l1Edge false [.im, .im] [(.t 51), (.t 52)]⟩,
 ⟨some 54, (some (48, true)), .call fid_spec_l1Find false [.im, .im] [(.t 50), (.t 53)]⟩,
 ⟨some 55, (some (48, true)), .bin .lss (.t 54) (.v (.i .i64 0))⟩,
 ⟨some 56, none, .pick (.t 48) (.t 55) (.v (.b false))⟩] [0, 2, 3, 5, 6, 7, 56])
 (.cond (.t 56)
 (.draw [0, 1, 0, 0, 12, 31, 63, 127] [
 ⟨some 57, none, .fieldAddr 1 (.t 3)⟩,
 ⟨some 58, none, .load false 1 (.t 57)⟩,
 ⟨some 59, none, .mov (.t 6)⟩,
 ⟨some 60, none, .mov (.t 7)⟩,
 ⟨some 61, none, .call fid_spec_l1Edge false [.im, .im] [(.t 59), (.t 60)]⟩,
 ⟨some 62, none, .call fid_spec_l1Put false [.im, .im] [(.t 58), (.t 61)]⟩,
 ⟨some 63, none, .fieldAddr 1 (.t 3)⟩,
 ⟨none, none, .store 1 (.t 63) (.t 62)⟩] [0, 2, 3, 5])
 (.skip))))))
 (.reg [
 ⟨some 35, none, .mov (.t 5)⟩,
 ⟨some 36, none, .bin .sub (.t 35) (.v (.i .i64 1))⟩,
 ⟨some 5, none, .mov (.t 36)⟩] [0, 2, 3, 5]))))))
 (.seq
 (.reg [
 ⟨some 64, none, .load true 2 (.t 3)⟩,
 ⟨none, none, .store 2 (.t 2) (.t 64)⟩] [0, 2])
 (.ret)))))
theorem get_spec_l1Draw : prog.funcs[fid_spec_l1Draw]? = some f106 := func106
theorem ok_spec_l1Draw : okFn prog f106 65 [0] [(2, some (true, 2))] mc_spec_l1Draw = true := by kernel_rfl
def mc_spec_l1Less : MCode :=
 .seq
 (.reg [
 ⟨some 2, none, .box 2 (.t 0)⟩,
 ⟨some 3, none, .box 2 (.t 1)⟩,
 ⟨some 4, none, .mov (.v (.b false))⟩] [2, 3])
 (.seq
 (.reg [
 ⟨some 5, none, .fieldAddr 0 (.t 2)⟩,
 ⟨some 6, none, .load false 1 (.t 5)⟩,
 ⟨some 7, none, .fieldAddr 0 (.t 3)⟩,
 ⟨some 8, none, .load false 1 (.t 7)⟩,
 ⟨some 9, none, .bin .lss (.t 6) (.t 8)⟩,
 ⟨some 10, none, .mov (.t 9)⟩,
 ⟨some 11, (some (10, false)), .fieldAddr 0 (.t 2)⟩,
 ⟨some 12, (some (10, false)), .load false 1 (.t 11)⟩,
 ⟨some 13, (some (10, false)), .fieldAddr 0 (.t 3)⟩,
 ⟨some 14, (some (10, false)), .load false 1 (.t 13)⟩,
 ⟨some 15, (some (10, false)), .bin .eql (.t 12) (.t 14)⟩,
 ⟨some 16, (some (10, false)), .mov (.t 15)⟩,
 ⟨some 17, (some (16, true)), .fieldAddr 1 (.t 2)⟩,
 ⟨some 18, (some (16, true)), .load false 1 (.t 17)⟩,
 ⟨some 19, (some (16, true)), .fieldAddr 1 (.t 3)⟩,
 ⟨some 20, (some (16, true)), .load false 1 (.t 19)⟩,
 ⟨some 21, (some (16, true)), .bin .lss (.t 18) (.t 20)⟩,
 ⟨some 22, (some (10, false)), .pick (.t 16) (.t 21) (.v (.b false))⟩,
 ⟨some 23, none, .pick (.t 10) (.v (.b true)) (.t 22)⟩,
 ⟨some 4, none, .mov (.t 23)⟩] [4])
 (.ret))
theorem get_spec_l1Less : prog.funcs[fid_spec_l1Less]? = some f109 := func109
theorem ok_spec_l1Less : okFn prog f109 24 [] [(4, none)] mc_spec_l1Less = true := by kernel_rfl
def mc_spec_l1Next : MCode :=
 .seq
 (.reg [
 ⟨some 2, none, .box 2 (.t 0)⟩,
 ⟨some 4, none, .mov (.v (.nl 1))⟩] [1, 2])
 (.seq
 (.reg [
 ⟨some 7, none, .buildSlice 1 []⟩,
 ⟨some 5, none, .mov (.t 7)⟩] [1, 2, 5])
 (.seq
 (.seq
 (.reg [
 ⟨some 6, none, .mov (.v (.i .i64 0))⟩] [1, 2, 5, 6])
 (.block 0
 (.loop [1, 2, 5, 6]
 (.seq
 (.seq
 (.reg [
 ⟨some 8, none, .mov (.t 6)⟩,
 ⟨some 9, none, .fieldAddr 0 (.t 2)⟩,
 ⟨some 10, none, .load false 1 (.t 9)⟩,
 ⟨some 11, none, .bin .lss (.t 8) (.t 10)⟩] [1, 2, 5, 6, 11])
 (.cond (.t 11)
 (.skip)
 (.exit 0)))
 (.seq
 (.block 1
 (.seq
 (.draw [0, 0, 3, 7, 15, 31, 15, 15, 207, 511, 1023, 2047] [
 ⟨some 14, none, .mov (.t 6)⟩,
 ⟨some 15, none, .mov (.t 1)⟩,
 ⟨some 16, none, .bin .neq (.t 14) (.t 15)⟩,
 ⟨some 17, none, .mov (.t 16)⟩,
 ⟨some 18, (some (17, true)), .fieldAddr 1 (.t 2)⟩,
 ⟨some 19, (some (17, true)), .load false 1 (.t 18)⟩,
 ⟨some 20, (some (17, true)), .mov (.t 6)⟩,
 ⟨some 21, (some (17, true)), .mov (.t 1)⟩,
 ⟨some 22, (some (17, true)), .call fid_spec_l1Edge false [.im, .im] [(.t 20), (.t 21)]⟩,
 ⟨some 23, (some (17, true)), .call fid_spec_l1Find false [.im, .im] [(.t 19), (.t 22)]⟩,
 ⟨some 24, (some (17, true)), .bin .geq (.t 23) (.v (.i .i64 0))⟩,
 ⟨some 25, none, .pick (.t 17) (.t 24) (.v (.b false))⟩] [1, 2, 5, 6, 25])
 (.cond (.t 25)
 (.reg [
 ⟨some 26, none, .mov (.t 5)⟩,
 ⟨some 27, none, .mov (.t 6)⟩,
 ⟨some 28, none, .buildSlice 1 [(.t 27)]⟩,
 ⟨some 29, none, .append 1 8 true (.t 26) (.t 28)⟩,
 ⟨some 5, none, .mov (.t 29)⟩] [1, 2, 5, 6])
 (.skip))))
 (.reg [
 ⟨some 12, none, .mov (.t 6)⟩,
 ⟨some 13, none, .bin .add (.t 12) (.v (.i .i64 1))⟩,
 ⟨some 6, none, .mov (.t 13)⟩] [1, 2, 5, 6]))))))
 (.seq
 (.reg [
 ⟨some 30, none, .mov (.t 5)⟩,
 ⟨some 4, none, .mov (.t 30)⟩] [4])
 (.ret))))
theorem get_spec_l1Next : prog.funcs[fid_spec_l1Next]? = some f111 := func111
theorem ok_spec_l1Next : okFn prog f111 31 [] [(4, none)] mc_spec_l1Next = true := by kernel_rfl
def mc_spec_l2Joined : MCode :=
 .seq
 (.reg [
 ⟨some 3, none, .box 2 (.t 0)⟩,
 ⟨some 6, none, .mov (.v (.b false))⟩] [1, 2, 3])
 (.seq
 (.reg [
 ⟨some 8, none, .load true 2 (.t 3)⟩,
 ⟨some 9, none, .call fid_spec_l2Labels false [.im] [(.t 8)]⟩,
 ⟨some 7, none, .mov (.t 9)⟩] [1, 2, 7])
 (.seq
 (.draw [0, 0, 3, 7, 0, 0, 48, 112, 255, 511] [
 ⟨some 10, none, .mov (.t 7)⟩,
 ⟨some 11, none, .mov (.t 1)⟩,
 ⟨some 12, none, .indexAddr 1 (.t 10) (.t 11)⟩,
 ⟨some 13, none, .load false 1 (.t 12)⟩,
 ⟨some 14, none, .mov (.t 7)⟩,
 ⟨some 15, none, .mov (.t 2)⟩,
 ⟨some 16, none, .indexAddr 1 (.t 14) (.t 15)⟩,
 ⟨some 17, none, .load false 1 (.t 16)⟩,
 ⟨some 18, none, .bin .eql (.t 13) (.t 17)⟩,
 ⟨some 6, none, .mov (.t 18)⟩] [6])
 (.ret)))
theorem get_spec_l2Joined : prog.funcs[fid_spec_l2Joined]? = some f119 := func119
theorem ok_spec_l2Joined : okFn prog f119 19 [] [(6, none)] mc_spec_l2Joined = true := by kernel_rfl
def mc_spec_l1Copy : MCode :=
 .seq
 (.reg [
 ⟨some 1, none, .box 2 (.t 0)⟩,
 ⟨some 2, none, .alloc [.i .i64 0, .nl 2]⟩] [1, 2])
 (.seq
 (.draw [0, 1, 0, 0, 8, 28, 63, 127] [
 ⟨some 3, none, .fieldAddr 0 (.t 1)⟩,
 ⟨some 4, none, .load false 1 (.t 3)⟩,
 ⟨some 5, none, .buildSlice 2 []⟩,
 ⟨some 6, none, .fieldAddr 1 (.t 1)⟩,
 ⟨some 7, none, .load false 1 (.t 6)⟩,
 ⟨some 8, none, .append 2 16 false (.t 5) (.t 7)⟩,
 ⟨some 9, none, .build [.i .i64 0, .nl 2] [(0, 1, (.t 4)), (1, 1, (.t 8))]⟩,
 ⟨none, none, .store 2 (.t 2) (.t 9)⟩] [2])
 (.ret))
theorem get_spec_l1Copy : prog.funcs[fid_spec_l1Copy]? = some f123 := func123
theorem ok_spec_l1Copy : okFn prog f123 10 [] [(2, some (true, 2))] mc_spec_l1Copy = true := by kernel_rfl
def mc_p_spec_l14Rd_pick : MCode :=
 .seq
 (.reg [
 ⟨some 4, none, .mov (.v (.i .i64 0))⟩] [0, 1])
 (.seq
 (.reg [
 ⟨some 7, none, .mov (.t 0)⟩,
 ⟨some 8, none, .mov (.t 0)⟩,
 ⟨some 9, none, .nilCheck (.t 8)⟩,
 ⟨some 10, none, .fieldAddr 1 (.t 9)⟩,
 ⟨some 11, none, .load false 1 (.t 10)⟩,
 ⟨some 12, none, .bin .add (.t 11) (.v (.i .i64 1))⟩,
 ⟨some 13, none, .nilCheck (.t 7)⟩,
 ⟨some 14, none, .fieldAddr 1 (.t 13)⟩,
 ⟨none, none, .store 1 (.t 14) (.t 12)⟩] [0, 1])
 (.seq
 (.seq
 (.reg [
 ⟨some 15, none, .mov (.t 1)⟩,
 ⟨some 16, none, .bin .lss (.t 15) (.v (.i .i64 1))⟩,
 ⟨some 17, none, .mov (.t 16)⟩,
 ⟨some 18, (some (17, false)), .mov (.t 0)⟩,
 ⟨some 19, (some (17, false)), .nilCheck (.t 18)⟩,
 ⟨some 20, (some (17, false)), .fieldAddr 0 (.t 19)⟩,
 ⟨some 21, (some (17, false)), .load false 1 (.t 20)⟩,
 ⟨some 22, (some (17, false)), .len (.t 21)⟩,
 ⟨some 23, (some (17, false)), .bin .eql (.t 22) (.v (.i .i64 0))⟩,
 ⟨some 24, none, .pick (.t 17) (.v (.b true)) (.t 23)⟩] [0, 1, 24])
 (.cond (.t 24)
 (.seq
 (.reg [
 ⟨some 4, none, .mov (.v (.i .i64 0))⟩] [0, 4])
 (.ret))
 (.skip)))
 (.seq
 (.reg [
 ⟨some 25, none, .mov (.t 0)⟩,
 ⟨some 26, none, .nilCheck (.t 25)⟩,
 ⟨some 27, none, .fieldAddr 1 (.t 26)⟩,
 ⟨some 28, none, .load false 1 (.t 27)⟩,
 ⟨some 29, none, .bin .sub (.t 28) (.v (.i .i64 1))⟩,
 ⟨some 5, none, .mov (.t 29)⟩] [0, 1, 5])
 (.seq
 (.seq
 (.reg [
 ⟨some 30, none, .mov (.t 5)⟩,
 ⟨some 31, none, .mov (.t 0)⟩,
 ⟨some 32, none, .nilCheck (.t 31)⟩,
 ⟨some 33, none, .fieldAddr 0 (.t 32)⟩,
 ⟨some 34, none, .load false 1 (.t 33)⟩,
 ⟨some 35, none, .len (.t 34)⟩,
 ⟨some 36, none, .bin .lss (.t 30) (.t 35)⟩] [0, 1, 5, 36])
 (.cond (.t 36)
 (.seq
 (.reg [
 ⟨some 37, none, .mov (.t 0)⟩,
 ⟨some 38, none, .nilCheck (.t 37)⟩,
 ⟨some 39, none, .fieldAddr 0 (.t 38)⟩,
 ⟨some 40, none, .load false 1 (.t 39)⟩,
 ⟨some 41, none, .mov (.t 5)⟩,
 ⟨some 42, none, .indexAddr 1 (.t 40) (.t 41)⟩,
 ⟨some 43, none, .load false 1 (.t 42)⟩,
 ⟨some 44, none, .conv .i64 (.t 43)⟩,
 ⟨some 45, none, .mov (.t 1)⟩,
 ⟨some 46, none, .bin .rem (.t 44) (.t 45)⟩,
 ⟨some 4, none, .mov (.t 46)⟩] [0, 4])
 (.ret))
 (.skip)))
 (.seq
 (.draw [0, 1, 3, 7, 0, 0, 32, 96, 224, 480, 1008, 2047, 4095, 8191, 16383, 0, 32768, 98304, 229376, 0, 524288, 1572864, 0, 4194304, 12582912, 29360128, 62914560, 133693440, 268402688, 536838144, 1073709056, 2147450880, 4294967295, 0, 8589934592, 34359738367, 0, 0, 137438953472, 412316860416, 962072674304, 2061584302080, 4329327034368, 8727373545472, 17592186044415, 35184372088831] [
 ⟨some 47, none, .mov (.t 0)⟩,
 ⟨some 48, none, .nilCheck (.t 47)⟩,
 ⟨some 49, none, .fieldAddr 0 (.t 48)⟩,
 ⟨some 50, none, .load false 1 (.t 49)⟩,
 ⟨some 51, none, .mov (.t 5)⟩,
 ⟨some 52, none, .mov (.t 0)⟩,
 ⟨some 53, none, .nilCheck (.t 52)⟩,
 ⟨some 54, none, .fieldAddr 0 (.t 53)⟩,
 ⟨some 55, none, .load false 1 (.t 54)⟩,
 ⟨some 56, none, .len (.t 55)⟩,
 ⟨some 57, none, .bin .rem (.t 51) (.t 56)⟩,
 ⟨some 58, none, .indexAddr 1 (.t 50) (.t 57)⟩,
 ⟨some 59, none, .load false 1 (.t 58)⟩,
 ⟨some 60, none, .conv .i64 (.t 59)⟩,
 ⟨some 61, none, .bin .mul (.t 60) (.v (.i .i64 131))⟩,
 ⟨some 62, none, .mov (.t 0)⟩,
 ⟨some 63, none, .nilCheck (.t 62)⟩,
 ⟨some 64, none, .fieldAddr 0 (.t 63)⟩,
 ⟨some 65, none, .load false 1 (.t 64)⟩,
 ⟨some 66, none, .mov (.t 5)⟩,
 ⟨some 67, none, .bin .mul (.t 66) (.v (.i .i64 7))⟩,
 ⟨some 68, none, .bin .add (.t 67) (.v (.i .i64 3))⟩,
 ⟨some 69, none, .mov (.t 0)⟩,
 ⟨some 70, none, .nilCheck (.t 69)⟩,
 ⟨some 71, none, .fieldAddr 0 (.t 70)⟩,
 ⟨some 72, none, .load false 1 (.t 71)⟩,
 ⟨some 73, none, .len (.t 72)⟩,
 ⟨some 74, none, .bin .rem (.t 68) (.t 73)⟩,
 ⟨some 75, none, .indexAddr 1 (.t 65) (.t 74)⟩,
 ⟨some 76, none, .load false 1 (.t 75)⟩,
 ⟨some 77, none, .conv .i64 (.t 76)⟩,
 ⟨some 78, none, .bin .mul (.t 77) (.v (.i .i64 1117))⟩,
 ⟨some 79, none, .bin .add (.t 61) (.t 78)⟩,
 ⟨some 80, none, .mov (.t 5)⟩,
 ⟨some 81, none, .bin .mul (.t 80) (.v (.i .i64 29))⟩,
 ⟨some 82, none, .bin .add (.t 79) (.t 81)⟩,
 ⟨some 83, none, .mov (.t 5)⟩,
 ⟨some 84, none, .mov (.t 0)⟩,
 ⟨some 85, none, .nilCheck (.t 84)⟩,
 ⟨some 86, none, .fieldAddr 0 (.t 85)⟩,
 ⟨some 87, none, .load false 1 (.t 86)⟩,
 ⟨some 88, none, .len (.t 87)⟩,
 ⟨some 89, none, .bin .quo (.t 83) (.t 88)⟩,
 ⟨some 90, none, .bin .mul (.t 89) (.v (.i .i64 53))⟩,
 ⟨some 91, none, .bin .add (.t 82) (.t 90)⟩,
 ⟨some 6, none, .mov (.t 91)⟩] [0, 1, 6])
 (.seq
 (.reg [
 ⟨some 92, none, .mov (.t 6)⟩,
 ⟨some 93, none, .mov (.t 6)⟩,
 ⟨some 94, none, .bin .quo (.t 93) (.v (.i .i64 64))⟩,
 ⟨some 95, none, .bin .xor (.t 92) (.t 94)⟩,
 ⟨some 6, none, .mov (.t 95)⟩] [0, 1, 6])
 (.seq
 (.reg [
 ⟨some 96, none, .mov (.t 6)⟩,
 ⟨some 97, none, .mov (.t 1)⟩,
 ⟨some 98, none, .bin .rem (.t 96) (.t 97)⟩,
 ⟨some 4, none, .mov (.t 98)⟩] [0, 4])
 (.ret))))))))
theorem get_p_spec_l14Rd_pick : prog.funcs[fid_p_spec_l14Rd_pick]? = some f124 := func124
theorem ok_p_spec_l14Rd_pick : okFn prog f124 99 [0] [(4, none)] mc_p_spec_l14Rd_pick = true := by kernel_rfl
def mc_spec_l1Find : MCode :=
 .seq
 (.reg [
 ⟨some 3, none, .box 2 (.t 1)⟩,
 ⟨some 4, none, .mov (.v (.i .i64 0))⟩] [0, 3])
 (.seq
 (.seq
 (.reg [
 ⟨some 5, none, .mov (.v (.i .i64 0))⟩] [0, 3, 5])
 (.block 0
 (.loop [0, 3, 5]
 (.seq
 (.seq
 (.reg [
 ⟨some 6, none, .mov (.t 5)⟩,
 ⟨some 7, none, .mov (.t 0)⟩,
 ⟨some 8, none, .len (.t 7)⟩,
 ⟨some 9, none, .bin .lss (.t 6) (.t 8)⟩] [0, 3, 5, 9])
 (.cond (.t 9)
 (.skip)
 (.exit 0)))
 (.seq
 (.block 1
 (.seq
 (.draw [0, 0, 3, 7, 0, 31] [
 ⟨some 12, none, .mov (.t 0)⟩,
 ⟨some 13, none, .mov (.t 5)⟩,
 ⟨some 14, none, .indexAddr 2 (.t 12) (.t 13)⟩,
 ⟨some 15, none, .load true 2 (.t 14)⟩,
 ⟨some 16, none, .load true 2 (.t 3)⟩,
 ⟨some 17, none, .eqAgg false [true, true] (.t 15) (.t 16)⟩] [0, 3, 5, 17])
 (.cond (.t 17)
 (.seq
 (.reg [
 ⟨some 18, none, .mov (.t 5)⟩,
 ⟨some 4, none, .mov (.t 18)⟩] [4])
 (.ret))
 (.skip))))
 (.reg [
 ⟨some 10, none, .mov (.t 5)⟩,
 ⟨some 11, none, .bin .add (.t 10) (.v (.i .i64 1))⟩,
 ⟨some 5, none, .mov (.t 11)⟩] [0, 3, 5]))))))
 (.seq
 (.reg [
 ⟨some 4, none, .mov (.v (.i .i64 (-1)))⟩] [4])
 (.ret)))
theorem get_spec_l1Find : prog.funcs[fid_spec_l1Find]? = some f125 := func125
theorem ok_spec_l1Find : okFn prog f125 19 [] [(4, none)] mc_spec_l1Find = true := by kernel_rfl
def mc_spec_l1Edge : MCode :=
 .seq
 (.reg [
 ⟨some 4, none, .alloc [.i .i64 0, .i .i64 0]⟩] [0, 1, 4])
 (.seq
 (.seq
 (.reg [
 ⟨some 5, none, .mov (.t 0)⟩,
 ⟨some 6, none, .mov (.t 1)⟩,
 ⟨some 7, none, .bin .lss (.t 5) (.t 6)⟩] [0, 1, 4, 7])
 (.cond (.t 7)
 (.seq
 (.reg [
 ⟨some 8, none, .mov (.t 0)⟩,
 ⟨some 9, none, .mov (.t 1)⟩,
 ⟨some 10, none, .build [.i .i64 0, .i .i64 0] [(0, 1, (.t 8)), (1, 1, (.t 9))]⟩,
 ⟨none, none, .store 2 (.t 4) (.t 10)⟩] [4])
 (.ret))
 (.skip)))
 (.seq
 (.reg [
 ⟨some 11, none, .mov (.t 1)⟩,
 ⟨some 12, none, .mov (.t 0)⟩,
 ⟨some 13, none, .build [.i .i64 0, .i .i64 0] [(0, 1, (.t 11)), (1, 1, (.t 12))]⟩,
 ⟨none, none, .store 2 (.t 4) (.t 13)⟩] [4])
 (.ret)))
theorem get_spec_l1Edge : prog.funcs[fid_spec_l1Edge]? = some f126 := func126
theorem ok_spec_l1Edge : okFn prog f126 14 [] [(4, some (true, 2))] mc_spec_l1Edge = true := by kernel_rfl
def mc_spec_l5Small : MCode :=
 .seq
 (.reg [
 ⟨some 2, none, .alloc [.i .i64 0, .nl 2]⟩] [0, 2])
 (.seq
 (.reg [
 ⟨some 8, none, .mov (.t 0)⟩,
 ⟨some 9, none, .buildSlice 1 [(.v (.i .i64 5)), (.v (.i .i64 6)), (.v (.i .i64 4)), (.v (.i .i64 7)), (.v (.i .i64 3))]⟩,
 ⟨some 10, none, .call fid_p_spec_l14Rd_num false [.io, .im] [(.t 8), (.t 9)]⟩,
 ⟨some 11, none, .build [.i .i64 0, .nl 2] [(0, 1, (.t 10))]⟩,
 ⟨some 3, none, .alloc [.i .i64 0, .nl 2]⟩,
 ⟨none, none, .store 2 (.t 3) (.t 11)⟩] [0, 2, 3])
 (.seq
 (.seq
 (.reg [
 ⟨some 4, none, .mov (.v (.i .i64 1))⟩] [0, 2, 3, 4])
 (.block 0
 (.loop [0, 2, 3, 4]
 (.seq
 (.seq
 (.reg [
 ⟨some 12, none, .mov (.t 4)⟩,
 ⟨some 13, none, .fieldAddr 0 (.t 3)⟩,
 ⟨some 14, none, .load false 1 (.t 13)⟩,
 ⟨some 15, none, .bin .lss (.t 12) (.t 14)⟩] [0, 2, 3, 4, 15])
 (.cond (.t 15)
 (.skip)
 (.exit 0)))
 (.seq
 (.block 1
 (.seq
 (.reg [
 ⟨some 18, none, .mov (.t 0)⟩,
 ⟨some 19, none, .call fid_p_spec_l14Rd_pick false [.io, .im] [(.t 18), (.v (.i .i64 5))]⟩,
 ⟨some 20, none, .bin .gtr (.t 19) (.v (.i .i64 0))⟩] [0, 2, 3, 4, 20])
 (.cond (.t 20)
 (.draw [0, 1, 0, 0, 12, 0, 60, 127, 255, 511] [
 ⟨some 21, none, .fieldAddr 1 (.t 3)⟩,
 ⟨some 22, none, .load false 1 (.t 21)⟩,
 ⟨some 23, none, .mov (.t 0)⟩,
 ⟨some 24, none, .mov (.t 4)⟩,
 ⟨some 25, none, .call fid_p_spec_l14Rd_pick false [.io, .im] [(.t 23), (.t 24)]⟩,
 ⟨some 26, none, .mov (.t 4)⟩,
 ⟨some 27, none, .call fid_spec_l1Edge false [.im, .im] [(.t 25), (.t 26)]⟩,
 ⟨some 28, none, .call fid_spec_l1Put false [.im, .im] [(.t 22), (.t 27)]⟩,
 ⟨some 29, none, .fieldAddr 1 (.t 3)⟩,
 ⟨none, none, .store 1 (.t 29) (.t 28)⟩] [0, 2, 3, 4])
 (.skip))))
 (.reg [
 ⟨some 16, none, .mov (.t 4)⟩,
 ⟨some 17, none, .bin .add (.t 16) (.v (.i .i64 1))⟩,
 ⟨some 4, none, .mov (.t 17)⟩] [0, 2, 3, 4]))))))
 (.seq
 (.seq
 (.reg [
 ⟨some 30, none, .mov (.t 0)⟩,
 ⟨some 31, none, .buildSlice 1 [(.v (.i .i64 2)), (.v (.i .i64 1)), (.v (.i .i64 3)), (.v (.i .i64 0)), (.v (.i .i64 4))]⟩,
 ⟨some 32, none, .call fid_p_spec_l14Rd_num false [.io, .im] [(.t 30), (.t 31)]⟩,
 ⟨some 5, none, .mov (.t 32)⟩] [0, 2, 3, 5])
 (.block 2
 (.loop [0, 2, 3, 5]
 (.seq
 (.seq
 (.reg [
 ⟨some 33, none, .mov (.t 5)⟩,
 ⟨some 34, none, .bin .gtr (.t 33) (.v (.i .i64 0))⟩] [0, 2, 3, 5, 34])
 (.cond (.t 34)
 (.skip)
 (.exit 2)))
 (.seq
 (.block 3
 (.seq
 (.reg [
 ⟨some 37, none, .mov (.t 0)⟩,
 ⟨some 38, none, .fieldAddr 0 (.t 3)⟩,
 ⟨some 39, none, .load false 1 (.t 38)⟩,
 ⟨some 40, none, .call fid_p_spec_l14Rd_pick false [.io, .im] [(.t 37), (.t 39)]⟩,
 ⟨some 6, none, .mov (.t 40)⟩] [0, 2, 3, 5, 6])
 (.seq
 (.reg [
 ⟨some 41, none, .mov (.t 0)⟩,
 ⟨some 42, none, .fieldAddr 0 (.t 3)⟩,
 ⟨some 43, none, .load false 1 (.t 42)⟩,
 ⟨some 44, none, .call fid_p_spec_l14Rd_pick false [.io, .im] [(.t 41), (.t 43)]⟩,
 ⟨some 7, none, .mov (.t 44)⟩] [0, 2, 3, 5, 6, 7])
 (.seq
 (.draw [0, 0, 3, 7, 15, 31, 15, 15, 207, 511, 1023, 2047] [
 ⟨some 45, none, .mov (.t 6)⟩,
 ⟨some 46, none, .mov (.t 7)⟩,
 ⟨some 47, none, .bin .neq (.t 45) (.t 46)⟩,
 ⟨some 48, none, .mov (.t 47)⟩,
 ⟨some 49, (some (48, true)), .fieldAddr 1 (.t 3)⟩,
 ⟨some 50, (some (48, true)), .load false 1 (.t 49)⟩,
 ⟨some 51, (some (48, true)), .mov (.t 6)⟩,
 ⟨some 52, (some (48, true)), .mov (.t 7)⟩,
 ⟨some 53, (some (48, true)), .call fid_spec_l1Edge false [.im, .im] [(.t 51), (.t 52)]⟩,
 ⟨some 54, (some (48, true)), .call fid_spec_l1Find false [.im, .im] [(.t 50), (.t 53)]⟩,
 ⟨some 55, (some (48, true)), .bin .lss (.t 54) (.v (.i .i64 0))⟩,
 ⟨some 56, none, .pick (.t 48) (.t 55) (.v (.b false))⟩] [0, 2, 3, 5, 6, 7, 56])
 (.cond (.t 56)
 (.draw [0, 1, 0, 0, 12, 31, 63, 127] [
 ⟨some 57, none, .fieldAddr 1 (.t 3)⟩,
 ⟨some 58, none, .load false 1 (.t 57)⟩,
 ⟨some 59, none, .mov (.t 6)⟩,
 ⟨some 60, none, .mov (.t 7)⟩,
 ⟨some 61, none, .call fid_spec_l1Edge false [.im, .im] [(.t 59), (.t 60)]⟩,
 ⟨some 62, none, .call fid_spec_l1Put false [.im, .im] [(.t 58), (.t 61)]⟩,
 ⟨some 63, none, .fieldAddr 1 (.t 3)⟩,
 ⟨none, none, .store 1 (.t 63) (.t 62)⟩] [0, 2, 3, 5])
 (.skip))))))
 (.reg [
 ⟨some 35, none, .mov (.t 5)⟩,
 ⟨some 36, none, .bin .sub (.t 35) (.v (.i .i64 1))⟩,
 ⟨some 5, none, .mov (.t 36)⟩] [0, 2, 3, 5]))))))
 (.seq
 (.reg [
 ⟨some 64, none, .mov (.t 0)⟩,
 ⟨some 65, none, .load true 2 (.t 3)⟩,
 ⟨some 66, none, .call fid_spec_l1Wrong false [.io, .im] [(.t 64), (.t 65)]⟩,
 ⟨none, none, .store 2 (.t 2) (.t 66)⟩] [0, 2])
 (.ret)))))
theorem get_spec_l5Small : prog.funcs[fid_spec_l5Small]? = some f131 := func131
theorem ok_spec_l5Small : okFn prog f131 67 [0] [(2, some (true, 2))] mc_spec_l5Small = true := by kernel_rfl
def mc_spec_PartsOf : MCode :=
 .seq
 (.reg [
 ⟨some 1, none, .box 2 (.t 0)⟩,
 ⟨some 2, none, .mov (.v (.nl 1))⟩] [1])
 (.seq
 (.seq
 (.reg [
 ⟨some 3, none, .load true 2 (.t 1)⟩,
 ⟨some 4, none, .call fid_spec_GraphValid false [.im] [(.t 3)]⟩,
 ⟨some 5, none, .un .not (.t 4)⟩] [1, 5])
 (.cond (.t 5)
 (.seq
 (.reg [
 ⟨some 6, none, .buildSlice 1 []⟩,
 ⟨some 2, none, .mov (.t 6)⟩] [2])
 (.ret))
 (.skip)))
 (.seq
 (.reg [
 ⟨some 7, none, .load true 2 (.t 1)⟩,
 ⟨some 8, none, .call fid_spec_l2Labels false [.im] [(.t 7)]⟩,
 ⟨some 2, none, .mov (.t 8)⟩] [2])
 (.ret)))
theorem get_spec_PartsOf : prog.funcs[fid_spec_PartsOf]? = some f134 := func134
theorem ok_spec_PartsOf : okFn prog f134 9 [] [(2, none)] mc_spec_PartsOf = true := by kernel_rfl
def mc_spec_l4Cut : MCode :=
 .seq
 (.reg [
 ⟨some 2, none, .box 2 (.t 0)⟩,
 ⟨some 4, none, .mov (.v (.b false))⟩] [1, 2])
 (.seq
 (.reg [
 ⟨some 8, none, .load true 2 (.t 2)⟩,
 ⟨some 9, none, .mov (.t 1)⟩,
 ⟨some 10, none, .call fid_spec_l1Next false [.im, .im] [(.t 8), (.t 9)]⟩,
 ⟨some 5, none, .mov (.t 10)⟩] [1, 2, 5])
 (.seq
 (.reg [
 ⟨some 11, none, .load true 2 (.t 2)⟩,
 ⟨some 12, none, .mov (.t 1)⟩,
 ⟨some 13, none, .call fid_spec_l1Alone false [.im, .im] [(.t 11), (.t 12)]⟩,
 ⟨some 6, none, .alloc [.i .i64 0, .nl 2]⟩,
 ⟨none, none, .store 2 (.t 6) (.t 13)⟩] [5, 6])
 (.seq
 (.seq
 (.reg [
 ⟨some 7, none, .mov (.v (.i .i64 1))⟩] [5, 6, 7])
 (.block 0
 (.loop [5, 6, 7]
 (.seq
 (.seq
 (.reg [
 ⟨some 14, none, .mov (.t 7)⟩,
 ⟨some 15, none, .mov (.t 5)⟩,
 ⟨some 16, none, .len (.t 15)⟩,
 ⟨some 17, none, .bin .lss (.t 14) (.t 16)⟩] [5, 6, 7, 17])
 (.cond (.t 17)
 (.skip)
 (.exit 0)))
 (.seq
 (.block 1
 (.seq
 (.draw [0, 0, 2, 6, 0, 0, 48, 112, 255, 511] [
 ⟨some 20, none, .load true 2 (.t 6)⟩,
 ⟨some 21, none, .mov (.t 5)⟩,
 ⟨some 22, none, .indexAddr 1 (.t 21) (.v (.i .i64 0))⟩,
 ⟨some 23, none, .load false 1 (.t 22)⟩,
 ⟨some 24, none, .mov (.t 5)⟩,
 ⟨some 25, none, .mov (.t 7)⟩,
 ⟨some 26, none, .indexAddr 1 (.t 24) (.t 25)⟩,
 ⟨some 27, none, .load false 1 (.t 26)⟩,
 ⟨some 28, none, .call fid_spec_l2Joined false [.im, .im, .im] [(.t 20), (.t 23), (.t 27)]⟩,
 ⟨some 29, none, .un .not (.t 28)⟩] [5, 6, 7, 29])
 (.cond (.t 29)
 (.seq
 (.reg [
 ⟨some 4, none, .mov (.v (.b true))⟩] [4])
 (.ret))
 (.skip))))
 (.reg [
 ⟨some 18, none, .mov (.t 7)⟩,
 ⟨some 19, none, .bin .add (.t 18) (.v (.i .i64 1))⟩,
 ⟨some 7, none, .mov (.t 19)⟩] [5, 6, 7]))))))
 (.seq
 (.reg [
 ⟨some 4, none, .mov (.v (.b false))⟩] [4])
 (.ret)))))
theorem get_spec_l4Cut : prog.funcs[fid_spec_l4Cut]? = some f135 := func135
theorem ok_spec_l4Cut : okFn prog f135 30 [] [(4, none)] mc_spec_l4Cut = true := by kernel_rfl
def mc_spec_l2Labels : MCode :=
 .seq
 (.reg [
 ⟨some 1, none, .box 2 (.t 0)⟩,
 ⟨some 2, none, .mov (.v (.nl 1))⟩] [1])
 (.seq
 (.reg [
 ⟨some 9, none, .buildSlice 1 []⟩,
 ⟨some 3, none, .mov (.t 9)⟩] [1, 3])
 (.seq
 (.seq
 (.reg [
 ⟨some 4, none, .mov (.v (.i .i64 0))⟩] [1, 3, 4])
 (.block 0
 (.loop [1, 3, 4]
 (.seq
 (.seq
 (.reg [
 ⟨some 10, none, .mov (.t 4)⟩,
 ⟨some 11, none, .fieldAddr 0 (.t 1)⟩,
 ⟨some 12, none, .load false 1 (.t 11)⟩,
 ⟨some 13, none, .bin .lss (.t 10) (.t 12)⟩] [1, 3, 4, 13])
 (.cond (.t 13)
 (.skip)
 (.exit 0)))
 (.seq
 (.block 1
 (.reg [
 ⟨some 16, none, .mov (.t 3)⟩,
 ⟨some 17, none, .mov (.t 4)⟩,
 ⟨some 18, none, .buildSlice 1 [(.t 17)]⟩,
 ⟨some 19, none, .append 1 8 true (.t 16) (.t 18)⟩,
 ⟨some 3, none, .mov (.t 19)⟩] [1, 3, 4]))
 (.reg [
 ⟨some 14, none, .mov (.t 4)⟩,
 ⟨some 15, none, .bin .add (.t 14) (.v (.i .i64 1))⟩,
 ⟨some 4, none, .mov (.t 15)⟩] [1, 3, 4]))))))
 (.seq
 (.seq
 (.reg [
 ⟨some 5, none, .mov (.v (.b true))⟩] [1, 3, 5])
 (.block 2
 (.loop [1, 3, 5]
 (.seq
 (.seq
 (.reg [
 ⟨some 20, none, .mov (.t 5)⟩] [1, 3, 20])
 (.cond (.t 20)
 (.skip)
 (.exit 2)))
 (.block 3
 (.seq
 (.reg [
 ⟨some 5, none, .mov (.v (.b false))⟩] [1, 3, 5])
 (.seq
 (.reg [
 ⟨some 6, none, .mov (.v (.i .i64 0))⟩] [1, 3, 5, 6])
 (.block 4
 (.loop [1, 3, 5, 6]
 (.seq
 (.seq
 (.reg [
 ⟨some 21, none, .mov (.t 6)⟩,
 ⟨some 22, none, .fieldAddr 1 (.t 1)⟩,
 ⟨some 23, none, .load false 1 (.t 22)⟩,
 ⟨some 24, none, .len (.t 23)⟩,
 ⟨some 25, none, .bin .lss (.t 21) (.t 24)⟩] [1, 3, 5, 6, 25])
 (.cond (.t 25)
 (.skip)
 (.exit 4)))
 (.seq
 (.block 5
 (.seq
 (.reg [
 ⟨some 28, none, .mov (.t 3)⟩,
 ⟨some 29, none, .fieldAddr 1 (.t 1)⟩,
 ⟨some 30, none, .load false 1 (.t 29)⟩,
 ⟨some 31, none, .mov (.t 6)⟩,
 ⟨some 32, none, .indexAddr 2 (.t 30) (.t 31)⟩,
 ⟨some 33, none, .fieldAddr 0 (.t 32)⟩,
 ⟨some 34, none, .load false 1 (.t 33)⟩,
 ⟨some 35, none, .indexAddr 1 (.t 28) (.t 34)⟩,
 ⟨some 36, none, .load false 1 (.t 35)⟩,
 ⟨some 7, none, .mov (.t 36)⟩] [1, 3, 5, 6, 7])
 (.seq
 (.reg [
 ⟨some 37, none, .mov (.t 3)⟩,
 ⟨some 38, none, .fieldAddr 1 (.t 1)⟩,
 ⟨some 39, none, .load false 1 (.t 38)⟩,
 ⟨some 40, none, .mov (.t 6)⟩,
 ⟨some 41, none, .indexAddr 2 (.t 39) (.t 40)⟩,
 ⟨some 42, none, .fieldAddr 1 (.t 41)⟩,
 ⟨some 43, none, .load false 1 (.t 42)⟩,
 ⟨some 44, none, .indexAddr 1 (.t 37) (.t 43)⟩,
 ⟨some 45, none, .load false 1 (.t 44)⟩,
 ⟨some 8, none, .mov (.t 45)⟩] [1, 3, 5, 6, 7, 8])
 (.seq
 (.seq
 (.reg [
 ⟨some 46, none, .mov (.t 7)⟩,
 ⟨some 47, none, .mov (.t 8)⟩,
 ⟨some 48, none, .bin .lss (.t 46) (.t 47)⟩] [1, 3, 5, 6, 7, 8, 48])
 (.cond (.t 48)
 (.seq
 (.reg [
 ⟨some 49, none, .mov (.t 3)⟩,
 ⟨some 50, none, .fieldAddr 1 (.t 1)⟩,
 ⟨some 51, none, .load false 1 (.t 50)⟩,
 ⟨some 52, none, .mov (.t 6)⟩,
 ⟨some 53, none, .indexAddr 2 (.t 51) (.t 52)⟩,
 ⟨some 54, none, .fieldAddr 1 (.t 53)⟩,
 ⟨some 55, none, .load false 1 (.t 54)⟩,
 ⟨some 56, none, .mov (.t 7)⟩,
 ⟨some 57, none, .indexAddr 1 (.t 49) (.t 55)⟩,
 ⟨none, none, .store 1 (.t 57) (.t 56)⟩] [1, 3, 6, 7, 8])
 (.reg [
 ⟨some 5, none, .mov (.v (.b true))⟩] [1, 3, 5, 6, 7, 8]))
 (.skip)))
 (.seq
 (.reg [
 ⟨some 58, none, .mov (.t 8)⟩,
 ⟨some 59, none, .mov (.t 7)⟩,
 ⟨some 60, none, .bin .lss (.t 58) (.t 59)⟩] [1, 3, 5, 6, 8, 60])
 (.cond (.t 60)
 (.seq
 (.reg [
 ⟨some 61, none, .mov (.t 3)⟩,
 ⟨some 62, none, .fieldAddr 1 (.t 1)⟩,
 ⟨some 63, none, .load false 1 (.t 62)⟩,
 ⟨some 64, none, .mov (.t 6)⟩,
 ⟨some 65, none, .indexAddr 2 (.t 63) (.t 64)⟩,
 ⟨some 66, none, .fieldAddr 0 (.t 65)⟩,
 ⟨some 67, none, .load false 1 (.t 66)⟩,
 ⟨some 68, none, .mov (.t 8)⟩,
 ⟨some 69, none, .indexAddr 1 (.t 61) (.t 67)⟩,
 ⟨none, none, .store 1 (.t 69) (.t 68)⟩] [1, 3, 6])
 (.reg [
 ⟨some 5, none, .mov (.v (.b true))⟩] [1, 3, 5, 6]))
 (.skip)))))))
 (.reg [
 ⟨some 26, none, .mov (.t 6)⟩,
 ⟨some 27, none, .bin .add (.t 26) (.v (.i .i64 1))⟩,
 ⟨some 6, none, .mov (.t 27)⟩] [1, 3, 5, 6]))))))))))))
 (.seq
 (.reg [
 ⟨some 70, none, .mov (.t 3)⟩,
 ⟨some 2, none, .mov (.t 70)⟩] [2])
 (.ret)))))
theorem get_spec_l2Labels : prog.funcs[fid_spec_l2Labels]? = some f146 := func146
theorem ok_spec_l2Labels : okFn prog f146 71 [] [(2, none)] mc_spec_l2Labels = true := by kernel_rfl
def mc_spec_l1Alone : MCode :=
 .seq
 (.reg [
 ⟨some 2, none, .box 2 (.t 0)⟩,
 ⟨some 4, none, .alloc [.i .i64 0, .nl 2]⟩] [1, 2, 4])
 (.seq
 (.reg [
 ⟨some 7, none, .fieldAddr 0 (.t 2)⟩,
 ⟨some 8, none, .load false 1 (.t 7)⟩,
 ⟨some 9, none, .buildSlice 2 []⟩,
 ⟨some 10, none, .build [.i .i64 0, .nl 2] [(0, 1, (.t 8)), (1, 1, (.t 9))]⟩,
 ⟨some 5, none, .alloc [.i .i64 0, .nl 2]⟩,
 ⟨none, none, .store 2 (.t 5) (.t 10)⟩] [1, 2, 4, 5])
 (.seq
 (.seq
 (.reg [
 ⟨some 6, none, .mov (.v (.i .i64 0))⟩] [1, 2, 4, 5, 6])
 (.block 0
 (.loop [1, 2, 4, 5, 6]
 (.seq
 (.seq
 (.reg [
 ⟨some 11, none, .mov (.t 6)⟩,
 ⟨some 12, none, .fieldAddr 1 (.t 2)⟩,
 ⟨some 13, none, .load false 1 (.t 12)⟩,
 ⟨some 14, none, .len (.t 13)⟩,
 ⟨some 15, none, .bin .lss (.t 11) (.t 14)⟩] [1, 2, 4, 5, 6, 15])
 (.cond (.t 15)
 (.skip)
 (.exit 0)))
 (.seq
 (.block 1
 (.seq
 (.reg [
 ⟨some 18, none, .fieldAddr 1 (.t 2)⟩,
 ⟨some 19, none, .load false 1 (.t 18)⟩,
 ⟨some 20, none, .mov (.t 6)⟩,
 ⟨some 21, none, .indexAddr 2 (.t 19) (.t 20)⟩,
 ⟨some 22, none, .fieldAddr 0 (.t 21)⟩,
 ⟨some 23, none, .load false 1 (.t 22)⟩,
 ⟨some 24, none, .mov (.t 1)⟩,
 ⟨some 25, none, .bin .neq (.t 23) (.t 24)⟩,
 ⟨some 26, none, .mov (.t 25)⟩,
 ⟨some 27, (some (26, true)), .fieldAddr 1 (.t 2)⟩,
 ⟨some 28, (some (26, true)), .load false 1 (.t 27)⟩,
 ⟨some 29, (some (26, true)), .mov (.t 6)⟩,
 ⟨some 30, (some (26, true)), .indexAddr 2 (.t 28) (.t 29)⟩,
 ⟨some 31, (some (26, true)), .fieldAddr 1 (.t 30)⟩,
 ⟨some 32, (some (26, true)), .load false 1 (.t 31)⟩,
 ⟨some 33, (some (26, true)), .mov (.t 1)⟩,
 ⟨some 34, (some (26, true)), .bin .neq (.t 32) (.t 33)⟩,
 ⟨some 35, none, .pick (.t 26) (.t 34) (.v (.b false))⟩] [1, 2, 4, 5, 6, 35])
 (.cond (.t 35)
 (.draw [0, 1, 0, 4, 0, 28, 60, 124, 255, 511, 1023] [
 ⟨some 36, none, .fieldAddr 1 (.t 5)⟩,
 ⟨some 37, none, .load false 1 (.t 36)⟩,
 ⟨some 38, none, .fieldAddr 1 (.t 2)⟩,
 ⟨some 39, none, .load false 1 (.t 38)⟩,
 ⟨some 40, none, .mov (.t 6)⟩,
 ⟨some 41, none, .indexAddr 2 (.t 39) (.t 40)⟩,
 ⟨some 42, none, .load true 2 (.t 41)⟩,
 ⟨some 43, none, .buildSlice 2 [(.t 42)]⟩,
 ⟨some 44, none, .append 2 16 true (.t 37) (.t 43)⟩,
 ⟨some 45, none, .fieldAddr 1 (.t 5)⟩,
 ⟨none, none, .store 1 (.t 45) (.t 44)⟩] [1, 2, 4, 5, 6])
 (.skip))))
 (.reg [
 ⟨some 16, none, .mov (.t 6)⟩,
 ⟨some 17, none, .bin .add (.t 16) (.v (.i .i64 1))⟩,
 ⟨some 6, none, .mov (.t 17)⟩] [1, 2, 4, 5, 6]))))))
 (.seq
 (.reg [
 ⟨some 46, none, .load true 2 (.t 5)⟩,
 ⟨none, none, .store 2 (.t 4) (.t 46)⟩] [4])
 (.ret))))
theorem get_spec_l1Alone : prog.funcs[fid_spec_l1Alone]? = some f159 := func159
theorem ok_spec_l1Alone : okFn prog f159 47 [] [(4, some (true, 2))] mc_spec_l1Alone = true := by kernel_rfl

end Go.Fw
