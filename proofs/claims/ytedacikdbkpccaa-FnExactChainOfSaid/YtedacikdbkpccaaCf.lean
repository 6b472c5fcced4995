/-
  The code of the statements, as the model's own. Printed by a program.
-/
import Derived.Test.YtedacikdbkpccaaCd
namespace Go.Fw
open Go.Proofs.Try
set_option maxRecDepth 100000
def mc_laws_FnCountsTurn : MCode :=
 .seq
 (.reg [
 ⟨some 2, none, .mov (.v (.b false))⟩] [0])
 (.seq
 (.seq
 (.reg [
 ⟨some 11, none, .mov (.t 0)⟩,
 ⟨some 12, none, .len (.t 11)⟩,
 ⟨some 13, none, .bin .gtr (.t 12) (.v (.i .i64 1048576))⟩] [0, 13])
 (.cond (.t 13)
 (.seq
 (.reg [
 ⟨some 2, none, .mov (.v (.b true))⟩] [2])
 (.ret))
 (.skip)))
 (.seq
 (.reg [
 ⟨some 15, none, .mov (.t 0)⟩,
 ⟨some 16, none, .call fid_spec_DrawCountsOf false [.im] [(.t 15)]⟩,
 ⟨some 14, none, .mov (.t 16)⟩,
 ⟨some 17, none, .extract (.t 14) 0⟩,
 ⟨some 18, none, .extract (.t 14) 1⟩,
 ⟨some 3, none, .alloc [.i .i64 0, .nl 2]⟩,
 ⟨none, none, .store 2 (.t 3) (.t 17)⟩,
 ⟨some 4, none, .mov (.t 18)⟩] [3, 4])
 (.seq
 (.reg [
 ⟨some 20, none, .load true 2 (.t 3)⟩,
 ⟨some 21, none, .mov (.t 4)⟩,
 ⟨some 22, none, .call fid_impl_CountsOf false [.im, .im] [(.t 20), (.t 21)]⟩,
 ⟨some 19, none, .mov (.t 22)⟩,
 ⟨some 23, none, .extract (.t 19) 0⟩,
 ⟨some 24, none, .extract (.t 19) 1⟩,
 ⟨some 5, none, .mov (.t 23)⟩,
 ⟨some 6, none, .mov (.t 24)⟩] [3, 4, 5, 6])
 (.seq
 (.reg [
 ⟨some 26, none, .load true 2 (.t 3)⟩,
 ⟨some 27, none, .mov (.t 4)⟩,
 ⟨some 28, none, .call fid_spec_CountsOf false [.im, .im] [(.t 26), (.t 27)]⟩,
 ⟨some 25, none, .mov (.t 28)⟩,
 ⟨some 29, none, .extract (.t 25) 0⟩,
 ⟨some 30, none, .extract (.t 25) 1⟩,
 ⟨some 7, none, .mov (.t 29)⟩,
 ⟨some 8, none, .mov (.t 30)⟩] [5, 6, 7, 8])
 (.seq
 (.seq
 (.reg [
 ⟨some 31, none, .mov (.t 5)⟩,
 ⟨some 32, none, .mov (.t 7)⟩,
 ⟨some 33, none, .call fid_laws_dyLists false [.im, .im] [(.t 31), (.t 32)]⟩,
 ⟨some 34, none, .un .not (.t 33)⟩,
 ⟨some 35, none, .mov (.t 34)⟩,
 ⟨some 36, (some (35, false)), .mov (.t 6)⟩,
 ⟨some 37, (some (35, false)), .mov (.t 8)⟩,
 ⟨some 38, (some (35, false)), .binb true (.t 36) (.t 37)⟩,
 ⟨some 39, none, .pick (.t 35) (.v (.b true)) (.t 38)⟩,
 ⟨some 40, none, .mov (.t 39)⟩,
 ⟨some 41, (some (40, false)), .mov (.t 6)⟩,
 ⟨some 42, (some (40, false)), .un .not (.t 41)⟩,
 ⟨some 43, none, .pick (.t 40) (.v (.b true)) (.t 42)⟩] [5, 6, 7, 8, 43])
 (.cond (.t 43)
 (.seq
 (.reg [
 ⟨some 44, none, .mov (.t 5)⟩,
 ⟨some 45, none, .mov (.t 7)⟩,
 ⟨some 46, none, .call fid_laws_dyLists false [.im, .im] [(.t 44), (.t 45)]⟩,
 ⟨some 47, none, .mov (.t 46)⟩,
 ⟨some 48, (some (47, true)), .mov (.t 6)⟩,
 ⟨some 49, (some (47, true)), .mov (.t 8)⟩,
 ⟨some 50, (some (47, true)), .binb false (.t 48) (.t 49)⟩,
 ⟨some 51, none, .pick (.t 47) (.t 50) (.v (.b false))⟩,
 ⟨some 2, none, .mov (.t 51)⟩] [2])
 (.ret))
 (.skip)))
 (.seq
 (.seq
 (.reg [
 ⟨some 9, none, .mov (.v (.i .i64 1))⟩] [5, 9])
 (.block 0
 (.loop [5, 9]
 (.seq
 (.seq
 (.reg [
 ⟨some 52, none, .mov (.t 9)⟩,
 ⟨some 53, none, .mov (.t 5)⟩,
 ⟨some 54, none, .len (.t 53)⟩,
 ⟨some 55, none, .bin .lss (.t 52) (.t 54)⟩] [5, 9, 55])
 (.cond (.t 55)
 (.skip)
 (.exit 0)))
 (.seq
 (.block 1
 (.seq
 (.draw [0, 0, 3, 7, 15, 31, 0, 0, 128, 448, 960, 1984, 4032, 8191, 16383] [
 ⟨some 58, none, .mov (.t 5)⟩,
 ⟨some 59, none, .mov (.t 9)⟩,
 ⟨some 60, none, .indexAddr 1 (.t 58) (.t 59)⟩,
 ⟨some 61, none, .load false 1 (.t 60)⟩,
 ⟨some 62, none, .indexAddr 1 (.t 61) (.v (.i .i64 0))⟩,
 ⟨some 63, none, .load false 1 (.t 62)⟩,
 ⟨some 64, none, .mov (.t 5)⟩,
 ⟨some 65, none, .mov (.t 9)⟩,
 ⟨some 66, none, .bin .sub (.t 65) (.v (.i .i64 1))⟩,
 ⟨some 67, none, .indexAddr 1 (.t 64) (.t 66)⟩,
 ⟨some 68, none, .load false 1 (.t 67)⟩,
 ⟨some 69, none, .indexAddr 1 (.t 68) (.v (.i .i64 0))⟩,
 ⟨some 70, none, .load false 1 (.t 69)⟩,
 ⟨some 71, none, .bin .sub (.t 63) (.t 70)⟩,
 ⟨some 10, none, .mov (.t 71)⟩] [5, 9, 10])
 (.seq
 (.reg [
 ⟨some 72, none, .mov (.t 10)⟩,
 ⟨some 73, none, .bin .lss (.t 72) (.v (.i .i64 (-1)))⟩,
 ⟨some 74, none, .mov (.t 73)⟩,
 ⟨some 75, (some (74, false)), .mov (.t 10)⟩,
 ⟨some 76, (some (74, false)), .bin .gtr (.t 75) (.v (.i .i64 1))⟩,
 ⟨some 77, none, .pick (.t 74) (.v (.b true)) (.t 76)⟩,
 ⟨some 78, none, .mov (.t 77)⟩,
 ⟨some 79, (some (78, false)), .mov (.t 5)⟩,
 ⟨some 80, (some (78, false)), .mov (.t 9)⟩,
 ⟨some 81, (some (78, false)), .indexAddr 1 (.t 79) (.t 80)⟩,
 ⟨some 82, (some (78, false)), .load false 1 (.t 81)⟩,
 ⟨some 83, (some (78, false)), .len (.t 82)⟩,
 ⟨some 84, (some (78, false)), .bin .neq (.t 83) (.v (.i .i64 3))⟩,
 ⟨some 85, none, .pick (.t 78) (.v (.b true)) (.t 84)⟩] [5, 9, 85])
 (.cond (.t 85)
 (.seq
 (.reg [
 ⟨some 2, none, .mov (.v (.b false))⟩] [2])
 (.ret))
 (.skip)))))
 (.reg [
 ⟨some 56, none, .mov (.t 9)⟩,
 ⟨some 57, none, .bin .add (.t 56) (.v (.i .i64 1))⟩,
 ⟨some 9, none, .mov (.t 57)⟩] [5, 9]))))))
 (.seq
 (.reg [
 ⟨some 2, none, .mov (.v (.b true))⟩] [2])
 (.ret))))))))
theorem get_laws_FnCountsTurn : prog.funcs[fid_laws_FnCountsTurn]? = some f3 := func3
theorem ok_laws_FnCountsTurn : okFn prog f3 86 [] [(2, none)] mc_laws_FnCountsTurn = true := by kernel_rfl
def mc_laws_FnCountsOf : MCode :=
 .seq
 (.reg [
 ⟨some 2, none, .mov (.v (.b false))⟩] [0])
 (.seq
 (.seq
 (.reg [
 ⟨some 12, none, .mov (.t 0)⟩,
 ⟨some 13, none, .len (.t 12)⟩,
 ⟨some 14, none, .bin .gtr (.t 13) (.v (.i .i64 1048576))⟩] [0, 14])
 (.cond (.t 14)
 (.seq
 (.reg [
 ⟨some 2, none, .mov (.v (.b true))⟩] [2])
 (.ret))
 (.skip)))
 (.seq
 (.reg [
 ⟨some 16, none, .mov (.t 0)⟩,
 ⟨some 17, none, .call fid_spec_DrawCountsOf false [.im] [(.t 16)]⟩,
 ⟨some 15, none, .mov (.t 17)⟩,
 ⟨some 18, none, .extract (.t 15) 0⟩,
 ⟨some 19, none, .extract (.t 15) 1⟩,
 ⟨some 3, none, .alloc [.i .i64 0, .nl 2]⟩,
 ⟨none, none, .store 2 (.t 3) (.t 18)⟩,
 ⟨some 4, none, .mov (.t 19)⟩] [3, 4])
 (.seq
 (.reg [
 ⟨some 21, none, .load true 2 (.t 3)⟩,
 ⟨some 22, none, .mov (.t 4)⟩,
 ⟨some 23, none, .call fid_impl_CountsOf false [.im, .im] [(.t 21), (.t 22)]⟩,
 ⟨some 20, none, .mov (.t 23)⟩,
 ⟨some 24, none, .extract (.t 20) 0⟩,
 ⟨some 25, none, .extract (.t 20) 1⟩,
 ⟨some 5, none, .mov (.t 24)⟩,
 ⟨some 6, none, .mov (.t 25)⟩] [3, 4, 5, 6])
 (.seq
 (.reg [
 ⟨some 27, none, .load true 2 (.t 3)⟩,
 ⟨some 28, none, .mov (.t 4)⟩,
 ⟨some 29, none, .call fid_spec_CountsOf false [.im, .im] [(.t 27), (.t 28)]⟩,
 ⟨some 26, none, .mov (.t 29)⟩,
 ⟨some 30, none, .extract (.t 26) 0⟩,
 ⟨some 31, none, .extract (.t 26) 1⟩,
 ⟨some 7, none, .mov (.t 30)⟩,
 ⟨some 8, none, .mov (.t 31)⟩] [3, 4, 5, 6, 7, 8])
 (.seq
 (.seq
 (.reg [
 ⟨some 32, none, .mov (.t 5)⟩,
 ⟨some 33, none, .mov (.t 7)⟩,
 ⟨some 34, none, .call fid_laws_dyLists false [.im, .im] [(.t 32), (.t 33)]⟩,
 ⟨some 35, none, .un .not (.t 34)⟩,
 ⟨some 36, none, .mov (.t 35)⟩,
 ⟨some 37, (some (36, false)), .mov (.t 6)⟩,
 ⟨some 38, (some (36, false)), .mov (.t 8)⟩,
 ⟨some 39, (some (36, false)), .binb true (.t 37) (.t 38)⟩,
 ⟨some 40, none, .pick (.t 36) (.v (.b true)) (.t 39)⟩,
 ⟨some 41, none, .mov (.t 40)⟩,
 ⟨some 42, (some (41, false)), .mov (.t 6)⟩,
 ⟨some 43, (some (41, false)), .un .not (.t 42)⟩,
 ⟨some 44, none, .pick (.t 41) (.v (.b true)) (.t 43)⟩] [3, 4, 5, 6, 7, 8, 44])
 (.cond (.t 44)
 (.seq
 (.reg [
 ⟨some 45, none, .mov (.t 5)⟩,
 ⟨some 46, none, .mov (.t 7)⟩,
 ⟨some 47, none, .call fid_laws_dyLists false [.im, .im] [(.t 45), (.t 46)]⟩,
 ⟨some 48, none, .mov (.t 47)⟩,
 ⟨some 49, (some (48, true)), .mov (.t 6)⟩,
 ⟨some 50, (some (48, true)), .mov (.t 8)⟩,
 ⟨some 51, (some (48, true)), .binb false (.t 49) (.t 50)⟩,
 ⟨some 52, none, .pick (.t 48) (.t 51) (.v (.b false))⟩,
 ⟨some 2, none, .mov (.t 52)⟩] [2])
 (.ret))
 (.skip)))
 (.seq
 (.seq
 (.reg [
 ⟨some 9, none, .mov (.v (.i .i64 0))⟩] [3, 4, 5, 9])
 (.block 0
 (.loop [3, 4, 5, 9]
 (.seq
 (.seq
 (.reg [
 ⟨some 53, none, .mov (.t 9)⟩,
 ⟨some 54, none, .mov (.t 5)⟩,
 ⟨some 55, none, .len (.t 54)⟩,
 ⟨some 56, none, .bin .lss (.t 53) (.t 55)⟩] [3, 4, 5, 9, 56])
 (.cond (.t 56)
 (.skip)
 (.exit 0)))
 (.seq
 (.block 1
 (.seq
 (.draw [0, 0, 0, 6, 15, 31, 63, 63, 0, 383, 1023] [
 ⟨some 60, none, .load true 2 (.t 3)⟩,
 ⟨some 61, none, .mov (.t 4)⟩,
 ⟨some 62, none, .mov (.t 9)⟩,
 ⟨some 63, none, .slice 2 (.t 61) none (some (.t 62))⟩,
 ⟨some 64, none, .call fid_impl_RunTurns false [.im, .im] [(.t 60), (.t 63)]⟩,
 ⟨some 59, none, .mov (.t 64)⟩,
 ⟨some 65, none, .extract (.t 59) 0⟩,
 ⟨some 66, none, .extract (.t 59) 1⟩,
 ⟨some 10, none, .alloc [.i .i64 0, .nl 2]⟩,
 ⟨none, none, .store 2 (.t 10) (.t 65)⟩,
 ⟨some 11, none, .mov (.t 66)⟩] [3, 4, 5, 9, 10, 11])
 (.seq
 (.draw [0, 1, 3, 7, 7, 31, 63, 7, 135, 7, 903, 1927, 7, 6023, 14215, 32647, 65535, 131071, 262143] [
 ⟨some 67, none, .mov (.t 11)⟩,
 ⟨some 68, none, .un .not (.t 67)⟩,
 ⟨some 69, none, .mov (.t 68)⟩,
 ⟨some 70, (some (69, false)), .mov (.t 5)⟩,
 ⟨some 71, (some (69, false)), .mov (.t 9)⟩,
 ⟨some 72, (some (69, false)), .indexAddr 1 (.t 70) (.t 71)⟩,
 ⟨some 73, (some (69, false)), .load false 1 (.t 72)⟩,
 ⟨some 74, (some (69, false)), .load true 2 (.t 10)⟩,
 ⟨some 75, (some (69, false)), .call fid_impl_PartCount false [.im] [(.t 74)]⟩,
 ⟨some 76, (some (69, false)), .load true 2 (.t 10)⟩,
 ⟨some 77, (some (69, false)), .call fid_impl_BridgesOf false [.im] [(.t 76)]⟩,
 ⟨some 78, (some (69, false)), .len (.t 77)⟩,
 ⟨some 79, (some (69, false)), .load true 2 (.t 10)⟩,
 ⟨some 80, (some (69, false)), .call fid_impl_CutNodesOf false [.im] [(.t 79)]⟩,
 ⟨some 81, (some (69, false)), .len (.t 80)⟩,
 ⟨some 82, (some (69, false)), .buildSlice 1 [(.t 75), (.t 78), (.t 81)]⟩,
 ⟨some 83, (some (69, false)), .call fid_laws_dyInts false [.im, .im] [(.t 73), (.t 82)]⟩,
 ⟨some 84, (some (69, false)), .un .not (.t 83)⟩,
 ⟨some 85, none, .pick (.t 69) (.v (.b true)) (.t 84)⟩] [3, 4, 5, 9, 85])
 (.cond (.t 85)
 (.seq
 (.reg [
 ⟨some 2, none, .mov (.v (.b false))⟩] [2])
 (.ret))
 (.skip)))))
 (.reg [
 ⟨some 57, none, .mov (.t 9)⟩,
 ⟨some 58, none, .bin .add (.t 57) (.v (.i .i64 1))⟩,
 ⟨some 9, none, .mov (.t 58)⟩] [3, 4, 5, 9]))))))
 (.seq
 (.reg [
 ⟨some 86, none, .mov (.t 5)⟩,
 ⟨some 87, none, .len (.t 86)⟩,
 ⟨some 88, none, .mov (.t 4)⟩,
 ⟨some 89, none, .len (.t 88)⟩,
 ⟨some 90, none, .bin .add (.t 89) (.v (.i .i64 1))⟩,
 ⟨some 91, none, .bin .eql (.t 87) (.t 90)⟩,
 ⟨some 2, none, .mov (.t 91)⟩] [2])
 (.ret))))))))
theorem get_laws_FnCountsOf : prog.funcs[fid_laws_FnCountsOf]? = some f4 := func4
theorem ok_laws_FnCountsOf : okFn prog f4 92 [] [(2, none)] mc_laws_FnCountsOf = true := by kernel_rfl
def mc_laws_FnExactIsOneBlock : MCode :=
 .seq
 (.reg [
 ⟨some 1, none, .box 2 (.t 0)⟩,
 ⟨some 2, none, .mov (.v (.b false))⟩] [1])
 (.seq
 (.reg [
 ⟨some 3, none, .mov (.v (.i .i64 1048576))⟩] [1, 3])
 (.seq
 (.reg [
 ⟨some 7, none, .load true 2 (.t 1)⟩,
 ⟨some 8, none, .mov (.t 3)⟩,
 ⟨some 9, none, .call fid_laws_szGraph false [.im, .im] [(.t 7), (.t 8)]⟩,
 ⟨some 3, none, .mov (.t 9)⟩] [1, 3])
 (.seq
 (.seq
 (.reg [
 ⟨some 10, none, .mov (.t 3)⟩,
 ⟨some 11, none, .bin .lss (.t 10) (.v (.i .i64 0))⟩] [1, 11])
 (.cond (.t 11)
 (.seq
 (.reg [
 ⟨some 2, none, .mov (.v (.b true))⟩] [2])
 (.ret))
 (.skip)))
 (.seq
 (.reg [
 ⟨some 12, none, .load true 2 (.t 1)⟩,
 ⟨some 13, none, .call fid_laws_toGraph false [.im] [(.t 12)]⟩,
 ⟨some 14, none, .call fid_spec_IsOneBlock false [.im] [(.t 13)]⟩,
 ⟨some 4, none, .mov (.t 14)⟩] [1, 4])
 (.seq
 (.reg [
 ⟨some 15, none, .load true 2 (.t 1)⟩,
 ⟨some 16, none, .call fid_laws_toGraph false [.im] [(.t 15)]⟩,
 ⟨some 5, none, .alloc [.i .i64 0, .nl 2]⟩,
 ⟨none, none, .store 2 (.t 5) (.t 16)⟩] [1, 4, 5])
 (.seq
 (.reg [
 ⟨some 17, none, .load true 2 (.t 5)⟩,
 ⟨some 18, none, .call fid_impl_IsOneBlock false [.im] [(.t 17)]⟩,
 ⟨some 6, none, .mov (.t 18)⟩] [1, 4, 5, 6])
 (.seq
 (.seq
 (.reg [
 ⟨some 19, none, .mov (.t 6)⟩,
 ⟨some 20, none, .mov (.t 4)⟩,
 ⟨some 21, none, .binb true (.t 19) (.t 20)⟩] [1, 5, 21])
 (.cond (.t 21)
 (.seq
 (.reg [
 ⟨some 2, none, .mov (.v (.b false))⟩] [2])
 (.ret))
 (.skip)))
 (.seq
 (.seq
 (.draw [0, 0, 2, 7, 15] [
 ⟨some 22, none, .load true 2 (.t 5)⟩,
 ⟨some 23, none, .load true 2 (.t 1)⟩,
 ⟨some 24, none, .call fid_laws_toGraph false [.im] [(.t 23)]⟩,
 ⟨some 25, none, .call fid_laws_eqGraph false [.im, .im] [(.t 22), (.t 24)]⟩,
 ⟨some 26, none, .un .not (.t 25)⟩] [26])
 (.cond (.t 26)
 (.seq
 (.reg [
 ⟨some 2, none, .mov (.v (.b false))⟩] [2])
 (.ret))
 (.skip)))
 (.seq
 (.reg [
 ⟨some 2, none, .mov (.v (.b true))⟩] [2])
 (.ret))))))))))
theorem get_laws_FnExactIsOneBlock : prog.funcs[fid_laws_FnExactIsOneBlock]? = some f5 := func5
theorem ok_laws_FnExactIsOneBlock : okFn prog f5 27 [] [(2, none)] mc_laws_FnExactIsOneBlock = true := by kernel_rfl
def mc_laws_FnChainEdges : MCode :=
 .seq
 (.reg [
 ⟨some 2, none, .mov (.v (.b false))⟩] [0])
 (.seq
 (.seq
 (.reg [
 ⟨some 11, none, .mov (.t 0)⟩,
 ⟨some 12, none, .len (.t 11)⟩,
 ⟨some 13, none, .bin .gtr (.t 12) (.v (.i .i64 1048576))⟩] [0, 13])
 (.cond (.t 13)
 (.seq
 (.reg [
 ⟨some 2, none, .mov (.v (.b true))⟩] [2])
 (.ret))
 (.skip)))
 (.seq
 (.reg [
 ⟨some 14, none, .mov (.t 0)⟩,
 ⟨some 15, none, .call fid_spec_DrawChainEdges false [.im] [(.t 14)]⟩,
 ⟨some 3, none, .mov (.t 15)⟩] [3])
 (.seq
 (.reg [
 ⟨some 17, none, .mov (.t 3)⟩,
 ⟨some 18, none, .call fid_impl_ChainEdges false [.im] [(.t 17)]⟩,
 ⟨some 16, none, .mov (.t 18)⟩,
 ⟨some 19, none, .extract (.t 16) 0⟩,
 ⟨some 20, none, .extract (.t 16) 1⟩,
 ⟨some 4, none, .mov (.t 19)⟩,
 ⟨some 5, none, .mov (.t 20)⟩] [3, 4, 5])
 (.seq
 (.reg [
 ⟨some 22, none, .mov (.t 3)⟩,
 ⟨some 23, none, .call fid_spec_ChainEdges false [.im] [(.t 22)]⟩,
 ⟨some 21, none, .mov (.t 23)⟩,
 ⟨some 24, none, .extract (.t 21) 0⟩,
 ⟨some 25, none, .extract (.t 21) 1⟩,
 ⟨some 6, none, .mov (.t 24)⟩,
 ⟨some 7, none, .mov (.t 25)⟩] [3, 4, 5, 6, 7])
 (.seq
 (.seq
 (.reg [
 ⟨some 26, none, .mov (.t 4)⟩,
 ⟨some 27, none, .mov (.t 6)⟩,
 ⟨some 28, none, .call fid_laws_dyEdges false [.im, .im] [(.t 26), (.t 27)]⟩,
 ⟨some 29, none, .un .not (.t 28)⟩,
 ⟨some 30, none, .mov (.t 29)⟩,
 ⟨some 31, (some (30, false)), .mov (.t 5)⟩,
 ⟨some 32, (some (30, false)), .mov (.t 7)⟩,
 ⟨some 33, (some (30, false)), .binb true (.t 31) (.t 32)⟩,
 ⟨some 34, none, .pick (.t 30) (.v (.b true)) (.t 33)⟩,
 ⟨some 35, none, .mov (.t 34)⟩,
 ⟨some 36, (some (35, false)), .mov (.t 5)⟩,
 ⟨some 37, (some (35, false)), .un .not (.t 36)⟩,
 ⟨some 38, none, .pick (.t 35) (.v (.b true)) (.t 37)⟩,
 ⟨some 39, none, .mov (.t 38)⟩,
 ⟨some 40, (some (39, false)), .mov (.t 3)⟩,
 ⟨some 41, (some (39, false)), .len (.t 40)⟩,
 ⟨some 42, (some (39, false)), .bin .eql (.t 41) (.v (.i .i64 0))⟩,
 ⟨some 43, none, .pick (.t 39) (.v (.b true)) (.t 42)⟩] [3, 4, 5, 6, 7, 43])
 (.cond (.t 43)
 (.seq
 (.reg [
 ⟨some 44, none, .mov (.t 4)⟩,
 ⟨some 45, none, .mov (.t 6)⟩,
 ⟨some 46, none, .call fid_laws_dyEdges false [.im, .im] [(.t 44), (.t 45)]⟩,
 ⟨some 47, none, .mov (.t 46)⟩,
 ⟨some 48, (some (47, true)), .mov (.t 5)⟩,
 ⟨some 49, (some (47, true)), .mov (.t 7)⟩,
 ⟨some 50, (some (47, true)), .binb false (.t 48) (.t 49)⟩,
 ⟨some 51, none, .pick (.t 47) (.t 50) (.v (.b false))⟩,
 ⟨some 2, none, .mov (.t 51)⟩] [2])
 (.ret))
 (.skip)))
 (.seq
 (.seq
 (.reg [
 ⟨some 8, none, .mov (.v (.i .i64 0))⟩] [3, 4, 8])
 (.block 0
 (.loop [3, 4, 8]
 (.seq
 (.seq
 (.reg [
 ⟨some 52, none, .mov (.t 8)⟩,
 ⟨some 53, none, .mov (.t 4)⟩,
 ⟨some 54, none, .len (.t 53)⟩,
 ⟨some 55, none, .bin .lss (.t 52) (.t 54)⟩] [3, 4, 8, 55])
 (.cond (.t 55)
 (.skip)
 (.exit 0)))
 (.seq
 (.block 1
 (.seq
 (.draw [0, 0, 3, 7, 0, 0, 32, 112, 240, 511, 1023, 2047, 2047, 0, 12287, 32767] [
 ⟨some 59, none, .mov (.t 3)⟩,
 ⟨some 60, none, .mov (.t 8)⟩,
 ⟨some 61, none, .indexAddr 1 (.t 59) (.t 60)⟩,
 ⟨some 62, none, .load false 1 (.t 61)⟩,
 ⟨some 63, none, .mov (.t 3)⟩,
 ⟨some 64, none, .mov (.t 8)⟩,
 ⟨some 65, none, .bin .add (.t 64) (.v (.i .i64 1))⟩,
 ⟨some 66, none, .indexAddr 1 (.t 63) (.t 65)⟩,
 ⟨some 67, none, .load false 1 (.t 66)⟩,
 ⟨some 68, none, .call fid_impl_EdgeOf false [.im, .im] [(.t 62), (.t 67)]⟩,
 ⟨some 58, none, .mov (.t 68)⟩,
 ⟨some 69, none, .extract (.t 58) 0⟩,
 ⟨some 70, none, .extract (.t 58) 1⟩,
 ⟨some 9, none, .alloc [.i .i64 0, .i .i64 0]⟩,
 ⟨none, none, .store 2 (.t 9) (.t 69)⟩,
 ⟨some 10, none, .mov (.t 70)⟩] [3, 4, 8, 9, 10])
 (.seq
 (.draw [0, 1, 3, 7, 7, 7, 55, 119, 255, 511] [
 ⟨some 71, none, .mov (.t 10)⟩,
 ⟨some 72, none, .un .not (.t 71)⟩,
 ⟨some 73, none, .mov (.t 72)⟩,
 ⟨some 74, (some (73, false)), .load true 2 (.t 9)⟩,
 ⟨some 75, (some (73, false)), .mov (.t 4)⟩,
 ⟨some 76, (some (73, false)), .mov (.t 8)⟩,
 ⟨some 77, (some (73, false)), .indexAddr 2 (.t 75) (.t 76)⟩,
 ⟨some 78, (some (73, false)), .load true 2 (.t 77)⟩,
 ⟨some 79, (some (73, false)), .eqAgg true [true, true] (.t 74) (.t 78)⟩,
 ⟨some 80, none, .pick (.t 73) (.v (.b true)) (.t 79)⟩] [3, 4, 8, 80])
 (.cond (.t 80)
 (.seq
 (.reg [
 ⟨some 2, none, .mov (.v (.b false))⟩] [2])
 (.ret))
 (.skip)))))
 (.reg [
 ⟨some 56, none, .mov (.t 8)⟩,
 ⟨some 57, none, .bin .add (.t 56) (.v (.i .i64 1))⟩,
 ⟨some 8, none, .mov (.t 57)⟩] [3, 4, 8]))))))
 (.seq
 (.reg [
 ⟨some 81, none, .mov (.t 4)⟩,
 ⟨some 82, none, .len (.t 81)⟩,
 ⟨some 83, none, .mov (.t 3)⟩,
 ⟨some 84, none, .len (.t 83)⟩,
 ⟨some 85, none, .bin .sub (.t 84) (.v (.i .i64 1))⟩,
 ⟨some 86, none, .bin .eql (.t 82) (.t 85)⟩,
 ⟨some 2, none, .mov (.t 86)⟩] [2])
 (.ret))))))))
theorem get_laws_FnChainEdges : prog.funcs[fid_laws_FnChainEdges]? = some f6 := func6
theorem ok_laws_FnChainEdges : okFn prog f6 87 [] [(2, none)] mc_laws_FnChainEdges = true := by kernel_rfl
def mc_laws_FnExactChainOf : MCode :=
 .seq
 (.reg [
 ⟨some 2, none, .box 2 (.t 0)⟩,
 ⟨some 3, none, .box 2 (.t 1)⟩,
 ⟨some 4, none, .mov (.v (.b false))⟩] [2, 3])
 (.seq
 (.reg [
 ⟨some 5, none, .mov (.v (.i .i64 1048576))⟩] [2, 3, 5])
 (.seq
 (.reg [
 ⟨some 11, none, .load true 2 (.t 2)⟩,
 ⟨some 12, none, .mov (.t 5)⟩,
 ⟨some 13, none, .call fid_laws_szGraph false [.im, .im] [(.t 11), (.t 12)]⟩,
 ⟨some 5, none, .mov (.t 13)⟩] [2, 3, 5])
 (.seq
 (.seq
 (.reg [
 ⟨some 14, none, .mov (.t 5)⟩,
 ⟨some 15, none, .bin .lss (.t 14) (.v (.i .i64 0))⟩] [2, 3, 15])
 (.cond (.t 15)
 (.seq
 (.reg [
 ⟨some 4, none, .mov (.v (.b true))⟩] [4])
 (.ret))
 (.skip)))
 (.seq
 (.draw [0, 1, 0, 7, 15, 31, 63, 63, 127, 511] [
 ⟨some 17, none, .load true 2 (.t 2)⟩,
 ⟨some 18, none, .call fid_laws_toGraph false [.im] [(.t 17)]⟩,
 ⟨some 19, none, .load true 2 (.t 3)⟩,
 ⟨some 20, none, .call fid_laws_toEdge false [.im] [(.t 19)]⟩,
 ⟨some 21, none, .call fid_spec_ChainOf false [.im, .im] [(.t 18), (.t 20)]⟩,
 ⟨some 16, none, .mov (.t 21)⟩,
 ⟨some 22, none, .extract (.t 16) 0⟩,
 ⟨some 23, none, .extract (.t 16) 1⟩,
 ⟨some 6, none, .mov (.t 22)⟩,
 ⟨some 7, none, .mov (.t 23)⟩] [2, 3, 6, 7])
 (.seq
 (.reg [
 ⟨some 24, none, .load true 2 (.t 2)⟩,
 ⟨some 25, none, .call fid_laws_toGraph false [.im] [(.t 24)]⟩,
 ⟨some 8, none, .alloc [.i .i64 0, .nl 2]⟩,
 ⟨none, none, .store 2 (.t 8) (.t 25)⟩] [2, 3, 6, 7, 8])
 (.seq
 (.draw [0, 0, 2, 7, 15, 31, 31, 63, 255] [
 ⟨some 27, none, .load true 2 (.t 8)⟩,
 ⟨some 28, none, .load true 2 (.t 3)⟩,
 ⟨some 29, none, .call fid_laws_toEdge false [.im] [(.t 28)]⟩,
 ⟨some 30, none, .call fid_impl_ChainOf false [.im, .im] [(.t 27), (.t 29)]⟩,
 ⟨some 26, none, .mov (.t 30)⟩,
 ⟨some 31, none, .extract (.t 26) 0⟩,
 ⟨some 32, none, .extract (.t 26) 1⟩,
 ⟨some 9, none, .mov (.t 31)⟩,
 ⟨some 10, none, .mov (.t 32)⟩] [2, 6, 7, 8, 9, 10])
 (.seq
 (.seq
 (.reg [
 ⟨some 33, none, .mov (.t 9)⟩,
 ⟨some 34, none, .mov (.t 6)⟩,
 ⟨some 35, none, .bin .neq (.t 33) (.t 34)⟩,
 ⟨some 36, none, .mov (.t 35)⟩,
 ⟨some 37, (some (36, false)), .mov (.t 10)⟩,
 ⟨some 38, (some (36, false)), .mov (.t 7)⟩,
 ⟨some 39, (some (36, false)), .binb true (.t 37) (.t 38)⟩,
 ⟨some 40, none, .pick (.t 36) (.v (.b true)) (.t 39)⟩] [2, 8, 40])
 (.cond (.t 40)
 (.seq
 (.reg [
 ⟨some 4, none, .mov (.v (.b false))⟩] [4])
 (.ret))
 (.skip)))
 (.seq
 (.seq
 (.draw [0, 0, 2, 7, 15] [
 ⟨some 41, none, .load true 2 (.t 8)⟩,
 ⟨some 42, none, .load true 2 (.t 2)⟩,
 ⟨some 43, none, .call fid_laws_toGraph false [.im] [(.t 42)]⟩,
 ⟨some 44, none, .call fid_laws_eqGraph false [.im, .im] [(.t 41), (.t 43)]⟩,
 ⟨some 45, none, .un .not (.t 44)⟩] [45])
 (.cond (.t 45)
 (.seq
 (.reg [
 ⟨some 4, none, .mov (.v (.b false))⟩] [4])
 (.ret))
 (.skip)))
 (.seq
 (.reg [
 ⟨some 4, none, .mov (.v (.b true))⟩] [4])
 (.ret))))))))))
theorem get_laws_FnExactChainOf : prog.funcs[fid_laws_FnExactChainOf]? = some f7 := func7
theorem ok_laws_FnExactChainOf : okFn prog f7 46 [] [(4, none)] mc_laws_FnExactChainOf = true := by kernel_rfl
def mc_laws_FnExactRoundChains : MCode :=
 .seq
 (.reg [
 ⟨some 1, none, .box 2 (.t 0)⟩,
 ⟨some 2, none, .mov (.v (.b false))⟩] [1])
 (.seq
 (.reg [
 ⟨some 3, none, .mov (.v (.i .i64 1048576))⟩] [1, 3])
 (.seq
 (.reg [
 ⟨some 11, none, .load true 2 (.t 1)⟩,
 ⟨some 12, none, .mov (.t 3)⟩,
 ⟨some 13, none, .call fid_laws_szGraph false [.im, .im] [(.t 11), (.t 12)]⟩,
 ⟨some 3, none, .mov (.t 13)⟩] [1, 3])
 (.seq
 (.seq
 (.reg [
 ⟨some 14, none, .mov (.t 3)⟩,
 ⟨some 15, none, .bin .lss (.t 14) (.v (.i .i64 0))⟩] [1, 15])
 (.cond (.t 15)
 (.seq
 (.reg [
 ⟨some 2, none, .mov (.v (.b true))⟩] [2])
 (.ret))
 (.skip)))
 (.seq
 (.reg [
 ⟨some 16, none, .load true 2 (.t 1)⟩,
 ⟨some 17, none, .call fid_laws_toGraph false [.im] [(.t 16)]⟩,
 ⟨some 18, none, .call fid_spec_RoundChains false [.im] [(.t 17)]⟩,
 ⟨some 4, none, .mov (.t 18)⟩] [1, 4])
 (.seq
 (.reg [
 ⟨some 19, none, .load true 2 (.t 1)⟩,
 ⟨some 20, none, .call fid_laws_toGraph false [.im] [(.t 19)]⟩,
 ⟨some 5, none, .alloc [.i .i64 0, .nl 2]⟩,
 ⟨none, none, .store 2 (.t 5) (.t 20)⟩] [1, 4, 5])
 (.seq
 (.reg [
 ⟨some 21, none, .load true 2 (.t 5)⟩,
 ⟨some 22, none, .call fid_impl_RoundChains false [.im] [(.t 21)]⟩,
 ⟨some 6, none, .mov (.t 22)⟩] [1, 4, 5, 6])
 (.seq
 (.seq
 (.reg [
 ⟨some 23, none, .mov (.t 6)⟩,
 ⟨some 24, none, .mov (.t 4)⟩,
 ⟨some 25, none, .call fid_laws_eqIntS false [.im, .im] [(.t 23), (.t 24)]⟩,
 ⟨some 26, none, .un .not (.t 25)⟩] [1, 4, 5, 6, 26])
 (.cond (.t 26)
 (.seq
 (.reg [
 ⟨some 2, none, .mov (.v (.b false))⟩] [2])
 (.ret))
 (.skip)))
 (.seq
 (.seq
 (.draw [0, 0, 2, 7, 15] [
 ⟨some 27, none, .load true 2 (.t 5)⟩,
 ⟨some 28, none, .load true 2 (.t 1)⟩,
 ⟨some 29, none, .call fid_laws_toGraph false [.im] [(.t 28)]⟩,
 ⟨some 30, none, .call fid_laws_eqGraph false [.im, .im] [(.t 27), (.t 29)]⟩,
 ⟨some 31, none, .un .not (.t 30)⟩] [1, 4, 5, 6, 31])
 (.cond (.t 31)
 (.seq
 (.reg [
 ⟨some 2, none, .mov (.v (.b false))⟩] [2])
 (.ret))
 (.skip)))
 (.seq
 (.reg [
 ⟨some 7, none, .mov (.v (.i .i64 1))⟩] [1, 4, 5, 6, 7])
 (.seq
 (.reg [
 ⟨some 32, none, .load true 2 (.t 5)⟩,
 ⟨some 33, none, .mov (.t 7)⟩,
 ⟨some 34, none, .call fid_laws_markGraph false [.io, .im] [(.t 32), (.t 33)]⟩,
 ⟨some 7, none, .mov (.t 34)⟩] [1, 4, 6, 7])
 (.seq
 (.seq
 (.reg [
 ⟨some 35, none, .mov (.t 7)⟩,
 ⟨some 36, none, .bin .lss (.t 35) (.v (.i .i64 0))⟩,
 ⟨some 37, none, .mov (.t 36)⟩,
 ⟨some 38, (some (37, false)), .mov (.t 6)⟩,
 ⟨some 39, (some (37, false)), .mov (.t 4)⟩,
 ⟨some 40, (some (37, false)), .call fid_laws_eqIntS false [.im, .im] [(.t 38), (.t 39)]⟩,
 ⟨some 41, (some (37, false)), .un .not (.t 40)⟩,
 ⟨some 42, none, .pick (.t 37) (.v (.b true)) (.t 41)⟩] [1, 4, 6, 42])
 (.cond (.t 42)
 (.seq
 (.reg [
 ⟨some 2, none, .mov (.v (.b false))⟩] [2])
 (.ret))
 (.skip)))
 (.seq
 (.reg [
 ⟨some 8, none, .mov (.v (.i .i64 1))⟩] [1, 4, 6, 8])
 (.seq
 (.reg [
 ⟨some 43, none, .mov (.t 6)⟩,
 ⟨some 44, none, .mov (.t 8)⟩,
 ⟨some 45, none, .call fid_laws_markIntS false [.io, .im] [(.t 43), (.t 44)]⟩,
 ⟨some 8, none, .mov (.t 45)⟩] [1, 4, 6, 8])
 (.seq
 (.reg [
 ⟨some 9, none, .mov (.v (.i .i64 1))⟩] [1, 4, 6, 8, 9])
 (.seq
 (.reg [
 ⟨some 46, none, .mov (.t 6)⟩,
 ⟨some 47, none, .mov (.t 9)⟩,
 ⟨some 48, none, .call fid_laws_heldIntS false [.im, .im] [(.t 46), (.t 47)]⟩,
 ⟨some 9, none, .mov (.t 48)⟩] [1, 4, 6, 8, 9])
 (.seq
 (.seq
 (.reg [
 ⟨some 49, none, .mov (.t 9)⟩,
 ⟨some 50, none, .bin .lss (.t 49) (.v (.i .i64 0))⟩] [1, 4, 6, 8, 9, 50])
 (.cond (.t 50)
 (.seq
 (.reg [
 ⟨some 2, none, .mov (.v (.b false))⟩] [2])
 (.ret))
 (.skip)))
 (.seq
 (.seq
 (.reg [
 ⟨some 51, none, .mov (.t 9)⟩,
 ⟨some 52, none, .mov (.t 8)⟩,
 ⟨some 53, none, .bin .neq (.t 51) (.t 52)⟩] [1, 4, 6, 8, 53])
 (.cond (.t 53)
 (.seq
 (.reg [
 ⟨some 2, none, .mov (.v (.b false))⟩] [2])
 (.ret))
 (.skip)))
 (.seq
 (.reg [
 ⟨some 54, none, .load true 2 (.t 1)⟩,
 ⟨some 55, none, .call fid_laws_toGraph false [.im] [(.t 54)]⟩,
 ⟨some 56, none, .call fid_impl_RoundChains false [.im] [(.t 55)]⟩,
 ⟨some 10, none, .mov (.t 56)⟩] [4, 6, 8, 10])
 (.seq
 (.seq
 (.reg [
 ⟨some 57, none, .mov (.t 10)⟩,
 ⟨some 58, none, .mov (.t 4)⟩,
 ⟨some 59, none, .call fid_laws_eqIntS false [.im, .im] [(.t 57), (.t 58)]⟩,
 ⟨some 60, none, .un .not (.t 59)⟩] [6, 8, 60])
 (.cond (.t 60)
 (.seq
 (.reg [
 ⟨some 2, none, .mov (.v (.b false))⟩] [2])
 (.ret))
 (.skip)))
 (.seq
 (.reg [
 ⟨some 9, none, .mov (.v (.i .i64 1))⟩] [6, 8, 9])
 (.seq
 (.reg [
 ⟨some 61, none, .mov (.t 6)⟩,
 ⟨some 62, none, .mov (.t 9)⟩,
 ⟨some 63, none, .call fid_laws_heldIntS false [.im, .im] [(.t 61), (.t 62)]⟩,
 ⟨some 9, none, .mov (.t 63)⟩] [8, 9])
 (.seq
 (.seq
 (.reg [
 ⟨some 64, none, .mov (.t 9)⟩,
 ⟨some 65, none, .bin .lss (.t 64) (.v (.i .i64 0))⟩] [8, 9, 65])
 (.cond (.t 65)
 (.seq
 (.reg [
 ⟨some 2, none, .mov (.v (.b false))⟩] [2])
 (.ret))
 (.skip)))
 (.seq
 (.seq
 (.reg [
 ⟨some 66, none, .mov (.t 9)⟩,
 ⟨some 67, none, .mov (.t 8)⟩,
 ⟨some 68, none, .bin .neq (.t 66) (.t 67)⟩] [68])
 (.cond (.t 68)
 (.seq
 (.reg [
 ⟨some 2, none, .mov (.v (.b false))⟩] [2])
 (.ret))
 (.skip)))
 (.seq
 (.reg [
 ⟨some 2, none, .mov (.v (.b true))⟩] [2])
 (.ret)))))))))))))))))))))))))
theorem get_laws_FnExactRoundChains : prog.funcs[fid_laws_FnExactRoundChains]? = some f8 := func8
theorem ok_laws_FnExactRoundChains : okFn prog f8 69 [] [(2, none)] mc_laws_FnExactRoundChains = true := by kernel_rfl
def mc_laws_FnChainNodes : MCode :=
 .seq
 (.reg [
 ⟨some 2, none, .mov (.v (.b false))⟩] [0])
 (.seq
 (.seq
 (.reg [
 ⟨some 8, none, .mov (.t 0)⟩,
 ⟨some 9, none, .len (.t 8)⟩,
 ⟨some 10, none, .bin .gtr (.t 9) (.v (.i .i64 1048576))⟩] [0, 10])
 (.cond (.t 10)
 (.seq
 (.reg [
 ⟨some 2, none, .mov (.v (.b true))⟩] [2])
 (.ret))
 (.skip)))
 (.seq
 (.reg [
 ⟨some 11, none, .mov (.t 0)⟩,
 ⟨some 12, none, .call fid_spec_DrawChainsOf false [.im] [(.t 11)]⟩,
 ⟨some 3, none, .alloc [.i .i64 0, .nl 2]⟩,
 ⟨none, none, .store 2 (.t 3) (.t 12)⟩] [3])
 (.seq
 (.reg [
 ⟨some 13, none, .load true 2 (.t 3)⟩,
 ⟨some 14, none, .call fid_impl_ChainsOf false [.im] [(.t 13)]⟩,
 ⟨some 4, none, .mov (.t 14)⟩] [3, 4])
 (.seq
 (.seq
 (.reg [
 ⟨some 15, none, .mov (.t 4)⟩,
 ⟨some 16, none, .load true 2 (.t 3)⟩,
 ⟨some 17, none, .call fid_spec_ChainsOf false [.im] [(.t 16)]⟩,
 ⟨some 18, none, .call fid_laws_dyLists false [.im, .im] [(.t 15), (.t 17)]⟩,
 ⟨some 19, none, .un .not (.t 18)⟩,
 ⟨some 20, none, .mov (.t 19)⟩,
 ⟨some 21, (some (20, false)), .load true 2 (.t 3)⟩,
 ⟨some 22, (some (20, false)), .call fid_impl_GraphValid false [.im] [(.t 21)]⟩,
 ⟨some 23, (some (20, false)), .un .not (.t 22)⟩,
 ⟨some 24, none, .pick (.t 20) (.v (.b true)) (.t 23)⟩] [3, 4, 24])
 (.cond (.t 24)
 (.seq
 (.reg [
 ⟨some 25, none, .mov (.t 4)⟩,
 ⟨some 26, none, .load true 2 (.t 3)⟩,
 ⟨some 27, none, .call fid_spec_ChainsOf false [.im] [(.t 26)]⟩,
 ⟨some 28, none, .call fid_laws_dyLists false [.im, .im] [(.t 25), (.t 27)]⟩,
 ⟨some 2, none, .mov (.t 28)⟩] [2])
 (.ret))
 (.skip)))
 (.seq
 (.seq
 (.reg [
 ⟨some 5, none, .mov (.v (.i .i64 0))⟩] [4, 5])
 (.block 0
 (.loop [4, 5]
 (.seq
 (.seq
 (.reg [
 ⟨some 29, none, .mov (.t 5)⟩,
 ⟨some 30, none, .mov (.t 4)⟩,
 ⟨some 31, none, .len (.t 30)⟩,
 ⟨some 32, none, .bin .lss (.t 29) (.t 31)⟩] [4, 5, 32])
 (.cond (.t 32)
 (.skip)
 (.exit 0)))
 (.seq
 (.block 1
 (.seq
 (.reg [
 ⟨some 35, none, .mov (.t 4)⟩,
 ⟨some 36, none, .mov (.t 5)⟩,
 ⟨some 37, none, .indexAddr 1 (.t 35) (.t 36)⟩,
 ⟨some 38, none, .load false 1 (.t 37)⟩,
 ⟨some 6, none, .mov (.t 38)⟩] [4, 5, 6])
 (.seq
 (.reg [
 ⟨some 7, none, .mov (.v (.i .i64 1))⟩] [4, 5, 6, 7])
 (.block 2
 (.loop [4, 5, 6, 7]
 (.seq
 (.seq
 (.reg [
 ⟨some 39, none, .mov (.t 7)⟩,
 ⟨some 40, none, .mov (.t 6)⟩,
 ⟨some 41, none, .len (.t 40)⟩,
 ⟨some 42, none, .bin .sub (.t 41) (.v (.i .i64 1))⟩,
 ⟨some 43, none, .bin .lss (.t 39) (.t 42)⟩] [4, 5, 6, 7, 43])
 (.cond (.t 43)
 (.skip)
 (.exit 2)))
 (.seq
 (.block 3
 (.seq
 (.draw [0, 0, 3, 0, 0, 24, 56, 127, 255, 511, 511, 2047, 4095, 511, 511, 16895, 49663, 123391, 254463, 524287, 1048575] [
 ⟨some 46, none, .mov (.t 6)⟩,
 ⟨some 47, none, .mov (.t 7)⟩,
 ⟨some 48, none, .slice 1 (.t 46) none (some (.t 47))⟩,
 ⟨some 49, none, .mov (.t 6)⟩,
 ⟨some 50, none, .mov (.t 7)⟩,
 ⟨some 51, none, .indexAddr 1 (.t 49) (.t 50)⟩,
 ⟨some 52, none, .load false 1 (.t 51)⟩,
 ⟨some 53, none, .call fid_laws_dyIn false [.im, .im] [(.t 48), (.t 52)]⟩,
 ⟨some 54, none, .mov (.t 53)⟩,
 ⟨some 55, (some (54, false)), .mov (.t 6)⟩,
 ⟨some 56, (some (54, false)), .mov (.t 7)⟩,
 ⟨some 57, (some (54, false)), .indexAddr 1 (.t 55) (.t 56)⟩,
 ⟨some 58, (some (54, false)), .load false 1 (.t 57)⟩,
 ⟨some 59, (some (54, false)), .mov (.t 6)⟩,
 ⟨some 60, (some (54, false)), .mov (.t 6)⟩,
 ⟨some 61, (some (54, false)), .len (.t 60)⟩,
 ⟨some 62, (some (54, false)), .bin .sub (.t 61) (.v (.i .i64 1))⟩,
 ⟨some 63, (some (54, false)), .indexAddr 1 (.t 59) (.t 62)⟩,
 ⟨some 64, (some (54, false)), .load false 1 (.t 63)⟩,
 ⟨some 65, (some (54, false)), .bin .eql (.t 58) (.t 64)⟩,
 ⟨some 66, none, .pick (.t 54) (.v (.b true)) (.t 65)⟩] [4, 5, 6, 7, 66])
 (.cond (.t 66)
 (.seq
 (.reg [
 ⟨some 2, none, .mov (.v (.b false))⟩] [2])
 (.ret))
 (.skip))))
 (.reg [
 ⟨some 44, none, .mov (.t 7)⟩,
 ⟨some 45, none, .bin .add (.t 44) (.v (.i .i64 1))⟩,
 ⟨some 7, none, .mov (.t 45)⟩] [4, 5, 6, 7]))))))))
 (.reg [
 ⟨some 33, none, .mov (.t 5)⟩,
 ⟨some 34, none, .bin .add (.t 33) (.v (.i .i64 1))⟩,
 ⟨some 5, none, .mov (.t 34)⟩] [4, 5]))))))
 (.seq
 (.reg [
 ⟨some 2, none, .mov (.v (.b true))⟩] [2])
 (.ret)))))))
theorem get_laws_FnChainNodes : prog.funcs[fid_laws_FnChainNodes]? = some f9 := func9
theorem ok_laws_FnChainNodes : okFn prog f9 67 [] [(2, none)] mc_laws_FnChainNodes = true := by kernel_rfl
def mc_laws_FnChainsEars : MCode :=
 .seq
 (.reg [
 ⟨some 2, none, .mov (.v (.b false))⟩] [0])
 (.seq
 (.seq
 (.reg [
 ⟨some 10, none, .mov (.t 0)⟩,
 ⟨some 11, none, .len (.t 10)⟩,
 ⟨some 12, none, .bin .gtr (.t 11) (.v (.i .i64 1048576))⟩] [0, 12])
 (.cond (.t 12)
 (.seq
 (.reg [
 ⟨some 2, none, .mov (.v (.b true))⟩] [2])
 (.ret))
 (.skip)))
 (.seq
 (.reg [
 ⟨some 13, none, .mov (.t 0)⟩,
 ⟨some 14, none, .call fid_spec_DrawIsSafeGraph false [.im] [(.t 13)]⟩,
 ⟨some 3, none, .alloc [.i .i64 0, .nl 2]⟩,
 ⟨none, none, .store 2 (.t 3) (.t 14)⟩] [3])
 (.seq
 (.reg [
 ⟨some 15, none, .load true 2 (.t 3)⟩,
 ⟨some 16, none, .call fid_impl_IsSafeGraph false [.im] [(.t 15)]⟩,
 ⟨some 4, none, .mov (.t 16)⟩] [3, 4])
 (.seq
 (.seq
 (.reg [
 ⟨some 17, none, .mov (.t 4)⟩,
 ⟨some 18, none, .load true 2 (.t 3)⟩,
 ⟨some 19, none, .call fid_spec_IsSafeGraph false [.im] [(.t 18)]⟩,
 ⟨some 20, none, .binb true (.t 17) (.t 19)⟩,
 ⟨some 21, none, .mov (.t 20)⟩,
 ⟨some 22, (some (21, false)), .mov (.t 4)⟩,
 ⟨some 23, (some (21, false)), .un .not (.t 22)⟩,
 ⟨some 24, none, .pick (.t 21) (.v (.b true)) (.t 23)⟩] [3, 4, 24])
 (.cond (.t 24)
 (.seq
 (.reg [
 ⟨some 25, none, .mov (.t 4)⟩,
 ⟨some 26, none, .load true 2 (.t 3)⟩,
 ⟨some 27, none, .call fid_spec_IsSafeGraph false [.im] [(.t 26)]⟩,
 ⟨some 28, none, .binb false (.t 25) (.t 27)⟩,
 ⟨some 2, none, .mov (.t 28)⟩] [2])
 (.ret))
 (.skip)))
 (.seq
 (.reg [
 ⟨some 29, none, .load true 2 (.t 3)⟩,
 ⟨some 30, none, .call fid_impl_ChainsOf false [.im] [(.t 29)]⟩,
 ⟨some 5, none, .mov (.t 30)⟩] [3, 5])
 (.seq
 (.reg [
 ⟨some 31, none, .buildSlice 1 []⟩,
 ⟨some 6, none, .mov (.t 31)⟩] [3, 5, 6])
 (.seq
 (.seq
 (.reg [
 ⟨some 7, none, .mov (.v (.i .i64 0))⟩] [3, 5, 6, 7])
 (.block 0
 (.loop [3, 5, 6, 7]
 (.seq
 (.seq
 (.reg [
 ⟨some 32, none, .mov (.t 7)⟩,
 ⟨some 33, none, .mov (.t 5)⟩,
 ⟨some 34, none, .len (.t 33)⟩,
 ⟨some 35, none, .bin .lss (.t 32) (.t 34)⟩] [3, 5, 6, 7, 35])
 (.cond (.t 35)
 (.skip)
 (.exit 0)))
 (.seq
 (.block 1
 (.seq
 (.reg [
 ⟨some 38, none, .mov (.t 5)⟩,
 ⟨some 39, none, .mov (.t 7)⟩,
 ⟨some 40, none, .indexAddr 1 (.t 38) (.t 39)⟩,
 ⟨some 41, none, .load false 1 (.t 40)⟩,
 ⟨some 8, none, .mov (.t 41)⟩] [3, 5, 6, 7, 8])
 (.seq
 (.seq
 (.reg [
 ⟨some 42, none, .mov (.t 7)⟩,
 ⟨some 43, none, .bin .gtr (.t 42) (.v (.i .i64 0))⟩,
 ⟨some 44, none, .mov (.t 43)⟩,
 ⟨some 45, (some (44, true)), .mov (.t 6)⟩,
 ⟨some 46, (some (44, true)), .mov (.t 8)⟩,
 ⟨some 47, (some (44, true)), .indexAddr 1 (.t 46) (.v (.i .i64 0))⟩,
 ⟨some 48, (some (44, true)), .load false 1 (.t 47)⟩,
 ⟨some 49, (some (44, true)), .call fid_laws_dyIn false [.im, .im] [(.t 45), (.t 48)]⟩,
 ⟨some 50, (some (44, true)), .un .not (.t 49)⟩,
 ⟨some 51, (some (44, true)), .mov (.t 50)⟩,
 ⟨some 52, (some (51, false)), .mov (.t 6)⟩,
 ⟨some 53, (some (51, false)), .mov (.t 8)⟩,
 ⟨some 54, (some (51, false)), .mov (.t 8)⟩,
 ⟨some 55, (some (51, false)), .len (.t 54)⟩,
 ⟨some 56, (some (51, false)), .bin .sub (.t 55) (.v (.i .i64 1))⟩,
 ⟨some 57, (some (51, false)), .indexAddr 1 (.t 53) (.t 56)⟩,
 ⟨some 58, (some (51, false)), .load false 1 (.t 57)⟩,
 ⟨some 59, (some (51, false)), .call fid_laws_dyIn false [.im, .im] [(.t 52), (.t 58)]⟩,
 ⟨some 60, (some (51, false)), .un .not (.t 59)⟩,
 ⟨some 61, (some (44, true)), .pick (.t 51) (.v (.b true)) (.t 60)⟩,
 ⟨some 62, none, .pick (.t 44) (.t 61) (.v (.b false))⟩] [3, 5, 6, 7, 8, 62])
 (.cond (.t 62)
 (.seq
 (.reg [
 ⟨some 2, none, .mov (.v (.b false))⟩] [2])
 (.ret))
 (.skip)))
 (.reg [
 ⟨some 63, none, .mov (.t 6)⟩,
 ⟨some 64, none, .mov (.t 8)⟩,
 ⟨some 65, none, .append 1 8 false (.t 63) (.t 64)⟩,
 ⟨some 6, none, .mov (.t 65)⟩] [3, 5, 6, 7]))))
 (.reg [
 ⟨some 36, none, .mov (.t 7)⟩,
 ⟨some 37, none, .bin .add (.t 36) (.v (.i .i64 1))⟩,
 ⟨some 7, none, .mov (.t 37)⟩] [3, 5, 6, 7]))))))
 (.seq
 (.seq
 (.reg [
 ⟨some 9, none, .mov (.v (.i .i64 0))⟩] [3, 6, 9])
 (.block 2
 (.loop [3, 6, 9]
 (.seq
 (.seq
 (.reg [
 ⟨some 66, none, .mov (.t 9)⟩,
 ⟨some 67, none, .fieldAddr 0 (.t 3)⟩,
 ⟨some 68, none, .load false 1 (.t 67)⟩,
 ⟨some 69, none, .bin .lss (.t 66) (.t 68)⟩,
 ⟨some 70, none, .mov (.t 69)⟩,
 ⟨some 71, (some (70, true)), .fieldAddr 0 (.t 3)⟩,
 ⟨some 72, (some (70, true)), .load false 1 (.t 71)⟩,
 ⟨some 73, (some (70, true)), .bin .gtr (.t 72) (.v (.i .i64 1))⟩,
 ⟨some 74, none, .pick (.t 70) (.t 73) (.v (.b false))⟩] [3, 6, 9, 74])
 (.cond (.t 74)
 (.skip)
 (.exit 2)))
 (.seq
 (.block 3
 (.seq
 (.reg [
 ⟨some 77, none, .mov (.t 6)⟩,
 ⟨some 78, none, .mov (.t 9)⟩,
 ⟨some 79, none, .call fid_laws_dyIn false [.im, .im] [(.t 77), (.t 78)]⟩,
 ⟨some 80, none, .un .not (.t 79)⟩] [3, 6, 9, 80])
 (.cond (.t 80)
 (.seq
 (.reg [
 ⟨some 2, none, .mov (.v (.b false))⟩] [2])
 (.ret))
 (.skip))))
 (.reg [
 ⟨some 75, none, .mov (.t 9)⟩,
 ⟨some 76, none, .bin .add (.t 75) (.v (.i .i64 1))⟩,
 ⟨some 9, none, .mov (.t 76)⟩] [3, 6, 9]))))))
 (.seq
 (.reg [
 ⟨some 2, none, .mov (.v (.b true))⟩] [2])
 (.ret))))))))))
theorem get_laws_FnChainsEars : prog.funcs[fid_laws_FnChainsEars]? = some f10 := func10
theorem ok_laws_FnChainsEars : okFn prog f10 81 [] [(2, none)] mc_laws_FnChainsEars = true := by kernel_rfl
def mc_laws_FnChainsOf : MCode :=
 .seq
 (.reg [
 ⟨some 2, none, .mov (.v (.b false))⟩] [0])
 (.seq
 (.seq
 (.reg [
 ⟨some 9, none, .mov (.t 0)⟩,
 ⟨some 10, none, .len (.t 9)⟩,
 ⟨some 11, none, .bin .gtr (.t 10) (.v (.i .i64 1048576))⟩] [0, 11])
 (.cond (.t 11)
 (.seq
 (.reg [
 ⟨some 2, none, .mov (.v (.b true))⟩] [2])
 (.ret))
 (.skip)))
 (.seq
 (.reg [
 ⟨some 12, none, .mov (.t 0)⟩,
 ⟨some 13, none, .call fid_spec_DrawChainsOf false [.im] [(.t 12)]⟩,
 ⟨some 3, none, .alloc [.i .i64 0, .nl 2]⟩,
 ⟨none, none, .store 2 (.t 3) (.t 13)⟩] [3])
 (.seq
 (.reg [
 ⟨some 14, none, .load true 2 (.t 3)⟩,
 ⟨some 15, none, .call fid_impl_ChainsOf false [.im] [(.t 14)]⟩,
 ⟨some 4, none, .mov (.t 15)⟩] [3, 4])
 (.seq
 (.seq
 (.reg [
 ⟨some 16, none, .mov (.t 4)⟩,
 ⟨some 17, none, .load true 2 (.t 3)⟩,
 ⟨some 18, none, .call fid_spec_ChainsOf false [.im] [(.t 17)]⟩,
 ⟨some 19, none, .call fid_laws_dyLists false [.im, .im] [(.t 16), (.t 18)]⟩,
 ⟨some 20, none, .un .not (.t 19)⟩,
 ⟨some 21, none, .mov (.t 20)⟩,
 ⟨some 22, (some (21, false)), .load true 2 (.t 3)⟩,
 ⟨some 23, (some (21, false)), .call fid_impl_GraphValid false [.im] [(.t 22)]⟩,
 ⟨some 24, (some (21, false)), .un .not (.t 23)⟩,
 ⟨some 25, none, .pick (.t 21) (.v (.b true)) (.t 24)⟩] [3, 4, 25])
 (.cond (.t 25)
 (.seq
 (.reg [
 ⟨some 26, none, .mov (.t 4)⟩,
 ⟨some 27, none, .load true 2 (.t 3)⟩,
 ⟨some 28, none, .call fid_spec_ChainsOf false [.im] [(.t 27)]⟩,
 ⟨some 29, none, .call fid_laws_dyLists false [.im, .im] [(.t 26), (.t 28)]⟩,
 ⟨some 30, none, .mov (.t 29)⟩,
 ⟨some 31, (some (30, true)), .mov (.t 4)⟩,
 ⟨some 32, (some (30, true)), .len (.t 31)⟩,
 ⟨some 33, (some (30, true)), .bin .eql (.t 32) (.v (.i .i64 0))⟩,
 ⟨some 34, none, .pick (.t 30) (.t 33) (.v (.b false))⟩,
 ⟨some 2, none, .mov (.t 34)⟩] [2])
 (.ret))
 (.skip)))
 (.seq
 (.seq
 (.reg [
 ⟨some 5, none, .mov (.v (.i .i64 0))⟩] [3, 4, 5])
 (.block 0
 (.loop [3, 4, 5]
 (.seq
 (.seq
 (.reg [
 ⟨some 35, none, .mov (.t 5)⟩,
 ⟨some 36, none, .mov (.t 4)⟩,
 ⟨some 37, none, .len (.t 36)⟩,
 ⟨some 38, none, .bin .lss (.t 35) (.t 37)⟩] [3, 4, 5, 38])
 (.cond (.t 38)
 (.skip)
 (.exit 0)))
 (.seq
 (.block 1
 (.seq
 (.reg [
 ⟨some 42, none, .mov (.t 4)⟩,
 ⟨some 43, none, .mov (.t 5)⟩,
 ⟨some 44, none, .indexAddr 1 (.t 42) (.t 43)⟩,
 ⟨some 45, none, .load false 1 (.t 44)⟩,
 ⟨some 46, none, .call fid_impl_ChainEdges false [.im] [(.t 45)]⟩,
 ⟨some 41, none, .mov (.t 46)⟩,
 ⟨some 47, none, .extract (.t 41) 0⟩,
 ⟨some 48, none, .extract (.t 41) 1⟩,
 ⟨some 6, none, .mov (.t 47)⟩,
 ⟨some 7, none, .mov (.t 48)⟩] [3, 4, 5, 6, 7])
 (.seq
 (.seq
 (.reg [
 ⟨some 49, none, .mov (.t 7)⟩,
 ⟨some 50, none, .un .not (.t 49)⟩,
 ⟨some 51, none, .mov (.t 50)⟩,
 ⟨some 52, (some (51, false)), .mov (.t 4)⟩,
 ⟨some 53, (some (51, false)), .mov (.t 5)⟩,
 ⟨some 54, (some (51, false)), .indexAddr 1 (.t 52) (.t 53)⟩,
 ⟨some 55, (some (51, false)), .load false 1 (.t 54)⟩,
 ⟨some 56, (some (51, false)), .len (.t 55)⟩,
 ⟨some 57, (some (51, false)), .bin .lss (.t 56) (.v (.i .i64 2))⟩,
 ⟨some 58, none, .pick (.t 51) (.v (.b true)) (.t 57)⟩] [3, 4, 5, 6, 58])
 (.cond (.t 58)
 (.seq
 (.reg [
 ⟨some 2, none, .mov (.v (.b false))⟩] [2])
 (.ret))
 (.skip)))
 (.seq
 (.reg [
 ⟨some 8, none, .mov (.v (.i .i64 0))⟩] [3, 4, 5, 6, 8])
 (.block 2
 (.loop [3, 4, 5, 6, 8]
 (.seq
 (.seq
 (.reg [
 ⟨some 59, none, .mov (.t 8)⟩,
 ⟨some 60, none, .mov (.t 6)⟩,
 ⟨some 61, none, .len (.t 60)⟩,
 ⟨some 62, none, .bin .lss (.t 59) (.t 61)⟩] [3, 4, 5, 6, 8, 62])
 (.cond (.t 62)
 (.skip)
 (.exit 2)))
 (.seq
 (.block 3
 (.seq
 (.draw [0, 0, 0, 6, 14, 31, 63] [
 ⟨some 65, none, .load true 2 (.t 3)⟩,
 ⟨some 66, none, .mov (.t 6)⟩,
 ⟨some 67, none, .mov (.t 8)⟩,
 ⟨some 68, none, .indexAddr 2 (.t 66) (.t 67)⟩,
 ⟨some 69, none, .load true 2 (.t 68)⟩,
 ⟨some 70, none, .call fid_impl_HasEdge false [.im, .im] [(.t 65), (.t 69)]⟩,
 ⟨some 71, none, .un .not (.t 70)⟩] [3, 4, 5, 6, 8, 71])
 (.cond (.t 71)
 (.seq
 (.reg [
 ⟨some 2, none, .mov (.v (.b false))⟩] [2])
 (.ret))
 (.skip))))
 (.reg [
 ⟨some 63, none, .mov (.t 8)⟩,
 ⟨some 64, none, .bin .add (.t 63) (.v (.i .i64 1))⟩,
 ⟨some 8, none, .mov (.t 64)⟩] [3, 4, 5, 6, 8])))))))))
 (.reg [
 ⟨some 39, none, .mov (.t 5)⟩,
 ⟨some 40, none, .bin .add (.t 39) (.v (.i .i64 1))⟩,
 ⟨some 5, none, .mov (.t 40)⟩] [3, 4, 5]))))))
 (.seq
 (.draw [0, 1, 0, 4, 12, 0, 32, 96, 252, 511, 1023] [
 ⟨some 72, none, .mov (.t 4)⟩,
 ⟨some 73, none, .len (.t 72)⟩,
 ⟨some 74, none, .fieldAddr 1 (.t 3)⟩,
 ⟨some 75, none, .load false 1 (.t 74)⟩,
 ⟨some 76, none, .len (.t 75)⟩,
 ⟨some 77, none, .load true 2 (.t 3)⟩,
 ⟨some 78, none, .call fid_impl_ForestOf false [.im] [(.t 77)]⟩,
 ⟨some 79, none, .len (.t 78)⟩,
 ⟨some 80, none, .bin .sub (.t 76) (.t 79)⟩,
 ⟨some 81, none, .bin .eql (.t 73) (.t 80)⟩,
 ⟨some 2, none, .mov (.t 81)⟩] [2])
 (.ret)))))))
theorem get_laws_FnChainsOf : prog.funcs[fid_laws_FnChainsOf]? = some f11 := func11
theorem ok_laws_FnChainsOf : okFn prog f11 82 [] [(2, none)] mc_laws_FnChainsOf = true := by kernel_rfl
def mc_laws_FnIsSafeGraph : MCode :=
 .seq
 (.reg [
 ⟨some 2, none, .mov (.v (.b false))⟩] [0])
 (.seq
 (.seq
 (.reg [
 ⟨some 9, none, .mov (.t 0)⟩,
 ⟨some 10, none, .len (.t 9)⟩,
 ⟨some 11, none, .bin .gtr (.t 10) (.v (.i .i64 1048576))⟩] [0, 11])
 (.cond (.t 11)
 (.seq
 (.reg [
 ⟨some 2, none, .mov (.v (.b true))⟩] [2])
 (.ret))
 (.skip)))
 (.seq
 (.reg [
 ⟨some 12, none, .mov (.t 0)⟩,
 ⟨some 13, none, .call fid_spec_DrawIsSafeGraph false [.im] [(.t 12)]⟩,
 ⟨some 3, none, .alloc [.i .i64 0, .nl 2]⟩,
 ⟨none, none, .store 2 (.t 3) (.t 13)⟩] [3])
 (.seq
 (.reg [
 ⟨some 14, none, .load true 2 (.t 3)⟩,
 ⟨some 15, none, .call fid_impl_IsSafeGraph false [.im] [(.t 14)]⟩,
 ⟨some 4, none, .mov (.t 15)⟩] [3, 4])
 (.seq
 (.seq
 (.reg [
 ⟨some 16, none, .mov (.t 4)⟩,
 ⟨some 17, none, .load true 2 (.t 3)⟩,
 ⟨some 18, none, .call fid_spec_IsSafeGraph false [.im] [(.t 17)]⟩,
 ⟨some 19, none, .binb true (.t 16) (.t 18)⟩,
 ⟨some 20, none, .mov (.t 19)⟩,
 ⟨some 21, (some (20, false)), .load true 2 (.t 3)⟩,
 ⟨some 22, (some (20, false)), .call fid_impl_GraphValid false [.im] [(.t 21)]⟩,
 ⟨some 23, (some (20, false)), .un .not (.t 22)⟩,
 ⟨some 24, none, .pick (.t 20) (.v (.b true)) (.t 23)⟩,
 ⟨some 25, none, .mov (.t 24)⟩,
 ⟨some 26, (some (25, false)), .load true 2 (.t 3)⟩,
 ⟨some 27, (some (25, false)), .call fid_impl_PartCount false [.im] [(.t 26)]⟩,
 ⟨some 28, (some (25, false)), .bin .neq (.t 27) (.v (.i .i64 1))⟩,
 ⟨some 29, none, .pick (.t 25) (.v (.b true)) (.t 28)⟩] [3, 4, 29])
 (.cond (.t 29)
 (.seq
 (.reg [
 ⟨some 30, none, .mov (.t 4)⟩,
 ⟨some 31, none, .load true 2 (.t 3)⟩,
 ⟨some 32, none, .call fid_spec_IsSafeGraph false [.im] [(.t 31)]⟩,
 ⟨some 33, none, .binb false (.t 30) (.t 32)⟩,
 ⟨some 34, none, .mov (.t 33)⟩,
 ⟨some 35, (some (34, true)), .mov (.t 4)⟩,
 ⟨some 36, (some (34, true)), .un .not (.t 35)⟩,
 ⟨some 37, none, .pick (.t 34) (.t 36) (.v (.b false))⟩,
 ⟨some 2, none, .mov (.t 37)⟩] [2])
 (.ret))
 (.skip)))
 (.seq
 (.reg [
 ⟨some 5, none, .mov (.v (.b true))⟩] [3, 4, 5])
 (.seq
 (.seq
 (.reg [
 ⟨some 6, none, .mov (.v (.i .i64 0))⟩] [3, 4, 5, 6])
 (.block 0
 (.loop [3, 4, 5, 6]
 (.seq
 (.seq
 (.reg [
 ⟨some 38, none, .mov (.t 6)⟩,
 ⟨some 39, none, .fieldAddr 1 (.t 3)⟩,
 ⟨some 40, none, .load false 1 (.t 39)⟩,
 ⟨some 41, none, .len (.t 40)⟩,
 ⟨some 42, none, .bin .lss (.t 38) (.t 41)⟩] [3, 4, 5, 6, 42])
 (.cond (.t 42)
 (.skip)
 (.exit 0)))
 (.seq
 (.block 1
 (.seq
 (.draw [0, 0, 2, 0, 14, 30, 63, 127, 255, 255, 511, 2047] [
 ⟨some 46, none, .load true 2 (.t 3)⟩,
 ⟨some 47, none, .fieldAddr 1 (.t 3)⟩,
 ⟨some 48, none, .load false 1 (.t 47)⟩,
 ⟨some 49, none, .mov (.t 6)⟩,
 ⟨some 50, none, .indexAddr 2 (.t 48) (.t 49)⟩,
 ⟨some 51, none, .load true 2 (.t 50)⟩,
 ⟨some 52, none, .call fid_impl_ChainOf false [.im, .im] [(.t 46), (.t 51)]⟩,
 ⟨some 45, none, .mov (.t 52)⟩,
 ⟨some 53, none, .extract (.t 45) 0⟩,
 ⟨some 54, none, .extract (.t 45) 1⟩,
 ⟨some 7, none, .mov (.t 53)⟩,
 ⟨some 8, none, .mov (.t 54)⟩] [3, 4, 5, 6, 8])
 (.reg [
 ⟨some 55, none, .mov (.t 5)⟩,
 ⟨some 56, none, .mov (.t 55)⟩,
 ⟨some 57, (some (56, true)), .mov (.t 8)⟩,
 ⟨some 58, none, .pick (.t 56) (.t 57) (.v (.b false))⟩,
 ⟨some 5, none, .mov (.t 58)⟩] [3, 4, 5, 6])))
 (.reg [
 ⟨some 43, none, .mov (.t 6)⟩,
 ⟨some 44, none, .bin .add (.t 43) (.v (.i .i64 1))⟩,
 ⟨some 6, none, .mov (.t 44)⟩] [3, 4, 5, 6]))))))
 (.seq
 (.reg [
 ⟨some 59, none, .mov (.t 4)⟩,
 ⟨some 60, none, .mov (.t 5)⟩,
 ⟨some 61, none, .binb false (.t 59) (.t 60)⟩,
 ⟨some 2, none, .mov (.t 61)⟩] [2])
 (.ret))))))))
theorem get_laws_FnIsSafeGraph : prog.funcs[fid_laws_FnIsSafeGraph]? = some f12 := func12
theorem ok_laws_FnIsSafeGraph : okFn prog f12 62 [] [(2, none)] mc_laws_FnIsSafeGraph = true := by kernel_rfl
def mc_laws_FnIsOneBlock : MCode :=
 .seq
 (.reg [
 ⟨some 2, none, .mov (.v (.b false))⟩] [0])
 (.seq
 (.seq
 (.reg [
 ⟨some 5, none, .mov (.t 0)⟩,
 ⟨some 6, none, .len (.t 5)⟩,
 ⟨some 7, none, .bin .gtr (.t 6) (.v (.i .i64 1048576))⟩] [0, 7])
 (.cond (.t 7)
 (.seq
 (.reg [
 ⟨some 2, none, .mov (.v (.b true))⟩] [2])
 (.ret))
 (.skip)))
 (.seq
 (.reg [
 ⟨some 8, none, .mov (.t 0)⟩,
 ⟨some 9, none, .call fid_spec_DrawIsOneBlock false [.im] [(.t 8)]⟩,
 ⟨some 3, none, .alloc [.i .i64 0, .nl 2]⟩,
 ⟨none, none, .store 2 (.t 3) (.t 9)⟩] [3])
 (.seq
 (.reg [
 ⟨some 10, none, .load true 2 (.t 3)⟩,
 ⟨some 11, none, .call fid_impl_IsOneBlock false [.im] [(.t 10)]⟩,
 ⟨some 4, none, .mov (.t 11)⟩] [3, 4])
 (.seq
 (.seq
 (.reg [
 ⟨some 12, none, .mov (.t 4)⟩,
 ⟨some 13, none, .load true 2 (.t 3)⟩,
 ⟨some 14, none, .call fid_spec_IsOneBlock false [.im] [(.t 13)]⟩,
 ⟨some 15, none, .binb true (.t 12) (.t 14)⟩,
 ⟨some 16, none, .mov (.t 15)⟩,
 ⟨some 17, (some (16, false)), .load true 2 (.t 3)⟩,
 ⟨some 18, (some (16, false)), .call fid_impl_GraphValid false [.im] [(.t 17)]⟩,
 ⟨some 19, (some (16, false)), .un .not (.t 18)⟩,
 ⟨some 20, none, .pick (.t 16) (.v (.b true)) (.t 19)⟩,
 ⟨some 21, none, .mov (.t 20)⟩,
 ⟨some 22, (some (21, false)), .fieldAddr 0 (.t 3)⟩,
 ⟨some 23, (some (21, false)), .load false 1 (.t 22)⟩,
 ⟨some 24, (some (21, false)), .bin .lss (.t 23) (.v (.i .i64 3))⟩,
 ⟨some 25, none, .pick (.t 21) (.v (.b true)) (.t 24)⟩] [3, 4, 25])
 (.cond (.t 25)
 (.seq
 (.reg [
 ⟨some 26, none, .mov (.t 4)⟩,
 ⟨some 27, none, .load true 2 (.t 3)⟩,
 ⟨some 28, none, .call fid_spec_IsOneBlock false [.im] [(.t 27)]⟩,
 ⟨some 29, none, .binb false (.t 26) (.t 28)⟩,
 ⟨some 2, none, .mov (.t 29)⟩] [2])
 (.ret))
 (.skip)))
 (.seq
 (.reg [
 ⟨some 30, none, .mov (.t 4)⟩,
 ⟨some 31, none, .load true 2 (.t 3)⟩,
 ⟨some 32, none, .call fid_impl_IsSafeGraph false [.im] [(.t 31)]⟩,
 ⟨some 33, none, .mov (.t 32)⟩,
 ⟨some 34, (some (33, true)), .load true 2 (.t 3)⟩,
 ⟨some 35, (some (33, true)), .call fid_impl_RoundChains false [.im] [(.t 34)]⟩,
 ⟨some 36, (some (33, true)), .len (.t 35)⟩,
 ⟨some 37, (some (33, true)), .bin .eql (.t 36) (.v (.i .i64 1))⟩,
 ⟨some 38, none, .pick (.t 33) (.t 37) (.v (.b false))⟩,
 ⟨some 39, none, .binb false (.t 30) (.t 38)⟩,
 ⟨some 2, none, .mov (.t 39)⟩] [2])
 (.ret))))))
theorem get_laws_FnIsOneBlock : prog.funcs[fid_laws_FnIsOneBlock]? = some f13 := func13
theorem ok_laws_FnIsOneBlock : okFn prog f13 40 [] [(2, none)] mc_laws_FnIsOneBlock = true := by kernel_rfl
def mc_laws_FnChainOf : MCode :=
 .seq
 (.reg [
 ⟨some 2, none, .mov (.v (.b false))⟩] [0])
 (.seq
 (.seq
 (.reg [
 ⟨some 15, none, .mov (.t 0)⟩,
 ⟨some 16, none, .len (.t 15)⟩,
 ⟨some 17, none, .bin .gtr (.t 16) (.v (.i .i64 1048576))⟩] [0, 17])
 (.cond (.t 17)
 (.seq
 (.reg [
 ⟨some 2, none, .mov (.v (.b true))⟩] [2])
 (.ret))
 (.skip)))
 (.seq
 (.reg [
 ⟨some 19, none, .mov (.t 0)⟩,
 ⟨some 20, none, .call fid_spec_DrawChainOf false [.im] [(.t 19)]⟩,
 ⟨some 18, none, .mov (.t 20)⟩,
 ⟨some 21, none, .extract (.t 18) 0⟩,
 ⟨some 22, none, .extract (.t 18) 1⟩,
 ⟨some 3, none, .alloc [.i .i64 0, .nl 2]⟩,
 ⟨some 4, none, .alloc [.i .i64 0, .i .i64 0]⟩,
 ⟨none, none, .store 2 (.t 3) (.t 21)⟩,
 ⟨none, none, .store 2 (.t 4) (.t 22)⟩] [3, 4])
 (.seq
 (.reg [
 ⟨some 24, none, .load true 2 (.t 3)⟩,
 ⟨some 25, none, .load true 2 (.t 4)⟩,
 ⟨some 26, none, .call fid_impl_ChainOf false [.im, .im] [(.t 24), (.t 25)]⟩,
 ⟨some 23, none, .mov (.t 26)⟩,
 ⟨some 27, none, .extract (.t 23) 0⟩,
 ⟨some 28, none, .extract (.t 23) 1⟩,
 ⟨some 5, none, .mov (.t 27)⟩,
 ⟨some 6, none, .mov (.t 28)⟩] [3, 4, 5, 6])
 (.seq
 (.reg [
 ⟨some 30, none, .load true 2 (.t 3)⟩,
 ⟨some 31, none, .load true 2 (.t 4)⟩,
 ⟨some 32, none, .call fid_spec_ChainOf false [.im, .im] [(.t 30), (.t 31)]⟩,
 ⟨some 29, none, .mov (.t 32)⟩,
 ⟨some 33, none, .extract (.t 29) 0⟩,
 ⟨some 34, none, .extract (.t 29) 1⟩,
 ⟨some 7, none, .mov (.t 33)⟩,
 ⟨some 8, none, .mov (.t 34)⟩] [3, 4, 5, 6, 7, 8])
 (.seq
 (.seq
 (.reg [
 ⟨some 35, none, .mov (.t 5)⟩,
 ⟨some 36, none, .mov (.t 7)⟩,
 ⟨some 37, none, .bin .neq (.t 35) (.t 36)⟩,
 ⟨some 38, none, .mov (.t 37)⟩,
 ⟨some 39, (some (38, false)), .mov (.t 6)⟩,
 ⟨some 40, (some (38, false)), .mov (.t 8)⟩,
 ⟨some 41, (some (38, false)), .binb true (.t 39) (.t 40)⟩,
 ⟨some 42, none, .pick (.t 38) (.v (.b true)) (.t 41)⟩,
 ⟨some 43, none, .mov (.t 42)⟩,
 ⟨some 44, (some (43, false)), .load true 2 (.t 3)⟩,
 ⟨some 45, (some (43, false)), .load true 2 (.t 4)⟩,
 ⟨some 46, (some (43, false)), .call fid_impl_HasEdge false [.im, .im] [(.t 44), (.t 45)]⟩,
 ⟨some 47, (some (43, false)), .un .not (.t 46)⟩,
 ⟨some 48, none, .pick (.t 43) (.v (.b true)) (.t 47)⟩] [3, 4, 5, 6, 7, 8, 48])
 (.cond (.t 48)
 (.seq
 (.reg [
 ⟨some 49, none, .mov (.t 5)⟩,
 ⟨some 50, none, .mov (.t 7)⟩,
 ⟨some 51, none, .bin .eql (.t 49) (.t 50)⟩,
 ⟨some 52, none, .mov (.t 51)⟩,
 ⟨some 53, (some (52, true)), .mov (.t 6)⟩,
 ⟨some 54, (some (52, true)), .mov (.t 8)⟩,
 ⟨some 55, (some (52, true)), .binb false (.t 53) (.t 54)⟩,
 ⟨some 56, none, .pick (.t 52) (.t 55) (.v (.b false))⟩,
 ⟨some 57, none, .mov (.t 56)⟩,
 ⟨some 58, (some (57, true)), .mov (.t 6)⟩,
 ⟨some 59, (some (57, true)), .un .not (.t 58)⟩,
 ⟨some 60, none, .pick (.t 57) (.t 59) (.v (.b false))⟩,
 ⟨some 2, none, .mov (.t 60)⟩] [2])
 (.ret))
 (.skip)))
 (.seq
 (.reg [
 ⟨some 61, none, .load true 2 (.t 3)⟩,
 ⟨some 62, none, .call fid_impl_ChainsOf false [.im] [(.t 61)]⟩,
 ⟨some 9, none, .mov (.t 62)⟩] [3, 4, 6, 9])
 (.seq
 (.reg [
 ⟨some 10, none, .mov (.v (.i .i64 0))⟩] [3, 4, 6, 9, 10])
 (.seq
 (.seq
 (.reg [
 ⟨some 11, none, .mov (.v (.i .i64 0))⟩] [3, 4, 6, 9, 10, 11])
 (.block 0
 (.loop [3, 4, 6, 9, 10, 11]
 (.seq
 (.seq
 (.reg [
 ⟨some 63, none, .mov (.t 11)⟩,
 ⟨some 64, none, .mov (.t 9)⟩,
 ⟨some 65, none, .len (.t 64)⟩,
 ⟨some 66, none, .bin .lss (.t 63) (.t 65)⟩] [3, 4, 6, 9, 10, 11, 66])
 (.cond (.t 66)
 (.skip)
 (.exit 0)))
 (.seq
 (.block 1
 (.seq
 (.reg [
 ⟨some 70, none, .mov (.t 9)⟩,
 ⟨some 71, none, .mov (.t 11)⟩,
 ⟨some 72, none, .indexAddr 1 (.t 70) (.t 71)⟩,
 ⟨some 73, none, .load false 1 (.t 72)⟩,
 ⟨some 74, none, .call fid_impl_ChainEdges false [.im] [(.t 73)]⟩,
 ⟨some 69, none, .mov (.t 74)⟩,
 ⟨some 75, none, .extract (.t 69) 0⟩,
 ⟨some 76, none, .extract (.t 69) 1⟩,
 ⟨some 12, none, .mov (.t 75)⟩,
 ⟨some 13, none, .mov (.t 76)⟩] [3, 4, 6, 9, 10, 11, 12, 13])
 (.seq
 (.seq
 (.reg [
 ⟨some 77, none, .mov (.t 13)⟩,
 ⟨some 78, none, .un .not (.t 77)⟩] [3, 4, 6, 9, 10, 11, 12, 78])
 (.cond (.t 78)
 (.seq
 (.reg [
 ⟨some 2, none, .mov (.v (.b false))⟩] [2])
 (.ret))
 (.skip)))
 (.seq
 (.reg [
 ⟨some 14, none, .mov (.v (.i .i64 0))⟩] [3, 4, 6, 9, 10, 11, 12, 14])
 (.block 2
 (.loop [3, 4, 6, 9, 10, 11, 12, 14]
 (.seq
 (.seq
 (.reg [
 ⟨some 79, none, .mov (.t 14)⟩,
 ⟨some 80, none, .mov (.t 12)⟩,
 ⟨some 81, none, .len (.t 80)⟩,
 ⟨some 82, none, .bin .lss (.t 79) (.t 81)⟩] [3, 4, 6, 9, 10, 11, 12, 14, 82])
 (.cond (.t 82)
 (.skip)
 (.exit 2)))
 (.seq
 (.block 3
 (.seq
 (.draw [0, 0, 3, 7, 0, 31] [
 ⟨some 85, none, .mov (.t 12)⟩,
 ⟨some 86, none, .mov (.t 14)⟩,
 ⟨some 87, none, .indexAddr 2 (.t 85) (.t 86)⟩,
 ⟨some 88, none, .load true 2 (.t 87)⟩,
 ⟨some 89, none, .load true 2 (.t 4)⟩,
 ⟨some 90, none, .eqAgg false [true, true] (.t 88) (.t 89)⟩] [3, 4, 6, 9, 10, 11, 12, 14, 90])
 (.cond (.t 90)
 (.reg [
 ⟨some 91, none, .mov (.t 10)⟩,
 ⟨some 92, none, .bin .add (.t 91) (.v (.i .i64 1))⟩,
 ⟨some 10, none, .mov (.t 92)⟩] [3, 4, 6, 9, 10, 11, 12, 14])
 (.skip))))
 (.reg [
 ⟨some 83, none, .mov (.t 14)⟩,
 ⟨some 84, none, .bin .add (.t 83) (.v (.i .i64 1))⟩,
 ⟨some 14, none, .mov (.t 84)⟩] [3, 4, 6, 9, 10, 11, 12, 14])))))))))
 (.reg [
 ⟨some 67, none, .mov (.t 11)⟩,
 ⟨some 68, none, .bin .add (.t 67) (.v (.i .i64 1))⟩,
 ⟨some 11, none, .mov (.t 68)⟩] [3, 4, 6, 9, 10, 11]))))))
 (.seq
 (.reg [
 ⟨some 93, none, .mov (.t 6)⟩,
 ⟨some 94, none, .load true 2 (.t 3)⟩,
 ⟨some 95, none, .load true 2 (.t 4)⟩,
 ⟨some 96, none, .call fid_impl_IsBridge false [.im, .im] [(.t 94), (.t 95)]⟩,
 ⟨some 97, none, .un .not (.t 96)⟩,
 ⟨some 98, none, .binb false (.t 93) (.t 97)⟩,
 ⟨some 99, none, .mov (.t 98)⟩,
 ⟨some 100, (some (99, true)), .mov (.t 6)⟩,
 ⟨some 101, (some (99, true)), .mov (.t 100)⟩,
 ⟨some 102, (some (101, true)), .mov (.t 10)⟩,
 ⟨some 103, (some (101, true)), .bin .eql (.t 102) (.v (.i .i64 1))⟩,
 ⟨some 104, (some (99, true)), .pick (.t 101) (.t 103) (.v (.b false))⟩,
 ⟨some 105, (some (99, true)), .mov (.t 104)⟩,
 ⟨some 106, (some (105, false)), .mov (.t 6)⟩,
 ⟨some 107, (some (105, false)), .un .not (.t 106)⟩,
 ⟨some 108, (some (105, false)), .mov (.t 107)⟩,
 ⟨some 109, (some (108, true)), .mov (.t 10)⟩,
 ⟨some 110, (some (108, true)), .bin .eql (.t 109) (.v (.i .i64 0))⟩,
 ⟨some 111, (some (105, false)), .pick (.t 108) (.t 110) (.v (.b false))⟩,
 ⟨some 112, (some (99, true)), .pick (.t 105) (.v (.b true)) (.t 111)⟩,
 ⟨some 113, none, .pick (.t 99) (.t 112) (.v (.b false))⟩,
 ⟨some 2, none, .mov (.t 113)⟩] [2])
 (.ret))))))))))
theorem get_laws_FnChainOf : prog.funcs[fid_laws_FnChainOf]? = some f14 := func14
theorem ok_laws_FnChainOf : okFn prog f14 114 [] [(2, none)] mc_laws_FnChainOf = true := by kernel_rfl
def mc_laws_dyLists : MCode :=
 .seq
 (.reg [
 ⟨some 4, none, .mov (.v (.b false))⟩] [0, 1])
 (.seq
 (.seq
 (.reg [
 ⟨some 6, none, .mov (.t 0)⟩,
 ⟨some 7, none, .len (.t 6)⟩,
 ⟨some 8, none, .mov (.t 1)⟩,
 ⟨some 9, none, .len (.t 8)⟩,
 ⟨some 10, none, .bin .neq (.t 7) (.t 9)⟩] [0, 1, 10])
 (.cond (.t 10)
 (.seq
 (.reg [
 ⟨some 4, none, .mov (.v (.b false))⟩] [4])
 (.ret))
 (.skip)))
 (.seq
 (.seq
 (.reg [
 ⟨some 5, none, .mov (.v (.i .i64 0))⟩] [0, 1, 5])
 (.block 0
 (.loop [0, 1, 5]
 (.seq
 (.seq
 (.reg [
 ⟨some 11, none, .mov (.t 5)⟩,
 ⟨some 12, none, .mov (.t 0)⟩,
 ⟨some 13, none, .len (.t 12)⟩,
 ⟨some 14, none, .bin .lss (.t 11) (.t 13)⟩] [0, 1, 5, 14])
 (.cond (.t 14)
 (.skip)
 (.exit 0)))
 (.seq
 (.block 1
 (.seq
 (.draw [0, 0, 3, 7, 0, 0, 48, 112, 255, 511] [
 ⟨some 17, none, .mov (.t 0)⟩,
 ⟨some 18, none, .mov (.t 5)⟩,
 ⟨some 19, none, .indexAddr 1 (.t 17) (.t 18)⟩,
 ⟨some 20, none, .load false 1 (.t 19)⟩,
 ⟨some 21, none, .mov (.t 1)⟩,
 ⟨some 22, none, .mov (.t 5)⟩,
 ⟨some 23, none, .indexAddr 1 (.t 21) (.t 22)⟩,
 ⟨some 24, none, .load false 1 (.t 23)⟩,
 ⟨some 25, none, .call fid_laws_dyInts false [.im, .im] [(.t 20), (.t 24)]⟩,
 ⟨some 26, none, .un .not (.t 25)⟩] [0, 1, 5, 26])
 (.cond (.t 26)
 (.seq
 (.reg [
 ⟨some 4, none, .mov (.v (.b false))⟩] [4])
 (.ret))
 (.skip))))
 (.reg [
 ⟨some 15, none, .mov (.t 5)⟩,
 ⟨some 16, none, .bin .add (.t 15) (.v (.i .i64 1))⟩,
 ⟨some 5, none, .mov (.t 16)⟩] [0, 1, 5]))))))
 (.seq
 (.reg [
 ⟨some 4, none, .mov (.v (.b true))⟩] [4])
 (.ret))))
theorem get_laws_dyLists : prog.funcs[fid_laws_dyLists]? = some f18 := func18
theorem ok_laws_dyLists : okFn prog f18 27 [] [(4, none)] mc_laws_dyLists = true := by kernel_rfl
def mc_laws_dyInts : MCode :=
 .seq
 (.reg [
 ⟨some 4, none, .mov (.v (.b false))⟩] [0, 1])
 (.seq
 (.seq
 (.reg [
 ⟨some 6, none, .mov (.t 0)⟩,
 ⟨some 7, none, .len (.t 6)⟩,
 ⟨some 8, none, .mov (.t 1)⟩,
 ⟨some 9, none, .len (.t 8)⟩,
 ⟨some 10, none, .bin .neq (.t 7) (.t 9)⟩] [0, 1, 10])
 (.cond (.t 10)
 (.seq
 (.reg [
 ⟨some 4, none, .mov (.v (.b false))⟩] [4])
 (.ret))
 (.skip)))
 (.seq
 (.seq
 (.reg [
 ⟨some 5, none, .mov (.v (.i .i64 0))⟩] [0, 1, 5])
 (.block 0
 (.loop [0, 1, 5]
 (.seq
 (.seq
 (.reg [
 ⟨some 11, none, .mov (.t 5)⟩,
 ⟨some 12, none, .mov (.t 0)⟩,
 ⟨some 13, none, .len (.t 12)⟩,
 ⟨some 14, none, .bin .lss (.t 11) (.t 13)⟩] [0, 1, 5, 14])
 (.cond (.t 14)
 (.skip)
 (.exit 0)))
 (.seq
 (.block 1
 (.seq
 (.draw [0, 0, 3, 7, 0, 0, 48, 112, 255] [
 ⟨some 17, none, .mov (.t 0)⟩,
 ⟨some 18, none, .mov (.t 5)⟩,
 ⟨some 19, none, .indexAddr 1 (.t 17) (.t 18)⟩,
 ⟨some 20, none, .load false 1 (.t 19)⟩,
 ⟨some 21, none, .mov (.t 1)⟩,
 ⟨some 22, none, .mov (.t 5)⟩,
 ⟨some 23, none, .indexAddr 1 (.t 21) (.t 22)⟩,
 ⟨some 24, none, .load false 1 (.t 23)⟩,
 ⟨some 25, none, .bin .neq (.t 20) (.t 24)⟩] [0, 1, 5, 25])
 (.cond (.t 25)
 (.seq
 (.reg [
 ⟨some 4, none, .mov (.v (.b false))⟩] [4])
 (.ret))
 (.skip))))
 (.reg [
 ⟨some 15, none, .mov (.t 5)⟩,
 ⟨some 16, none, .bin .add (.t 15) (.v (.i .i64 1))⟩,
 ⟨some 5, none, .mov (.t 16)⟩] [0, 1, 5]))))))
 (.seq
 (.reg [
 ⟨some 4, none, .mov (.v (.b true))⟩] [4])
 (.ret))))
theorem get_laws_dyInts : prog.funcs[fid_laws_dyInts]? = some f20 := func20
theorem ok_laws_dyInts : okFn prog f20 26 [] [(4, none)] mc_laws_dyInts = true := by kernel_rfl
def mc_laws_szGraph : MCode :=
 .seq
 (.reg [
 ⟨some 2, none, .box 2 (.t 0)⟩,
 ⟨some 4, none, .mov (.v (.i .i64 0))⟩] [1, 2])
 (.seq
 (.reg [
 ⟨some 5, none, .fieldAddr 1 (.t 2)⟩,
 ⟨some 6, none, .load false 1 (.t 5)⟩,
 ⟨some 7, none, .mov (.t 1)⟩,
 ⟨some 8, none, .call fid_laws_szEdgeS false [.im, .im] [(.t 6), (.t 7)]⟩,
 ⟨some 1, none, .mov (.t 8)⟩] [1])
 (.seq
 (.seq
 (.reg [
 ⟨some 9, none, .mov (.t 1)⟩,
 ⟨some 10, none, .bin .lss (.t 9) (.v (.i .i64 0))⟩] [1, 10])
 (.cond (.t 10)
 (.seq
 (.reg [
 ⟨some 4, none, .mov (.v (.i .i64 (-1)))⟩] [4])
 (.ret))
 (.skip)))
 (.seq
 (.reg [
 ⟨some 11, none, .mov (.t 1)⟩,
 ⟨some 4, none, .mov (.t 11)⟩] [4])
 (.ret))))
theorem get_laws_szGraph : prog.funcs[fid_laws_szGraph]? = some f24 := func24
theorem ok_laws_szGraph : okFn prog f24 12 [] [(4, none)] mc_laws_szGraph = true := by kernel_rfl
def mc_laws_toGraph : MCode :=
 .seq
 (.reg [
 ⟨some 1, none, .box 2 (.t 0)⟩,
 ⟨some 2, none, .alloc [.i .i64 0, .nl 2]⟩] [1, 2])
 (.seq
 (.reg [
 ⟨some 3, none, .alloc [.i .i64 0, .nl 2]⟩] [1, 2, 3])
 (.seq
 (.reg [
 ⟨some 4, none, .fieldAddr 0 (.t 1)⟩,
 ⟨some 5, none, .load false 1 (.t 4)⟩,
 ⟨some 6, none, .fieldAddr 0 (.t 3)⟩,
 ⟨none, none, .store 1 (.t 6) (.t 5)⟩] [1, 2, 3])
 (.seq
 (.reg [
 ⟨some 7, none, .fieldAddr 1 (.t 1)⟩,
 ⟨some 8, none, .load false 1 (.t 7)⟩,
 ⟨some 9, none, .call fid_laws_toEdgeS false [.im] [(.t 8)]⟩,
 ⟨some 10, none, .fieldAddr 1 (.t 3)⟩,
 ⟨none, none, .store 1 (.t 10) (.t 9)⟩] [2, 3])
 (.seq
 (.reg [
 ⟨some 11, none, .load true 2 (.t 3)⟩,
 ⟨none, none, .store 2 (.t 2) (.t 11)⟩] [2])
 (.ret)))))
theorem get_laws_toGraph : prog.funcs[fid_laws_toGraph]? = some f26 := func26
theorem ok_laws_toGraph : okFn prog f26 12 [] [(2, some (true, 2))] mc_laws_toGraph = true := by kernel_rfl
def mc_laws_eqGraph : MCode :=
 .seq
 (.reg [
 ⟨some 2, none, .box 2 (.t 0)⟩,
 ⟨some 3, none, .box 2 (.t 1)⟩,
 ⟨some 4, none, .mov (.v (.b false))⟩] [2, 3])
 (.seq
 (.seq
 (.reg [
 ⟨some 5, none, .fieldAddr 0 (.t 2)⟩,
 ⟨some 6, none, .load false 1 (.t 5)⟩,
 ⟨some 7, none, .fieldAddr 0 (.t 3)⟩,
 ⟨some 8, none, .load false 1 (.t 7)⟩,
 ⟨some 9, none, .bin .neq (.t 6) (.t 8)⟩] [2, 3, 9])
 (.cond (.t 9)
 (.seq
 (.reg [
 ⟨some 4, none, .mov (.v (.b false))⟩] [4])
 (.ret))
 (.skip)))
 (.seq
 (.seq
 (.reg [
 ⟨some 10, none, .fieldAddr 1 (.t 2)⟩,
 ⟨some 11, none, .load false 1 (.t 10)⟩,
 ⟨some 12, none, .fieldAddr 1 (.t 3)⟩,
 ⟨some 13, none, .load false 1 (.t 12)⟩,
 ⟨some 14, none, .call fid_laws_eqEdgeS false [.im, .im] [(.t 11), (.t 13)]⟩,
 ⟨some 15, none, .un .not (.t 14)⟩] [15])
 (.cond (.t 15)
 (.seq
 (.reg [
 ⟨some 4, none, .mov (.v (.b false))⟩] [4])
 (.ret))
 (.skip)))
 (.seq
 (.reg [
 ⟨some 4, none, .mov (.v (.b true))⟩] [4])
 (.ret))))
theorem get_laws_eqGraph : prog.funcs[fid_laws_eqGraph]? = some f28 := func28
theorem ok_laws_eqGraph : okFn prog f28 16 [] [(4, none)] mc_laws_eqGraph = true := by kernel_rfl
def mc_laws_dyEdges : MCode :=
 .seq
 (.reg [
 ⟨some 4, none, .mov (.v (.b false))⟩] [0, 1])
 (.seq
 (.seq
 (.reg [
 ⟨some 6, none, .mov (.t 0)⟩,
 ⟨some 7, none, .len (.t 6)⟩,
 ⟨some 8, none, .mov (.t 1)⟩,
 ⟨some 9, none, .len (.t 8)⟩,
 ⟨some 10, none, .bin .neq (.t 7) (.t 9)⟩] [0, 1, 10])
 (.cond (.t 10)
 (.seq
 (.reg [
 ⟨some 4, none, .mov (.v (.b false))⟩] [4])
 (.ret))
 (.skip)))
 (.seq
 (.seq
 (.reg [
 ⟨some 5, none, .mov (.v (.i .i64 0))⟩] [0, 1, 5])
 (.block 0
 (.loop [0, 1, 5]
 (.seq
 (.seq
 (.reg [
 ⟨some 11, none, .mov (.t 5)⟩,
 ⟨some 12, none, .mov (.t 0)⟩,
 ⟨some 13, none, .len (.t 12)⟩,
 ⟨some 14, none, .bin .lss (.t 11) (.t 13)⟩] [0, 1, 5, 14])
 (.cond (.t 14)
 (.skip)
 (.exit 0)))
 (.seq
 (.block 1
 (.seq
 (.draw [0, 0, 3, 7, 0, 0, 48, 112, 255] [
 ⟨some 17, none, .mov (.t 0)⟩,
 ⟨some 18, none, .mov (.t 5)⟩,
 ⟨some 19, none, .indexAddr 2 (.t 17) (.t 18)⟩,
 ⟨some 20, none, .load true 2 (.t 19)⟩,
 ⟨some 21, none, .mov (.t 1)⟩,
 ⟨some 22, none, .mov (.t 5)⟩,
 ⟨some 23, none, .indexAddr 2 (.t 21) (.t 22)⟩,
 ⟨some 24, none, .load true 2 (.t 23)⟩,
 ⟨some 25, none, .eqAgg true [true, true] (.t 20) (.t 24)⟩] [0, 1, 5, 25])
 (.cond (.t 25)
 (.seq
 (.reg [
 ⟨some 4, none, .mov (.v (.b false))⟩] [4])
 (.ret))
 (.skip))))
 (.reg [
 ⟨some 15, none, .mov (.t 5)⟩,
 ⟨some 16, none, .bin .add (.t 15) (.v (.i .i64 1))⟩,
 ⟨some 5, none, .mov (.t 16)⟩] [0, 1, 5]))))))
 (.seq
 (.reg [
 ⟨some 4, none, .mov (.v (.b true))⟩] [4])
 (.ret))))
theorem get_laws_dyEdges : prog.funcs[fid_laws_dyEdges]? = some f32 := func32
theorem ok_laws_dyEdges : okFn prog f32 26 [] [(4, none)] mc_laws_dyEdges = true := by kernel_rfl
def mc_laws_toEdge : MCode :=
 .seq
 (.reg [
 ⟨some 1, none, .box 2 (.t 0)⟩,
 ⟨some 2, none, .alloc [.i .i64 0, .i .i64 0]⟩] [1, 2])
 (.seq
 (.reg [
 ⟨some 3, none, .alloc [.i .i64 0, .i .i64 0]⟩] [1, 2, 3])
 (.seq
 (.reg [
 ⟨some 4, none, .fieldAddr 0 (.t 1)⟩,
 ⟨some 5, none, .load false 1 (.t 4)⟩,
 ⟨some 6, none, .fieldAddr 0 (.t 3)⟩,
 ⟨none, none, .store 1 (.t 6) (.t 5)⟩] [1, 2, 3])
 (.seq
 (.reg [
 ⟨some 7, none, .fieldAddr 1 (.t 1)⟩,
 ⟨some 8, none, .load false 1 (.t 7)⟩,
 ⟨some 9, none, .fieldAddr 1 (.t 3)⟩,
 ⟨none, none, .store 1 (.t 9) (.t 8)⟩] [2, 3])
 (.seq
 (.reg [
 ⟨some 10, none, .load true 2 (.t 3)⟩,
 ⟨none, none, .store 2 (.t 2) (.t 10)⟩] [2])
 (.ret)))))
theorem get_laws_toEdge : prog.funcs[fid_laws_toEdge]? = some f35 := func35
theorem ok_laws_toEdge : okFn prog f35 11 [] [(2, some (true, 2))] mc_laws_toEdge = true := by kernel_rfl
def mc_laws_eqIntS : MCode :=
 .seq
 (.reg [
 ⟨some 4, none, .mov (.v (.b false))⟩] [0, 1])
 (.seq
 (.seq
 (.reg [
 ⟨some 6, none, .mov (.t 0)⟩,
 ⟨some 7, none, .len (.t 6)⟩,
 ⟨some 8, none, .mov (.t 1)⟩,
 ⟨some 9, none, .len (.t 8)⟩,
 ⟨some 10, none, .bin .neq (.t 7) (.t 9)⟩] [0, 1, 10])
 (.cond (.t 10)
 (.seq
 (.reg [
 ⟨some 4, none, .mov (.v (.b false))⟩] [4])
 (.ret))
 (.skip)))
 (.seq
 (.seq
 (.reg [
 ⟨some 5, none, .mov (.v (.i .i64 0))⟩] [0, 1, 5])
 (.block 0
 (.loop [0, 1, 5]
 (.seq
 (.seq
 (.reg [
 ⟨some 11, none, .mov (.t 5)⟩,
 ⟨some 12, none, .mov (.t 0)⟩,
 ⟨some 13, none, .len (.t 12)⟩,
 ⟨some 14, none, .bin .lss (.t 11) (.t 13)⟩] [0, 1, 5, 14])
 (.cond (.t 14)
 (.skip)
 (.exit 0)))
 (.seq
 (.block 1
 (.seq
 (.draw [0, 0, 3, 7, 0, 0, 48, 112, 255] [
 ⟨some 17, none, .mov (.t 0)⟩,
 ⟨some 18, none, .mov (.t 5)⟩,
 ⟨some 19, none, .indexAddr 1 (.t 17) (.t 18)⟩,
 ⟨some 20, none, .load false 1 (.t 19)⟩,
 ⟨some 21, none, .mov (.t 1)⟩,
 ⟨some 22, none, .mov (.t 5)⟩,
 ⟨some 23, none, .indexAddr 1 (.t 21) (.t 22)⟩,
 ⟨some 24, none, .load false 1 (.t 23)⟩,
 ⟨some 25, none, .bin .neq (.t 20) (.t 24)⟩] [0, 1, 5, 25])
 (.cond (.t 25)
 (.seq
 (.reg [
 ⟨some 4, none, .mov (.v (.b false))⟩] [4])
 (.ret))
 (.skip))))
 (.reg [
 ⟨some 15, none, .mov (.t 5)⟩,
 ⟨some 16, none, .bin .add (.t 15) (.v (.i .i64 1))⟩,
 ⟨some 5, none, .mov (.t 16)⟩] [0, 1, 5]))))))
 (.seq
 (.reg [
 ⟨some 4, none, .mov (.v (.b true))⟩] [4])
 (.ret))))
theorem get_laws_eqIntS : prog.funcs[fid_laws_eqIntS]? = some f39 := func39
theorem ok_laws_eqIntS : okFn prog f39 26 [] [(4, none)] mc_laws_eqIntS = true := by kernel_rfl
def mc_laws_markGraph : MCode :=
 .seq
 (.reg [
 ⟨some 2, none, .box 2 (.t 0)⟩,
 ⟨some 4, none, .mov (.v (.i .i64 0))⟩] [0, 1, 2])
 (.seq
 (.reg [
 ⟨some 5, none, .fieldAddr 1 (.t 2)⟩,
 ⟨some 6, none, .load false 1 (.t 5)⟩,
 ⟨some 7, none, .mov (.t 1)⟩,
 ⟨some 8, none, .call fid_laws_markEdgeS false [.io, .im] [(.t 6), (.t 7)]⟩,
 ⟨some 1, none, .mov (.t 8)⟩] [0, 1])
 (.seq
 (.reg [
 ⟨some 9, none, .mov (.t 1)⟩,
 ⟨some 4, none, .mov (.t 9)⟩] [0, 4])
 (.ret)))
theorem get_laws_markGraph : prog.funcs[fid_laws_markGraph]? = some f40 := func40
theorem ok_laws_markGraph : okFn prog f40 10 [0] [(4, none)] mc_laws_markGraph = true := by kernel_rfl
def mc_laws_markIntS : MCode :=
 .seq
 (.reg [
 ⟨some 4, none, .mov (.v (.i .i64 0))⟩] [0, 1])
 (.seq
 (.seq
 (.reg [
 ⟨some 5, none, .mov (.v (.i .i64 0))⟩] [0, 1, 5])
 (.block 0
 (.loop [0, 1, 5]
 (.seq
 (.seq
 (.reg [
 ⟨some 6, none, .mov (.t 5)⟩,
 ⟨some 7, none, .mov (.t 0)⟩,
 ⟨some 8, none, .len (.t 7)⟩,
 ⟨some 9, none, .bin .lss (.t 6) (.t 8)⟩] [0, 1, 5, 9])
 (.cond (.t 9)
 (.skip)
 (.exit 0)))
 (.seq
 (.block 1
 (.seq
 (.reg [
 ⟨some 12, none, .mov (.t 0)⟩,
 ⟨some 13, none, .mov (.t 5)⟩,
 ⟨some 14, none, .mov (.t 1)⟩,
 ⟨some 15, none, .indexAddr 1 (.t 12) (.t 13)⟩,
 ⟨none, none, .store 1 (.t 15) (.t 14)⟩] [0, 1, 5])
 (.reg [
 ⟨some 16, none, .mov (.t 1)⟩,
 ⟨some 17, none, .bin .add (.t 16) (.v (.i .i64 1))⟩,
 ⟨some 1, none, .mov (.t 17)⟩] [0, 1, 5])))
 (.reg [
 ⟨some 10, none, .mov (.t 5)⟩,
 ⟨some 11, none, .bin .add (.t 10) (.v (.i .i64 1))⟩,
 ⟨some 5, none, .mov (.t 11)⟩] [0, 1, 5]))))))
 (.seq
 (.reg [
 ⟨some 18, none, .mov (.t 1)⟩,
 ⟨some 4, none, .mov (.t 18)⟩] [0, 4])
 (.ret)))
theorem get_laws_markIntS : prog.funcs[fid_laws_markIntS]? = some f41 := func41
theorem ok_laws_markIntS : okFn prog f41 19 [0] [(4, none)] mc_laws_markIntS = true := by kernel_rfl
def mc_laws_heldIntS : MCode :=
 .seq
 (.reg [
 ⟨some 4, none, .mov (.v (.i .i64 0))⟩] [0, 1])
 (.seq
 (.seq
 (.reg [
 ⟨some 5, none, .mov (.v (.i .i64 0))⟩] [0, 1, 5])
 (.block 0
 (.loop [0, 1, 5]
 (.seq
 (.seq
 (.reg [
 ⟨some 6, none, .mov (.t 5)⟩,
 ⟨some 7, none, .mov (.t 0)⟩,
 ⟨some 8, none, .len (.t 7)⟩,
 ⟨some 9, none, .bin .lss (.t 6) (.t 8)⟩] [0, 1, 5, 9])
 (.cond (.t 9)
 (.skip)
 (.exit 0)))
 (.seq
 (.block 1
 (.seq
 (.seq
 (.reg [
 ⟨some 12, none, .mov (.t 0)⟩,
 ⟨some 13, none, .mov (.t 5)⟩,
 ⟨some 14, none, .indexAddr 1 (.t 12) (.t 13)⟩,
 ⟨some 15, none, .load false 1 (.t 14)⟩,
 ⟨some 16, none, .mov (.t 1)⟩,
 ⟨some 17, none, .bin .neq (.t 15) (.t 16)⟩] [0, 1, 5, 17])
 (.cond (.t 17)
 (.seq
 (.reg [
 ⟨some 4, none, .mov (.v (.i .i64 (-1)))⟩] [4])
 (.ret))
 (.skip)))
 (.reg [
 ⟨some 18, none, .mov (.t 1)⟩,
 ⟨some 19, none, .bin .add (.t 18) (.v (.i .i64 1))⟩,
 ⟨some 1, none, .mov (.t 19)⟩] [0, 1, 5])))
 (.reg [
 ⟨some 10, none, .mov (.t 5)⟩,
 ⟨some 11, none, .bin .add (.t 10) (.v (.i .i64 1))⟩,
 ⟨some 5, none, .mov (.t 11)⟩] [0, 1, 5]))))))
 (.seq
 (.reg [
 ⟨some 20, none, .mov (.t 1)⟩,
 ⟨some 4, none, .mov (.t 20)⟩] [4])
 (.ret)))
theorem get_laws_heldIntS : prog.funcs[fid_laws_heldIntS]? = some f42 := func42
theorem ok_laws_heldIntS : okFn prog f42 21 [] [(4, none)] mc_laws_heldIntS = true := by kernel_rfl
def mc_laws_dyIn : MCode :=
 .seq
 (.reg [
 ⟨some 4, none, .mov (.v (.b false))⟩] [0, 1])
 (.seq
 (.seq
 (.reg [
 ⟨some 5, none, .mov (.v (.i .i64 0))⟩] [0, 1, 5])
 (.block 0
 (.loop [0, 1, 5]
 (.seq
 (.seq
 (.reg [
 ⟨some 6, none, .mov (.t 5)⟩,
 ⟨some 7, none, .mov (.t 0)⟩,
 ⟨some 8, none, .len (.t 7)⟩,
 ⟨some 9, none, .bin .lss (.t 6) (.t 8)⟩] [0, 1, 5, 9])
 (.cond (.t 9)
 (.skip)
 (.exit 0)))
 (.seq
 (.block 1
 (.seq
 (.reg [
 ⟨some 12, none, .mov (.t 0)⟩,
 ⟨some 13, none, .mov (.t 5)⟩,
 ⟨some 14, none, .indexAddr 1 (.t 12) (.t 13)⟩,
 ⟨some 15, none, .load false 1 (.t 14)⟩,
 ⟨some 16, none, .mov (.t 1)⟩,
 ⟨some 17, none, .bin .eql (.t 15) (.t 16)⟩] [0, 1, 5, 17])
 (.cond (.t 17)
 (.seq
 (.reg [
 ⟨some 4, none, .mov (.v (.b true))⟩] [4])
 (.ret))
 (.skip))))
 (.reg [
 ⟨some 10, none, .mov (.t 5)⟩,
 ⟨some 11, none, .bin .add (.t 10) (.v (.i .i64 1))⟩,
 ⟨some 5, none, .mov (.t 11)⟩] [0, 1, 5]))))))
 (.seq
 (.reg [
 ⟨some 4, none, .mov (.v (.b false))⟩] [4])
 (.ret)))
theorem get_laws_dyIn : prog.funcs[fid_laws_dyIn]? = some f47 := func47
theorem ok_laws_dyIn : okFn prog f47 18 [] [(4, none)] mc_laws_dyIn = true := by kernel_rfl
def mc_laws_szEdgeS : MCode :=
 .seq
 (.reg [
 ⟨some 4, none, .mov (.v (.i .i64 0))⟩] [0, 1])
 (.seq
 (.reg [
 ⟨some 5, none, .mov (.t 1)⟩,
 ⟨some 6, none, .mov (.t 0)⟩,
 ⟨some 7, none, .len (.t 6)⟩,
 ⟨some 8, none, .bin .sub (.t 5) (.t 7)⟩,
 ⟨some 1, none, .mov (.t 8)⟩] [1])
 (.seq
 (.seq
 (.reg [
 ⟨some 9, none, .mov (.t 1)⟩,
 ⟨some 10, none, .bin .lss (.t 9) (.v (.i .i64 0))⟩] [1, 10])
 (.cond (.t 10)
 (.seq
 (.reg [
 ⟨some 4, none, .mov (.v (.i .i64 (-1)))⟩] [4])
 (.ret))
 (.skip)))
 (.seq
 (.reg [
 ⟨some 11, none, .mov (.t 1)⟩,
 ⟨some 4, none, .mov (.t 11)⟩] [4])
 (.ret))))
theorem get_laws_szEdgeS : prog.funcs[fid_laws_szEdgeS]? = some f68 := func68
theorem ok_laws_szEdgeS : okFn prog f68 12 [] [(4, none)] mc_laws_szEdgeS = true := by kernel_rfl
def mc_laws_toEdgeS : MCode :=
 .seq
 (.reg [
 ⟨some 2, none, .mov (.v (.nl 2))⟩] [0])
 (.seq
 (.reg [
 ⟨some 5, none, .mov (.t 0)⟩,
 ⟨some 6, none, .len (.t 5)⟩,
 ⟨some 7, none, .makeSlice 2 16 [.i .i64 0, .i .i64 0] (.t 6) (.t 6)⟩,
 ⟨some 3, none, .mov (.t 7)⟩] [0, 3])
 (.seq
 (.seq
 (.reg [
 ⟨some 4, none, .mov (.v (.i .i64 0))⟩] [0, 3, 4])
 (.block 0
 (.loop [0, 3, 4]
 (.seq
 (.seq
 (.reg [
 ⟨some 8, none, .mov (.t 4)⟩,
 ⟨some 9, none, .mov (.t 0)⟩,
 ⟨some 10, none, .len (.t 9)⟩,
 ⟨some 11, none, .bin .lss (.t 8) (.t 10)⟩] [0, 3, 4, 11])
 (.cond (.t 11)
 (.skip)
 (.exit 0)))
 (.seq
 (.block 1
 (.reg [
 ⟨some 14, none, .mov (.t 3)⟩,
 ⟨some 15, none, .mov (.t 4)⟩,
 ⟨some 16, none, .mov (.t 0)⟩,
 ⟨some 17, none, .mov (.t 4)⟩,
 ⟨some 18, none, .indexAddr 2 (.t 16) (.t 17)⟩,
 ⟨some 19, none, .load true 2 (.t 18)⟩,
 ⟨some 20, none, .call fid_laws_toEdge false [.im] [(.t 19)]⟩,
 ⟨some 21, none, .indexAddr 2 (.t 14) (.t 15)⟩,
 ⟨none, none, .store 2 (.t 21) (.t 20)⟩] [0, 3, 4]))
 (.reg [
 ⟨some 12, none, .mov (.t 4)⟩,
 ⟨some 13, none, .bin .add (.t 12) (.v (.i .i64 1))⟩,
 ⟨some 4, none, .mov (.t 13)⟩] [0, 3, 4]))))))
 (.seq
 (.reg [
 ⟨some 22, none, .mov (.t 3)⟩,
 ⟨some 2, none, .mov (.t 22)⟩] [2])
 (.ret))))
theorem get_laws_toEdgeS : prog.funcs[fid_laws_toEdgeS]? = some f69 := func69
theorem ok_laws_toEdgeS : okFn prog f69 23 [] [(2, none)] mc_laws_toEdgeS = true := by kernel_rfl
def mc_laws_eqEdgeS : MCode :=
 .seq
 (.reg [
 ⟨some 4, none, .mov (.v (.b false))⟩] [0, 1])
 (.seq
 (.seq
 (.reg [
 ⟨some 6, none, .mov (.t 0)⟩,
 ⟨some 7, none, .len (.t 6)⟩,
 ⟨some 8, none, .mov (.t 1)⟩,
 ⟨some 9, none, .len (.t 8)⟩,
 ⟨some 10, none, .bin .neq (.t 7) (.t 9)⟩] [0, 1, 10])
 (.cond (.t 10)
 (.seq
 (.reg [
 ⟨some 4, none, .mov (.v (.b false))⟩] [4])
 (.ret))
 (.skip)))
 (.seq
 (.seq
 (.reg [
 ⟨some 5, none, .mov (.v (.i .i64 0))⟩] [0, 1, 5])
 (.block 0
 (.loop [0, 1, 5]
 (.seq
 (.seq
 (.reg [
 ⟨some 11, none, .mov (.t 5)⟩,
 ⟨some 12, none, .mov (.t 0)⟩,
 ⟨some 13, none, .len (.t 12)⟩,
 ⟨some 14, none, .bin .lss (.t 11) (.t 13)⟩] [0, 1, 5, 14])
 (.cond (.t 14)
 (.skip)
 (.exit 0)))
 (.seq
 (.block 1
 (.seq
 (.draw [0, 0, 3, 7, 0, 0, 48, 112, 255, 511] [
 ⟨some 17, none, .mov (.t 0)⟩,
 ⟨some 18, none, .mov (.t 5)⟩,
 ⟨some 19, none, .indexAddr 2 (.t 17) (.t 18)⟩,
 ⟨some 20, none, .load true 2 (.t 19)⟩,
 ⟨some 21, none, .mov (.t 1)⟩,
 ⟨some 22, none, .mov (.t 5)⟩,
 ⟨some 23, none, .indexAddr 2 (.t 21) (.t 22)⟩,
 ⟨some 24, none, .load true 2 (.t 23)⟩,
 ⟨some 25, none, .call fid_laws_eqEdge false [.im, .im] [(.t 20), (.t 24)]⟩,
 ⟨some 26, none, .un .not (.t 25)⟩] [0, 1, 5, 26])
 (.cond (.t 26)
 (.seq
 (.reg [
 ⟨some 4, none, .mov (.v (.b false))⟩] [4])
 (.ret))
 (.skip))))
 (.reg [
 ⟨some 15, none, .mov (.t 5)⟩,
 ⟨some 16, none, .bin .add (.t 15) (.v (.i .i64 1))⟩,
 ⟨some 5, none, .mov (.t 16)⟩] [0, 1, 5]))))))
 (.seq
 (.reg [
 ⟨some 4, none, .mov (.v (.b true))⟩] [4])
 (.ret))))
theorem get_laws_eqEdgeS : prog.funcs[fid_laws_eqEdgeS]? = some f70 := func70
theorem ok_laws_eqEdgeS : okFn prog f70 27 [] [(4, none)] mc_laws_eqEdgeS = true := by kernel_rfl
def mc_laws_markEdgeS : MCode :=
 .seq
 (.reg [
 ⟨some 4, none, .mov (.v (.i .i64 0))⟩] [0, 1])
 (.seq
 (.seq
 (.reg [
 ⟨some 5, none, .mov (.v (.i .i64 0))⟩] [0, 1, 5])
 (.block 0
 (.loop [0, 1, 5]
 (.seq
 (.seq
 (.reg [
 ⟨some 6, none, .mov (.t 5)⟩,
 ⟨some 7, none, .mov (.t 0)⟩,
 ⟨some 8, none, .len (.t 7)⟩,
 ⟨some 9, none, .bin .lss (.t 6) (.t 8)⟩] [0, 1, 5, 9])
 (.cond (.t 9)
 (.skip)
 (.exit 0)))
 (.seq
 (.block 1
 (.seq
 (.reg [
 ⟨some 12, none, .mov (.t 0)⟩,
 ⟨some 13, none, .mov (.t 5)⟩,
 ⟨some 14, none, .mov (.t 1)⟩,
 ⟨some 15, none, .indexAddr 2 (.t 12) (.t 13)⟩,
 ⟨some 16, none, .fieldAddr 0 (.t 15)⟩,
 ⟨none, none, .store 1 (.t 16) (.t 14)⟩] [0, 1, 5])
 (.seq
 (.reg [
 ⟨some 17, none, .mov (.t 1)⟩,
 ⟨some 18, none, .bin .add (.t 17) (.v (.i .i64 1))⟩,
 ⟨some 1, none, .mov (.t 18)⟩] [0, 1, 5])
 (.seq
 (.reg [
 ⟨some 19, none, .mov (.t 0)⟩,
 ⟨some 20, none, .mov (.t 5)⟩,
 ⟨some 21, none, .mov (.t 1)⟩,
 ⟨some 22, none, .indexAddr 2 (.t 19) (.t 20)⟩,
 ⟨some 23, none, .fieldAddr 1 (.t 22)⟩,
 ⟨none, none, .store 1 (.t 23) (.t 21)⟩] [0, 1, 5])
 (.reg [
 ⟨some 24, none, .mov (.t 1)⟩,
 ⟨some 25, none, .bin .add (.t 24) (.v (.i .i64 1))⟩,
 ⟨some 1, none, .mov (.t 25)⟩] [0, 1, 5])))))
 (.reg [
 ⟨some 10, none, .mov (.t 5)⟩,
 ⟨some 11, none, .bin .add (.t 10) (.v (.i .i64 1))⟩,
 ⟨some 5, none, .mov (.t 11)⟩] [0, 1, 5]))))))
 (.seq
 (.reg [
 ⟨some 26, none, .mov (.t 1)⟩,
 ⟨some 4, none, .mov (.t 26)⟩] [0, 4])
 (.ret)))
theorem get_laws_markEdgeS : prog.funcs[fid_laws_markEdgeS]? = some f82 := func82
theorem ok_laws_markEdgeS : okFn prog f82 27 [0] [(4, none)] mc_laws_markEdgeS = true := by kernel_rfl
def mc_laws_eqEdge : MCode :=
 .seq
 (.reg [
 ⟨some 2, none, .box 2 (.t 0)⟩,
 ⟨some 3, none, .box 2 (.t 1)⟩,
 ⟨some 4, none, .mov (.v (.b false))⟩] [2, 3])
 (.seq
 (.seq
 (.reg [
 ⟨some 5, none, .fieldAddr 0 (.t 2)⟩,
 ⟨some 6, none, .load false 1 (.t 5)⟩,
 ⟨some 7, none, .fieldAddr 0 (.t 3)⟩,
 ⟨some 8, none, .load false 1 (.t 7)⟩,
 ⟨some 9, none, .bin .neq (.t 6) (.t 8)⟩] [2, 3, 9])
 (.cond (.t 9)
 (.seq
 (.reg [
 ⟨some 4, none, .mov (.v (.b false))⟩] [4])
 (.ret))
 (.skip)))
 (.seq
 (.seq
 (.reg [
 ⟨some 10, none, .fieldAddr 1 (.t 2)⟩,
 ⟨some 11, none, .load false 1 (.t 10)⟩,
 ⟨some 12, none, .fieldAddr 1 (.t 3)⟩,
 ⟨some 13, none, .load false 1 (.t 12)⟩,
 ⟨some 14, none, .bin .neq (.t 11) (.t 13)⟩] [14])
 (.cond (.t 14)
 (.seq
 (.reg [
 ⟨some 4, none, .mov (.v (.b false))⟩] [4])
 (.ret))
 (.skip)))
 (.seq
 (.reg [
 ⟨some 4, none, .mov (.v (.b true))⟩] [4])
 (.ret))))
theorem get_laws_eqEdge : prog.funcs[fid_laws_eqEdge]? = some f111 := func111
theorem ok_laws_eqEdge : okFn prog f111 15 [] [(4, none)] mc_laws_eqEdge = true := by kernel_rfl

end Go.Fw
