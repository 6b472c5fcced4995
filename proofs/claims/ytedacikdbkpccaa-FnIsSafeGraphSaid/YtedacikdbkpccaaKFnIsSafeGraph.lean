/-
  The code of the statement FnIsSafeGraph, as the model's own. Printed by a program.
-/
import Derived.Test.YtedacikdbkpccaaCf
namespace Go.Fw
open Go.Proofs.Try
set_option maxRecDepth 100000
def mc_laws_FnIsSafeGraph : MCode :=
 .seq
 (.reg [
 ⟨some 2, none, .mov (.v (.b false))⟩] [0])
 (.seq
 (.seq
 (.reg [
 ⟨some 9, none, .mov (.t 0)⟩,
 ⟨some 10, none, .len (.t 9)⟩,
 ⟨some 11, none, .bin .gtr (.t 10) (.v (.i .i64 1048576))⟩] [0, 11])
 (.cond (.t 11)
 (.seq
 (.reg [
 ⟨some 2, none, .mov (.v (.b true))⟩] [2])
 (.ret))
 (.skip)))
 (.seq
 (.reg [
 ⟨some 12, none, .mov (.t 0)⟩,
 ⟨some 13, none, .call fid_spec_DrawIsSafeGraph false [.im] [(.t 12)]⟩,
 ⟨some 3, none, .alloc [.i .i64 0, .nl 2]⟩,
 ⟨none, none, .store 2 (.t 3) (.t 13)⟩] [3])
 (.seq
 (.reg [
 ⟨some 14, none, .load true 2 (.t 3)⟩,
 ⟨some 15, none, .call fid_impl_IsSafeGraph false [.im] [(.t 14)]⟩,
 ⟨some 4, none, .mov (.t 15)⟩] [3, 4])
 (.seq
 (.seq
 (.reg [
 ⟨some 16, none, .mov (.t 4)⟩,
 ⟨some 17, none, .load true 2 (.t 3)⟩,
 ⟨some 18, none, .call fid_spec_IsSafeGraph false [.im] [(.t 17)]⟩,
 ⟨some 19, none, .binb true (.t 16) (.t 18)⟩,
 ⟨some 20, none, .mov (.t 19)⟩,
 ⟨some 21, (some (20, false)), .load true 2 (.t 3)⟩,
 ⟨some 22, (some (20, false)), .call fid_impl_GraphValid false [.im] [(.t 21)]⟩,
 ⟨some 23, (some (20, false)), .un .not (.t 22)⟩,
 ⟨some 24, none, .pick (.t 20) (.v (.b true)) (.t 23)⟩,
 ⟨some 25, none, .mov (.t 24)⟩,
 ⟨some 26, (some (25, false)), .load true 2 (.t 3)⟩,
 ⟨some 27, (some (25, false)), .call fid_impl_PartCount false [.im] [(.t 26)]⟩,
 ⟨some 28, (some (25, false)), .bin .neq (.t 27) (.v (.i .i64 1))⟩,
 ⟨some 29, none, .pick (.t 25) (.v (.b true)) (.t 28)⟩] [3, 4, 29])
 (.cond (.t 29)
 (.seq
 (.reg [
 ⟨some 30, none, .mov (.t 4)⟩,
 ⟨some 31, none, .load true 2 (.t 3)⟩,
 ⟨some 32, none, .call fid_spec_IsSafeGraph false [.im] [(.t 31)]⟩,
 ⟨some 33, none, .binb false (.t 30) (.t 32)⟩,
 ⟨some 34, none, .mov (.t 33)⟩,
 ⟨some 35, (some (34, true)), .mov (.t 4)⟩,
 ⟨some 36, (some (34, true)), .un .not (.t 35)⟩,
 ⟨some 37, none, .pick (.t 34) (.t 36) (.v (.b false))⟩,
 ⟨some 2, none, .mov (.t 37)⟩] [2])
 (.ret))
 (.skip)))
 (.seq
 (.reg [
 ⟨some 5, none, .mov (.v (.b true))⟩] [3, 4, 5])
 (.seq
 (.seq
 (.reg [
 ⟨some 6, none, .mov (.v (.i .i64 0))⟩] [3, 4, 5, 6])
 (.block 0
 (.loop [3, 4, 5, 6]
 (.seq
 (.seq
 (.reg [
 ⟨some 38, none, .mov (.t 6)⟩,
 ⟨some 39, none, .fieldAddr 1 (.t 3)⟩,
 ⟨some 40, none, .load false 1 (.t 39)⟩,
 ⟨some 41, none, .len (.t 40)⟩,
 ⟨some 42, none, .bin .lss (.t 38) (.t 41)⟩] [3, 4, 5, 6, 42])
 (.cond (.t 42)
 (.skip)
 (.exit 0)))
 (.seq
 (.block 1
 (.seq
 (.draw [0, 0, 2, 0, 14, 30, 63, 127, 255, 255, 511, 2047] [
 ⟨some 46, none, .load true 2 (.t 3)⟩,
 ⟨some 47, none, .fieldAddr 1 (.t 3)⟩,
 ⟨some 48, none, .load false 1 (.t 47)⟩,
 ⟨some 49, none, .mov (.t 6)⟩,
 ⟨some 50, none, .indexAddr 2 (.t 48) (.t 49)⟩,
 ⟨some 51, none, .load true 2 (.t 50)⟩,
 ⟨some 52, none, .call fid_impl_ChainOf false [.im, .im] [(.t 46), (.t 51)]⟩,
 ⟨some 45, none, .mov (.t 52)⟩,
 ⟨some 53, none, .extract (.t 45) 0⟩,
 ⟨some 54, none, .extract (.t 45) 1⟩,
 ⟨some 7, none, .mov (.t 53)⟩,
 ⟨some 8, none, .mov (.t 54)⟩] [3, 4, 5, 6, 8])
 (.reg [
 ⟨some 55, none, .mov (.t 5)⟩,
 ⟨some 56, none, .mov (.t 55)⟩,
 ⟨some 57, (some (56, true)), .mov (.t 8)⟩,
 ⟨some 58, none, .pick (.t 56) (.t 57) (.v (.b false))⟩,
 ⟨some 5, none, .mov (.t 58)⟩] [3, 4, 5, 6])))
 (.reg [
 ⟨some 43, none, .mov (.t 6)⟩,
 ⟨some 44, none, .bin .add (.t 43) (.v (.i .i64 1))⟩,
 ⟨some 6, none, .mov (.t 44)⟩] [3, 4, 5, 6]))))))
 (.seq
 (.reg [
 ⟨some 59, none, .mov (.t 4)⟩,
 ⟨some 60, none, .mov (.t 5)⟩,
 ⟨some 61, none, .binb false (.t 59) (.t 60)⟩,
 ⟨some 2, none, .mov (.t 61)⟩] [2])
 (.ret))))))))
theorem get_laws_FnIsSafeGraph : prog.funcs[fid_laws_FnIsSafeGraph]? = some f12 := func12
theorem ok_laws_FnIsSafeGraph : okFn prog f12 62 [] [(2, none)] mc_laws_FnIsSafeGraph = true := by kernel_rfl

end Go.Fw
