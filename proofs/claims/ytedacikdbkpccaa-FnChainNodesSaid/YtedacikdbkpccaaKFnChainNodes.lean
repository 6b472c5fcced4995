/-
  The code of the statement FnChainNodes, as the model's own. Printed by a program.
-/
import Derived.Test.YtedacikdbkpccaaCf
namespace Go.Fw
open Go.Proofs.Try
set_option maxRecDepth 100000
def mc_laws_FnChainNodes : MCode :=
 .seq
 (.reg [
 ⟨some 2, none, .mov (.v (.b false))⟩] [0])
 (.seq
 (.seq
 (.reg [
 ⟨some 8, none, .mov (.t 0)⟩,
 ⟨some 9, none, .len (.t 8)⟩,
 ⟨some 10, none, .bin .gtr (.t 9) (.v (.i .i64 1048576))⟩] [0, 10])
 (.cond (.t 10)
 (.seq
 (.reg [
 ⟨some 2, none, .mov (.v (.b true))⟩] [2])
 (.ret))
 (.skip)))
 (.seq
 (.reg [
 ⟨some 11, none, .mov (.t 0)⟩,
 ⟨some 12, none, .call fid_spec_DrawChainsOf false [.im] [(.t 11)]⟩,
 ⟨some 3, none, .alloc [.i .i64 0, .nl 2]⟩,
 ⟨none, none, .store 2 (.t 3) (.t 12)⟩] [3])
 (.seq
 (.reg [
 ⟨some 13, none, .load true 2 (.t 3)⟩,
 ⟨some 14, none, .call fid_impl_ChainsOf false [.im] [(.t 13)]⟩,
 ⟨some 4, none, .mov (.t 14)⟩] [3, 4])
 (.seq
 (.seq
 (.reg [
 ⟨some 15, none, .mov (.t 4)⟩,
 ⟨some 16, none, .load true 2 (.t 3)⟩,
 ⟨some 17, none, .call fid_spec_ChainsOf false [.im] [(.t 16)]⟩,
 ⟨some 18, none, .call fid_laws_dyLists false [.im, .im] [(.t 15), (.t 17)]⟩,
 ⟨some 19, none, .un .not (.t 18)⟩,
 ⟨some 20, none, .mov (.t 19)⟩,
 ⟨some 21, (some (20, false)), .load true 2 (.t 3)⟩,
 ⟨some 22, (some (20, false)), .call fid_impl_GraphValid false [.im] [(.t 21)]⟩,
 ⟨some 23, (some (20, false)), .un .not (.t 22)⟩,
 ⟨some 24, none, .pick (.t 20) (.v (.b true)) (.t 23)⟩] [3, 4, 24])
 (.cond (.t 24)
 (.seq
 (.reg [
 ⟨some 25, none, .mov (.t 4)⟩,
 ⟨some 26, none, .load true 2 (.t 3)⟩,
 ⟨some 27, none, .call fid_spec_ChainsOf false [.im] [(.t 26)]⟩,
 ⟨some 28, none, .call fid_laws_dyLists false [.im, .im] [(.t 25), (.t 27)]⟩,
 ⟨some 2, none, .mov (.t 28)⟩] [2])
 (.ret))
 (.skip)))
 (.seq
 (.seq
 (.reg [
 ⟨some 5, none, .mov (.v (.i .i64 0))⟩] [4, 5])
 (.block 0
 (.loop [4, 5]
 (.seq
 (.seq
 (.reg [
 ⟨some 29, none, .mov (.t 5)⟩,
 ⟨some 30, none, .mov (.t 4)⟩,
 ⟨some 31, none, .len (.t 30)⟩,
 ⟨some 32, none, .bin .lss (.t 29) (.t 31)⟩] [4, 5, 32])
 (.cond (.t 32)
 (.skip)
 (.exit 0)))
 (.seq
 (.block 1
 (.seq
 (.reg [
 ⟨some 35, none, .mov (.t 4)⟩,
 ⟨some 36, none, .mov (.t 5)⟩,
 ⟨some 37, none, .indexAddr 1 (.t 35) (.t 36)⟩,
 ⟨some 38, none, .load false 1 (.t 37)⟩,
 ⟨some 6, none, .mov (.t 38)⟩] [4, 5, 6])
 (.seq
 (.reg [
 ⟨some 7, none, .mov (.v (.i .i64 1))⟩] [4, 5, 6, 7])
 (.block 2
 (.loop [4, 5, 6, 7]
 (.seq
 (.seq
 (.reg [
 ⟨some 39, none, .mov (.t 7)⟩,
 ⟨some 40, none, .mov (.t 6)⟩,
 ⟨some 41, none, .len (.t 40)⟩,
 ⟨some 42, none, .bin .sub (.t 41) (.v (.i .i64 1))⟩,
 ⟨some 43, none, .bin .lss (.t 39) (.t 42)⟩] [4, 5, 6, 7, 43])
 (.cond (.t 43)
 (.skip)
 (.exit 2)))
 (.seq
 (.block 3
 (.seq
 (.draw [0, 0, 3, 0, 0, 24, 56, 127, 255, 511, 511, 2047, 4095, 511, 511, 16895, 49663, 123391, 254463, 524287, 1048575] [
 ⟨some 46, none, .mov (.t 6)⟩,
 ⟨some 47, none, .mov (.t 7)⟩,
 ⟨some 48, none, .slice 1 (.t 46) none (some (.t 47))⟩,
 ⟨some 49, none, .mov (.t 6)⟩,
 ⟨some 50, none, .mov (.t 7)⟩,
 ⟨some 51, none, .indexAddr 1 (.t 49) (.t 50)⟩,
 ⟨some 52, none, .load false 1 (.t 51)⟩,
 ⟨some 53, none, .call fid_laws_dyIn false [.im, .im] [(.t 48), (.t 52)]⟩,
 ⟨some 54, none, .mov (.t 53)⟩,
 ⟨some 55, (some (54, false)), .mov (.t 6)⟩,
 ⟨some 56, (some (54, false)), .mov (.t 7)⟩,
 ⟨some 57, (some (54, false)), .indexAddr 1 (.t 55) (.t 56)⟩,
 ⟨some 58, (some (54, false)), .load false 1 (.t 57)⟩,
 ⟨some 59, (some (54, false)), .mov (.t 6)⟩,
 ⟨some 60, (some (54, false)), .mov (.t 6)⟩,
 ⟨some 61, (some (54, false)), .len (.t 60)⟩,
 ⟨some 62, (some (54, false)), .bin .sub (.t 61) (.v (.i .i64 1))⟩,
 ⟨some 63, (some (54, false)), .indexAddr 1 (.t 59) (.t 62)⟩,
 ⟨some 64, (some (54, false)), .load false 1 (.t 63)⟩,
 ⟨some 65, (some (54, false)), .bin .eql (.t 58) (.t 64)⟩,
 ⟨some 66, none, .pick (.t 54) (.v (.b true)) (.t 65)⟩] [4, 5, 6, 7, 66])
 (.cond (.t 66)
 (.seq
 (.reg [
 ⟨some 2, none, .mov (.v (.b false))⟩] [2])
 (.ret))
 (.skip))))
 (.reg [
 ⟨some 44, none, .mov (.t 7)⟩,
 ⟨some 45, none, .bin .add (.t 44) (.v (.i .i64 1))⟩,
 ⟨some 7, none, .mov (.t 45)⟩] [4, 5, 6, 7]))))))))
 (.reg [
 ⟨some 33, none, .mov (.t 5)⟩,
 ⟨some 34, none, .bin .add (.t 33) (.v (.i .i64 1))⟩,
 ⟨some 5, none, .mov (.t 34)⟩] [4, 5]))))))
 (.seq
 (.reg [
 ⟨some 2, none, .mov (.v (.b true))⟩] [2])
 (.ret)))))))
theorem get_laws_FnChainNodes : prog.funcs[fid_laws_FnChainNodes]? = some f9 := func9
theorem ok_laws_FnChainNodes : okFn prog f9 67 [] [(2, none)] mc_laws_FnChainNodes = true := by kernel_rfl

end Go.Fw
