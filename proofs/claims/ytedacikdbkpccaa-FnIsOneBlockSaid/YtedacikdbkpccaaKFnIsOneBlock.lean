/-
  The code of the statement FnIsOneBlock, as the model's own. Printed by a program.
-/
import Derived.Test.YtedacikdbkpccaaCf
namespace Go.Fw
open Go.Proofs.Try
set_option maxRecDepth 100000
def mc_laws_FnIsOneBlock : MCode :=
 .seq
 (.reg [
 ⟨some 2, none, .mov (.v (.b false))⟩] [0])
 (.seq
 (.seq
 (.reg [
 ⟨some 5, none, .mov (.t 0)⟩,
 ⟨some 6, none, .len (.t 5)⟩,
 ⟨some 7, none, .bin .gtr (.t 6) (.v (.i .i64 1048576))⟩] [0, 7])
 (.cond (.t 7)
 (.seq
 (.reg [
 ⟨some 2, none, .mov (.v (.b true))⟩] [2])
 (.ret))
 (.skip)))
 (.seq
 (.reg [
 ⟨some 8, none, .mov (.t 0)⟩,
 ⟨some 9, none, .call fid_spec_DrawIsOneBlock false [.im] [(.t 8)]⟩,
 ⟨some 3, none, .alloc [.i .i64 0, .nl 2]⟩,
 ⟨none, none, .store 2 (.t 3) (.t 9)⟩] [3])
 (.seq
 (.reg [
 ⟨some 10, none, .load true 2 (.t 3)⟩,
 ⟨some 11, none, .call fid_impl_IsOneBlock false [.im] [(.t 10)]⟩,
 ⟨some 4, none, .mov (.t 11)⟩] [3, 4])
 (.seq
 (.seq
 (.reg [
 ⟨some 12, none, .mov (.t 4)⟩,
 ⟨some 13, none, .load true 2 (.t 3)⟩,
 ⟨some 14, none, .call fid_spec_IsOneBlock false [.im] [(.t 13)]⟩,
 ⟨some 15, none, .binb true (.t 12) (.t 14)⟩,
 ⟨some 16, none, .mov (.t 15)⟩,
 ⟨some 17, (some (16, false)), .load true 2 (.t 3)⟩,
 ⟨some 18, (some (16, false)), .call fid_impl_GraphValid false [.im] [(.t 17)]⟩,
 ⟨some 19, (some (16, false)), .un .not (.t 18)⟩,
 ⟨some 20, none, .pick (.t 16) (.v (.b true)) (.t 19)⟩,
 ⟨some 21, none, .mov (.t 20)⟩,
 ⟨some 22, (some (21, false)), .fieldAddr 0 (.t 3)⟩,
 ⟨some 23, (some (21, false)), .load false 1 (.t 22)⟩,
 ⟨some 24, (some (21, false)), .bin .lss (.t 23) (.v (.i .i64 3))⟩,
 ⟨some 25, none, .pick (.t 21) (.v (.b true)) (.t 24)⟩] [3, 4, 25])
 (.cond (.t 25)
 (.seq
 (.reg [
 ⟨some 26, none, .mov (.t 4)⟩,
 ⟨some 27, none, .load true 2 (.t 3)⟩,
 ⟨some 28, none, .call fid_spec_IsOneBlock false [.im] [(.t 27)]⟩,
 ⟨some 29, none, .binb false (.t 26) (.t 28)⟩,
 ⟨some 2, none, .mov (.t 29)⟩] [2])
 (.ret))
 (.skip)))
 (.seq
 (.reg [
 ⟨some 30, none, .mov (.t 4)⟩,
 ⟨some 31, none, .load true 2 (.t 3)⟩,
 ⟨some 32, none, .call fid_impl_IsSafeGraph false [.im] [(.t 31)]⟩,
 ⟨some 33, none, .mov (.t 32)⟩,
 ⟨some 34, (some (33, true)), .load true 2 (.t 3)⟩,
 ⟨some 35, (some (33, true)), .call fid_impl_RoundChains false [.im] [(.t 34)]⟩,
 ⟨some 36, (some (33, true)), .len (.t 35)⟩,
 ⟨some 37, (some (33, true)), .bin .eql (.t 36) (.v (.i .i64 1))⟩,
 ⟨some 38, none, .pick (.t 33) (.t 37) (.v (.b false))⟩,
 ⟨some 39, none, .binb false (.t 30) (.t 38)⟩,
 ⟨some 2, none, .mov (.t 39)⟩] [2])
 (.ret))))))
theorem get_laws_FnIsOneBlock : prog.funcs[fid_laws_FnIsOneBlock]? = some f13 := func13
theorem ok_laws_FnIsOneBlock : okFn prog f13 40 [] [(2, none)] mc_laws_FnIsOneBlock = true := by kernel_rfl

end Go.Fw
