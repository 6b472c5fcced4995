/-
  The code of the statement FnBlockSafe, as the model's own. Printed by a program.
-/
import Derived.Test.YtjklefjjmfpnoaaCf
namespace Go.Fw
open Go.Proofs.Try
set_option maxRecDepth 100000
def mc_laws_FnBlockSafe : MCode :=
 .seq
 (.reg [
 ⟨some 2, none, .mov (.v (.b false))⟩] [0])
 (.seq
 (.seq
 (.reg [
 ⟨some 7, none, .mov (.t 0)⟩,
 ⟨some 8, none, .len (.t 7)⟩,
 ⟨some 9, none, .bin .gtr (.t 8) (.v (.i .i64 1048576))⟩] [0, 9])
 (.cond (.t 9)
 (.seq
 (.reg [
 ⟨some 2, none, .mov (.v (.b true))⟩] [2])
 (.ret))
 (.skip)))
 (.seq
 (.reg [
 ⟨some 10, none, .mov (.t 0)⟩,
 ⟨some 11, none, .call fid_spec_DrawIsOneBlock false [.im] [(.t 10)]⟩,
 ⟨some 3, none, .alloc [.i .i64 0, .nl 2]⟩,
 ⟨none, none, .store 2 (.t 3) (.t 11)⟩] [3])
 (.seq
 (.reg [
 ⟨some 12, none, .load true 2 (.t 3)⟩,
 ⟨some 13, none, .call fid_impl_IsOneBlock false [.im] [(.t 12)]⟩,
 ⟨some 4, none, .mov (.t 13)⟩] [3, 4])
 (.seq
 (.seq
 (.reg [
 ⟨some 14, none, .mov (.t 4)⟩,
 ⟨some 15, none, .load true 2 (.t 3)⟩,
 ⟨some 16, none, .call fid_spec_IsOneBlock false [.im] [(.t 15)]⟩,
 ⟨some 17, none, .binb true (.t 14) (.t 16)⟩,
 ⟨some 18, none, .mov (.t 17)⟩,
 ⟨some 19, (some (18, false)), .mov (.t 4)⟩,
 ⟨some 20, (some (18, false)), .un .not (.t 19)⟩,
 ⟨some 21, none, .pick (.t 18) (.v (.b true)) (.t 20)⟩,
 ⟨some 22, none, .mov (.t 21)⟩,
 ⟨some 23, (some (22, false)), .fieldAddr 0 (.t 3)⟩,
 ⟨some 24, (some (22, false)), .load false 1 (.t 23)⟩,
 ⟨some 25, (some (22, false)), .bin .lss (.t 24) (.v (.i .i64 3))⟩,
 ⟨some 26, none, .pick (.t 22) (.v (.b true)) (.t 25)⟩] [3, 4, 26])
 (.cond (.t 26)
 (.seq
 (.reg [
 ⟨some 27, none, .mov (.t 4)⟩,
 ⟨some 28, none, .load true 2 (.t 3)⟩,
 ⟨some 29, none, .call fid_spec_IsOneBlock false [.im] [(.t 28)]⟩,
 ⟨some 30, none, .binb false (.t 27) (.t 29)⟩,
 ⟨some 2, none, .mov (.t 30)⟩] [2])
 (.ret))
 (.skip)))
 (.seq
 (.reg [
 ⟨some 32, none, .load true 2 (.t 3)⟩,
 ⟨some 33, none, .call fid_impl_WeakestCut false [.im] [(.t 32)]⟩,
 ⟨some 31, none, .mov (.t 33)⟩,
 ⟨some 34, none, .extract (.t 31) 0⟩,
 ⟨some 35, none, .extract (.t 31) 1⟩,
 ⟨some 5, none, .mov (.t 34)⟩,
 ⟨some 6, none, .mov (.t 35)⟩] [3, 5, 6])
 (.seq
 (.reg [
 ⟨some 36, none, .load true 2 (.t 3)⟩,
 ⟨some 37, none, .call fid_impl_IsSafeGraph false [.im] [(.t 36)]⟩,
 ⟨some 38, none, .mov (.t 37)⟩,
 ⟨some 39, (some (38, true)), .load true 2 (.t 3)⟩,
 ⟨some 40, (some (38, true)), .call fid_impl_BlocksOf false [.im] [(.t 39)]⟩,
 ⟨some 41, (some (38, true)), .len (.t 40)⟩,
 ⟨some 42, (some (38, true)), .bin .eql (.t 41) (.v (.i .i64 1))⟩,
 ⟨some 43, none, .pick (.t 38) (.t 42) (.v (.b false))⟩,
 ⟨some 44, none, .mov (.t 43)⟩,
 ⟨some 45, (some (44, true)), .mov (.t 6)⟩,
 ⟨some 46, none, .pick (.t 44) (.t 45) (.v (.b false))⟩,
 ⟨some 47, none, .mov (.t 46)⟩,
 ⟨some 48, (some (47, true)), .mov (.t 5)⟩,
 ⟨some 49, (some (47, true)), .bin .geq (.t 48) (.v (.i .i64 2))⟩,
 ⟨some 50, none, .pick (.t 47) (.t 49) (.v (.b false))⟩,
 ⟨some 2, none, .mov (.t 50)⟩] [2])
 (.ret)))))))
theorem get_laws_FnBlockSafe : prog.funcs[fid_laws_FnBlockSafe]? = some f11 := func11
theorem ok_laws_FnBlockSafe : okFn prog f11 51 [] [(2, none)] mc_laws_FnBlockSafe = true := by kernel_rfl

end Go.Fw
