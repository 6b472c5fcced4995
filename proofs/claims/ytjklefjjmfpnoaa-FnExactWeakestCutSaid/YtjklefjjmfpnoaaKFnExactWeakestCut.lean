/-
  The code of the statement FnExactWeakestCut, as the model's own. Printed by a program.
-/
import Derived.Test.YtjklefjjmfpnoaaCf
namespace Go.Fw
open Go.Proofs.Try
set_option maxRecDepth 100000
def mc_laws_FnExactWeakestCut : MCode :=
 .seq
 (.reg [
 ⟨some 1, none, .box 2 (.t 0)⟩,
 ⟨some 2, none, .mov (.v (.b false))⟩] [1])
 (.seq
 (.reg [
 ⟨some 3, none, .mov (.v (.i .i64 1048576))⟩] [1, 3])
 (.seq
 (.reg [
 ⟨some 9, none, .load true 2 (.t 1)⟩,
 ⟨some 10, none, .mov (.t 3)⟩,
 ⟨some 11, none, .call fid_laws_szGraph false [.im, .im] [(.t 9), (.t 10)]⟩,
 ⟨some 3, none, .mov (.t 11)⟩] [1, 3])
 (.seq
 (.seq
 (.reg [
 ⟨some 12, none, .mov (.t 3)⟩,
 ⟨some 13, none, .bin .lss (.t 12) (.v (.i .i64 0))⟩] [1, 13])
 (.cond (.t 13)
 (.seq
 (.reg [
 ⟨some 2, none, .mov (.v (.b true))⟩] [2])
 (.ret))
 (.skip)))
 (.seq
 (.reg [
 ⟨some 15, none, .load true 2 (.t 1)⟩,
 ⟨some 16, none, .call fid_laws_toGraph false [.im] [(.t 15)]⟩,
 ⟨some 17, none, .call fid_spec_WeakestCut false [.im] [(.t 16)]⟩,
 ⟨some 14, none, .mov (.t 17)⟩,
 ⟨some 18, none, .extract (.t 14) 0⟩,
 ⟨some 19, none, .extract (.t 14) 1⟩,
 ⟨some 4, none, .mov (.t 18)⟩,
 ⟨some 5, none, .mov (.t 19)⟩] [1, 4, 5])
 (.seq
 (.reg [
 ⟨some 20, none, .load true 2 (.t 1)⟩,
 ⟨some 21, none, .call fid_laws_toGraph false [.im] [(.t 20)]⟩,
 ⟨some 6, none, .alloc [.i .i64 0, .nl 2]⟩,
 ⟨none, none, .store 2 (.t 6) (.t 21)⟩] [1, 4, 5, 6])
 (.seq
 (.reg [
 ⟨some 23, none, .load true 2 (.t 6)⟩,
 ⟨some 24, none, .call fid_impl_WeakestCut false [.im] [(.t 23)]⟩,
 ⟨some 22, none, .mov (.t 24)⟩,
 ⟨some 25, none, .extract (.t 22) 0⟩,
 ⟨some 26, none, .extract (.t 22) 1⟩,
 ⟨some 7, none, .mov (.t 25)⟩,
 ⟨some 8, none, .mov (.t 26)⟩] [1, 4, 5, 6, 7, 8])
 (.seq
 (.seq
 (.reg [
 ⟨some 27, none, .mov (.t 7)⟩,
 ⟨some 28, none, .mov (.t 4)⟩,
 ⟨some 29, none, .bin .neq (.t 27) (.t 28)⟩,
 ⟨some 30, none, .mov (.t 29)⟩,
 ⟨some 31, (some (30, false)), .mov (.t 8)⟩,
 ⟨some 32, (some (30, false)), .mov (.t 5)⟩,
 ⟨some 33, (some (30, false)), .binb true (.t 31) (.t 32)⟩,
 ⟨some 34, none, .pick (.t 30) (.v (.b true)) (.t 33)⟩] [1, 6, 34])
 (.cond (.t 34)
 (.seq
 (.reg [
 ⟨some 2, none, .mov (.v (.b false))⟩] [2])
 (.ret))
 (.skip)))
 (.seq
 (.seq
 (.draw [0, 0, 2, 7, 15] [
 ⟨some 35, none, .load true 2 (.t 6)⟩,
 ⟨some 36, none, .load true 2 (.t 1)⟩,
 ⟨some 37, none, .call fid_laws_toGraph false [.im] [(.t 36)]⟩,
 ⟨some 38, none, .call fid_laws_eqGraph false [.im, .im] [(.t 35), (.t 37)]⟩,
 ⟨some 39, none, .un .not (.t 38)⟩] [39])
 (.cond (.t 39)
 (.seq
 (.reg [
 ⟨some 2, none, .mov (.v (.b false))⟩] [2])
 (.ret))
 (.skip)))
 (.seq
 (.reg [
 ⟨some 2, none, .mov (.v (.b true))⟩] [2])
 (.ret))))))))))
theorem get_laws_FnExactWeakestCut : prog.funcs[fid_laws_FnExactWeakestCut]? = some f12 := func12
theorem ok_laws_FnExactWeakestCut : okFn prog f12 40 [] [(2, none)] mc_laws_FnExactWeakestCut = true := by kernel_rfl

end Go.Fw
