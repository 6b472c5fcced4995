/-
  The code of the statement FnExactChainsOf, as the model's own. Printed by a program.
-/
import Derived.Test.YtjklefjjmfpnoaaCf
namespace Go.Fw
open Go.Proofs.Try
set_option maxRecDepth 100000
def mc_laws_FnExactChainsOf : MCode :=
 .seq
 (.reg [
 ⟨some 1, none, .box 2 (.t 0)⟩,
 ⟨some 2, none, .mov (.v (.b false))⟩] [1])
 (.seq
 (.reg [
 ⟨some 3, none, .mov (.v (.i .i64 1048576))⟩] [1, 3])
 (.seq
 (.reg [
 ⟨some 11, none, .load true 2 (.t 1)⟩,
 ⟨some 12, none, .mov (.t 3)⟩,
 ⟨some 13, none, .call fid_laws_szGraph false [.im, .im] [(.t 11), (.t 12)]⟩,
 ⟨some 3, none, .mov (.t 13)⟩] [1, 3])
 (.seq
 (.seq
 (.reg [
 ⟨some 14, none, .mov (.t 3)⟩,
 ⟨some 15, none, .bin .lss (.t 14) (.v (.i .i64 0))⟩] [1, 15])
 (.cond (.t 15)
 (.seq
 (.reg [
 ⟨some 2, none, .mov (.v (.b true))⟩] [2])
 (.ret))
 (.skip)))
 (.seq
 (.reg [
 ⟨some 16, none, .load true 2 (.t 1)⟩,
 ⟨some 17, none, .call fid_laws_toGraph false [.im] [(.t 16)]⟩,
 ⟨some 18, none, .call fid_spec_ChainsOf false [.im] [(.t 17)]⟩,
 ⟨some 4, none, .mov (.t 18)⟩] [1, 4])
 (.seq
 (.reg [
 ⟨some 19, none, .load true 2 (.t 1)⟩,
 ⟨some 20, none, .call fid_laws_toGraph false [.im] [(.t 19)]⟩,
 ⟨some 5, none, .alloc [.i .i64 0, .nl 2]⟩,
 ⟨none, none, .store 2 (.t 5) (.t 20)⟩] [1, 4, 5])
 (.seq
 (.reg [
 ⟨some 21, none, .load true 2 (.t 5)⟩,
 ⟨some 22, none, .call fid_impl_ChainsOf false [.im] [(.t 21)]⟩,
 ⟨some 6, none, .mov (.t 22)⟩] [1, 4, 5, 6])
 (.seq
 (.seq
 (.reg [
 ⟨some 23, none, .mov (.t 6)⟩,
 ⟨some 24, none, .mov (.t 4)⟩,
 ⟨some 25, none, .call fid_laws_eqIntSS false [.im, .im] [(.t 23), (.t 24)]⟩,
 ⟨some 26, none, .un .not (.t 25)⟩] [1, 4, 5, 6, 26])
 (.cond (.t 26)
 (.seq
 (.reg [
 ⟨some 2, none, .mov (.v (.b false))⟩] [2])
 (.ret))
 (.skip)))
 (.seq
 (.seq
 (.draw [0, 0, 2, 7, 15] [
 ⟨some 27, none, .load true 2 (.t 5)⟩,
 ⟨some 28, none, .load true 2 (.t 1)⟩,
 ⟨some 29, none, .call fid_laws_toGraph false [.im] [(.t 28)]⟩,
 ⟨some 30, none, .call fid_laws_eqGraph false [.im, .im] [(.t 27), (.t 29)]⟩,
 ⟨some 31, none, .un .not (.t 30)⟩] [1, 4, 5, 6, 31])
 (.cond (.t 31)
 (.seq
 (.reg [
 ⟨some 2, none, .mov (.v (.b false))⟩] [2])
 (.ret))
 (.skip)))
 (.seq
 (.reg [
 ⟨some 7, none, .mov (.v (.i .i64 1))⟩] [1, 4, 5, 6, 7])
 (.seq
 (.reg [
 ⟨some 32, none, .load true 2 (.t 5)⟩,
 ⟨some 33, none, .mov (.t 7)⟩,
 ⟨some 34, none, .call fid_laws_markGraph false [.io, .im] [(.t 32), (.t 33)]⟩,
 ⟨some 7, none, .mov (.t 34)⟩] [1, 4, 6, 7])
 (.seq
 (.seq
 (.reg [
 ⟨some 35, none, .mov (.t 7)⟩,
 ⟨some 36, none, .bin .lss (.t 35) (.v (.i .i64 0))⟩,
 ⟨some 37, none, .mov (.t 36)⟩,
 ⟨some 38, (some (37, false)), .mov (.t 6)⟩,
 ⟨some 39, (some (37, false)), .mov (.t 4)⟩,
 ⟨some 40, (some (37, false)), .call fid_laws_eqIntSS false [.im, .im] [(.t 38), (.t 39)]⟩,
 ⟨some 41, (some (37, false)), .un .not (.t 40)⟩,
 ⟨some 42, none, .pick (.t 37) (.v (.b true)) (.t 41)⟩] [1, 4, 6, 42])
 (.cond (.t 42)
 (.seq
 (.reg [
 ⟨some 2, none, .mov (.v (.b false))⟩] [2])
 (.ret))
 (.skip)))
 (.seq
 (.reg [
 ⟨some 8, none, .mov (.v (.i .i64 1))⟩] [1, 4, 6, 8])
 (.seq
 (.reg [
 ⟨some 43, none, .mov (.t 6)⟩,
 ⟨some 44, none, .mov (.t 8)⟩,
 ⟨some 45, none, .call fid_laws_markIntSS false [.io, .im] [(.t 43), (.t 44)]⟩,
 ⟨some 8, none, .mov (.t 45)⟩] [1, 4, 6, 8])
 (.seq
 (.reg [
 ⟨some 9, none, .mov (.v (.i .i64 1))⟩] [1, 4, 6, 8, 9])
 (.seq
 (.reg [
 ⟨some 46, none, .mov (.t 6)⟩,
 ⟨some 47, none, .mov (.t 9)⟩,
 ⟨some 48, none, .call fid_laws_heldIntSS false [.im, .im] [(.t 46), (.t 47)]⟩,
 ⟨some 9, none, .mov (.t 48)⟩] [1, 4, 6, 8, 9])
 (.seq
 (.seq
 (.reg [
 ⟨some 49, none, .mov (.t 9)⟩,
 ⟨some 50, none, .bin .lss (.t 49) (.v (.i .i64 0))⟩] [1, 4, 6, 8, 9, 50])
 (.cond (.t 50)
 (.seq
 (.reg [
 ⟨some 2, none, .mov (.v (.b false))⟩] [2])
 (.ret))
 (.skip)))
 (.seq
 (.seq
 (.reg [
 ⟨some 51, none, .mov (.t 9)⟩,
 ⟨some 52, none, .mov (.t 8)⟩,
 ⟨some 53, none, .bin .neq (.t 51) (.t 52)⟩] [1, 4, 6, 8, 53])
 (.cond (.t 53)
 (.seq
 (.reg [
 ⟨some 2, none, .mov (.v (.b false))⟩] [2])
 (.ret))
 (.skip)))
 (.seq
 (.reg [
 ⟨some 54, none, .load true 2 (.t 1)⟩,
 ⟨some 55, none, .call fid_laws_toGraph false [.im] [(.t 54)]⟩,
 ⟨some 56, none, .call fid_impl_ChainsOf false [.im] [(.t 55)]⟩,
 ⟨some 10, none, .mov (.t 56)⟩] [4, 6, 8, 10])
 (.seq
 (.seq
 (.reg [
 ⟨some 57, none, .mov (.t 10)⟩,
 ⟨some 58, none, .mov (.t 4)⟩,
 ⟨some 59, none, .call fid_laws_eqIntSS false [.im, .im] [(.t 57), (.t 58)]⟩,
 ⟨some 60, none, .un .not (.t 59)⟩] [6, 8, 60])
 (.cond (.t 60)
 (.seq
 (.reg [
 ⟨some 2, none, .mov (.v (.b false))⟩] [2])
 (.ret))
 (.skip)))
 (.seq
 (.reg [
 ⟨some 9, none, .mov (.v (.i .i64 1))⟩] [6, 8, 9])
 (.seq
 (.reg [
 ⟨some 61, none, .mov (.t 6)⟩,
 ⟨some 62, none, .mov (.t 9)⟩,
 ⟨some 63, none, .call fid_laws_heldIntSS false [.im, .im] [(.t 61), (.t 62)]⟩,
 ⟨some 9, none, .mov (.t 63)⟩] [8, 9])
 (.seq
 (.seq
 (.reg [
 ⟨some 64, none, .mov (.t 9)⟩,
 ⟨some 65, none, .bin .lss (.t 64) (.v (.i .i64 0))⟩] [8, 9, 65])
 (.cond (.t 65)
 (.seq
 (.reg [
 ⟨some 2, none, .mov (.v (.b false))⟩] [2])
 (.ret))
 (.skip)))
 (.seq
 (.seq
 (.reg [
 ⟨some 66, none, .mov (.t 9)⟩,
 ⟨some 67, none, .mov (.t 8)⟩,
 ⟨some 68, none, .bin .neq (.t 66) (.t 67)⟩] [68])
 (.cond (.t 68)
 (.seq
 (.reg [
 ⟨some 2, none, .mov (.v (.b false))⟩] [2])
 (.ret))
 (.skip)))
 (.seq
 (.reg [
 ⟨some 2, none, .mov (.v (.b true))⟩] [2])
 (.ret)))))))))))))))))))))))))
theorem get_laws_FnExactChainsOf : prog.funcs[fid_laws_FnExactChainsOf]? = some f6 := func6
theorem ok_laws_FnExactChainsOf : okFn prog f6 69 [] [(2, none)] mc_laws_FnExactChainsOf = true := by kernel_rfl

end Go.Fw
