/-
  The code of the statement FnExactCountsOf, as the model's own. Printed by a program.
-/
import Derived.Test.YtjklefjjmfpnoaaGreatCf
namespace Go.Fw
open Go.Proofs.Tryz
set_option maxRecDepth 100000
def mc_laws_FnExactCountsOf : MCode :=
 .seq
 (.reg [
 ⟨some 2, none, .box 2 (.t 0)⟩,
 ⟨some 4, none, .mov (.v (.b false))⟩] [1, 2])
 (.seq
 (.reg [
 ⟨some 5, none, .mov (.v (.i .i64 1048576))⟩] [1, 2, 5])
 (.seq
 (.reg [
 ⟨some 17, none, .load true 2 (.t 2)⟩,
 ⟨some 18, none, .mov (.t 5)⟩,
 ⟨some 19, none, .call fid_laws_szGraph false [.im, .im] [(.t 17), (.t 18)]⟩,
 ⟨some 5, none, .mov (.t 19)⟩] [1, 2, 5])
 (.seq
 (.seq
 (.reg [
 ⟨some 20, none, .mov (.t 5)⟩,
 ⟨some 21, none, .bin .lss (.t 20) (.v (.i .i64 0))⟩] [1, 2, 5, 21])
 (.cond (.t 21)
 (.seq
 (.reg [
 ⟨some 4, none, .mov (.v (.b true))⟩] [4])
 (.ret))
 (.skip)))
 (.seq
 (.reg [
 ⟨some 22, none, .mov (.t 1)⟩,
 ⟨some 23, none, .mov (.t 5)⟩,
 ⟨some 24, none, .call fid_laws_szTurnS false [.im, .im] [(.t 22), (.t 23)]⟩,
 ⟨some 5, none, .mov (.t 24)⟩] [1, 2, 5])
 (.seq
 (.seq
 (.reg [
 ⟨some 25, none, .mov (.t 5)⟩,
 ⟨some 26, none, .bin .lss (.t 25) (.v (.i .i64 0))⟩] [1, 2, 26])
 (.cond (.t 26)
 (.seq
 (.reg [
 ⟨some 4, none, .mov (.v (.b true))⟩] [4])
 (.ret))
 (.skip)))
 (.seq
 (.reg [
 ⟨some 28, none, .load true 2 (.t 2)⟩,
 ⟨some 29, none, .call fid_laws_toGraph false [.im] [(.t 28)]⟩,
 ⟨some 30, none, .mov (.t 1)⟩,
 ⟨some 31, none, .call fid_laws_toTurnS false [.im] [(.t 30)]⟩,
 ⟨some 32, none, .call fid_spec_CountsOf false [.im, .im] [(.t 29), (.t 31)]⟩,
 ⟨some 27, none, .mov (.t 32)⟩,
 ⟨some 33, none, .extract (.t 27) 0⟩,
 ⟨some 34, none, .extract (.t 27) 1⟩,
 ⟨some 6, none, .mov (.t 33)⟩,
 ⟨some 7, none, .mov (.t 34)⟩] [1, 2, 6, 7])
 (.seq
 (.reg [
 ⟨some 35, none, .load true 2 (.t 2)⟩,
 ⟨some 36, none, .call fid_laws_toGraph false [.im] [(.t 35)]⟩,
 ⟨some 8, none, .alloc [.i .i64 0, .nl 2]⟩,
 ⟨none, none, .store 2 (.t 8) (.t 36)⟩] [1, 2, 6, 7, 8])
 (.seq
 (.reg [
 ⟨some 37, none, .mov (.t 1)⟩,
 ⟨some 38, none, .call fid_laws_toTurnS false [.im] [(.t 37)]⟩,
 ⟨some 9, none, .mov (.t 38)⟩] [1, 2, 6, 7, 8, 9])
 (.seq
 (.reg [
 ⟨some 40, none, .load true 2 (.t 8)⟩,
 ⟨some 41, none, .mov (.t 9)⟩,
 ⟨some 42, none, .call fid_impl_CountsOf false [.im, .im] [(.t 40), (.t 41)]⟩,
 ⟨some 39, none, .mov (.t 42)⟩,
 ⟨some 43, none, .extract (.t 39) 0⟩,
 ⟨some 44, none, .extract (.t 39) 1⟩,
 ⟨some 10, none, .mov (.t 43)⟩,
 ⟨some 11, none, .mov (.t 44)⟩] [1, 2, 6, 7, 8, 9, 10, 11])
 (.seq
 (.seq
 (.reg [
 ⟨some 45, none, .mov (.t 10)⟩,
 ⟨some 46, none, .mov (.t 6)⟩,
 ⟨some 47, none, .call fid_laws_eqIntSS false [.im, .im] [(.t 45), (.t 46)]⟩,
 ⟨some 48, none, .un .not (.t 47)⟩,
 ⟨some 49, none, .mov (.t 48)⟩,
 ⟨some 50, (some (49, false)), .mov (.t 11)⟩,
 ⟨some 51, (some (49, false)), .mov (.t 7)⟩,
 ⟨some 52, (some (49, false)), .binb true (.t 50) (.t 51)⟩,
 ⟨some 53, none, .pick (.t 49) (.v (.b true)) (.t 52)⟩] [1, 2, 6, 7, 8, 9, 10, 11, 53])
 (.cond (.t 53)
 (.seq
 (.reg [
 ⟨some 4, none, .mov (.v (.b false))⟩] [4])
 (.ret))
 (.skip)))
 (.seq
 (.seq
 (.draw [0, 0, 2, 7, 15] [
 ⟨some 54, none, .load true 2 (.t 8)⟩,
 ⟨some 55, none, .load true 2 (.t 2)⟩,
 ⟨some 56, none, .call fid_laws_toGraph false [.im] [(.t 55)]⟩,
 ⟨some 57, none, .call fid_laws_eqGraph false [.im, .im] [(.t 54), (.t 56)]⟩,
 ⟨some 58, none, .un .not (.t 57)⟩] [1, 2, 6, 7, 8, 9, 10, 11, 58])
 (.cond (.t 58)
 (.seq
 (.reg [
 ⟨some 4, none, .mov (.v (.b false))⟩] [4])
 (.ret))
 (.skip)))
 (.seq
 (.seq
 (.reg [
 ⟨some 59, none, .mov (.t 9)⟩,
 ⟨some 60, none, .mov (.t 1)⟩,
 ⟨some 61, none, .call fid_laws_toTurnS false [.im] [(.t 60)]⟩,
 ⟨some 62, none, .call fid_laws_eqTurnS false [.im, .im] [(.t 59), (.t 61)]⟩,
 ⟨some 63, none, .un .not (.t 62)⟩] [1, 2, 6, 7, 8, 9, 10, 11, 63])
 (.cond (.t 63)
 (.seq
 (.reg [
 ⟨some 4, none, .mov (.v (.b false))⟩] [4])
 (.ret))
 (.skip)))
 (.seq
 (.reg [
 ⟨some 12, none, .mov (.v (.i .i64 1))⟩] [1, 2, 6, 7, 8, 9, 10, 11, 12])
 (.seq
 (.reg [
 ⟨some 64, none, .load true 2 (.t 8)⟩,
 ⟨some 65, none, .mov (.t 12)⟩,
 ⟨some 66, none, .call fid_laws_markGraph false [.io, .im] [(.t 64), (.t 65)]⟩,
 ⟨some 12, none, .mov (.t 66)⟩] [1, 2, 6, 7, 9, 10, 11, 12])
 (.seq
 (.reg [
 ⟨some 67, none, .mov (.t 9)⟩,
 ⟨some 68, none, .mov (.t 12)⟩,
 ⟨some 69, none, .call fid_laws_markTurnS false [.io, .im] [(.t 67), (.t 68)]⟩,
 ⟨some 12, none, .mov (.t 69)⟩] [1, 2, 6, 7, 10, 11, 12])
 (.seq
 (.seq
 (.reg [
 ⟨some 70, none, .mov (.t 12)⟩,
 ⟨some 71, none, .bin .lss (.t 70) (.v (.i .i64 0))⟩,
 ⟨some 72, none, .mov (.t 71)⟩,
 ⟨some 73, (some (72, false)), .mov (.t 10)⟩,
 ⟨some 74, (some (72, false)), .mov (.t 6)⟩,
 ⟨some 75, (some (72, false)), .call fid_laws_eqIntSS false [.im, .im] [(.t 73), (.t 74)]⟩,
 ⟨some 76, (some (72, false)), .un .not (.t 75)⟩,
 ⟨some 77, none, .pick (.t 72) (.v (.b true)) (.t 76)⟩,
 ⟨some 78, none, .mov (.t 77)⟩,
 ⟨some 79, (some (78, false)), .mov (.t 11)⟩,
 ⟨some 80, (some (78, false)), .mov (.t 7)⟩,
 ⟨some 81, (some (78, false)), .binb true (.t 79) (.t 80)⟩,
 ⟨some 82, none, .pick (.t 78) (.v (.b true)) (.t 81)⟩] [1, 2, 6, 7, 10, 82])
 (.cond (.t 82)
 (.seq
 (.reg [
 ⟨some 4, none, .mov (.v (.b false))⟩] [4])
 (.ret))
 (.skip)))
 (.seq
 (.reg [
 ⟨some 13, none, .mov (.v (.i .i64 1))⟩] [1, 2, 6, 7, 10, 13])
 (.seq
 (.reg [
 ⟨some 83, none, .mov (.t 10)⟩,
 ⟨some 84, none, .mov (.t 13)⟩,
 ⟨some 85, none, .call fid_laws_markIntSS false [.io, .im] [(.t 83), (.t 84)]⟩,
 ⟨some 13, none, .mov (.t 85)⟩] [1, 2, 6, 7, 10, 13])
 (.seq
 (.reg [
 ⟨some 14, none, .mov (.v (.i .i64 1))⟩] [1, 2, 6, 7, 10, 13, 14])
 (.seq
 (.reg [
 ⟨some 86, none, .mov (.t 10)⟩,
 ⟨some 87, none, .mov (.t 14)⟩,
 ⟨some 88, none, .call fid_laws_heldIntSS false [.im, .im] [(.t 86), (.t 87)]⟩,
 ⟨some 14, none, .mov (.t 88)⟩] [1, 2, 6, 7, 10, 13, 14])
 (.seq
 (.seq
 (.reg [
 ⟨some 89, none, .mov (.t 14)⟩,
 ⟨some 90, none, .bin .lss (.t 89) (.v (.i .i64 0))⟩] [1, 2, 6, 7, 10, 13, 14, 90])
 (.cond (.t 90)
 (.seq
 (.reg [
 ⟨some 4, none, .mov (.v (.b false))⟩] [4])
 (.ret))
 (.skip)))
 (.seq
 (.seq
 (.reg [
 ⟨some 91, none, .mov (.t 14)⟩,
 ⟨some 92, none, .mov (.t 13)⟩,
 ⟨some 93, none, .bin .neq (.t 91) (.t 92)⟩] [1, 2, 6, 7, 10, 13, 93])
 (.cond (.t 93)
 (.seq
 (.reg [
 ⟨some 4, none, .mov (.v (.b false))⟩] [4])
 (.ret))
 (.skip)))
 (.seq
 (.reg [
 ⟨some 95, none, .load true 2 (.t 2)⟩,
 ⟨some 96, none, .call fid_laws_toGraph false [.im] [(.t 95)]⟩,
 ⟨some 97, none, .mov (.t 1)⟩,
 ⟨some 98, none, .call fid_laws_toTurnS false [.im] [(.t 97)]⟩,
 ⟨some 99, none, .call fid_impl_CountsOf false [.im, .im] [(.t 96), (.t 98)]⟩,
 ⟨some 94, none, .mov (.t 99)⟩,
 ⟨some 100, none, .extract (.t 94) 0⟩,
 ⟨some 101, none, .extract (.t 94) 1⟩,
 ⟨some 15, none, .mov (.t 100)⟩,
 ⟨some 16, none, .mov (.t 101)⟩] [6, 7, 10, 13, 15, 16])
 (.seq
 (.seq
 (.reg [
 ⟨some 102, none, .mov (.t 15)⟩,
 ⟨some 103, none, .mov (.t 6)⟩,
 ⟨some 104, none, .call fid_laws_eqIntSS false [.im, .im] [(.t 102), (.t 103)]⟩,
 ⟨some 105, none, .un .not (.t 104)⟩,
 ⟨some 106, none, .mov (.t 105)⟩,
 ⟨some 107, (some (106, false)), .mov (.t 16)⟩,
 ⟨some 108, (some (106, false)), .mov (.t 7)⟩,
 ⟨some 109, (some (106, false)), .binb true (.t 107) (.t 108)⟩,
 ⟨some 110, none, .pick (.t 106) (.v (.b true)) (.t 109)⟩] [10, 13, 110])
 (.cond (.t 110)
 (.seq
 (.reg [
 ⟨some 4, none, .mov (.v (.b false))⟩] [4])
 (.ret))
 (.skip)))
 (.seq
 (.reg [
 ⟨some 14, none, .mov (.v (.i .i64 1))⟩] [10, 13, 14])
 (.seq
 (.reg [
 ⟨some 111, none, .mov (.t 10)⟩,
 ⟨some 112, none, .mov (.t 14)⟩,
 ⟨some 113, none, .call fid_laws_heldIntSS false [.im, .im] [(.t 111), (.t 112)]⟩,
 ⟨some 14, none, .mov (.t 113)⟩] [13, 14])
 (.seq
 (.seq
 (.reg [
 ⟨some 114, none, .mov (.t 14)⟩,
 ⟨some 115, none, .bin .lss (.t 114) (.v (.i .i64 0))⟩] [13, 14, 115])
 (.cond (.t 115)
 (.seq
 (.reg [
 ⟨some 4, none, .mov (.v (.b false))⟩] [4])
 (.ret))
 (.skip)))
 (.seq
 (.seq
 (.reg [
 ⟨some 116, none, .mov (.t 14)⟩,
 ⟨some 117, none, .mov (.t 13)⟩,
 ⟨some 118, none, .bin .neq (.t 116) (.t 117)⟩] [118])
 (.cond (.t 118)
 (.seq
 (.reg [
 ⟨some 4, none, .mov (.v (.b false))⟩] [4])
 (.ret))
 (.skip)))
 (.seq
 (.reg [
 ⟨some 4, none, .mov (.v (.b true))⟩] [4])
 (.ret))))))))))))))))))))))))))))))
theorem get_laws_FnExactCountsOf : prog.funcs[fid_laws_FnExactCountsOf]? = some f3 := func3
theorem ok_laws_FnExactCountsOf : okFn prog f3 119 [] [(4, none)] mc_laws_FnExactCountsOf = true := by kernel_rfl

end Go.Fw
