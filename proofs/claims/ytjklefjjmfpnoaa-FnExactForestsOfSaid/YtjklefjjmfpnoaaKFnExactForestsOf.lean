/-
  The code of the statement FnExactForestsOf, as the model's own. Printed by a program.
-/
import Derived.Test.YtjklefjjmfpnoaaCf
namespace Go.Fw
open Go.Proofs.Try
set_option maxRecDepth 100000
def mc_laws_FnExactForestsOf : MCode :=
 .seq
 (.reg [
 ⟨some 2, none, .box 2 (.t 0)⟩,
 ⟨some 4, none, .mov (.v (.b false))⟩] [1, 2])
 (.seq
 (.reg [
 ⟨some 5, none, .mov (.v (.i .i64 1048576))⟩] [1, 2, 5])
 (.seq
 (.reg [
 ⟨some 16, none, .load true 2 (.t 2)⟩,
 ⟨some 17, none, .mov (.t 5)⟩,
 ⟨some 18, none, .call fid_laws_szGraph false [.im, .im] [(.t 16), (.t 17)]⟩,
 ⟨some 5, none, .mov (.t 18)⟩] [1, 2, 5])
 (.seq
 (.seq
 (.reg [
 ⟨some 19, none, .mov (.t 5)⟩,
 ⟨some 20, none, .bin .lss (.t 19) (.v (.i .i64 0))⟩] [1, 2, 20])
 (.cond (.t 20)
 (.seq
 (.reg [
 ⟨some 4, none, .mov (.v (.b true))⟩] [4])
 (.ret))
 (.skip)))
 (.seq
 (.reg [
 ⟨some 22, none, .load true 2 (.t 2)⟩,
 ⟨some 23, none, .call fid_laws_toGraph false [.im] [(.t 22)]⟩,
 ⟨some 24, none, .mov (.t 1)⟩,
 ⟨some 25, none, .call fid_spec_ForestsOf true [.im, .im] [(.t 23), (.t 24)]⟩,
 ⟨some 21, none, .mov (.t 25)⟩,
 ⟨some 26, none, .extract (.t 21) 0⟩,
 ⟨some 27, none, .extract (.t 21) 1⟩,
 ⟨some 6, none, .mov (.t 26)⟩,
 ⟨some 7, none, .mov (.t 27)⟩] [1, 2, 6, 7])
 (.seq
 (.reg [
 ⟨some 28, none, .load true 2 (.t 2)⟩,
 ⟨some 29, none, .call fid_laws_toGraph false [.im] [(.t 28)]⟩,
 ⟨some 8, none, .alloc [.i .i64 0, .nl 2]⟩,
 ⟨none, none, .store 2 (.t 8) (.t 29)⟩] [1, 2, 6, 7, 8])
 (.seq
 (.reg [
 ⟨some 31, none, .load true 2 (.t 8)⟩,
 ⟨some 32, none, .mov (.t 1)⟩,
 ⟨some 33, none, .call fid_impl_ForestsOf true [.im, .im] [(.t 31), (.t 32)]⟩,
 ⟨some 30, none, .mov (.t 33)⟩,
 ⟨some 34, none, .extract (.t 30) 0⟩,
 ⟨some 35, none, .extract (.t 30) 1⟩,
 ⟨some 9, none, .mov (.t 34)⟩,
 ⟨some 10, none, .mov (.t 35)⟩] [1, 2, 6, 7, 8, 9, 10])
 (.seq
 (.seq
 (.reg [
 ⟨some 36, none, .mov (.t 9)⟩,
 ⟨some 37, none, .mov (.t 6)⟩,
 ⟨some 38, none, .call fid_laws_eqEdgeSS false [.im, .im] [(.t 36), (.t 37)]⟩,
 ⟨some 39, none, .un .not (.t 38)⟩,
 ⟨some 40, none, .mov (.t 39)⟩,
 ⟨some 41, (some (40, false)), .mov (.t 10)⟩,
 ⟨some 42, (some (40, false)), .mov (.t 7)⟩,
 ⟨some 43, (some (40, false)), .binb true (.t 41) (.t 42)⟩,
 ⟨some 44, none, .pick (.t 40) (.v (.b true)) (.t 43)⟩] [1, 2, 6, 7, 8, 9, 10, 44])
 (.cond (.t 44)
 (.seq
 (.reg [
 ⟨some 4, none, .mov (.v (.b false))⟩] [4])
 (.ret))
 (.skip)))
 (.seq
 (.seq
 (.draw [0, 0, 2, 7, 15] [
 ⟨some 45, none, .load true 2 (.t 8)⟩,
 ⟨some 46, none, .load true 2 (.t 2)⟩,
 ⟨some 47, none, .call fid_laws_toGraph false [.im] [(.t 46)]⟩,
 ⟨some 48, none, .call fid_laws_eqGraph false [.im, .im] [(.t 45), (.t 47)]⟩,
 ⟨some 49, none, .un .not (.t 48)⟩] [1, 2, 6, 7, 8, 9, 10, 49])
 (.cond (.t 49)
 (.seq
 (.reg [
 ⟨some 4, none, .mov (.v (.b false))⟩] [4])
 (.ret))
 (.skip)))
 (.seq
 (.reg [
 ⟨some 11, none, .mov (.v (.i .i64 1))⟩] [1, 2, 6, 7, 8, 9, 10, 11])
 (.seq
 (.reg [
 ⟨some 50, none, .load true 2 (.t 8)⟩,
 ⟨some 51, none, .mov (.t 11)⟩,
 ⟨some 52, none, .call fid_laws_markGraph false [.io, .im] [(.t 50), (.t 51)]⟩,
 ⟨some 11, none, .mov (.t 52)⟩] [1, 2, 6, 7, 9, 10, 11])
 (.seq
 (.seq
 (.reg [
 ⟨some 53, none, .mov (.t 11)⟩,
 ⟨some 54, none, .bin .lss (.t 53) (.v (.i .i64 0))⟩,
 ⟨some 55, none, .mov (.t 54)⟩,
 ⟨some 56, (some (55, false)), .mov (.t 9)⟩,
 ⟨some 57, (some (55, false)), .mov (.t 6)⟩,
 ⟨some 58, (some (55, false)), .call fid_laws_eqEdgeSS false [.im, .im] [(.t 56), (.t 57)]⟩,
 ⟨some 59, (some (55, false)), .un .not (.t 58)⟩,
 ⟨some 60, none, .pick (.t 55) (.v (.b true)) (.t 59)⟩,
 ⟨some 61, none, .mov (.t 60)⟩,
 ⟨some 62, (some (61, false)), .mov (.t 10)⟩,
 ⟨some 63, (some (61, false)), .mov (.t 7)⟩,
 ⟨some 64, (some (61, false)), .binb true (.t 62) (.t 63)⟩,
 ⟨some 65, none, .pick (.t 61) (.v (.b true)) (.t 64)⟩] [1, 2, 6, 7, 9, 65])
 (.cond (.t 65)
 (.seq
 (.reg [
 ⟨some 4, none, .mov (.v (.b false))⟩] [4])
 (.ret))
 (.skip)))
 (.seq
 (.reg [
 ⟨some 12, none, .mov (.v (.i .i64 1))⟩] [1, 2, 6, 7, 9, 12])
 (.seq
 (.reg [
 ⟨some 66, none, .mov (.t 9)⟩,
 ⟨some 67, none, .mov (.t 12)⟩,
 ⟨some 68, none, .call fid_laws_markEdgeSS false [.io, .im] [(.t 66), (.t 67)]⟩,
 ⟨some 12, none, .mov (.t 68)⟩] [1, 2, 6, 7, 9, 12])
 (.seq
 (.reg [
 ⟨some 13, none, .mov (.v (.i .i64 1))⟩] [1, 2, 6, 7, 9, 12, 13])
 (.seq
 (.reg [
 ⟨some 69, none, .mov (.t 9)⟩,
 ⟨some 70, none, .mov (.t 13)⟩,
 ⟨some 71, none, .call fid_laws_heldEdgeSS false [.im, .im] [(.t 69), (.t 70)]⟩,
 ⟨some 13, none, .mov (.t 71)⟩] [1, 2, 6, 7, 9, 12, 13])
 (.seq
 (.seq
 (.reg [
 ⟨some 72, none, .mov (.t 13)⟩,
 ⟨some 73, none, .bin .lss (.t 72) (.v (.i .i64 0))⟩] [1, 2, 6, 7, 9, 12, 13, 73])
 (.cond (.t 73)
 (.seq
 (.reg [
 ⟨some 4, none, .mov (.v (.b false))⟩] [4])
 (.ret))
 (.skip)))
 (.seq
 (.seq
 (.reg [
 ⟨some 74, none, .mov (.t 13)⟩,
 ⟨some 75, none, .mov (.t 12)⟩,
 ⟨some 76, none, .bin .neq (.t 74) (.t 75)⟩] [1, 2, 6, 7, 9, 12, 76])
 (.cond (.t 76)
 (.seq
 (.reg [
 ⟨some 4, none, .mov (.v (.b false))⟩] [4])
 (.ret))
 (.skip)))
 (.seq
 (.reg [
 ⟨some 78, none, .load true 2 (.t 2)⟩,
 ⟨some 79, none, .call fid_laws_toGraph false [.im] [(.t 78)]⟩,
 ⟨some 80, none, .mov (.t 1)⟩,
 ⟨some 81, none, .call fid_impl_ForestsOf true [.im, .im] [(.t 79), (.t 80)]⟩,
 ⟨some 77, none, .mov (.t 81)⟩,
 ⟨some 82, none, .extract (.t 77) 0⟩,
 ⟨some 83, none, .extract (.t 77) 1⟩,
 ⟨some 14, none, .mov (.t 82)⟩,
 ⟨some 15, none, .mov (.t 83)⟩] [6, 7, 9, 12, 14, 15])
 (.seq
 (.seq
 (.reg [
 ⟨some 84, none, .mov (.t 14)⟩,
 ⟨some 85, none, .mov (.t 6)⟩,
 ⟨some 86, none, .call fid_laws_eqEdgeSS false [.im, .im] [(.t 84), (.t 85)]⟩,
 ⟨some 87, none, .un .not (.t 86)⟩,
 ⟨some 88, none, .mov (.t 87)⟩,
 ⟨some 89, (some (88, false)), .mov (.t 15)⟩,
 ⟨some 90, (some (88, false)), .mov (.t 7)⟩,
 ⟨some 91, (some (88, false)), .binb true (.t 89) (.t 90)⟩,
 ⟨some 92, none, .pick (.t 88) (.v (.b true)) (.t 91)⟩] [9, 12, 92])
 (.cond (.t 92)
 (.seq
 (.reg [
 ⟨some 4, none, .mov (.v (.b false))⟩] [4])
 (.ret))
 (.skip)))
 (.seq
 (.reg [
 ⟨some 13, none, .mov (.v (.i .i64 1))⟩] [9, 12, 13])
 (.seq
 (.reg [
 ⟨some 93, none, .mov (.t 9)⟩,
 ⟨some 94, none, .mov (.t 13)⟩,
 ⟨some 95, none, .call fid_laws_heldEdgeSS false [.im, .im] [(.t 93), (.t 94)]⟩,
 ⟨some 13, none, .mov (.t 95)⟩] [12, 13])
 (.seq
 (.seq
 (.reg [
 ⟨some 96, none, .mov (.t 13)⟩,
 ⟨some 97, none, .bin .lss (.t 96) (.v (.i .i64 0))⟩] [12, 13, 97])
 (.cond (.t 97)
 (.seq
 (.reg [
 ⟨some 4, none, .mov (.v (.b false))⟩] [4])
 (.ret))
 (.skip)))
 (.seq
 (.seq
 (.reg [
 ⟨some 98, none, .mov (.t 13)⟩,
 ⟨some 99, none, .mov (.t 12)⟩,
 ⟨some 100, none, .bin .neq (.t 98) (.t 99)⟩] [100])
 (.cond (.t 100)
 (.seq
 (.reg [
 ⟨some 4, none, .mov (.v (.b false))⟩] [4])
 (.ret))
 (.skip)))
 (.seq
 (.reg [
 ⟨some 4, none, .mov (.v (.b true))⟩] [4])
 (.ret)))))))))))))))))))))))))
theorem get_laws_FnExactForestsOf : prog.funcs[fid_laws_FnExactForestsOf]? = some f7 := func7
theorem ok_laws_FnExactForestsOf : okFn prog f7 101 [] [(4, none)] mc_laws_FnExactForestsOf = true := by kernel_rfl

end Go.Fw
