/-
  The code of the statements, as the model's own. Printed by a program.
-/
import Derived.Test.YtfjekgjhhmkgoaaCd
namespace Go.Fw
open Go.Proofs.Try
set_option maxRecDepth 100000
def mc_laws_FnExactCutLevel : MCode :=
 .seq
 (.reg [
 ⟨some 2, none, .box 4 (.t 0)⟩,
 ⟨some 3, none, .box 2 (.t 1)⟩,
 ⟨some 4, none, .mov (.v (.b false))⟩] [2, 3])
 (.seq
 (.reg [
 ⟨some 5, none, .mov (.v (.i .i64 1048576))⟩] [2, 3, 5])
 (.seq
 (.reg [
 ⟨some 22, none, .load true 4 (.t 2)⟩,
 ⟨some 23, none, .mov (.t 5)⟩,
 ⟨some 24, none, .call fid_laws_szLeveled false [.im, .im] [(.t 22), (.t 23)]⟩,
 ⟨some 5, none, .mov (.t 24)⟩] [2, 3, 5])
 (.seq
 (.seq
 (.reg [
 ⟨some 25, none, .mov (.t 5)⟩,
 ⟨some 26, none, .bin .lss (.t 25) (.v (.i .i64 0))⟩] [2, 3, 26])
 (.cond (.t 26)
 (.seq
 (.reg [
 ⟨some 4, none, .mov (.v (.b true))⟩] [4])
 (.ret))
 (.skip)))
 (.seq
 (.draw [0, 1, 0, 7, 15, 31, 63, 63, 63, 63, 0, 1151, 3327, 7679, 16383] [
 ⟨some 28, none, .load true 4 (.t 2)⟩,
 ⟨some 29, none, .call fid_laws_toLeveled false [.im] [(.t 28)]⟩,
 ⟨some 30, none, .load true 2 (.t 3)⟩,
 ⟨some 31, none, .call fid_laws_toEdge false [.im] [(.t 30)]⟩,
 ⟨some 32, none, .call fid_spec_CutLevel false [.im, .im] [(.t 29), (.t 31)]⟩,
 ⟨some 27, none, .mov (.t 32)⟩,
 ⟨some 33, none, .extract (.t 27) 0⟩,
 ⟨some 34, none, .extract (.t 27) 1⟩,
 ⟨some 35, none, .extract (.t 27) 2⟩,
 ⟨some 36, none, .extract (.t 27) 3⟩,
 ⟨some 6, none, .alloc [.i .i64 0, .nl 2, .nl 1, .nl 1]⟩,
 ⟨none, none, .store 4 (.t 6) (.t 33)⟩,
 ⟨some 7, none, .mov (.t 34)⟩,
 ⟨some 8, none, .mov (.t 35)⟩,
 ⟨some 9, none, .mov (.t 36)⟩] [2, 3, 6, 7, 8, 9])
 (.seq
 (.reg [
 ⟨some 37, none, .load true 4 (.t 2)⟩,
 ⟨some 38, none, .call fid_laws_toLeveled false [.im] [(.t 37)]⟩,
 ⟨some 10, none, .alloc [.i .i64 0, .nl 2, .nl 1, .nl 1]⟩,
 ⟨none, none, .store 4 (.t 10) (.t 38)⟩] [2, 3, 6, 7, 8, 9, 10])
 (.seq
 (.draw [0, 0, 2, 7, 15, 31, 31, 31, 31, 0, 575, 1663, 3839, 8191] [
 ⟨some 40, none, .load true 4 (.t 10)⟩,
 ⟨some 41, none, .load true 2 (.t 3)⟩,
 ⟨some 42, none, .call fid_laws_toEdge false [.im] [(.t 41)]⟩,
 ⟨some 43, none, .call fid_impl_CutLevel false [.im, .im] [(.t 40), (.t 42)]⟩,
 ⟨some 39, none, .mov (.t 43)⟩,
 ⟨some 44, none, .extract (.t 39) 0⟩,
 ⟨some 45, none, .extract (.t 39) 1⟩,
 ⟨some 46, none, .extract (.t 39) 2⟩,
 ⟨some 47, none, .extract (.t 39) 3⟩,
 ⟨some 11, none, .alloc [.i .i64 0, .nl 2, .nl 1, .nl 1]⟩,
 ⟨none, none, .store 4 (.t 11) (.t 44)⟩,
 ⟨some 12, none, .mov (.t 45)⟩,
 ⟨some 13, none, .mov (.t 46)⟩,
 ⟨some 14, none, .mov (.t 47)⟩] [2, 3, 6, 7, 8, 9, 10, 11, 12, 13, 14])
 (.seq
 (.seq
 (.reg [
 ⟨some 48, none, .load true 4 (.t 11)⟩,
 ⟨some 49, none, .load true 4 (.t 6)⟩,
 ⟨some 50, none, .call fid_laws_eqLeveled false [.im, .im] [(.t 48), (.t 49)]⟩,
 ⟨some 51, none, .un .not (.t 50)⟩,
 ⟨some 52, none, .mov (.t 51)⟩,
 ⟨some 53, (some (52, false)), .mov (.t 12)⟩,
 ⟨some 54, (some (52, false)), .mov (.t 7)⟩,
 ⟨some 55, (some (52, false)), .bin .neq (.t 53) (.t 54)⟩,
 ⟨some 56, none, .pick (.t 52) (.v (.b true)) (.t 55)⟩,
 ⟨some 57, none, .mov (.t 56)⟩,
 ⟨some 58, (some (57, false)), .mov (.t 13)⟩,
 ⟨some 59, (some (57, false)), .mov (.t 8)⟩,
 ⟨some 60, (some (57, false)), .binb true (.t 58) (.t 59)⟩,
 ⟨some 61, none, .pick (.t 57) (.v (.b true)) (.t 60)⟩,
 ⟨some 62, none, .mov (.t 61)⟩,
 ⟨some 63, (some (62, false)), .mov (.t 14)⟩,
 ⟨some 64, (some (62, false)), .mov (.t 9)⟩,
 ⟨some 65, (some (62, false)), .binb true (.t 63) (.t 64)⟩,
 ⟨some 66, none, .pick (.t 62) (.v (.b true)) (.t 65)⟩] [2, 3, 6, 7, 8, 9, 10, 11, 12, 13, 14, 66])
 (.cond (.t 66)
 (.seq
 (.reg [
 ⟨some 4, none, .mov (.v (.b false))⟩] [4])
 (.ret))
 (.skip)))
 (.seq
 (.seq
 (.draw [0, 0, 2, 7, 15] [
 ⟨some 67, none, .load true 4 (.t 10)⟩,
 ⟨some 68, none, .load true 4 (.t 2)⟩,
 ⟨some 69, none, .call fid_laws_toLeveled false [.im] [(.t 68)]⟩,
 ⟨some 70, none, .call fid_laws_eqLeveled false [.im, .im] [(.t 67), (.t 69)]⟩,
 ⟨some 71, none, .un .not (.t 70)⟩] [2, 3, 6, 7, 8, 9, 10, 11, 12, 13, 14, 71])
 (.cond (.t 71)
 (.seq
 (.reg [
 ⟨some 4, none, .mov (.v (.b false))⟩] [4])
 (.ret))
 (.skip)))
 (.seq
 (.reg [
 ⟨some 15, none, .mov (.v (.i .i64 1))⟩] [2, 3, 6, 7, 8, 9, 10, 11, 12, 13, 14, 15])
 (.seq
 (.reg [
 ⟨some 72, none, .load true 4 (.t 10)⟩,
 ⟨some 73, none, .mov (.t 15)⟩,
 ⟨some 74, none, .call fid_laws_markLeveled false [.io, .im] [(.t 72), (.t 73)]⟩,
 ⟨some 15, none, .mov (.t 74)⟩] [2, 3, 6, 7, 8, 9, 11, 12, 13, 14, 15])
 (.seq
 (.seq
 (.reg [
 ⟨some 75, none, .mov (.t 15)⟩,
 ⟨some 76, none, .bin .lss (.t 75) (.v (.i .i64 0))⟩,
 ⟨some 77, none, .mov (.t 76)⟩,
 ⟨some 78, (some (77, false)), .load true 4 (.t 11)⟩,
 ⟨some 79, (some (77, false)), .load true 4 (.t 6)⟩,
 ⟨some 80, (some (77, false)), .call fid_laws_eqLeveled false [.im, .im] [(.t 78), (.t 79)]⟩,
 ⟨some 81, (some (77, false)), .un .not (.t 80)⟩,
 ⟨some 82, none, .pick (.t 77) (.v (.b true)) (.t 81)⟩,
 ⟨some 83, none, .mov (.t 82)⟩,
 ⟨some 84, (some (83, false)), .mov (.t 12)⟩,
 ⟨some 85, (some (83, false)), .mov (.t 7)⟩,
 ⟨some 86, (some (83, false)), .bin .neq (.t 84) (.t 85)⟩,
 ⟨some 87, none, .pick (.t 83) (.v (.b true)) (.t 86)⟩,
 ⟨some 88, none, .mov (.t 87)⟩,
 ⟨some 89, (some (88, false)), .mov (.t 13)⟩,
 ⟨some 90, (some (88, false)), .mov (.t 8)⟩,
 ⟨some 91, (some (88, false)), .binb true (.t 89) (.t 90)⟩,
 ⟨some 92, none, .pick (.t 88) (.v (.b true)) (.t 91)⟩,
 ⟨some 93, none, .mov (.t 92)⟩,
 ⟨some 94, (some (93, false)), .mov (.t 14)⟩,
 ⟨some 95, (some (93, false)), .mov (.t 9)⟩,
 ⟨some 96, (some (93, false)), .binb true (.t 94) (.t 95)⟩,
 ⟨some 97, none, .pick (.t 93) (.v (.b true)) (.t 96)⟩] [2, 3, 6, 7, 8, 9, 11, 97])
 (.cond (.t 97)
 (.seq
 (.reg [
 ⟨some 4, none, .mov (.v (.b false))⟩] [4])
 (.ret))
 (.skip)))
 (.seq
 (.reg [
 ⟨some 16, none, .mov (.v (.i .i64 1))⟩] [2, 3, 6, 7, 8, 9, 11, 16])
 (.seq
 (.reg [
 ⟨some 98, none, .load true 4 (.t 11)⟩,
 ⟨some 99, none, .mov (.t 16)⟩,
 ⟨some 100, none, .call fid_laws_markLeveled false [.io, .im] [(.t 98), (.t 99)]⟩,
 ⟨some 16, none, .mov (.t 100)⟩] [2, 3, 6, 7, 8, 9, 11, 16])
 (.seq
 (.reg [
 ⟨some 17, none, .mov (.v (.i .i64 1))⟩] [2, 3, 6, 7, 8, 9, 11, 16, 17])
 (.seq
 (.reg [
 ⟨some 101, none, .load true 4 (.t 11)⟩,
 ⟨some 102, none, .mov (.t 17)⟩,
 ⟨some 103, none, .call fid_laws_heldLeveled false [.im, .im] [(.t 101), (.t 102)]⟩,
 ⟨some 17, none, .mov (.t 103)⟩] [2, 3, 6, 7, 8, 9, 11, 16, 17])
 (.seq
 (.seq
 (.reg [
 ⟨some 104, none, .mov (.t 17)⟩,
 ⟨some 105, none, .bin .lss (.t 104) (.v (.i .i64 0))⟩] [2, 3, 6, 7, 8, 9, 11, 16, 17, 105])
 (.cond (.t 105)
 (.seq
 (.reg [
 ⟨some 4, none, .mov (.v (.b false))⟩] [4])
 (.ret))
 (.skip)))
 (.seq
 (.seq
 (.reg [
 ⟨some 106, none, .mov (.t 17)⟩,
 ⟨some 107, none, .mov (.t 16)⟩,
 ⟨some 108, none, .bin .neq (.t 106) (.t 107)⟩] [2, 3, 6, 7, 8, 9, 11, 16, 108])
 (.cond (.t 108)
 (.seq
 (.reg [
 ⟨some 4, none, .mov (.v (.b false))⟩] [4])
 (.ret))
 (.skip)))
 (.seq
 (.draw [0, 1, 0, 7, 15, 31, 63, 63, 63, 63, 0, 1151, 3327, 7679, 16383] [
 ⟨some 110, none, .load true 4 (.t 2)⟩,
 ⟨some 111, none, .call fid_laws_toLeveled false [.im] [(.t 110)]⟩,
 ⟨some 112, none, .load true 2 (.t 3)⟩,
 ⟨some 113, none, .call fid_laws_toEdge false [.im] [(.t 112)]⟩,
 ⟨some 114, none, .call fid_impl_CutLevel false [.im, .im] [(.t 111), (.t 113)]⟩,
 ⟨some 109, none, .mov (.t 114)⟩,
 ⟨some 115, none, .extract (.t 109) 0⟩,
 ⟨some 116, none, .extract (.t 109) 1⟩,
 ⟨some 117, none, .extract (.t 109) 2⟩,
 ⟨some 118, none, .extract (.t 109) 3⟩,
 ⟨some 18, none, .alloc [.i .i64 0, .nl 2, .nl 1, .nl 1]⟩,
 ⟨none, none, .store 4 (.t 18) (.t 115)⟩,
 ⟨some 19, none, .mov (.t 116)⟩,
 ⟨some 20, none, .mov (.t 117)⟩,
 ⟨some 21, none, .mov (.t 118)⟩] [6, 7, 8, 9, 11, 16, 18, 19, 20, 21])
 (.seq
 (.seq
 (.reg [
 ⟨some 119, none, .load true 4 (.t 18)⟩,
 ⟨some 120, none, .load true 4 (.t 6)⟩,
 ⟨some 121, none, .call fid_laws_eqLeveled false [.im, .im] [(.t 119), (.t 120)]⟩,
 ⟨some 122, none, .un .not (.t 121)⟩,
 ⟨some 123, none, .mov (.t 122)⟩,
 ⟨some 124, (some (123, false)), .mov (.t 19)⟩,
 ⟨some 125, (some (123, false)), .mov (.t 7)⟩,
 ⟨some 126, (some (123, false)), .bin .neq (.t 124) (.t 125)⟩,
 ⟨some 127, none, .pick (.t 123) (.v (.b true)) (.t 126)⟩,
 ⟨some 128, none, .mov (.t 127)⟩,
 ⟨some 129, (some (128, false)), .mov (.t 20)⟩,
 ⟨some 130, (some (128, false)), .mov (.t 8)⟩,
 ⟨some 131, (some (128, false)), .binb true (.t 129) (.t 130)⟩,
 ⟨some 132, none, .pick (.t 128) (.v (.b true)) (.t 131)⟩,
 ⟨some 133, none, .mov (.t 132)⟩,
 ⟨some 134, (some (133, false)), .mov (.t 21)⟩,
 ⟨some 135, (some (133, false)), .mov (.t 9)⟩,
 ⟨some 136, (some (133, false)), .binb true (.t 134) (.t 135)⟩,
 ⟨some 137, none, .pick (.t 133) (.v (.b true)) (.t 136)⟩] [11, 16, 137])
 (.cond (.t 137)
 (.seq
 (.reg [
 ⟨some 4, none, .mov (.v (.b false))⟩] [4])
 (.ret))
 (.skip)))
 (.seq
 (.reg [
 ⟨some 17, none, .mov (.v (.i .i64 1))⟩] [11, 16, 17])
 (.seq
 (.reg [
 ⟨some 138, none, .load true 4 (.t 11)⟩,
 ⟨some 139, none, .mov (.t 17)⟩,
 ⟨some 140, none, .call fid_laws_heldLeveled false [.im, .im] [(.t 138), (.t 139)]⟩,
 ⟨some 17, none, .mov (.t 140)⟩] [16, 17])
 (.seq
 (.seq
 (.reg [
 ⟨some 141, none, .mov (.t 17)⟩,
 ⟨some 142, none, .bin .lss (.t 141) (.v (.i .i64 0))⟩] [16, 17, 142])
 (.cond (.t 142)
 (.seq
 (.reg [
 ⟨some 4, none, .mov (.v (.b false))⟩] [4])
 (.ret))
 (.skip)))
 (.seq
 (.seq
 (.reg [
 ⟨some 143, none, .mov (.t 17)⟩,
 ⟨some 144, none, .mov (.t 16)⟩,
 ⟨some 145, none, .bin .neq (.t 143) (.t 144)⟩] [145])
 (.cond (.t 145)
 (.seq
 (.reg [
 ⟨some 4, none, .mov (.v (.b false))⟩] [4])
 (.ret))
 (.skip)))
 (.seq
 (.reg [
 ⟨some 4, none, .mov (.v (.b true))⟩] [4])
 (.ret)))))))))))))))))))))))))
theorem get_laws_FnExactCutLevel : prog.funcs[fid_laws_FnExactCutLevel]? = some f3 := func3
theorem ok_laws_FnExactCutLevel : okFn prog f3 146 [] [(4, none)] mc_laws_FnExactCutLevel = true := by kernel_rfl
def mc_laws_FnPutLevel : MCode :=
 .seq
 (.reg [
 ⟨some 2, none, .mov (.v (.b false))⟩] [0])
 (.seq
 (.seq
 (.reg [
 ⟨some 15, none, .mov (.t 0)⟩,
 ⟨some 16, none, .len (.t 15)⟩,
 ⟨some 17, none, .bin .gtr (.t 16) (.v (.i .i64 1048576))⟩] [0, 17])
 (.cond (.t 17)
 (.seq
 (.reg [
 ⟨some 2, none, .mov (.v (.b true))⟩] [2])
 (.ret))
 (.skip)))
 (.seq
 (.reg [
 ⟨some 19, none, .mov (.t 0)⟩,
 ⟨some 20, none, .call fid_spec_DrawPutLevel false [.im] [(.t 19)]⟩,
 ⟨some 18, none, .mov (.t 20)⟩,
 ⟨some 21, none, .extract (.t 18) 0⟩,
 ⟨some 22, none, .extract (.t 18) 1⟩,
 ⟨some 3, none, .alloc [.i .i64 0, .nl 2, .nl 1, .nl 1]⟩,
 ⟨some 4, none, .alloc [.i .i64 0, .i .i64 0]⟩,
 ⟨none, none, .store 4 (.t 3) (.t 21)⟩,
 ⟨none, none, .store 2 (.t 4) (.t 22)⟩] [3, 4])
 (.seq
 (.reg [
 ⟨some 24, none, .load true 4 (.t 3)⟩,
 ⟨some 25, none, .load true 2 (.t 4)⟩,
 ⟨some 26, none, .call fid_impl_PutLevel false [.im, .im] [(.t 24), (.t 25)]⟩,
 ⟨some 23, none, .mov (.t 26)⟩,
 ⟨some 27, none, .extract (.t 23) 0⟩,
 ⟨some 28, none, .extract (.t 23) 1⟩,
 ⟨some 5, none, .alloc [.i .i64 0, .nl 2, .nl 1, .nl 1]⟩,
 ⟨none, none, .store 4 (.t 5) (.t 27)⟩,
 ⟨some 6, none, .mov (.t 28)⟩] [3, 4, 5, 6])
 (.seq
 (.reg [
 ⟨some 30, none, .load true 4 (.t 3)⟩,
 ⟨some 31, none, .load true 2 (.t 4)⟩,
 ⟨some 32, none, .call fid_spec_PutLevel false [.im, .im] [(.t 30), (.t 31)]⟩,
 ⟨some 29, none, .mov (.t 32)⟩,
 ⟨some 33, none, .extract (.t 29) 0⟩,
 ⟨some 34, none, .extract (.t 29) 1⟩,
 ⟨some 7, none, .alloc [.i .i64 0, .nl 2, .nl 1, .nl 1]⟩,
 ⟨none, none, .store 4 (.t 7) (.t 33)⟩,
 ⟨some 8, none, .mov (.t 34)⟩] [3, 4, 5, 6, 7, 8])
 (.seq
 (.seq
 (.reg [
 ⟨some 35, none, .load true 4 (.t 5)⟩,
 ⟨some 36, none, .load true 4 (.t 7)⟩,
 ⟨some 37, none, .call fid_laws_dyLeveled false [.im, .im] [(.t 35), (.t 36)]⟩,
 ⟨some 38, none, .un .not (.t 37)⟩,
 ⟨some 39, none, .mov (.t 38)⟩,
 ⟨some 40, (some (39, false)), .mov (.t 6)⟩,
 ⟨some 41, (some (39, false)), .mov (.t 8)⟩,
 ⟨some 42, (some (39, false)), .binb true (.t 40) (.t 41)⟩,
 ⟨some 43, none, .pick (.t 39) (.v (.b true)) (.t 42)⟩,
 ⟨some 44, none, .mov (.t 43)⟩,
 ⟨some 45, (some (44, false)), .mov (.t 6)⟩,
 ⟨some 46, (some (44, false)), .un .not (.t 45)⟩,
 ⟨some 47, none, .pick (.t 44) (.v (.b true)) (.t 46)⟩] [3, 4, 5, 6, 7, 8, 47])
 (.cond (.t 47)
 (.seq
 (.reg [
 ⟨some 48, none, .load true 4 (.t 5)⟩,
 ⟨some 49, none, .load true 4 (.t 7)⟩,
 ⟨some 50, none, .call fid_laws_dyLeveled false [.im, .im] [(.t 48), (.t 49)]⟩,
 ⟨some 51, none, .mov (.t 50)⟩,
 ⟨some 52, (some (51, true)), .mov (.t 6)⟩,
 ⟨some 53, (some (51, true)), .mov (.t 8)⟩,
 ⟨some 54, (some (51, true)), .binb false (.t 52) (.t 53)⟩,
 ⟨some 55, none, .pick (.t 51) (.t 54) (.v (.b false))⟩,
 ⟨some 2, none, .mov (.t 55)⟩] [2])
 (.ret))
 (.skip)))
 (.seq
 (.reg [
 ⟨some 57, none, .fieldAddr 0 (.t 3)⟩,
 ⟨some 58, none, .load true 2 (.t 57)⟩,
 ⟨some 59, none, .load true 2 (.t 4)⟩,
 ⟨some 60, none, .call fid_impl_PutEdge false [.im, .im] [(.t 58), (.t 59)]⟩,
 ⟨some 56, none, .mov (.t 60)⟩,
 ⟨some 61, none, .extract (.t 56) 0⟩,
 ⟨some 62, none, .extract (.t 56) 1⟩,
 ⟨some 9, none, .alloc [.i .i64 0, .nl 2]⟩,
 ⟨none, none, .store 2 (.t 9) (.t 61)⟩,
 ⟨some 10, none, .mov (.t 62)⟩] [3, 5, 9, 10])
 (.seq
 (.reg [
 ⟨some 64, none, .load true 4 (.t 3)⟩,
 ⟨some 65, none, .call fid_impl_SumLevels false [.im] [(.t 64)]⟩,
 ⟨some 63, none, .mov (.t 65)⟩,
 ⟨some 66, none, .extract (.t 63) 0⟩,
 ⟨some 67, none, .extract (.t 63) 1⟩,
 ⟨some 11, none, .mov (.t 66)⟩,
 ⟨some 12, none, .mov (.t 67)⟩] [5, 9, 10, 11])
 (.seq
 (.reg [
 ⟨some 69, none, .load true 4 (.t 5)⟩,
 ⟨some 70, none, .call fid_impl_SumLevels false [.im] [(.t 69)]⟩,
 ⟨some 68, none, .mov (.t 70)⟩,
 ⟨some 71, none, .extract (.t 68) 0⟩,
 ⟨some 72, none, .extract (.t 68) 1⟩,
 ⟨some 13, none, .mov (.t 71)⟩,
 ⟨some 14, none, .mov (.t 72)⟩] [5, 9, 10, 11, 13, 14])
 (.seq
 (.reg [
 ⟨some 73, none, .mov (.t 10)⟩,
 ⟨some 74, none, .mov (.t 73)⟩,
 ⟨some 75, (some (74, true)), .fieldAddr 0 (.t 5)⟩,
 ⟨some 76, (some (74, true)), .load true 2 (.t 75)⟩,
 ⟨some 77, (some (74, true)), .load true 2 (.t 9)⟩,
 ⟨some 78, (some (74, true)), .call fid_impl_GraphSame false [.im, .im] [(.t 76), (.t 77)]⟩,
 ⟨some 79, none, .pick (.t 74) (.t 78) (.v (.b false))⟩,
 ⟨some 80, none, .mov (.t 79)⟩,
 ⟨some 81, (some (80, true)), .load true 4 (.t 5)⟩,
 ⟨some 82, (some (80, true)), .call fid_impl_LevelsValid false [.im] [(.t 81)]⟩,
 ⟨some 83, none, .pick (.t 80) (.t 82) (.v (.b false))⟩,
 ⟨some 84, none, .mov (.t 83)⟩,
 ⟨some 85, (some (84, true)), .mov (.t 14)⟩,
 ⟨some 86, none, .pick (.t 84) (.t 85) (.v (.b false))⟩,
 ⟨some 87, none, .mov (.t 86)⟩,
 ⟨some 88, (some (87, true)), .mov (.t 11)⟩,
 ⟨some 89, (some (87, true)), .mov (.t 13)⟩,
 ⟨some 90, (some (87, true)), .bin .eql (.t 88) (.t 89)⟩,
 ⟨some 91, none, .pick (.t 87) (.t 90) (.v (.b false))⟩,
 ⟨some 2, none, .mov (.t 91)⟩] [2])
 (.ret))))))))))
theorem get_laws_FnPutLevel : prog.funcs[fid_laws_FnPutLevel]? = some f4 := func4
theorem ok_laws_FnPutLevel : okFn prog f4 92 [] [(2, none)] mc_laws_FnPutLevel = true := by kernel_rfl
def mc_laws_FnCutLevel : MCode :=
 .seq
 (.reg [
 ⟨some 2, none, .mov (.v (.b false))⟩] [0])
 (.seq
 (.seq
 (.reg [
 ⟨some 21, none, .mov (.t 0)⟩,
 ⟨some 22, none, .len (.t 21)⟩,
 ⟨some 23, none, .bin .gtr (.t 22) (.v (.i .i64 1048576))⟩] [0, 23])
 (.cond (.t 23)
 (.seq
 (.reg [
 ⟨some 2, none, .mov (.v (.b true))⟩] [2])
 (.ret))
 (.skip)))
 (.seq
 (.reg [
 ⟨some 25, none, .mov (.t 0)⟩,
 ⟨some 26, none, .call fid_spec_DrawCutLevel false [.im] [(.t 25)]⟩,
 ⟨some 24, none, .mov (.t 26)⟩,
 ⟨some 27, none, .extract (.t 24) 0⟩,
 ⟨some 28, none, .extract (.t 24) 1⟩,
 ⟨some 3, none, .alloc [.i .i64 0, .nl 2, .nl 1, .nl 1]⟩,
 ⟨some 4, none, .alloc [.i .i64 0, .i .i64 0]⟩,
 ⟨none, none, .store 4 (.t 3) (.t 27)⟩,
 ⟨none, none, .store 2 (.t 4) (.t 28)⟩] [3, 4])
 (.seq
 (.reg [
 ⟨some 30, none, .load true 4 (.t 3)⟩,
 ⟨some 31, none, .load true 2 (.t 4)⟩,
 ⟨some 32, none, .call fid_impl_CutLevel false [.im, .im] [(.t 30), (.t 31)]⟩,
 ⟨some 29, none, .mov (.t 32)⟩,
 ⟨some 33, none, .extract (.t 29) 0⟩,
 ⟨some 34, none, .extract (.t 29) 1⟩,
 ⟨some 35, none, .extract (.t 29) 2⟩,
 ⟨some 36, none, .extract (.t 29) 3⟩,
 ⟨some 5, none, .alloc [.i .i64 0, .nl 2, .nl 1, .nl 1]⟩,
 ⟨none, none, .store 4 (.t 5) (.t 33)⟩,
 ⟨some 6, none, .mov (.t 34)⟩,
 ⟨some 7, none, .mov (.t 35)⟩,
 ⟨some 8, none, .mov (.t 36)⟩] [3, 4, 5, 6, 7, 8])
 (.seq
 (.reg [
 ⟨some 38, none, .load true 4 (.t 3)⟩,
 ⟨some 39, none, .load true 2 (.t 4)⟩,
 ⟨some 40, none, .call fid_spec_CutLevel false [.im, .im] [(.t 38), (.t 39)]⟩,
 ⟨some 37, none, .mov (.t 40)⟩,
 ⟨some 41, none, .extract (.t 37) 0⟩,
 ⟨some 42, none, .extract (.t 37) 1⟩,
 ⟨some 43, none, .extract (.t 37) 2⟩,
 ⟨some 44, none, .extract (.t 37) 3⟩,
 ⟨some 9, none, .alloc [.i .i64 0, .nl 2, .nl 1, .nl 1]⟩,
 ⟨none, none, .store 4 (.t 9) (.t 41)⟩,
 ⟨some 10, none, .mov (.t 42)⟩,
 ⟨some 11, none, .mov (.t 43)⟩,
 ⟨some 12, none, .mov (.t 44)⟩] [3, 4, 5, 6, 7, 8, 9, 10, 11, 12])
 (.seq
 (.seq
 (.reg [
 ⟨some 45, none, .load true 4 (.t 5)⟩,
 ⟨some 46, none, .load true 4 (.t 9)⟩,
 ⟨some 47, none, .call fid_laws_dyLeveled false [.im, .im] [(.t 45), (.t 46)]⟩,
 ⟨some 48, none, .un .not (.t 47)⟩,
 ⟨some 49, none, .mov (.t 48)⟩,
 ⟨some 50, (some (49, false)), .mov (.t 6)⟩,
 ⟨some 51, (some (49, false)), .mov (.t 10)⟩,
 ⟨some 52, (some (49, false)), .bin .neq (.t 50) (.t 51)⟩,
 ⟨some 53, none, .pick (.t 49) (.v (.b true)) (.t 52)⟩,
 ⟨some 54, none, .mov (.t 53)⟩,
 ⟨some 55, (some (54, false)), .mov (.t 7)⟩,
 ⟨some 56, (some (54, false)), .mov (.t 11)⟩,
 ⟨some 57, (some (54, false)), .binb true (.t 55) (.t 56)⟩,
 ⟨some 58, none, .pick (.t 54) (.v (.b true)) (.t 57)⟩,
 ⟨some 59, none, .mov (.t 58)⟩,
 ⟨some 60, (some (59, false)), .mov (.t 8)⟩,
 ⟨some 61, (some (59, false)), .mov (.t 12)⟩,
 ⟨some 62, (some (59, false)), .binb true (.t 60) (.t 61)⟩,
 ⟨some 63, none, .pick (.t 59) (.v (.b true)) (.t 62)⟩,
 ⟨some 64, none, .mov (.t 63)⟩,
 ⟨some 65, (some (64, false)), .mov (.t 8)⟩,
 ⟨some 66, (some (64, false)), .un .not (.t 65)⟩,
 ⟨some 67, none, .pick (.t 64) (.v (.b true)) (.t 66)⟩] [3, 4, 5, 6, 7, 8, 9, 10, 11, 12, 67])
 (.cond (.t 67)
 (.seq
 (.reg [
 ⟨some 68, none, .load true 4 (.t 5)⟩,
 ⟨some 69, none, .load true 4 (.t 9)⟩,
 ⟨some 70, none, .call fid_laws_dyLeveled false [.im, .im] [(.t 68), (.t 69)]⟩,
 ⟨some 71, none, .mov (.t 70)⟩,
 ⟨some 72, (some (71, true)), .mov (.t 6)⟩,
 ⟨some 73, (some (71, true)), .mov (.t 10)⟩,
 ⟨some 74, (some (71, true)), .bin .eql (.t 72) (.t 73)⟩,
 ⟨some 75, none, .pick (.t 71) (.t 74) (.v (.b false))⟩,
 ⟨some 76, none, .mov (.t 75)⟩,
 ⟨some 77, (some (76, true)), .mov (.t 7)⟩,
 ⟨some 78, (some (76, true)), .mov (.t 11)⟩,
 ⟨some 79, (some (76, true)), .binb false (.t 77) (.t 78)⟩,
 ⟨some 80, none, .pick (.t 76) (.t 79) (.v (.b false))⟩,
 ⟨some 81, none, .mov (.t 80)⟩,
 ⟨some 82, (some (81, true)), .mov (.t 8)⟩,
 ⟨some 83, (some (81, true)), .mov (.t 12)⟩,
 ⟨some 84, (some (81, true)), .binb false (.t 82) (.t 83)⟩,
 ⟨some 85, none, .pick (.t 81) (.t 84) (.v (.b false))⟩,
 ⟨some 2, none, .mov (.t 85)⟩] [2])
 (.ret))
 (.skip)))
 (.seq
 (.reg [
 ⟨some 87, none, .fieldAddr 0 (.t 3)⟩,
 ⟨some 88, none, .load true 2 (.t 87)⟩,
 ⟨some 89, none, .load true 2 (.t 4)⟩,
 ⟨some 90, none, .call fid_impl_CutEdge false [.im, .im] [(.t 88), (.t 89)]⟩,
 ⟨some 86, none, .mov (.t 90)⟩,
 ⟨some 91, none, .extract (.t 86) 0⟩,
 ⟨some 92, none, .extract (.t 86) 1⟩,
 ⟨some 13, none, .alloc [.i .i64 0, .nl 2]⟩,
 ⟨none, none, .store 2 (.t 13) (.t 91)⟩,
 ⟨some 14, none, .mov (.t 92)⟩] [3, 4, 5, 6, 13, 14])
 (.seq
 (.reg [
 ⟨some 94, none, .load true 4 (.t 3)⟩,
 ⟨some 95, none, .call fid_impl_SumLevels false [.im] [(.t 94)]⟩,
 ⟨some 93, none, .mov (.t 95)⟩,
 ⟨some 96, none, .extract (.t 93) 0⟩,
 ⟨some 97, none, .extract (.t 93) 1⟩,
 ⟨some 15, none, .mov (.t 96)⟩,
 ⟨some 16, none, .mov (.t 97)⟩] [3, 4, 5, 6, 13, 14, 15])
 (.seq
 (.reg [
 ⟨some 99, none, .load true 4 (.t 5)⟩,
 ⟨some 100, none, .call fid_impl_SumLevels false [.im] [(.t 99)]⟩,
 ⟨some 98, none, .mov (.t 100)⟩,
 ⟨some 101, none, .extract (.t 98) 0⟩,
 ⟨some 102, none, .extract (.t 98) 1⟩,
 ⟨some 17, none, .mov (.t 101)⟩,
 ⟨some 18, none, .mov (.t 102)⟩] [3, 4, 5, 6, 13, 14, 15, 17, 18])
 (.seq
 (.reg [
 ⟨some 19, none, .mov (.v (.i .i64 0))⟩] [3, 4, 5, 6, 13, 14, 15, 17, 18, 19])
 (.seq
 (.seq
 (.reg [
 ⟨some 20, none, .mov (.v (.i .i64 0))⟩] [3, 4, 5, 6, 13, 14, 15, 17, 18, 19, 20])
 (.block 0
 (.loop [3, 4, 5, 6, 13, 14, 15, 17, 18, 19, 20]
 (.seq
 (.seq
 (.reg [
 ⟨some 103, none, .mov (.t 20)⟩,
 ⟨some 104, none, .fieldAddr 2 (.t 3)⟩,
 ⟨some 105, none, .load false 1 (.t 104)⟩,
 ⟨some 106, none, .len (.t 105)⟩,
 ⟨some 107, none, .bin .lss (.t 103) (.t 106)⟩] [3, 4, 5, 6, 13, 14, 15, 17, 18, 19, 20, 107])
 (.cond (.t 107)
 (.skip)
 (.exit 0)))
 (.seq
 (.block 1
 (.seq
 (.draw [0, 1, 3, 0, 15, 31, 0, 127] [
 ⟨some 110, none, .fieldAddr 0 (.t 3)⟩,
 ⟨some 111, none, .fieldAddr 1 (.t 110)⟩,
 ⟨some 112, none, .load false 1 (.t 111)⟩,
 ⟨some 113, none, .mov (.t 20)⟩,
 ⟨some 114, none, .indexAddr 2 (.t 112) (.t 113)⟩,
 ⟨some 115, none, .load true 2 (.t 114)⟩,
 ⟨some 116, none, .load true 2 (.t 4)⟩,
 ⟨some 117, none, .eqAgg false [true, true] (.t 115) (.t 116)⟩] [3, 4, 5, 6, 13, 14, 15, 17, 18, 19, 20, 117])
 (.cond (.t 117)
 (.reg [
 ⟨some 118, none, .fieldAddr 2 (.t 3)⟩,
 ⟨some 119, none, .load false 1 (.t 118)⟩,
 ⟨some 120, none, .mov (.t 20)⟩,
 ⟨some 121, none, .indexAddr 1 (.t 119) (.t 120)⟩,
 ⟨some 122, none, .load false 1 (.t 121)⟩,
 ⟨some 19, none, .mov (.t 122)⟩] [3, 4, 5, 6, 13, 14, 15, 17, 18, 19, 20])
 (.skip))))
 (.reg [
 ⟨some 108, none, .mov (.t 20)⟩,
 ⟨some 109, none, .bin .add (.t 108) (.v (.i .i64 1))⟩,
 ⟨some 20, none, .mov (.t 109)⟩] [3, 4, 5, 6, 13, 14, 15, 17, 18, 19, 20]))))))
 (.seq
 (.reg [
 ⟨some 123, none, .mov (.t 14)⟩,
 ⟨some 124, none, .mov (.t 123)⟩,
 ⟨some 125, (some (124, true)), .fieldAddr 0 (.t 5)⟩,
 ⟨some 126, (some (124, true)), .load true 2 (.t 125)⟩,
 ⟨some 127, (some (124, true)), .load true 2 (.t 13)⟩,
 ⟨some 128, (some (124, true)), .call fid_impl_GraphSame false [.im, .im] [(.t 126), (.t 127)]⟩,
 ⟨some 129, none, .pick (.t 124) (.t 128) (.v (.b false))⟩,
 ⟨some 130, none, .mov (.t 129)⟩,
 ⟨some 131, (some (130, true)), .load true 4 (.t 5)⟩,
 ⟨some 132, (some (130, true)), .call fid_impl_LevelsValid false [.im] [(.t 131)]⟩,
 ⟨some 133, none, .pick (.t 130) (.t 132) (.v (.b false))⟩,
 ⟨some 134, none, .mov (.t 133)⟩,
 ⟨some 135, (some (134, true)), .mov (.t 18)⟩,
 ⟨some 136, none, .pick (.t 134) (.t 135) (.v (.b false))⟩,
 ⟨some 137, none, .mov (.t 136)⟩,
 ⟨some 138, (some (137, true)), .mov (.t 17)⟩,
 ⟨some 139, (some (137, true)), .mov (.t 15)⟩,
 ⟨some 140, (some (137, true)), .mov (.t 19)⟩,
 ⟨some 141, (some (137, true)), .bin .sub (.t 139) (.t 140)⟩,
 ⟨some 142, (some (137, true)), .mov (.t 6)⟩,
 ⟨some 143, (some (137, true)), .bin .add (.t 141) (.t 142)⟩,
 ⟨some 144, (some (137, true)), .bin .eql (.t 138) (.t 143)⟩,
 ⟨some 145, none, .pick (.t 137) (.t 144) (.v (.b false))⟩,
 ⟨some 2, none, .mov (.t 145)⟩] [2])
 (.ret))))))))))))
theorem get_laws_FnCutLevel : prog.funcs[fid_laws_FnCutLevel]? = some f5 := func5
theorem ok_laws_FnCutLevel : okFn prog f5 146 [] [(2, none)] mc_laws_FnCutLevel = true := by kernel_rfl
def mc_laws_FnCutAll : MCode :=
 .seq
 (.reg [
 ⟨some 2, none, .mov (.v (.b false))⟩] [0])
 (.seq
 (.seq
 (.reg [
 ⟨some 18, none, .mov (.t 0)⟩,
 ⟨some 19, none, .len (.t 18)⟩,
 ⟨some 20, none, .bin .gtr (.t 19) (.v (.i .i64 1048576))⟩] [0, 20])
 (.cond (.t 20)
 (.seq
 (.reg [
 ⟨some 2, none, .mov (.v (.b true))⟩] [2])
 (.ret))
 (.skip)))
 (.seq
 (.reg [
 ⟨some 22, none, .mov (.t 0)⟩,
 ⟨some 23, none, .call fid_spec_DrawCutLevel false [.im] [(.t 22)]⟩,
 ⟨some 21, none, .mov (.t 23)⟩,
 ⟨some 24, none, .extract (.t 21) 0⟩,
 ⟨some 25, none, .extract (.t 21) 1⟩,
 ⟨some 3, none, .alloc [.i .i64 0, .nl 2, .nl 1, .nl 1]⟩,
 ⟨some 4, none, .alloc [.i .i64 0, .i .i64 0]⟩,
 ⟨none, none, .store 4 (.t 3) (.t 24)⟩,
 ⟨none, none, .store 2 (.t 4) (.t 25)⟩] [3, 4])
 (.seq
 (.reg [
 ⟨some 27, none, .load true 4 (.t 3)⟩,
 ⟨some 28, none, .load true 2 (.t 4)⟩,
 ⟨some 29, none, .call fid_impl_CutLevel false [.im, .im] [(.t 27), (.t 28)]⟩,
 ⟨some 26, none, .mov (.t 29)⟩,
 ⟨some 30, none, .extract (.t 26) 0⟩,
 ⟨some 31, none, .extract (.t 26) 1⟩,
 ⟨some 32, none, .extract (.t 26) 2⟩,
 ⟨some 33, none, .extract (.t 26) 3⟩,
 ⟨some 5, none, .alloc [.i .i64 0, .nl 2, .nl 1, .nl 1]⟩,
 ⟨none, none, .store 4 (.t 5) (.t 30)⟩,
 ⟨some 6, none, .mov (.t 31)⟩,
 ⟨some 7, none, .mov (.t 32)⟩,
 ⟨some 8, none, .mov (.t 33)⟩] [3, 4, 5, 6, 7, 8])
 (.seq
 (.reg [
 ⟨some 35, none, .load true 4 (.t 3)⟩,
 ⟨some 36, none, .load true 2 (.t 4)⟩,
 ⟨some 37, none, .call fid_spec_CutLevel false [.im, .im] [(.t 35), (.t 36)]⟩,
 ⟨some 34, none, .mov (.t 37)⟩,
 ⟨some 38, none, .extract (.t 34) 0⟩,
 ⟨some 39, none, .extract (.t 34) 1⟩,
 ⟨some 40, none, .extract (.t 34) 2⟩,
 ⟨some 41, none, .extract (.t 34) 3⟩,
 ⟨some 9, none, .alloc [.i .i64 0, .nl 2, .nl 1, .nl 1]⟩,
 ⟨none, none, .store 4 (.t 9) (.t 38)⟩,
 ⟨some 10, none, .mov (.t 39)⟩,
 ⟨some 11, none, .mov (.t 40)⟩,
 ⟨some 12, none, .mov (.t 41)⟩] [3, 5, 6, 7, 8, 9, 10, 11, 12])
 (.seq
 (.seq
 (.reg [
 ⟨some 42, none, .load true 4 (.t 5)⟩,
 ⟨some 43, none, .load true 4 (.t 9)⟩,
 ⟨some 44, none, .call fid_laws_dyLeveled false [.im, .im] [(.t 42), (.t 43)]⟩,
 ⟨some 45, none, .un .not (.t 44)⟩,
 ⟨some 46, none, .mov (.t 45)⟩,
 ⟨some 47, (some (46, false)), .mov (.t 6)⟩,
 ⟨some 48, (some (46, false)), .mov (.t 10)⟩,
 ⟨some 49, (some (46, false)), .bin .neq (.t 47) (.t 48)⟩,
 ⟨some 50, none, .pick (.t 46) (.v (.b true)) (.t 49)⟩,
 ⟨some 51, none, .mov (.t 50)⟩,
 ⟨some 52, (some (51, false)), .mov (.t 7)⟩,
 ⟨some 53, (some (51, false)), .mov (.t 11)⟩,
 ⟨some 54, (some (51, false)), .binb true (.t 52) (.t 53)⟩,
 ⟨some 55, none, .pick (.t 51) (.v (.b true)) (.t 54)⟩,
 ⟨some 56, none, .mov (.t 55)⟩,
 ⟨some 57, (some (56, false)), .mov (.t 8)⟩,
 ⟨some 58, (some (56, false)), .mov (.t 12)⟩,
 ⟨some 59, (some (56, false)), .binb true (.t 57) (.t 58)⟩,
 ⟨some 60, none, .pick (.t 56) (.v (.b true)) (.t 59)⟩,
 ⟨some 61, none, .mov (.t 60)⟩,
 ⟨some 62, (some (61, false)), .mov (.t 8)⟩,
 ⟨some 63, (some (61, false)), .un .not (.t 62)⟩,
 ⟨some 64, none, .pick (.t 61) (.v (.b true)) (.t 63)⟩] [3, 5, 6, 7, 8, 9, 10, 11, 12, 64])
 (.cond (.t 64)
 (.seq
 (.reg [
 ⟨some 65, none, .load true 4 (.t 5)⟩,
 ⟨some 66, none, .load true 4 (.t 9)⟩,
 ⟨some 67, none, .call fid_laws_dyLeveled false [.im, .im] [(.t 65), (.t 66)]⟩,
 ⟨some 68, none, .mov (.t 67)⟩,
 ⟨some 69, (some (68, true)), .mov (.t 6)⟩,
 ⟨some 70, (some (68, true)), .mov (.t 10)⟩,
 ⟨some 71, (some (68, true)), .bin .eql (.t 69) (.t 70)⟩,
 ⟨some 72, none, .pick (.t 68) (.t 71) (.v (.b false))⟩,
 ⟨some 73, none, .mov (.t 72)⟩,
 ⟨some 74, (some (73, true)), .mov (.t 7)⟩,
 ⟨some 75, (some (73, true)), .mov (.t 11)⟩,
 ⟨some 76, (some (73, true)), .binb false (.t 74) (.t 75)⟩,
 ⟨some 77, none, .pick (.t 73) (.t 76) (.v (.b false))⟩,
 ⟨some 78, none, .mov (.t 77)⟩,
 ⟨some 79, (some (78, true)), .mov (.t 8)⟩,
 ⟨some 80, (some (78, true)), .mov (.t 12)⟩,
 ⟨some 81, (some (78, true)), .binb false (.t 79) (.t 80)⟩,
 ⟨some 82, none, .pick (.t 78) (.t 81) (.v (.b false))⟩,
 ⟨some 2, none, .mov (.t 82)⟩] [2])
 (.ret))
 (.skip)))
 (.seq
 (.reg [
 ⟨some 83, none, .mov (.t 6)⟩,
 ⟨some 13, none, .mov (.t 83)⟩] [3, 5, 13])
 (.seq
 (.block 0
 (.loop [3, 5, 13]
 (.seq
 (.seq
 (.reg [
 ⟨some 84, none, .fieldAddr 0 (.t 5)⟩,
 ⟨some 85, none, .fieldAddr 1 (.t 84)⟩,
 ⟨some 86, none, .load false 1 (.t 85)⟩,
 ⟨some 87, none, .len (.t 86)⟩,
 ⟨some 88, none, .bin .gtr (.t 87) (.v (.i .i64 0))⟩] [3, 5, 13, 88])
 (.cond (.t 88)
 (.skip)
 (.exit 0)))
 (.block 1
 (.seq
 (.draw [0, 0, 2, 6, 0, 16, 48, 112, 240, 510, 1022, 2047, 4095, 8191, 8191, 8191, 8191, 0, 147455, 425983, 983039, 2097151] [
 ⟨some 90, none, .load true 4 (.t 5)⟩,
 ⟨some 91, none, .fieldAddr 0 (.t 5)⟩,
 ⟨some 92, none, .fieldAddr 1 (.t 91)⟩,
 ⟨some 93, none, .load false 1 (.t 92)⟩,
 ⟨some 94, none, .fieldAddr 0 (.t 5)⟩,
 ⟨some 95, none, .fieldAddr 1 (.t 94)⟩,
 ⟨some 96, none, .load false 1 (.t 95)⟩,
 ⟨some 97, none, .len (.t 96)⟩,
 ⟨some 98, none, .bin .quo (.t 97) (.v (.i .i64 2))⟩,
 ⟨some 99, none, .indexAddr 2 (.t 93) (.t 98)⟩,
 ⟨some 100, none, .load true 2 (.t 99)⟩,
 ⟨some 101, none, .call fid_impl_CutLevel false [.im, .im] [(.t 90), (.t 100)]⟩,
 ⟨some 89, none, .mov (.t 101)⟩,
 ⟨some 102, none, .extract (.t 89) 0⟩,
 ⟨some 103, none, .extract (.t 89) 1⟩,
 ⟨some 104, none, .extract (.t 89) 2⟩,
 ⟨some 105, none, .extract (.t 89) 3⟩,
 ⟨some 14, none, .alloc [.i .i64 0, .nl 2, .nl 1, .nl 1]⟩,
 ⟨none, none, .store 4 (.t 14) (.t 102)⟩,
 ⟨some 15, none, .mov (.t 103)⟩,
 ⟨some 16, none, .mov (.t 104)⟩,
 ⟨some 17, none, .mov (.t 105)⟩] [3, 5, 13, 14, 15, 17])
 (.seq
 (.seq
 (.reg [
 ⟨some 106, none, .mov (.t 17)⟩,
 ⟨some 107, none, .un .not (.t 106)⟩] [3, 5, 13, 14, 15, 107])
 (.cond (.t 107)
 (.seq
 (.reg [
 ⟨some 2, none, .mov (.v (.b false))⟩] [2])
 (.ret))
 (.skip)))
 (.seq
 (.reg [
 ⟨some 108, none, .mov (.t 13)⟩,
 ⟨some 109, none, .mov (.t 15)⟩,
 ⟨some 110, none, .bin .add (.t 108) (.t 109)⟩,
 ⟨some 13, none, .mov (.t 110)⟩] [3, 5, 13, 14])
 (.reg [
 ⟨some 111, none, .load true 4 (.t 14)⟩,
 ⟨none, none, .store 4 (.t 5) (.t 111)⟩] [3, 5, 13]))))))))
 (.seq
 (.draw [0, 1, 3, 7, 15, 31, 7, 71, 199, 511, 1023, 2047, 4095, 4095, 12287, 28671, 61439, 131071, 262143, 524287] [
 ⟨some 112, none, .load true 4 (.t 5)⟩,
 ⟨some 113, none, .call fid_impl_LevelsValid false [.im] [(.t 112)]⟩,
 ⟨some 114, none, .mov (.t 113)⟩,
 ⟨some 115, (some (114, true)), .fieldAddr 0 (.t 5)⟩,
 ⟨some 116, (some (114, true)), .load true 2 (.t 115)⟩,
 ⟨some 117, (some (114, true)), .call fid_impl_PartCount false [.im] [(.t 116)]⟩,
 ⟨some 118, (some (114, true)), .fieldAddr 0 (.t 5)⟩,
 ⟨some 119, (some (114, true)), .fieldAddr 0 (.t 118)⟩,
 ⟨some 120, (some (114, true)), .load false 1 (.t 119)⟩,
 ⟨some 121, (some (114, true)), .bin .eql (.t 117) (.t 120)⟩,
 ⟨some 122, none, .pick (.t 114) (.t 121) (.v (.b false))⟩,
 ⟨some 123, none, .mov (.t 122)⟩,
 ⟨some 124, (some (123, true)), .mov (.t 13)⟩,
 ⟨some 125, (some (123, true)), .fieldAddr 2 (.t 3)⟩,
 ⟨some 126, (some (123, true)), .load false 1 (.t 125)⟩,
 ⟨some 127, (some (123, true)), .len (.t 126)⟩,
 ⟨some 128, (some (123, true)), .bin .mul (.v (.i .i64 4)) (.t 127)⟩,
 ⟨some 129, (some (123, true)), .bin .leq (.t 124) (.t 128)⟩,
 ⟨some 130, none, .pick (.t 123) (.t 129) (.v (.b false))⟩,
 ⟨some 2, none, .mov (.t 130)⟩] [2])
 (.ret)))))))))
theorem get_laws_FnCutAll : prog.funcs[fid_laws_FnCutAll]? = some f6 := func6
theorem ok_laws_FnCutAll : okFn prog f6 131 [] [(2, none)] mc_laws_FnCutAll = true := by kernel_rfl
def mc_laws_FnSumLevels : MCode :=
 .seq
 (.reg [
 ⟨some 2, none, .mov (.v (.b false))⟩] [0])
 (.seq
 (.seq
 (.reg [
 ⟨some 11, none, .mov (.t 0)⟩,
 ⟨some 12, none, .len (.t 11)⟩,
 ⟨some 13, none, .bin .gtr (.t 12) (.v (.i .i64 1048576))⟩] [0, 13])
 (.cond (.t 13)
 (.seq
 (.reg [
 ⟨some 2, none, .mov (.v (.b true))⟩] [2])
 (.ret))
 (.skip)))
 (.seq
 (.reg [
 ⟨some 14, none, .mov (.t 0)⟩,
 ⟨some 15, none, .call fid_spec_DrawSumLevels false [.im] [(.t 14)]⟩,
 ⟨some 3, none, .alloc [.i .i64 0, .nl 2, .nl 1, .nl 1]⟩,
 ⟨none, none, .store 4 (.t 3) (.t 15)⟩] [3])
 (.seq
 (.reg [
 ⟨some 17, none, .load true 4 (.t 3)⟩,
 ⟨some 18, none, .call fid_impl_SumLevels false [.im] [(.t 17)]⟩,
 ⟨some 16, none, .mov (.t 18)⟩,
 ⟨some 19, none, .extract (.t 16) 0⟩,
 ⟨some 20, none, .extract (.t 16) 1⟩,
 ⟨some 4, none, .mov (.t 19)⟩,
 ⟨some 5, none, .mov (.t 20)⟩] [3, 4, 5])
 (.seq
 (.reg [
 ⟨some 22, none, .load true 4 (.t 3)⟩,
 ⟨some 23, none, .call fid_spec_SumLevels false [.im] [(.t 22)]⟩,
 ⟨some 21, none, .mov (.t 23)⟩,
 ⟨some 24, none, .extract (.t 21) 0⟩,
 ⟨some 25, none, .extract (.t 21) 1⟩,
 ⟨some 6, none, .mov (.t 24)⟩,
 ⟨some 7, none, .mov (.t 25)⟩] [3, 4, 5, 6, 7])
 (.seq
 (.seq
 (.reg [
 ⟨some 26, none, .mov (.t 4)⟩,
 ⟨some 27, none, .mov (.t 6)⟩,
 ⟨some 28, none, .bin .neq (.t 26) (.t 27)⟩,
 ⟨some 29, none, .mov (.t 28)⟩,
 ⟨some 30, (some (29, false)), .mov (.t 5)⟩,
 ⟨some 31, (some (29, false)), .mov (.t 7)⟩,
 ⟨some 32, (some (29, false)), .binb true (.t 30) (.t 31)⟩,
 ⟨some 33, none, .pick (.t 29) (.v (.b true)) (.t 32)⟩,
 ⟨some 34, none, .mov (.t 33)⟩,
 ⟨some 35, (some (34, false)), .mov (.t 5)⟩,
 ⟨some 36, (some (34, false)), .load true 4 (.t 3)⟩,
 ⟨some 37, (some (34, false)), .call fid_impl_LevelsValid false [.im] [(.t 36)]⟩,
 ⟨some 38, (some (34, false)), .binb true (.t 35) (.t 37)⟩,
 ⟨some 39, none, .pick (.t 34) (.v (.b true)) (.t 38)⟩,
 ⟨some 40, none, .mov (.t 39)⟩,
 ⟨some 41, (some (40, false)), .mov (.t 5)⟩,
 ⟨some 42, (some (40, false)), .load true 4 (.t 3)⟩,
 ⟨some 43, (some (40, false)), .call fid_spec_LevelsValid false [.im] [(.t 42)]⟩,
 ⟨some 44, (some (40, false)), .binb true (.t 41) (.t 43)⟩,
 ⟨some 45, none, .pick (.t 40) (.v (.b true)) (.t 44)⟩,
 ⟨some 46, none, .mov (.t 45)⟩,
 ⟨some 47, (some (46, false)), .mov (.t 5)⟩,
 ⟨some 48, (some (46, false)), .un .not (.t 47)⟩,
 ⟨some 49, none, .pick (.t 46) (.v (.b true)) (.t 48)⟩] [3, 4, 5, 6, 7, 49])
 (.cond (.t 49)
 (.seq
 (.reg [
 ⟨some 50, none, .mov (.t 4)⟩,
 ⟨some 51, none, .mov (.t 6)⟩,
 ⟨some 52, none, .bin .eql (.t 50) (.t 51)⟩,
 ⟨some 53, none, .mov (.t 52)⟩,
 ⟨some 54, (some (53, true)), .mov (.t 5)⟩,
 ⟨some 55, (some (53, true)), .mov (.t 7)⟩,
 ⟨some 56, (some (53, true)), .binb false (.t 54) (.t 55)⟩,
 ⟨some 57, none, .pick (.t 53) (.t 56) (.v (.b false))⟩,
 ⟨some 58, none, .mov (.t 57)⟩,
 ⟨some 59, (some (58, true)), .mov (.t 5)⟩,
 ⟨some 60, (some (58, true)), .load true 4 (.t 3)⟩,
 ⟨some 61, (some (58, true)), .call fid_impl_LevelsValid false [.im] [(.t 60)]⟩,
 ⟨some 62, (some (58, true)), .binb false (.t 59) (.t 61)⟩,
 ⟨some 63, none, .pick (.t 58) (.t 62) (.v (.b false))⟩,
 ⟨some 64, none, .mov (.t 63)⟩,
 ⟨some 65, (some (64, true)), .mov (.t 5)⟩,
 ⟨some 66, (some (64, true)), .load true 4 (.t 3)⟩,
 ⟨some 67, (some (64, true)), .call fid_spec_LevelsValid false [.im] [(.t 66)]⟩,
 ⟨some 68, (some (64, true)), .binb false (.t 65) (.t 67)⟩,
 ⟨some 69, none, .pick (.t 64) (.t 68) (.v (.b false))⟩,
 ⟨some 2, none, .mov (.t 69)⟩] [2])
 (.ret))
 (.skip)))
 (.seq
 (.seq
 (.reg [
 ⟨some 8, none, .mov (.v (.i .i64 0))⟩] [3, 4, 8])
 (.block 0
 (.loop [3, 4, 8]
 (.seq
 (.seq
 (.reg [
 ⟨some 70, none, .mov (.t 8)⟩,
 ⟨some 71, none, .fieldAddr 2 (.t 3)⟩,
 ⟨some 72, none, .load false 1 (.t 71)⟩,
 ⟨some 73, none, .len (.t 72)⟩,
 ⟨some 74, none, .bin .lss (.t 70) (.t 73)⟩] [3, 4, 8, 74])
 (.cond (.t 74)
 (.skip)
 (.exit 0)))
 (.seq
 (.block 1
 (.seq
 (.reg [
 ⟨some 77, none, .fieldAddr 0 (.t 3)⟩,
 ⟨some 78, none, .fieldAddr 0 (.t 77)⟩,
 ⟨some 79, none, .load false 1 (.t 78)⟩,
 ⟨some 9, none, .mov (.t 79)⟩] [3, 4, 8, 9])
 (.seq
 (.seq
 (.reg [
 ⟨some 10, none, .mov (.v (.i .i64 0))⟩] [3, 4, 8, 9, 10])
 (.block 2
 (.loop [3, 4, 8, 9, 10]
 (.seq
 (.seq
 (.reg [
 ⟨some 80, none, .mov (.t 10)⟩,
 ⟨some 81, none, .fieldAddr 2 (.t 3)⟩,
 ⟨some 82, none, .load false 1 (.t 81)⟩,
 ⟨some 83, none, .mov (.t 8)⟩,
 ⟨some 84, none, .indexAddr 1 (.t 82) (.t 83)⟩,
 ⟨some 85, none, .load false 1 (.t 84)⟩,
 ⟨some 86, none, .bin .lss (.t 80) (.t 85)⟩] [3, 4, 8, 9, 10, 86])
 (.cond (.t 86)
 (.skip)
 (.exit 2)))
 (.seq
 (.block 3
 (.reg [
 ⟨some 89, none, .mov (.t 9)⟩,
 ⟨some 90, none, .bin .quo (.t 89) (.v (.i .i64 2))⟩,
 ⟨some 9, none, .mov (.t 90)⟩] [3, 4, 8, 9, 10]))
 (.reg [
 ⟨some 87, none, .mov (.t 10)⟩,
 ⟨some 88, none, .bin .add (.t 87) (.v (.i .i64 1))⟩,
 ⟨some 10, none, .mov (.t 88)⟩] [3, 4, 8, 9, 10]))))))
 (.seq
 (.reg [
 ⟨some 91, none, .mov (.t 9)⟩,
 ⟨some 92, none, .bin .lss (.t 91) (.v (.i .i64 2))⟩] [3, 4, 8, 92])
 (.cond (.t 92)
 (.seq
 (.reg [
 ⟨some 2, none, .mov (.v (.b false))⟩] [2])
 (.ret))
 (.skip))))))
 (.reg [
 ⟨some 75, none, .mov (.t 8)⟩,
 ⟨some 76, none, .bin .add (.t 75) (.v (.i .i64 1))⟩,
 ⟨some 8, none, .mov (.t 76)⟩] [3, 4, 8]))))))
 (.seq
 (.reg [
 ⟨some 93, none, .mov (.t 4)⟩,
 ⟨some 94, none, .bin .geq (.t 93) (.v (.i .i64 0))⟩,
 ⟨some 95, none, .mov (.t 94)⟩,
 ⟨some 96, (some (95, true)), .mov (.t 4)⟩,
 ⟨some 97, (some (95, true)), .fieldAddr 2 (.t 3)⟩,
 ⟨some 98, (some (95, true)), .load false 1 (.t 97)⟩,
 ⟨some 99, (some (95, true)), .len (.t 98)⟩,
 ⟨some 100, (some (95, true)), .bin .mul (.v (.i .i64 4)) (.t 99)⟩,
 ⟨some 101, (some (95, true)), .bin .leq (.t 96) (.t 100)⟩,
 ⟨some 102, none, .pick (.t 95) (.t 101) (.v (.b false))⟩,
 ⟨some 2, none, .mov (.t 102)⟩] [2])
 (.ret))))))))
theorem get_laws_FnSumLevels : prog.funcs[fid_laws_FnSumLevels]? = some f7 := func7
theorem ok_laws_FnSumLevels : okFn prog f7 103 [] [(2, none)] mc_laws_FnSumLevels = true := by kernel_rfl
def mc_laws_FnLevelForest : MCode :=
 .seq
 (.reg [
 ⟨some 2, none, .mov (.v (.b false))⟩] [0])
 (.seq
 (.seq
 (.reg [
 ⟨some 12, none, .mov (.t 0)⟩,
 ⟨some 13, none, .len (.t 12)⟩,
 ⟨some 14, none, .bin .gtr (.t 13) (.v (.i .i64 1048576))⟩] [0, 14])
 (.cond (.t 14)
 (.seq
 (.reg [
 ⟨some 2, none, .mov (.v (.b true))⟩] [2])
 (.ret))
 (.skip)))
 (.seq
 (.reg [
 ⟨some 16, none, .mov (.t 0)⟩,
 ⟨some 17, none, .call fid_spec_DrawLevelForest false [.im] [(.t 16)]⟩,
 ⟨some 15, none, .mov (.t 17)⟩,
 ⟨some 18, none, .extract (.t 15) 0⟩,
 ⟨some 19, none, .extract (.t 15) 1⟩,
 ⟨some 3, none, .alloc [.i .i64 0, .nl 2, .nl 1, .nl 1]⟩,
 ⟨none, none, .store 4 (.t 3) (.t 18)⟩,
 ⟨some 4, none, .mov (.t 19)⟩] [3, 4])
 (.seq
 (.reg [
 ⟨some 21, none, .load true 4 (.t 3)⟩,
 ⟨some 22, none, .mov (.t 4)⟩,
 ⟨some 23, none, .call fid_impl_LevelForest false [.im, .im] [(.t 21), (.t 22)]⟩,
 ⟨some 20, none, .mov (.t 23)⟩,
 ⟨some 24, none, .extract (.t 20) 0⟩,
 ⟨some 25, none, .extract (.t 20) 1⟩,
 ⟨some 5, none, .mov (.t 24)⟩,
 ⟨some 6, none, .mov (.t 25)⟩] [3, 4, 5, 6])
 (.seq
 (.reg [
 ⟨some 27, none, .load true 4 (.t 3)⟩,
 ⟨some 28, none, .mov (.t 4)⟩,
 ⟨some 29, none, .call fid_spec_LevelForest false [.im, .im] [(.t 27), (.t 28)]⟩,
 ⟨some 26, none, .mov (.t 29)⟩,
 ⟨some 30, none, .extract (.t 26) 0⟩,
 ⟨some 31, none, .extract (.t 26) 1⟩,
 ⟨some 7, none, .mov (.t 30)⟩,
 ⟨some 8, none, .mov (.t 31)⟩] [3, 5, 6, 7, 8])
 (.seq
 (.seq
 (.reg [
 ⟨some 32, none, .mov (.t 5)⟩,
 ⟨some 33, none, .mov (.t 7)⟩,
 ⟨some 34, none, .call fid_laws_dyEdges false [.im, .im] [(.t 32), (.t 33)]⟩,
 ⟨some 35, none, .un .not (.t 34)⟩,
 ⟨some 36, none, .mov (.t 35)⟩,
 ⟨some 37, (some (36, false)), .mov (.t 6)⟩,
 ⟨some 38, (some (36, false)), .mov (.t 8)⟩,
 ⟨some 39, (some (36, false)), .binb true (.t 37) (.t 38)⟩,
 ⟨some 40, none, .pick (.t 36) (.v (.b true)) (.t 39)⟩,
 ⟨some 41, none, .mov (.t 40)⟩,
 ⟨some 42, (some (41, false)), .mov (.t 6)⟩,
 ⟨some 43, (some (41, false)), .un .not (.t 42)⟩,
 ⟨some 44, none, .pick (.t 41) (.v (.b true)) (.t 43)⟩] [3, 5, 6, 7, 8, 44])
 (.cond (.t 44)
 (.seq
 (.reg [
 ⟨some 45, none, .mov (.t 5)⟩,
 ⟨some 46, none, .mov (.t 7)⟩,
 ⟨some 47, none, .call fid_laws_dyEdges false [.im, .im] [(.t 45), (.t 46)]⟩,
 ⟨some 48, none, .mov (.t 47)⟩,
 ⟨some 49, (some (48, true)), .mov (.t 6)⟩,
 ⟨some 50, (some (48, true)), .mov (.t 8)⟩,
 ⟨some 51, (some (48, true)), .binb false (.t 49) (.t 50)⟩,
 ⟨some 52, none, .pick (.t 48) (.t 51) (.v (.b false))⟩,
 ⟨some 2, none, .mov (.t 52)⟩] [2])
 (.ret))
 (.skip)))
 (.seq
 (.reg [
 ⟨some 54, none, .load true 4 (.t 3)⟩,
 ⟨some 55, none, .call fid_impl_LevelForest false [.im, .im] [(.t 54), (.v (.i .i64 0))]⟩,
 ⟨some 53, none, .mov (.t 55)⟩,
 ⟨some 56, none, .extract (.t 53) 0⟩,
 ⟨some 57, none, .extract (.t 53) 1⟩,
 ⟨some 9, none, .mov (.t 56)⟩,
 ⟨some 10, none, .mov (.t 57)⟩] [3, 5, 9, 10])
 (.seq
 (.seq
 (.reg [
 ⟨some 11, none, .mov (.v (.i .i64 0))⟩] [3, 5, 9, 10, 11])
 (.block 0
 (.loop [3, 5, 9, 10, 11]
 (.seq
 (.seq
 (.reg [
 ⟨some 58, none, .mov (.t 11)⟩,
 ⟨some 59, none, .mov (.t 5)⟩,
 ⟨some 60, none, .len (.t 59)⟩,
 ⟨some 61, none, .bin .lss (.t 58) (.t 60)⟩] [3, 5, 9, 10, 11, 61])
 (.cond (.t 61)
 (.skip)
 (.exit 0)))
 (.seq
 (.block 1
 (.seq
 (.reg [
 ⟨some 64, none, .mov (.t 9)⟩,
 ⟨some 65, none, .mov (.t 5)⟩,
 ⟨some 66, none, .mov (.t 11)⟩,
 ⟨some 67, none, .indexAddr 2 (.t 65) (.t 66)⟩,
 ⟨some 68, none, .load true 2 (.t 67)⟩,
 ⟨some 69, none, .call fid_laws_dyHas false [.im, .im] [(.t 64), (.t 68)]⟩,
 ⟨some 70, none, .un .not (.t 69)⟩] [3, 5, 9, 10, 11, 70])
 (.cond (.t 70)
 (.seq
 (.reg [
 ⟨some 2, none, .mov (.v (.b false))⟩] [2])
 (.ret))
 (.skip))))
 (.reg [
 ⟨some 62, none, .mov (.t 11)⟩,
 ⟨some 63, none, .bin .add (.t 62) (.v (.i .i64 1))⟩,
 ⟨some 11, none, .mov (.t 63)⟩] [3, 5, 9, 10, 11]))))))
 (.seq
 (.draw [0, 1, 3, 7, 3, 19, 51, 3, 131, 387, 1011, 2047, 4095, 8191] [
 ⟨some 71, none, .mov (.t 10)⟩,
 ⟨some 72, none, .mov (.t 71)⟩,
 ⟨some 73, (some (72, true)), .mov (.t 9)⟩,
 ⟨some 74, (some (72, true)), .len (.t 73)⟩,
 ⟨some 75, (some (72, true)), .fieldAddr 0 (.t 3)⟩,
 ⟨some 76, (some (72, true)), .fieldAddr 0 (.t 75)⟩,
 ⟨some 77, (some (72, true)), .load false 1 (.t 76)⟩,
 ⟨some 78, (some (72, true)), .fieldAddr 0 (.t 3)⟩,
 ⟨some 79, (some (72, true)), .load true 2 (.t 78)⟩,
 ⟨some 80, (some (72, true)), .call fid_impl_PartCount false [.im] [(.t 79)]⟩,
 ⟨some 81, (some (72, true)), .bin .sub (.t 77) (.t 80)⟩,
 ⟨some 82, (some (72, true)), .bin .eql (.t 74) (.t 81)⟩,
 ⟨some 83, none, .pick (.t 72) (.t 82) (.v (.b false))⟩,
 ⟨some 2, none, .mov (.t 83)⟩] [2])
 (.ret)))))))))
theorem get_laws_FnLevelForest : prog.funcs[fid_laws_FnLevelForest]? = some f8 := func8
theorem ok_laws_FnLevelForest : okFn prog f8 84 [] [(2, none)] mc_laws_FnLevelForest = true := by kernel_rfl
def mc_laws_szLeveled : MCode :=
 .seq
 (.reg [
 ⟨some 2, none, .box 4 (.t 0)⟩,
 ⟨some 4, none, .mov (.v (.i .i64 0))⟩] [1, 2])
 (.seq
 (.reg [
 ⟨some 5, none, .fieldAddr 0 (.t 2)⟩,
 ⟨some 6, none, .load true 2 (.t 5)⟩,
 ⟨some 7, none, .mov (.t 1)⟩,
 ⟨some 8, none, .call fid_laws_szGraph false [.im, .im] [(.t 6), (.t 7)]⟩,
 ⟨some 1, none, .mov (.t 8)⟩] [1, 2])
 (.seq
 (.seq
 (.reg [
 ⟨some 9, none, .mov (.t 1)⟩,
 ⟨some 10, none, .bin .lss (.t 9) (.v (.i .i64 0))⟩] [1, 2, 10])
 (.cond (.t 10)
 (.seq
 (.reg [
 ⟨some 4, none, .mov (.v (.i .i64 (-1)))⟩] [4])
 (.ret))
 (.skip)))
 (.seq
 (.reg [
 ⟨some 11, none, .fieldAddr 2 (.t 2)⟩,
 ⟨some 12, none, .load false 1 (.t 11)⟩,
 ⟨some 13, none, .mov (.t 1)⟩,
 ⟨some 14, none, .call fid_laws_szIntS false [.im, .im] [(.t 12), (.t 13)]⟩,
 ⟨some 1, none, .mov (.t 14)⟩] [1, 2])
 (.seq
 (.seq
 (.reg [
 ⟨some 15, none, .mov (.t 1)⟩,
 ⟨some 16, none, .bin .lss (.t 15) (.v (.i .i64 0))⟩] [1, 2, 16])
 (.cond (.t 16)
 (.seq
 (.reg [
 ⟨some 4, none, .mov (.v (.i .i64 (-1)))⟩] [4])
 (.ret))
 (.skip)))
 (.seq
 (.reg [
 ⟨some 17, none, .fieldAddr 3 (.t 2)⟩,
 ⟨some 18, none, .load false 1 (.t 17)⟩,
 ⟨some 19, none, .mov (.t 1)⟩,
 ⟨some 20, none, .call fid_laws_szBoolS false [.im, .im] [(.t 18), (.t 19)]⟩,
 ⟨some 1, none, .mov (.t 20)⟩] [1])
 (.seq
 (.seq
 (.reg [
 ⟨some 21, none, .mov (.t 1)⟩,
 ⟨some 22, none, .bin .lss (.t 21) (.v (.i .i64 0))⟩] [1, 22])
 (.cond (.t 22)
 (.seq
 (.reg [
 ⟨some 4, none, .mov (.v (.i .i64 (-1)))⟩] [4])
 (.ret))
 (.skip)))
 (.seq
 (.reg [
 ⟨some 23, none, .mov (.t 1)⟩,
 ⟨some 4, none, .mov (.t 23)⟩] [4])
 (.ret))))))))
theorem get_laws_szLeveled : prog.funcs[fid_laws_szLeveled]? = some f9 := func9
theorem ok_laws_szLeveled : okFn prog f9 24 [] [(4, none)] mc_laws_szLeveled = true := by kernel_rfl
def mc_laws_toLeveled : MCode :=
 .seq
 (.reg [
 ⟨some 1, none, .box 4 (.t 0)⟩,
 ⟨some 2, none, .alloc [.i .i64 0, .nl 2, .nl 1, .nl 1]⟩] [1, 2])
 (.seq
 (.reg [
 ⟨some 3, none, .alloc [.i .i64 0, .nl 2, .nl 1, .nl 1]⟩] [1, 2, 3])
 (.seq
 (.reg [
 ⟨some 4, none, .fieldAddr 0 (.t 1)⟩,
 ⟨some 5, none, .load true 2 (.t 4)⟩,
 ⟨some 6, none, .call fid_laws_toGraph false [.im] [(.t 5)]⟩,
 ⟨some 7, none, .fieldAddr 0 (.t 3)⟩,
 ⟨none, none, .store 2 (.t 7) (.t 6)⟩] [1, 2, 3])
 (.seq
 (.reg [
 ⟨some 8, none, .fieldAddr 2 (.t 1)⟩,
 ⟨some 9, none, .load false 1 (.t 8)⟩,
 ⟨some 10, none, .call fid_laws_toIntS false [.im] [(.t 9)]⟩,
 ⟨some 11, none, .fieldAddr 2 (.t 3)⟩,
 ⟨none, none, .store 1 (.t 11) (.t 10)⟩] [1, 2, 3])
 (.seq
 (.reg [
 ⟨some 12, none, .fieldAddr 3 (.t 1)⟩,
 ⟨some 13, none, .load false 1 (.t 12)⟩,
 ⟨some 14, none, .call fid_laws_toBoolS false [.im] [(.t 13)]⟩,
 ⟨some 15, none, .fieldAddr 3 (.t 3)⟩,
 ⟨none, none, .store 1 (.t 15) (.t 14)⟩] [2, 3])
 (.seq
 (.reg [
 ⟨some 16, none, .load true 4 (.t 3)⟩,
 ⟨none, none, .store 4 (.t 2) (.t 16)⟩] [2])
 (.ret))))))
theorem get_laws_toLeveled : prog.funcs[fid_laws_toLeveled]? = some f11 := func11
theorem ok_laws_toLeveled : okFn prog f11 17 [] [(2, some (true, 4))] mc_laws_toLeveled = true := by kernel_rfl
def mc_laws_toEdge : MCode :=
 .seq
 (.reg [
 ⟨some 1, none, .box 2 (.t 0)⟩,
 ⟨some 2, none, .alloc [.i .i64 0, .i .i64 0]⟩] [1, 2])
 (.seq
 (.reg [
 ⟨some 3, none, .alloc [.i .i64 0, .i .i64 0]⟩] [1, 2, 3])
 (.seq
 (.reg [
 ⟨some 4, none, .fieldAddr 0 (.t 1)⟩,
 ⟨some 5, none, .load false 1 (.t 4)⟩,
 ⟨some 6, none, .fieldAddr 0 (.t 3)⟩,
 ⟨none, none, .store 1 (.t 6) (.t 5)⟩] [1, 2, 3])
 (.seq
 (.reg [
 ⟨some 7, none, .fieldAddr 1 (.t 1)⟩,
 ⟨some 8, none, .load false 1 (.t 7)⟩,
 ⟨some 9, none, .fieldAddr 1 (.t 3)⟩,
 ⟨none, none, .store 1 (.t 9) (.t 8)⟩] [2, 3])
 (.seq
 (.reg [
 ⟨some 10, none, .load true 2 (.t 3)⟩,
 ⟨none, none, .store 2 (.t 2) (.t 10)⟩] [2])
 (.ret)))))
theorem get_laws_toEdge : prog.funcs[fid_laws_toEdge]? = some f12 := func12
theorem ok_laws_toEdge : okFn prog f12 11 [] [(2, some (true, 2))] mc_laws_toEdge = true := by kernel_rfl
def mc_laws_eqLeveled : MCode :=
 .seq
 (.reg [
 ⟨some 2, none, .box 4 (.t 0)⟩,
 ⟨some 3, none, .box 4 (.t 1)⟩,
 ⟨some 4, none, .mov (.v (.b false))⟩] [2, 3])
 (.seq
 (.seq
 (.reg [
 ⟨some 5, none, .fieldAddr 0 (.t 2)⟩,
 ⟨some 6, none, .load true 2 (.t 5)⟩,
 ⟨some 7, none, .fieldAddr 0 (.t 3)⟩,
 ⟨some 8, none, .load true 2 (.t 7)⟩,
 ⟨some 9, none, .call fid_laws_eqGraph false [.im, .im] [(.t 6), (.t 8)]⟩,
 ⟨some 10, none, .un .not (.t 9)⟩] [2, 3, 10])
 (.cond (.t 10)
 (.seq
 (.reg [
 ⟨some 4, none, .mov (.v (.b false))⟩] [4])
 (.ret))
 (.skip)))
 (.seq
 (.seq
 (.reg [
 ⟨some 11, none, .fieldAddr 2 (.t 2)⟩,
 ⟨some 12, none, .load false 1 (.t 11)⟩,
 ⟨some 13, none, .fieldAddr 2 (.t 3)⟩,
 ⟨some 14, none, .load false 1 (.t 13)⟩,
 ⟨some 15, none, .call fid_laws_eqIntS false [.im, .im] [(.t 12), (.t 14)]⟩,
 ⟨some 16, none, .un .not (.t 15)⟩] [2, 3, 16])
 (.cond (.t 16)
 (.seq
 (.reg [
 ⟨some 4, none, .mov (.v (.b false))⟩] [4])
 (.ret))
 (.skip)))
 (.seq
 (.seq
 (.reg [
 ⟨some 17, none, .fieldAddr 3 (.t 2)⟩,
 ⟨some 18, none, .load false 1 (.t 17)⟩,
 ⟨some 19, none, .fieldAddr 3 (.t 3)⟩,
 ⟨some 20, none, .load false 1 (.t 19)⟩,
 ⟨some 21, none, .call fid_laws_eqBoolS false [.im, .im] [(.t 18), (.t 20)]⟩,
 ⟨some 22, none, .un .not (.t 21)⟩] [22])
 (.cond (.t 22)
 (.seq
 (.reg [
 ⟨some 4, none, .mov (.v (.b false))⟩] [4])
 (.ret))
 (.skip)))
 (.seq
 (.reg [
 ⟨some 4, none, .mov (.v (.b true))⟩] [4])
 (.ret)))))
theorem get_laws_eqLeveled : prog.funcs[fid_laws_eqLeveled]? = some f14 := func14
theorem ok_laws_eqLeveled : okFn prog f14 23 [] [(4, none)] mc_laws_eqLeveled = true := by kernel_rfl
def mc_laws_markLeveled : MCode :=
 .seq
 (.reg [
 ⟨some 2, none, .box 4 (.t 0)⟩,
 ⟨some 4, none, .mov (.v (.i .i64 0))⟩] [0, 1, 2])
 (.seq
 (.reg [
 ⟨some 5, none, .fieldAddr 0 (.t 2)⟩,
 ⟨some 6, none, .load true 2 (.t 5)⟩,
 ⟨some 7, none, .mov (.t 1)⟩,
 ⟨some 8, none, .call fid_laws_markGraph false [.io, .im] [(.t 6), (.t 7)]⟩,
 ⟨some 1, none, .mov (.t 8)⟩] [0, 1, 2])
 (.seq
 (.reg [
 ⟨some 9, none, .fieldAddr 2 (.t 2)⟩,
 ⟨some 10, none, .load false 1 (.t 9)⟩,
 ⟨some 11, none, .mov (.t 1)⟩,
 ⟨some 12, none, .call fid_laws_markIntS false [.io, .im] [(.t 10), (.t 11)]⟩,
 ⟨some 1, none, .mov (.t 12)⟩] [0, 1, 2])
 (.seq
 (.reg [
 ⟨some 13, none, .fieldAddr 3 (.t 2)⟩,
 ⟨some 14, none, .load false 1 (.t 13)⟩,
 ⟨some 15, none, .mov (.t 1)⟩,
 ⟨some 16, none, .call fid_laws_markBoolS false [.io, .im] [(.t 14), (.t 15)]⟩,
 ⟨some 1, none, .mov (.t 16)⟩] [0, 1])
 (.seq
 (.reg [
 ⟨some 17, none, .mov (.t 1)⟩,
 ⟨some 4, none, .mov (.t 17)⟩] [0, 4])
 (.ret)))))
theorem get_laws_markLeveled : prog.funcs[fid_laws_markLeveled]? = some f15 := func15
theorem ok_laws_markLeveled : okFn prog f15 18 [0] [(4, none)] mc_laws_markLeveled = true := by kernel_rfl
def mc_laws_heldLeveled : MCode :=
 .seq
 (.reg [
 ⟨some 2, none, .box 4 (.t 0)⟩,
 ⟨some 4, none, .mov (.v (.i .i64 0))⟩] [1, 2])
 (.seq
 (.reg [
 ⟨some 5, none, .fieldAddr 0 (.t 2)⟩,
 ⟨some 6, none, .load true 2 (.t 5)⟩,
 ⟨some 7, none, .mov (.t 1)⟩,
 ⟨some 8, none, .call fid_laws_heldGraph false [.im, .im] [(.t 6), (.t 7)]⟩,
 ⟨some 1, none, .mov (.t 8)⟩] [1, 2])
 (.seq
 (.seq
 (.reg [
 ⟨some 9, none, .mov (.t 1)⟩,
 ⟨some 10, none, .bin .lss (.t 9) (.v (.i .i64 0))⟩] [1, 2, 10])
 (.cond (.t 10)
 (.seq
 (.reg [
 ⟨some 4, none, .mov (.v (.i .i64 (-1)))⟩] [4])
 (.ret))
 (.skip)))
 (.seq
 (.reg [
 ⟨some 11, none, .fieldAddr 2 (.t 2)⟩,
 ⟨some 12, none, .load false 1 (.t 11)⟩,
 ⟨some 13, none, .mov (.t 1)⟩,
 ⟨some 14, none, .call fid_laws_heldIntS false [.im, .im] [(.t 12), (.t 13)]⟩,
 ⟨some 1, none, .mov (.t 14)⟩] [1, 2])
 (.seq
 (.seq
 (.reg [
 ⟨some 15, none, .mov (.t 1)⟩,
 ⟨some 16, none, .bin .lss (.t 15) (.v (.i .i64 0))⟩] [1, 2, 16])
 (.cond (.t 16)
 (.seq
 (.reg [
 ⟨some 4, none, .mov (.v (.i .i64 (-1)))⟩] [4])
 (.ret))
 (.skip)))
 (.seq
 (.reg [
 ⟨some 17, none, .fieldAddr 3 (.t 2)⟩,
 ⟨some 18, none, .load false 1 (.t 17)⟩,
 ⟨some 19, none, .mov (.t 1)⟩,
 ⟨some 20, none, .call fid_laws_heldBoolS false [.im, .im] [(.t 18), (.t 19)]⟩,
 ⟨some 1, none, .mov (.t 20)⟩] [1])
 (.seq
 (.seq
 (.reg [
 ⟨some 21, none, .mov (.t 1)⟩,
 ⟨some 22, none, .bin .lss (.t 21) (.v (.i .i64 0))⟩] [1, 22])
 (.cond (.t 22)
 (.seq
 (.reg [
 ⟨some 4, none, .mov (.v (.i .i64 (-1)))⟩] [4])
 (.ret))
 (.skip)))
 (.seq
 (.reg [
 ⟨some 23, none, .mov (.t 1)⟩,
 ⟨some 4, none, .mov (.t 23)⟩] [4])
 (.ret))))))))
theorem get_laws_heldLeveled : prog.funcs[fid_laws_heldLeveled]? = some f16 := func16
theorem ok_laws_heldLeveled : okFn prog f16 24 [] [(4, none)] mc_laws_heldLeveled = true := by kernel_rfl
def mc_laws_dyLeveled : MCode :=
 .seq
 (.reg [
 ⟨some 2, none, .box 4 (.t 0)⟩,
 ⟨some 3, none, .box 4 (.t 1)⟩,
 ⟨some 4, none, .mov (.v (.b false))⟩] [2, 3])
 (.seq
 (.seq
 (.reg [
 ⟨some 6, none, .fieldAddr 0 (.t 2)⟩,
 ⟨some 7, none, .load true 2 (.t 6)⟩,
 ⟨some 8, none, .fieldAddr 0 (.t 3)⟩,
 ⟨some 9, none, .load true 2 (.t 8)⟩,
 ⟨some 10, none, .call fid_impl_GraphSame false [.im, .im] [(.t 7), (.t 9)]⟩,
 ⟨some 11, none, .un .not (.t 10)⟩,
 ⟨some 12, none, .mov (.t 11)⟩,
 ⟨some 13, (some (12, false)), .fieldAddr 2 (.t 2)⟩,
 ⟨some 14, (some (12, false)), .load false 1 (.t 13)⟩,
 ⟨some 15, (some (12, false)), .fieldAddr 2 (.t 3)⟩,
 ⟨some 16, (some (12, false)), .load false 1 (.t 15)⟩,
 ⟨some 17, (some (12, false)), .call fid_laws_dyInts false [.im, .im] [(.t 14), (.t 16)]⟩,
 ⟨some 18, (some (12, false)), .un .not (.t 17)⟩,
 ⟨some 19, none, .pick (.t 12) (.v (.b true)) (.t 18)⟩,
 ⟨some 20, none, .mov (.t 19)⟩,
 ⟨some 21, (some (20, false)), .fieldAddr 3 (.t 2)⟩,
 ⟨some 22, (some (20, false)), .load false 1 (.t 21)⟩,
 ⟨some 23, (some (20, false)), .len (.t 22)⟩,
 ⟨some 24, (some (20, false)), .fieldAddr 3 (.t 3)⟩,
 ⟨some 25, (some (20, false)), .load false 1 (.t 24)⟩,
 ⟨some 26, (some (20, false)), .len (.t 25)⟩,
 ⟨some 27, (some (20, false)), .bin .neq (.t 23) (.t 26)⟩,
 ⟨some 28, none, .pick (.t 20) (.v (.b true)) (.t 27)⟩] [2, 3, 28])
 (.cond (.t 28)
 (.seq
 (.reg [
 ⟨some 4, none, .mov (.v (.b false))⟩] [4])
 (.ret))
 (.skip)))
 (.seq
 (.seq
 (.reg [
 ⟨some 5, none, .mov (.v (.i .i64 0))⟩] [2, 3, 5])
 (.block 0
 (.loop [2, 3, 5]
 (.seq
 (.seq
 (.reg [
 ⟨some 29, none, .mov (.t 5)⟩,
 ⟨some 30, none, .fieldAddr 3 (.t 2)⟩,
 ⟨some 31, none, .load false 1 (.t 30)⟩,
 ⟨some 32, none, .len (.t 31)⟩,
 ⟨some 33, none, .bin .lss (.t 29) (.t 32)⟩] [2, 3, 5, 33])
 (.cond (.t 33)
 (.skip)
 (.exit 0)))
 (.seq
 (.block 1
 (.seq
 (.draw [0, 1, 0, 7, 15, 0, 32, 0, 224, 480, 1023] [
 ⟨some 36, none, .fieldAddr 3 (.t 2)⟩,
 ⟨some 37, none, .load false 1 (.t 36)⟩,
 ⟨some 38, none, .mov (.t 5)⟩,
 ⟨some 39, none, .indexAddr 1 (.t 37) (.t 38)⟩,
 ⟨some 40, none, .load false 1 (.t 39)⟩,
 ⟨some 41, none, .fieldAddr 3 (.t 3)⟩,
 ⟨some 42, none, .load false 1 (.t 41)⟩,
 ⟨some 43, none, .mov (.t 5)⟩,
 ⟨some 44, none, .indexAddr 1 (.t 42) (.t 43)⟩,
 ⟨some 45, none, .load false 1 (.t 44)⟩,
 ⟨some 46, none, .binb true (.t 40) (.t 45)⟩] [2, 3, 5, 46])
 (.cond (.t 46)
 (.seq
 (.reg [
 ⟨some 4, none, .mov (.v (.b false))⟩] [4])
 (.ret))
 (.skip))))
 (.reg [
 ⟨some 34, none, .mov (.t 5)⟩,
 ⟨some 35, none, .bin .add (.t 34) (.v (.i .i64 1))⟩,
 ⟨some 5, none, .mov (.t 35)⟩] [2, 3, 5]))))))
 (.seq
 (.reg [
 ⟨some 4, none, .mov (.v (.b true))⟩] [4])
 (.ret))))
theorem get_laws_dyLeveled : prog.funcs[fid_laws_dyLeveled]? = some f20 := func20
theorem ok_laws_dyLeveled : okFn prog f20 47 [] [(4, none)] mc_laws_dyLeveled = true := by kernel_rfl
def mc_laws_dyEdges : MCode :=
 .seq
 (.reg [
 ⟨some 4, none, .mov (.v (.b false))⟩] [0, 1])
 (.seq
 (.seq
 (.reg [
 ⟨some 6, none, .mov (.t 0)⟩,
 ⟨some 7, none, .len (.t 6)⟩,
 ⟨some 8, none, .mov (.t 1)⟩,
 ⟨some 9, none, .len (.t 8)⟩,
 ⟨some 10, none, .bin .neq (.t 7) (.t 9)⟩] [0, 1, 10])
 (.cond (.t 10)
 (.seq
 (.reg [
 ⟨some 4, none, .mov (.v (.b false))⟩] [4])
 (.ret))
 (.skip)))
 (.seq
 (.seq
 (.reg [
 ⟨some 5, none, .mov (.v (.i .i64 0))⟩] [0, 1, 5])
 (.block 0
 (.loop [0, 1, 5]
 (.seq
 (.seq
 (.reg [
 ⟨some 11, none, .mov (.t 5)⟩,
 ⟨some 12, none, .mov (.t 0)⟩,
 ⟨some 13, none, .len (.t 12)⟩,
 ⟨some 14, none, .bin .lss (.t 11) (.t 13)⟩] [0, 1, 5, 14])
 (.cond (.t 14)
 (.skip)
 (.exit 0)))
 (.seq
 (.block 1
 (.seq
 (.draw [0, 0, 3, 7, 0, 0, 48, 112, 255] [
 ⟨some 17, none, .mov (.t 0)⟩,
 ⟨some 18, none, .mov (.t 5)⟩,
 ⟨some 19, none, .indexAddr 2 (.t 17) (.t 18)⟩,
 ⟨some 20, none, .load true 2 (.t 19)⟩,
 ⟨some 21, none, .mov (.t 1)⟩,
 ⟨some 22, none, .mov (.t 5)⟩,
 ⟨some 23, none, .indexAddr 2 (.t 21) (.t 22)⟩,
 ⟨some 24, none, .load true 2 (.t 23)⟩,
 ⟨some 25, none, .eqAgg true [true, true] (.t 20) (.t 24)⟩] [0, 1, 5, 25])
 (.cond (.t 25)
 (.seq
 (.reg [
 ⟨some 4, none, .mov (.v (.b false))⟩] [4])
 (.ret))
 (.skip))))
 (.reg [
 ⟨some 15, none, .mov (.t 5)⟩,
 ⟨some 16, none, .bin .add (.t 15) (.v (.i .i64 1))⟩,
 ⟨some 5, none, .mov (.t 16)⟩] [0, 1, 5]))))))
 (.seq
 (.reg [
 ⟨some 4, none, .mov (.v (.b true))⟩] [4])
 (.ret))))
theorem get_laws_dyEdges : prog.funcs[fid_laws_dyEdges]? = some f34 := func34
theorem ok_laws_dyEdges : okFn prog f34 26 [] [(4, none)] mc_laws_dyEdges = true := by kernel_rfl
def mc_laws_dyHas : MCode :=
 .seq
 (.reg [
 ⟨some 3, none, .box 2 (.t 1)⟩,
 ⟨some 4, none, .mov (.v (.b false))⟩] [0, 3])
 (.seq
 (.seq
 (.reg [
 ⟨some 5, none, .mov (.v (.i .i64 0))⟩] [0, 3, 5])
 (.block 0
 (.loop [0, 3, 5]
 (.seq
 (.seq
 (.reg [
 ⟨some 6, none, .mov (.t 5)⟩,
 ⟨some 7, none, .mov (.t 0)⟩,
 ⟨some 8, none, .len (.t 7)⟩,
 ⟨some 9, none, .bin .lss (.t 6) (.t 8)⟩] [0, 3, 5, 9])
 (.cond (.t 9)
 (.skip)
 (.exit 0)))
 (.seq
 (.block 1
 (.seq
 (.draw [0, 0, 3, 7, 0, 31] [
 ⟨some 12, none, .mov (.t 0)⟩,
 ⟨some 13, none, .mov (.t 5)⟩,
 ⟨some 14, none, .indexAddr 2 (.t 12) (.t 13)⟩,
 ⟨some 15, none, .load true 2 (.t 14)⟩,
 ⟨some 16, none, .load true 2 (.t 3)⟩,
 ⟨some 17, none, .eqAgg false [true, true] (.t 15) (.t 16)⟩] [0, 3, 5, 17])
 (.cond (.t 17)
 (.seq
 (.reg [
 ⟨some 4, none, .mov (.v (.b true))⟩] [4])
 (.ret))
 (.skip))))
 (.reg [
 ⟨some 10, none, .mov (.t 5)⟩,
 ⟨some 11, none, .bin .add (.t 10) (.v (.i .i64 1))⟩,
 ⟨some 5, none, .mov (.t 11)⟩] [0, 3, 5]))))))
 (.seq
 (.reg [
 ⟨some 4, none, .mov (.v (.b false))⟩] [4])
 (.ret)))
theorem get_laws_dyHas : prog.funcs[fid_laws_dyHas]? = some f35 := func35
theorem ok_laws_dyHas : okFn prog f35 18 [] [(4, none)] mc_laws_dyHas = true := by kernel_rfl
def mc_laws_szGraph : MCode :=
 .seq
 (.reg [
 ⟨some 2, none, .box 2 (.t 0)⟩,
 ⟨some 4, none, .mov (.v (.i .i64 0))⟩] [1, 2])
 (.seq
 (.reg [
 ⟨some 5, none, .fieldAddr 1 (.t 2)⟩,
 ⟨some 6, none, .load false 1 (.t 5)⟩,
 ⟨some 7, none, .mov (.t 1)⟩,
 ⟨some 8, none, .call fid_laws_szEdgeS false [.im, .im] [(.t 6), (.t 7)]⟩,
 ⟨some 1, none, .mov (.t 8)⟩] [1])
 (.seq
 (.seq
 (.reg [
 ⟨some 9, none, .mov (.t 1)⟩,
 ⟨some 10, none, .bin .lss (.t 9) (.v (.i .i64 0))⟩] [1, 10])
 (.cond (.t 10)
 (.seq
 (.reg [
 ⟨some 4, none, .mov (.v (.i .i64 (-1)))⟩] [4])
 (.ret))
 (.skip)))
 (.seq
 (.reg [
 ⟨some 11, none, .mov (.t 1)⟩,
 ⟨some 4, none, .mov (.t 11)⟩] [4])
 (.ret))))
theorem get_laws_szGraph : prog.funcs[fid_laws_szGraph]? = some f36 := func36
theorem ok_laws_szGraph : okFn prog f36 12 [] [(4, none)] mc_laws_szGraph = true := by kernel_rfl
def mc_laws_szIntS : MCode :=
 .seq
 (.reg [
 ⟨some 4, none, .mov (.v (.i .i64 0))⟩] [0, 1])
 (.seq
 (.reg [
 ⟨some 5, none, .mov (.t 1)⟩,
 ⟨some 6, none, .mov (.t 0)⟩,
 ⟨some 7, none, .len (.t 6)⟩,
 ⟨some 8, none, .bin .sub (.t 5) (.t 7)⟩,
 ⟨some 1, none, .mov (.t 8)⟩] [1])
 (.seq
 (.seq
 (.reg [
 ⟨some 9, none, .mov (.t 1)⟩,
 ⟨some 10, none, .bin .lss (.t 9) (.v (.i .i64 0))⟩] [1, 10])
 (.cond (.t 10)
 (.seq
 (.reg [
 ⟨some 4, none, .mov (.v (.i .i64 (-1)))⟩] [4])
 (.ret))
 (.skip)))
 (.seq
 (.reg [
 ⟨some 11, none, .mov (.t 1)⟩,
 ⟨some 4, none, .mov (.t 11)⟩] [4])
 (.ret))))
theorem get_laws_szIntS : prog.funcs[fid_laws_szIntS]? = some f37 := func37
theorem ok_laws_szIntS : okFn prog f37 12 [] [(4, none)] mc_laws_szIntS = true := by kernel_rfl
def mc_laws_szBoolS : MCode :=
 .seq
 (.reg [
 ⟨some 4, none, .mov (.v (.i .i64 0))⟩] [0, 1])
 (.seq
 (.reg [
 ⟨some 5, none, .mov (.t 1)⟩,
 ⟨some 6, none, .mov (.t 0)⟩,
 ⟨some 7, none, .len (.t 6)⟩,
 ⟨some 8, none, .bin .sub (.t 5) (.t 7)⟩,
 ⟨some 1, none, .mov (.t 8)⟩] [1])
 (.seq
 (.seq
 (.reg [
 ⟨some 9, none, .mov (.t 1)⟩,
 ⟨some 10, none, .bin .lss (.t 9) (.v (.i .i64 0))⟩] [1, 10])
 (.cond (.t 10)
 (.seq
 (.reg [
 ⟨some 4, none, .mov (.v (.i .i64 (-1)))⟩] [4])
 (.ret))
 (.skip)))
 (.seq
 (.reg [
 ⟨some 11, none, .mov (.t 1)⟩,
 ⟨some 4, none, .mov (.t 11)⟩] [4])
 (.ret))))
theorem get_laws_szBoolS : prog.funcs[fid_laws_szBoolS]? = some f38 := func38
theorem ok_laws_szBoolS : okFn prog f38 12 [] [(4, none)] mc_laws_szBoolS = true := by kernel_rfl
def mc_laws_toGraph : MCode :=
 .seq
 (.reg [
 ⟨some 1, none, .box 2 (.t 0)⟩,
 ⟨some 2, none, .alloc [.i .i64 0, .nl 2]⟩] [1, 2])
 (.seq
 (.reg [
 ⟨some 3, none, .alloc [.i .i64 0, .nl 2]⟩] [1, 2, 3])
 (.seq
 (.reg [
 ⟨some 4, none, .fieldAddr 0 (.t 1)⟩,
 ⟨some 5, none, .load false 1 (.t 4)⟩,
 ⟨some 6, none, .fieldAddr 0 (.t 3)⟩,
 ⟨none, none, .store 1 (.t 6) (.t 5)⟩] [1, 2, 3])
 (.seq
 (.reg [
 ⟨some 7, none, .fieldAddr 1 (.t 1)⟩,
 ⟨some 8, none, .load false 1 (.t 7)⟩,
 ⟨some 9, none, .call fid_laws_toEdgeS false [.im] [(.t 8)]⟩,
 ⟨some 10, none, .fieldAddr 1 (.t 3)⟩,
 ⟨none, none, .store 1 (.t 10) (.t 9)⟩] [2, 3])
 (.seq
 (.reg [
 ⟨some 11, none, .load true 2 (.t 3)⟩,
 ⟨none, none, .store 2 (.t 2) (.t 11)⟩] [2])
 (.ret)))))
theorem get_laws_toGraph : prog.funcs[fid_laws_toGraph]? = some f42 := func42
theorem ok_laws_toGraph : okFn prog f42 12 [] [(2, some (true, 2))] mc_laws_toGraph = true := by kernel_rfl
def mc_laws_toIntS : MCode :=
 .seq
 (.reg [
 ⟨some 2, none, .mov (.v (.nl 1))⟩] [0])
 (.seq
 (.reg [
 ⟨some 5, none, .mov (.t 0)⟩,
 ⟨some 6, none, .len (.t 5)⟩,
 ⟨some 7, none, .makeSlice 1 8 [.i .i64 0] (.t 6) (.t 6)⟩,
 ⟨some 3, none, .mov (.t 7)⟩] [0, 3])
 (.seq
 (.seq
 (.reg [
 ⟨some 4, none, .mov (.v (.i .i64 0))⟩] [0, 3, 4])
 (.block 0
 (.loop [0, 3, 4]
 (.seq
 (.seq
 (.reg [
 ⟨some 8, none, .mov (.t 4)⟩,
 ⟨some 9, none, .mov (.t 0)⟩,
 ⟨some 10, none, .len (.t 9)⟩,
 ⟨some 11, none, .bin .lss (.t 8) (.t 10)⟩] [0, 3, 4, 11])
 (.cond (.t 11)
 (.skip)
 (.exit 0)))
 (.seq
 (.block 1
 (.reg [
 ⟨some 14, none, .mov (.t 3)⟩,
 ⟨some 15, none, .mov (.t 4)⟩,
 ⟨some 16, none, .mov (.t 0)⟩,
 ⟨some 17, none, .mov (.t 4)⟩,
 ⟨some 18, none, .indexAddr 1 (.t 16) (.t 17)⟩,
 ⟨some 19, none, .load false 1 (.t 18)⟩,
 ⟨some 20, none, .indexAddr 1 (.t 14) (.t 15)⟩,
 ⟨none, none, .store 1 (.t 20) (.t 19)⟩] [0, 3, 4]))
 (.reg [
 ⟨some 12, none, .mov (.t 4)⟩,
 ⟨some 13, none, .bin .add (.t 12) (.v (.i .i64 1))⟩,
 ⟨some 4, none, .mov (.t 13)⟩] [0, 3, 4]))))))
 (.seq
 (.reg [
 ⟨some 21, none, .mov (.t 3)⟩,
 ⟨some 2, none, .mov (.t 21)⟩] [2])
 (.ret))))
theorem get_laws_toIntS : prog.funcs[fid_laws_toIntS]? = some f43 := func43
theorem ok_laws_toIntS : okFn prog f43 22 [] [(2, none)] mc_laws_toIntS = true := by kernel_rfl
def mc_laws_toBoolS : MCode :=
 .seq
 (.reg [
 ⟨some 2, none, .mov (.v (.nl 1))⟩] [0])
 (.seq
 (.reg [
 ⟨some 5, none, .mov (.t 0)⟩,
 ⟨some 6, none, .len (.t 5)⟩,
 ⟨some 7, none, .makeSlice 1 1 [.b false] (.t 6) (.t 6)⟩,
 ⟨some 3, none, .mov (.t 7)⟩] [0, 3])
 (.seq
 (.seq
 (.reg [
 ⟨some 4, none, .mov (.v (.i .i64 0))⟩] [0, 3, 4])
 (.block 0
 (.loop [0, 3, 4]
 (.seq
 (.seq
 (.reg [
 ⟨some 8, none, .mov (.t 4)⟩,
 ⟨some 9, none, .mov (.t 0)⟩,
 ⟨some 10, none, .len (.t 9)⟩,
 ⟨some 11, none, .bin .lss (.t 8) (.t 10)⟩] [0, 3, 4, 11])
 (.cond (.t 11)
 (.skip)
 (.exit 0)))
 (.seq
 (.block 1
 (.reg [
 ⟨some 14, none, .mov (.t 3)⟩,
 ⟨some 15, none, .mov (.t 4)⟩,
 ⟨some 16, none, .mov (.t 0)⟩,
 ⟨some 17, none, .mov (.t 4)⟩,
 ⟨some 18, none, .indexAddr 1 (.t 16) (.t 17)⟩,
 ⟨some 19, none, .load false 1 (.t 18)⟩,
 ⟨some 20, none, .indexAddr 1 (.t 14) (.t 15)⟩,
 ⟨none, none, .store 1 (.t 20) (.t 19)⟩] [0, 3, 4]))
 (.reg [
 ⟨some 12, none, .mov (.t 4)⟩,
 ⟨some 13, none, .bin .add (.t 12) (.v (.i .i64 1))⟩,
 ⟨some 4, none, .mov (.t 13)⟩] [0, 3, 4]))))))
 (.seq
 (.reg [
 ⟨some 21, none, .mov (.t 3)⟩,
 ⟨some 2, none, .mov (.t 21)⟩] [2])
 (.ret))))
theorem get_laws_toBoolS : prog.funcs[fid_laws_toBoolS]? = some f44 := func44
theorem ok_laws_toBoolS : okFn prog f44 22 [] [(2, none)] mc_laws_toBoolS = true := by kernel_rfl
def mc_laws_eqGraph : MCode :=
 .seq
 (.reg [
 ⟨some 2, none, .box 2 (.t 0)⟩,
 ⟨some 3, none, .box 2 (.t 1)⟩,
 ⟨some 4, none, .mov (.v (.b false))⟩] [2, 3])
 (.seq
 (.seq
 (.reg [
 ⟨some 5, none, .fieldAddr 0 (.t 2)⟩,
 ⟨some 6, none, .load false 1 (.t 5)⟩,
 ⟨some 7, none, .fieldAddr 0 (.t 3)⟩,
 ⟨some 8, none, .load false 1 (.t 7)⟩,
 ⟨some 9, none, .bin .neq (.t 6) (.t 8)⟩] [2, 3, 9])
 (.cond (.t 9)
 (.seq
 (.reg [
 ⟨some 4, none, .mov (.v (.b false))⟩] [4])
 (.ret))
 (.skip)))
 (.seq
 (.seq
 (.reg [
 ⟨some 10, none, .fieldAddr 1 (.t 2)⟩,
 ⟨some 11, none, .load false 1 (.t 10)⟩,
 ⟨some 12, none, .fieldAddr 1 (.t 3)⟩,
 ⟨some 13, none, .load false 1 (.t 12)⟩,
 ⟨some 14, none, .call fid_laws_eqEdgeS false [.im, .im] [(.t 11), (.t 13)]⟩,
 ⟨some 15, none, .un .not (.t 14)⟩] [15])
 (.cond (.t 15)
 (.seq
 (.reg [
 ⟨some 4, none, .mov (.v (.b false))⟩] [4])
 (.ret))
 (.skip)))
 (.seq
 (.reg [
 ⟨some 4, none, .mov (.v (.b true))⟩] [4])
 (.ret))))
theorem get_laws_eqGraph : prog.funcs[fid_laws_eqGraph]? = some f53 := func53
theorem ok_laws_eqGraph : okFn prog f53 16 [] [(4, none)] mc_laws_eqGraph = true := by kernel_rfl
def mc_laws_eqIntS : MCode :=
 .seq
 (.reg [
 ⟨some 4, none, .mov (.v (.b false))⟩] [0, 1])
 (.seq
 (.seq
 (.reg [
 ⟨some 6, none, .mov (.t 0)⟩,
 ⟨some 7, none, .len (.t 6)⟩,
 ⟨some 8, none, .mov (.t 1)⟩,
 ⟨some 9, none, .len (.t 8)⟩,
 ⟨some 10, none, .bin .neq (.t 7) (.t 9)⟩] [0, 1, 10])
 (.cond (.t 10)
 (.seq
 (.reg [
 ⟨some 4, none, .mov (.v (.b false))⟩] [4])
 (.ret))
 (.skip)))
 (.seq
 (.seq
 (.reg [
 ⟨some 5, none, .mov (.v (.i .i64 0))⟩] [0, 1, 5])
 (.block 0
 (.loop [0, 1, 5]
 (.seq
 (.seq
 (.reg [
 ⟨some 11, none, .mov (.t 5)⟩,
 ⟨some 12, none, .mov (.t 0)⟩,
 ⟨some 13, none, .len (.t 12)⟩,
 ⟨some 14, none, .bin .lss (.t 11) (.t 13)⟩] [0, 1, 5, 14])
 (.cond (.t 14)
 (.skip)
 (.exit 0)))
 (.seq
 (.block 1
 (.seq
 (.draw [0, 0, 3, 7, 0, 0, 48, 112, 255] [
 ⟨some 17, none, .mov (.t 0)⟩,
 ⟨some 18, none, .mov (.t 5)⟩,
 ⟨some 19, none, .indexAddr 1 (.t 17) (.t 18)⟩,
 ⟨some 20, none, .load false 1 (.t 19)⟩,
 ⟨some 21, none, .mov (.t 1)⟩,
 ⟨some 22, none, .mov (.t 5)⟩,
 ⟨some 23, none, .indexAddr 1 (.t 21) (.t 22)⟩,
 ⟨some 24, none, .load false 1 (.t 23)⟩,
 ⟨some 25, none, .bin .neq (.t 20) (.t 24)⟩] [0, 1, 5, 25])
 (.cond (.t 25)
 (.seq
 (.reg [
 ⟨some 4, none, .mov (.v (.b false))⟩] [4])
 (.ret))
 (.skip))))
 (.reg [
 ⟨some 15, none, .mov (.t 5)⟩,
 ⟨some 16, none, .bin .add (.t 15) (.v (.i .i64 1))⟩,
 ⟨some 5, none, .mov (.t 16)⟩] [0, 1, 5]))))))
 (.seq
 (.reg [
 ⟨some 4, none, .mov (.v (.b true))⟩] [4])
 (.ret))))
theorem get_laws_eqIntS : prog.funcs[fid_laws_eqIntS]? = some f54 := func54
theorem ok_laws_eqIntS : okFn prog f54 26 [] [(4, none)] mc_laws_eqIntS = true := by kernel_rfl
def mc_laws_eqBoolS : MCode :=
 .seq
 (.reg [
 ⟨some 4, none, .mov (.v (.b false))⟩] [0, 1])
 (.seq
 (.seq
 (.reg [
 ⟨some 6, none, .mov (.t 0)⟩,
 ⟨some 7, none, .len (.t 6)⟩,
 ⟨some 8, none, .mov (.t 1)⟩,
 ⟨some 9, none, .len (.t 8)⟩,
 ⟨some 10, none, .bin .neq (.t 7) (.t 9)⟩] [0, 1, 10])
 (.cond (.t 10)
 (.seq
 (.reg [
 ⟨some 4, none, .mov (.v (.b false))⟩] [4])
 (.ret))
 (.skip)))
 (.seq
 (.seq
 (.reg [
 ⟨some 5, none, .mov (.v (.i .i64 0))⟩] [0, 1, 5])
 (.block 0
 (.loop [0, 1, 5]
 (.seq
 (.seq
 (.reg [
 ⟨some 11, none, .mov (.t 5)⟩,
 ⟨some 12, none, .mov (.t 0)⟩,
 ⟨some 13, none, .len (.t 12)⟩,
 ⟨some 14, none, .bin .lss (.t 11) (.t 13)⟩] [0, 1, 5, 14])
 (.cond (.t 14)
 (.skip)
 (.exit 0)))
 (.seq
 (.block 1
 (.seq
 (.draw [0, 0, 3, 7, 0, 0, 48, 112, 255] [
 ⟨some 17, none, .mov (.t 0)⟩,
 ⟨some 18, none, .mov (.t 5)⟩,
 ⟨some 19, none, .indexAddr 1 (.t 17) (.t 18)⟩,
 ⟨some 20, none, .load false 1 (.t 19)⟩,
 ⟨some 21, none, .mov (.t 1)⟩,
 ⟨some 22, none, .mov (.t 5)⟩,
 ⟨some 23, none, .indexAddr 1 (.t 21) (.t 22)⟩,
 ⟨some 24, none, .load false 1 (.t 23)⟩,
 ⟨some 25, none, .binb true (.t 20) (.t 24)⟩] [0, 1, 5, 25])
 (.cond (.t 25)
 (.seq
 (.reg [
 ⟨some 4, none, .mov (.v (.b false))⟩] [4])
 (.ret))
 (.skip))))
 (.reg [
 ⟨some 15, none, .mov (.t 5)⟩,
 ⟨some 16, none, .bin .add (.t 15) (.v (.i .i64 1))⟩,
 ⟨some 5, none, .mov (.t 16)⟩] [0, 1, 5]))))))
 (.seq
 (.reg [
 ⟨some 4, none, .mov (.v (.b true))⟩] [4])
 (.ret))))
theorem get_laws_eqBoolS : prog.funcs[fid_laws_eqBoolS]? = some f55 := func55
theorem ok_laws_eqBoolS : okFn prog f55 26 [] [(4, none)] mc_laws_eqBoolS = true := by kernel_rfl
def mc_laws_markGraph : MCode :=
 .seq
 (.reg [
 ⟨some 2, none, .box 2 (.t 0)⟩,
 ⟨some 4, none, .mov (.v (.i .i64 0))⟩] [0, 1, 2])
 (.seq
 (.reg [
 ⟨some 5, none, .fieldAddr 1 (.t 2)⟩,
 ⟨some 6, none, .load false 1 (.t 5)⟩,
 ⟨some 7, none, .mov (.t 1)⟩,
 ⟨some 8, none, .call fid_laws_markEdgeS false [.io, .im] [(.t 6), (.t 7)]⟩,
 ⟨some 1, none, .mov (.t 8)⟩] [0, 1])
 (.seq
 (.reg [
 ⟨some 9, none, .mov (.t 1)⟩,
 ⟨some 4, none, .mov (.t 9)⟩] [0, 4])
 (.ret)))
theorem get_laws_markGraph : prog.funcs[fid_laws_markGraph]? = some f56 := func56
theorem ok_laws_markGraph : okFn prog f56 10 [0] [(4, none)] mc_laws_markGraph = true := by kernel_rfl
def mc_laws_markIntS : MCode :=
 .seq
 (.reg [
 ⟨some 4, none, .mov (.v (.i .i64 0))⟩] [0, 1])
 (.seq
 (.seq
 (.reg [
 ⟨some 5, none, .mov (.v (.i .i64 0))⟩] [0, 1, 5])
 (.block 0
 (.loop [0, 1, 5]
 (.seq
 (.seq
 (.reg [
 ⟨some 6, none, .mov (.t 5)⟩,
 ⟨some 7, none, .mov (.t 0)⟩,
 ⟨some 8, none, .len (.t 7)⟩,
 ⟨some 9, none, .bin .lss (.t 6) (.t 8)⟩] [0, 1, 5, 9])
 (.cond (.t 9)
 (.skip)
 (.exit 0)))
 (.seq
 (.block 1
 (.seq
 (.reg [
 ⟨some 12, none, .mov (.t 0)⟩,
 ⟨some 13, none, .mov (.t 5)⟩,
 ⟨some 14, none, .mov (.t 1)⟩,
 ⟨some 15, none, .indexAddr 1 (.t 12) (.t 13)⟩,
 ⟨none, none, .store 1 (.t 15) (.t 14)⟩] [0, 1, 5])
 (.reg [
 ⟨some 16, none, .mov (.t 1)⟩,
 ⟨some 17, none, .bin .add (.t 16) (.v (.i .i64 1))⟩,
 ⟨some 1, none, .mov (.t 17)⟩] [0, 1, 5])))
 (.reg [
 ⟨some 10, none, .mov (.t 5)⟩,
 ⟨some 11, none, .bin .add (.t 10) (.v (.i .i64 1))⟩,
 ⟨some 5, none, .mov (.t 11)⟩] [0, 1, 5]))))))
 (.seq
 (.reg [
 ⟨some 18, none, .mov (.t 1)⟩,
 ⟨some 4, none, .mov (.t 18)⟩] [0, 4])
 (.ret)))
theorem get_laws_markIntS : prog.funcs[fid_laws_markIntS]? = some f57 := func57
theorem ok_laws_markIntS : okFn prog f57 19 [0] [(4, none)] mc_laws_markIntS = true := by kernel_rfl
def mc_laws_markBoolS : MCode :=
 .seq
 (.reg [
 ⟨some 4, none, .mov (.v (.i .i64 0))⟩] [0, 1])
 (.seq
 (.seq
 (.reg [
 ⟨some 5, none, .mov (.v (.i .i64 0))⟩] [0, 1, 5])
 (.block 0
 (.loop [0, 1, 5]
 (.seq
 (.seq
 (.reg [
 ⟨some 6, none, .mov (.t 5)⟩,
 ⟨some 7, none, .mov (.t 0)⟩,
 ⟨some 8, none, .len (.t 7)⟩,
 ⟨some 9, none, .bin .lss (.t 6) (.t 8)⟩] [0, 1, 5, 9])
 (.cond (.t 9)
 (.skip)
 (.exit 0)))
 (.seq
 (.block 1
 (.seq
 (.reg [
 ⟨some 12, none, .mov (.t 0)⟩,
 ⟨some 13, none, .mov (.t 5)⟩,
 ⟨some 14, none, .mov (.t 1)⟩,
 ⟨some 15, none, .bin .rem (.t 14) (.v (.i .i64 3))⟩,
 ⟨some 16, none, .bin .eql (.t 15) (.v (.i .i64 0))⟩,
 ⟨some 17, none, .indexAddr 1 (.t 12) (.t 13)⟩,
 ⟨none, none, .store 1 (.t 17) (.t 16)⟩] [0, 1, 5])
 (.reg [
 ⟨some 18, none, .mov (.t 1)⟩,
 ⟨some 19, none, .bin .add (.t 18) (.v (.i .i64 1))⟩,
 ⟨some 1, none, .mov (.t 19)⟩] [0, 1, 5])))
 (.reg [
 ⟨some 10, none, .mov (.t 5)⟩,
 ⟨some 11, none, .bin .add (.t 10) (.v (.i .i64 1))⟩,
 ⟨some 5, none, .mov (.t 11)⟩] [0, 1, 5]))))))
 (.seq
 (.reg [
 ⟨some 20, none, .mov (.t 1)⟩,
 ⟨some 4, none, .mov (.t 20)⟩] [0, 4])
 (.ret)))
theorem get_laws_markBoolS : prog.funcs[fid_laws_markBoolS]? = some f58 := func58
theorem ok_laws_markBoolS : okFn prog f58 21 [0] [(4, none)] mc_laws_markBoolS = true := by kernel_rfl
def mc_laws_heldGraph : MCode :=
 .seq
 (.reg [
 ⟨some 2, none, .box 2 (.t 0)⟩,
 ⟨some 4, none, .mov (.v (.i .i64 0))⟩] [1, 2])
 (.seq
 (.reg [
 ⟨some 5, none, .fieldAddr 1 (.t 2)⟩,
 ⟨some 6, none, .load false 1 (.t 5)⟩,
 ⟨some 7, none, .mov (.t 1)⟩,
 ⟨some 8, none, .call fid_laws_heldEdgeS false [.im, .im] [(.t 6), (.t 7)]⟩,
 ⟨some 1, none, .mov (.t 8)⟩] [1])
 (.seq
 (.seq
 (.reg [
 ⟨some 9, none, .mov (.t 1)⟩,
 ⟨some 10, none, .bin .lss (.t 9) (.v (.i .i64 0))⟩] [1, 10])
 (.cond (.t 10)
 (.seq
 (.reg [
 ⟨some 4, none, .mov (.v (.i .i64 (-1)))⟩] [4])
 (.ret))
 (.skip)))
 (.seq
 (.reg [
 ⟨some 11, none, .mov (.t 1)⟩,
 ⟨some 4, none, .mov (.t 11)⟩] [4])
 (.ret))))
theorem get_laws_heldGraph : prog.funcs[fid_laws_heldGraph]? = some f59 := func59
theorem ok_laws_heldGraph : okFn prog f59 12 [] [(4, none)] mc_laws_heldGraph = true := by kernel_rfl
def mc_laws_heldIntS : MCode :=
 .seq
 (.reg [
 ⟨some 4, none, .mov (.v (.i .i64 0))⟩] [0, 1])
 (.seq
 (.seq
 (.reg [
 ⟨some 5, none, .mov (.v (.i .i64 0))⟩] [0, 1, 5])
 (.block 0
 (.loop [0, 1, 5]
 (.seq
 (.seq
 (.reg [
 ⟨some 6, none, .mov (.t 5)⟩,
 ⟨some 7, none, .mov (.t 0)⟩,
 ⟨some 8, none, .len (.t 7)⟩,
 ⟨some 9, none, .bin .lss (.t 6) (.t 8)⟩] [0, 1, 5, 9])
 (.cond (.t 9)
 (.skip)
 (.exit 0)))
 (.seq
 (.block 1
 (.seq
 (.seq
 (.reg [
 ⟨some 12, none, .mov (.t 0)⟩,
 ⟨some 13, none, .mov (.t 5)⟩,
 ⟨some 14, none, .indexAddr 1 (.t 12) (.t 13)⟩,
 ⟨some 15, none, .load false 1 (.t 14)⟩,
 ⟨some 16, none, .mov (.t 1)⟩,
 ⟨some 17, none, .bin .neq (.t 15) (.t 16)⟩] [0, 1, 5, 17])
 (.cond (.t 17)
 (.seq
 (.reg [
 ⟨some 4, none, .mov (.v (.i .i64 (-1)))⟩] [4])
 (.ret))
 (.skip)))
 (.reg [
 ⟨some 18, none, .mov (.t 1)⟩,
 ⟨some 19, none, .bin .add (.t 18) (.v (.i .i64 1))⟩,
 ⟨some 1, none, .mov (.t 19)⟩] [0, 1, 5])))
 (.reg [
 ⟨some 10, none, .mov (.t 5)⟩,
 ⟨some 11, none, .bin .add (.t 10) (.v (.i .i64 1))⟩,
 ⟨some 5, none, .mov (.t 11)⟩] [0, 1, 5]))))))
 (.seq
 (.reg [
 ⟨some 20, none, .mov (.t 1)⟩,
 ⟨some 4, none, .mov (.t 20)⟩] [4])
 (.ret)))
theorem get_laws_heldIntS : prog.funcs[fid_laws_heldIntS]? = some f60 := func60
theorem ok_laws_heldIntS : okFn prog f60 21 [] [(4, none)] mc_laws_heldIntS = true := by kernel_rfl
def mc_laws_heldBoolS : MCode :=
 .seq
 (.reg [
 ⟨some 4, none, .mov (.v (.i .i64 0))⟩] [0, 1])
 (.seq
 (.seq
 (.reg [
 ⟨some 5, none, .mov (.v (.i .i64 0))⟩] [0, 1, 5])
 (.block 0
 (.loop [0, 1, 5]
 (.seq
 (.seq
 (.reg [
 ⟨some 6, none, .mov (.t 5)⟩,
 ⟨some 7, none, .mov (.t 0)⟩,
 ⟨some 8, none, .len (.t 7)⟩,
 ⟨some 9, none, .bin .lss (.t 6) (.t 8)⟩] [0, 1, 5, 9])
 (.cond (.t 9)
 (.skip)
 (.exit 0)))
 (.seq
 (.block 1
 (.seq
 (.seq
 (.reg [
 ⟨some 12, none, .mov (.t 0)⟩,
 ⟨some 13, none, .mov (.t 5)⟩,
 ⟨some 14, none, .indexAddr 1 (.t 12) (.t 13)⟩,
 ⟨some 15, none, .load false 1 (.t 14)⟩,
 ⟨some 16, none, .mov (.t 1)⟩,
 ⟨some 17, none, .bin .rem (.t 16) (.v (.i .i64 3))⟩,
 ⟨some 18, none, .bin .eql (.t 17) (.v (.i .i64 0))⟩,
 ⟨some 19, none, .binb true (.t 15) (.t 18)⟩] [0, 1, 5, 19])
 (.cond (.t 19)
 (.seq
 (.reg [
 ⟨some 4, none, .mov (.v (.i .i64 (-1)))⟩] [4])
 (.ret))
 (.skip)))
 (.reg [
 ⟨some 20, none, .mov (.t 1)⟩,
 ⟨some 21, none, .bin .add (.t 20) (.v (.i .i64 1))⟩,
 ⟨some 1, none, .mov (.t 21)⟩] [0, 1, 5])))
 (.reg [
 ⟨some 10, none, .mov (.t 5)⟩,
 ⟨some 11, none, .bin .add (.t 10) (.v (.i .i64 1))⟩,
 ⟨some 5, none, .mov (.t 11)⟩] [0, 1, 5]))))))
 (.seq
 (.reg [
 ⟨some 22, none, .mov (.t 1)⟩,
 ⟨some 4, none, .mov (.t 22)⟩] [4])
 (.ret)))
theorem get_laws_heldBoolS : prog.funcs[fid_laws_heldBoolS]? = some f61 := func61
theorem ok_laws_heldBoolS : okFn prog f61 23 [] [(4, none)] mc_laws_heldBoolS = true := by kernel_rfl
def mc_laws_dyInts : MCode :=
 .seq
 (.reg [
 ⟨some 4, none, .mov (.v (.b false))⟩] [0, 1])
 (.seq
 (.seq
 (.reg [
 ⟨some 6, none, .mov (.t 0)⟩,
 ⟨some 7, none, .len (.t 6)⟩,
 ⟨some 8, none, .mov (.t 1)⟩,
 ⟨some 9, none, .len (.t 8)⟩,
 ⟨some 10, none, .bin .neq (.t 7) (.t 9)⟩] [0, 1, 10])
 (.cond (.t 10)
 (.seq
 (.reg [
 ⟨some 4, none, .mov (.v (.b false))⟩] [4])
 (.ret))
 (.skip)))
 (.seq
 (.seq
 (.reg [
 ⟨some 5, none, .mov (.v (.i .i64 0))⟩] [0, 1, 5])
 (.block 0
 (.loop [0, 1, 5]
 (.seq
 (.seq
 (.reg [
 ⟨some 11, none, .mov (.t 5)⟩,
 ⟨some 12, none, .mov (.t 0)⟩,
 ⟨some 13, none, .len (.t 12)⟩,
 ⟨some 14, none, .bin .lss (.t 11) (.t 13)⟩] [0, 1, 5, 14])
 (.cond (.t 14)
 (.skip)
 (.exit 0)))
 (.seq
 (.block 1
 (.seq
 (.draw [0, 0, 3, 7, 0, 0, 48, 112, 255] [
 ⟨some 17, none, .mov (.t 0)⟩,
 ⟨some 18, none, .mov (.t 5)⟩,
 ⟨some 19, none, .indexAddr 1 (.t 17) (.t 18)⟩,
 ⟨some 20, none, .load false 1 (.t 19)⟩,
 ⟨some 21, none, .mov (.t 1)⟩,
 ⟨some 22, none, .mov (.t 5)⟩,
 ⟨some 23, none, .indexAddr 1 (.t 21) (.t 22)⟩,
 ⟨some 24, none, .load false 1 (.t 23)⟩,
 ⟨some 25, none, .bin .neq (.t 20) (.t 24)⟩] [0, 1, 5, 25])
 (.cond (.t 25)
 (.seq
 (.reg [
 ⟨some 4, none, .mov (.v (.b false))⟩] [4])
 (.ret))
 (.skip))))
 (.reg [
 ⟨some 15, none, .mov (.t 5)⟩,
 ⟨some 16, none, .bin .add (.t 15) (.v (.i .i64 1))⟩,
 ⟨some 5, none, .mov (.t 16)⟩] [0, 1, 5]))))))
 (.seq
 (.reg [
 ⟨some 4, none, .mov (.v (.b true))⟩] [4])
 (.ret))))
theorem get_laws_dyInts : prog.funcs[fid_laws_dyInts]? = some f72 := func72
theorem ok_laws_dyInts : okFn prog f72 26 [] [(4, none)] mc_laws_dyInts = true := by kernel_rfl
def mc_laws_szEdgeS : MCode :=
 .seq
 (.reg [
 ⟨some 4, none, .mov (.v (.i .i64 0))⟩] [0, 1])
 (.seq
 (.reg [
 ⟨some 5, none, .mov (.t 1)⟩,
 ⟨some 6, none, .mov (.t 0)⟩,
 ⟨some 7, none, .len (.t 6)⟩,
 ⟨some 8, none, .bin .sub (.t 5) (.t 7)⟩,
 ⟨some 1, none, .mov (.t 8)⟩] [1])
 (.seq
 (.seq
 (.reg [
 ⟨some 9, none, .mov (.t 1)⟩,
 ⟨some 10, none, .bin .lss (.t 9) (.v (.i .i64 0))⟩] [1, 10])
 (.cond (.t 10)
 (.seq
 (.reg [
 ⟨some 4, none, .mov (.v (.i .i64 (-1)))⟩] [4])
 (.ret))
 (.skip)))
 (.seq
 (.reg [
 ⟨some 11, none, .mov (.t 1)⟩,
 ⟨some 4, none, .mov (.t 11)⟩] [4])
 (.ret))))
theorem get_laws_szEdgeS : prog.funcs[fid_laws_szEdgeS]? = some f96 := func96
theorem ok_laws_szEdgeS : okFn prog f96 12 [] [(4, none)] mc_laws_szEdgeS = true := by kernel_rfl
def mc_laws_toEdgeS : MCode :=
 .seq
 (.reg [
 ⟨some 2, none, .mov (.v (.nl 2))⟩] [0])
 (.seq
 (.reg [
 ⟨some 5, none, .mov (.t 0)⟩,
 ⟨some 6, none, .len (.t 5)⟩,
 ⟨some 7, none, .makeSlice 2 16 [.i .i64 0, .i .i64 0] (.t 6) (.t 6)⟩,
 ⟨some 3, none, .mov (.t 7)⟩] [0, 3])
 (.seq
 (.seq
 (.reg [
 ⟨some 4, none, .mov (.v (.i .i64 0))⟩] [0, 3, 4])
 (.block 0
 (.loop [0, 3, 4]
 (.seq
 (.seq
 (.reg [
 ⟨some 8, none, .mov (.t 4)⟩,
 ⟨some 9, none, .mov (.t 0)⟩,
 ⟨some 10, none, .len (.t 9)⟩,
 ⟨some 11, none, .bin .lss (.t 8) (.t 10)⟩] [0, 3, 4, 11])
 (.cond (.t 11)
 (.skip)
 (.exit 0)))
 (.seq
 (.block 1
 (.reg [
 ⟨some 14, none, .mov (.t 3)⟩,
 ⟨some 15, none, .mov (.t 4)⟩,
 ⟨some 16, none, .mov (.t 0)⟩,
 ⟨some 17, none, .mov (.t 4)⟩,
 ⟨some 18, none, .indexAddr 2 (.t 16) (.t 17)⟩,
 ⟨some 19, none, .load true 2 (.t 18)⟩,
 ⟨some 20, none, .call fid_laws_toEdge false [.im] [(.t 19)]⟩,
 ⟨some 21, none, .indexAddr 2 (.t 14) (.t 15)⟩,
 ⟨none, none, .store 2 (.t 21) (.t 20)⟩] [0, 3, 4]))
 (.reg [
 ⟨some 12, none, .mov (.t 4)⟩,
 ⟨some 13, none, .bin .add (.t 12) (.v (.i .i64 1))⟩,
 ⟨some 4, none, .mov (.t 13)⟩] [0, 3, 4]))))))
 (.seq
 (.reg [
 ⟨some 22, none, .mov (.t 3)⟩,
 ⟨some 2, none, .mov (.t 22)⟩] [2])
 (.ret))))
theorem get_laws_toEdgeS : prog.funcs[fid_laws_toEdgeS]? = some f100 := func100
theorem ok_laws_toEdgeS : okFn prog f100 23 [] [(2, none)] mc_laws_toEdgeS = true := by kernel_rfl
def mc_laws_eqEdgeS : MCode :=
 .seq
 (.reg [
 ⟨some 4, none, .mov (.v (.b false))⟩] [0, 1])
 (.seq
 (.seq
 (.reg [
 ⟨some 6, none, .mov (.t 0)⟩,
 ⟨some 7, none, .len (.t 6)⟩,
 ⟨some 8, none, .mov (.t 1)⟩,
 ⟨some 9, none, .len (.t 8)⟩,
 ⟨some 10, none, .bin .neq (.t 7) (.t 9)⟩] [0, 1, 10])
 (.cond (.t 10)
 (.seq
 (.reg [
 ⟨some 4, none, .mov (.v (.b false))⟩] [4])
 (.ret))
 (.skip)))
 (.seq
 (.seq
 (.reg [
 ⟨some 5, none, .mov (.v (.i .i64 0))⟩] [0, 1, 5])
 (.block 0
 (.loop [0, 1, 5]
 (.seq
 (.seq
 (.reg [
 ⟨some 11, none, .mov (.t 5)⟩,
 ⟨some 12, none, .mov (.t 0)⟩,
 ⟨some 13, none, .len (.t 12)⟩,
 ⟨some 14, none, .bin .lss (.t 11) (.t 13)⟩] [0, 1, 5, 14])
 (.cond (.t 14)
 (.skip)
 (.exit 0)))
 (.seq
 (.block 1
 (.seq
 (.draw [0, 0, 3, 7, 0, 0, 48, 112, 255, 511] [
 ⟨some 17, none, .mov (.t 0)⟩,
 ⟨some 18, none, .mov (.t 5)⟩,
 ⟨some 19, none, .indexAddr 2 (.t 17) (.t 18)⟩,
 ⟨some 20, none, .load true 2 (.t 19)⟩,
 ⟨some 21, none, .mov (.t 1)⟩,
 ⟨some 22, none, .mov (.t 5)⟩,
 ⟨some 23, none, .indexAddr 2 (.t 21) (.t 22)⟩,
 ⟨some 24, none, .load true 2 (.t 23)⟩,
 ⟨some 25, none, .call fid_laws_eqEdge false [.im, .im] [(.t 20), (.t 24)]⟩,
 ⟨some 26, none, .un .not (.t 25)⟩] [0, 1, 5, 26])
 (.cond (.t 26)
 (.seq
 (.reg [
 ⟨some 4, none, .mov (.v (.b false))⟩] [4])
 (.ret))
 (.skip))))
 (.reg [
 ⟨some 15, none, .mov (.t 5)⟩,
 ⟨some 16, none, .bin .add (.t 15) (.v (.i .i64 1))⟩,
 ⟨some 5, none, .mov (.t 16)⟩] [0, 1, 5]))))))
 (.seq
 (.reg [
 ⟨some 4, none, .mov (.v (.b true))⟩] [4])
 (.ret))))
theorem get_laws_eqEdgeS : prog.funcs[fid_laws_eqEdgeS]? = some f105 := func105
theorem ok_laws_eqEdgeS : okFn prog f105 27 [] [(4, none)] mc_laws_eqEdgeS = true := by kernel_rfl
def mc_laws_markEdgeS : MCode :=
 .seq
 (.reg [
 ⟨some 4, none, .mov (.v (.i .i64 0))⟩] [0, 1])
 (.seq
 (.seq
 (.reg [
 ⟨some 5, none, .mov (.v (.i .i64 0))⟩] [0, 1, 5])
 (.block 0
 (.loop [0, 1, 5]
 (.seq
 (.seq
 (.reg [
 ⟨some 6, none, .mov (.t 5)⟩,
 ⟨some 7, none, .mov (.t 0)⟩,
 ⟨some 8, none, .len (.t 7)⟩,
 ⟨some 9, none, .bin .lss (.t 6) (.t 8)⟩] [0, 1, 5, 9])
 (.cond (.t 9)
 (.skip)
 (.exit 0)))
 (.seq
 (.block 1
 (.seq
 (.reg [
 ⟨some 12, none, .mov (.t 0)⟩,
 ⟨some 13, none, .mov (.t 5)⟩,
 ⟨some 14, none, .mov (.t 1)⟩,
 ⟨some 15, none, .indexAddr 2 (.t 12) (.t 13)⟩,
 ⟨some 16, none, .fieldAddr 0 (.t 15)⟩,
 ⟨none, none, .store 1 (.t 16) (.t 14)⟩] [0, 1, 5])
 (.seq
 (.reg [
 ⟨some 17, none, .mov (.t 1)⟩,
 ⟨some 18, none, .bin .add (.t 17) (.v (.i .i64 1))⟩,
 ⟨some 1, none, .mov (.t 18)⟩] [0, 1, 5])
 (.seq
 (.reg [
 ⟨some 19, none, .mov (.t 0)⟩,
 ⟨some 20, none, .mov (.t 5)⟩,
 ⟨some 21, none, .mov (.t 1)⟩,
 ⟨some 22, none, .indexAddr 2 (.t 19) (.t 20)⟩,
 ⟨some 23, none, .fieldAddr 1 (.t 22)⟩,
 ⟨none, none, .store 1 (.t 23) (.t 21)⟩] [0, 1, 5])
 (.reg [
 ⟨some 24, none, .mov (.t 1)⟩,
 ⟨some 25, none, .bin .add (.t 24) (.v (.i .i64 1))⟩,
 ⟨some 1, none, .mov (.t 25)⟩] [0, 1, 5])))))
 (.reg [
 ⟨some 10, none, .mov (.t 5)⟩,
 ⟨some 11, none, .bin .add (.t 10) (.v (.i .i64 1))⟩,
 ⟨some 5, none, .mov (.t 11)⟩] [0, 1, 5]))))))
 (.seq
 (.reg [
 ⟨some 26, none, .mov (.t 1)⟩,
 ⟨some 4, none, .mov (.t 26)⟩] [0, 4])
 (.ret)))
theorem get_laws_markEdgeS : prog.funcs[fid_laws_markEdgeS]? = some f106 := func106
theorem ok_laws_markEdgeS : okFn prog f106 27 [0] [(4, none)] mc_laws_markEdgeS = true := by kernel_rfl
def mc_laws_heldEdgeS : MCode :=
 .seq
 (.reg [
 ⟨some 4, none, .mov (.v (.i .i64 0))⟩] [0, 1])
 (.seq
 (.seq
 (.reg [
 ⟨some 5, none, .mov (.v (.i .i64 0))⟩] [0, 1, 5])
 (.block 0
 (.loop [0, 1, 5]
 (.seq
 (.seq
 (.reg [
 ⟨some 6, none, .mov (.t 5)⟩,
 ⟨some 7, none, .mov (.t 0)⟩,
 ⟨some 8, none, .len (.t 7)⟩,
 ⟨some 9, none, .bin .lss (.t 6) (.t 8)⟩] [0, 1, 5, 9])
 (.cond (.t 9)
 (.skip)
 (.exit 0)))
 (.seq
 (.block 1
 (.seq
 (.seq
 (.reg [
 ⟨some 12, none, .mov (.t 0)⟩,
 ⟨some 13, none, .mov (.t 5)⟩,
 ⟨some 14, none, .indexAddr 2 (.t 12) (.t 13)⟩,
 ⟨some 15, none, .fieldAddr 0 (.t 14)⟩,
 ⟨some 16, none, .load false 1 (.t 15)⟩,
 ⟨some 17, none, .mov (.t 1)⟩,
 ⟨some 18, none, .bin .neq (.t 16) (.t 17)⟩] [0, 1, 5, 18])
 (.cond (.t 18)
 (.seq
 (.reg [
 ⟨some 4, none, .mov (.v (.i .i64 (-1)))⟩] [4])
 (.ret))
 (.skip)))
 (.seq
 (.reg [
 ⟨some 19, none, .mov (.t 1)⟩,
 ⟨some 20, none, .bin .add (.t 19) (.v (.i .i64 1))⟩,
 ⟨some 1, none, .mov (.t 20)⟩] [0, 1, 5])
 (.seq
 (.seq
 (.reg [
 ⟨some 21, none, .mov (.t 0)⟩,
 ⟨some 22, none, .mov (.t 5)⟩,
 ⟨some 23, none, .indexAddr 2 (.t 21) (.t 22)⟩,
 ⟨some 24, none, .fieldAddr 1 (.t 23)⟩,
 ⟨some 25, none, .load false 1 (.t 24)⟩,
 ⟨some 26, none, .mov (.t 1)⟩,
 ⟨some 27, none, .bin .neq (.t 25) (.t 26)⟩] [0, 1, 5, 27])
 (.cond (.t 27)
 (.seq
 (.reg [
 ⟨some 4, none, .mov (.v (.i .i64 (-1)))⟩] [4])
 (.ret))
 (.skip)))
 (.reg [
 ⟨some 28, none, .mov (.t 1)⟩,
 ⟨some 29, none, .bin .add (.t 28) (.v (.i .i64 1))⟩,
 ⟨some 1, none, .mov (.t 29)⟩] [0, 1, 5])))))
 (.reg [
 ⟨some 10, none, .mov (.t 5)⟩,
 ⟨some 11, none, .bin .add (.t 10) (.v (.i .i64 1))⟩,
 ⟨some 5, none, .mov (.t 11)⟩] [0, 1, 5]))))))
 (.seq
 (.reg [
 ⟨some 30, none, .mov (.t 1)⟩,
 ⟨some 4, none, .mov (.t 30)⟩] [4])
 (.ret)))
theorem get_laws_heldEdgeS : prog.funcs[fid_laws_heldEdgeS]? = some f107 := func107
theorem ok_laws_heldEdgeS : okFn prog f107 31 [] [(4, none)] mc_laws_heldEdgeS = true := by kernel_rfl
def mc_laws_eqEdge : MCode :=
 .seq
 (.reg [
 ⟨some 2, none, .box 2 (.t 0)⟩,
 ⟨some 3, none, .box 2 (.t 1)⟩,
 ⟨some 4, none, .mov (.v (.b false))⟩] [2, 3])
 (.seq
 (.seq
 (.reg [
 ⟨some 5, none, .fieldAddr 0 (.t 2)⟩,
 ⟨some 6, none, .load false 1 (.t 5)⟩,
 ⟨some 7, none, .fieldAddr 0 (.t 3)⟩,
 ⟨some 8, none, .load false 1 (.t 7)⟩,
 ⟨some 9, none, .bin .neq (.t 6) (.t 8)⟩] [2, 3, 9])
 (.cond (.t 9)
 (.seq
 (.reg [
 ⟨some 4, none, .mov (.v (.b false))⟩] [4])
 (.ret))
 (.skip)))
 (.seq
 (.seq
 (.reg [
 ⟨some 10, none, .fieldAddr 1 (.t 2)⟩,
 ⟨some 11, none, .load false 1 (.t 10)⟩,
 ⟨some 12, none, .fieldAddr 1 (.t 3)⟩,
 ⟨some 13, none, .load false 1 (.t 12)⟩,
 ⟨some 14, none, .bin .neq (.t 11) (.t 13)⟩] [14])
 (.cond (.t 14)
 (.seq
 (.reg [
 ⟨some 4, none, .mov (.v (.b false))⟩] [4])
 (.ret))
 (.skip)))
 (.seq
 (.reg [
 ⟨some 4, none, .mov (.v (.b true))⟩] [4])
 (.ret))))
theorem get_laws_eqEdge : prog.funcs[fid_laws_eqEdge]? = some f125 := func125
theorem ok_laws_eqEdge : okFn prog f125 15 [] [(4, none)] mc_laws_eqEdge = true := by kernel_rfl

end Go.Fw
