/-
  The head of the translation as a list of signs, and what it says. Printed by a program.
-/
import Derived.Test.YtjklefjjmfpnoaaGreatProg
import Derived.Test.YtjklefjjmfpnoaaGreatFyB
namespace Go.Fw
open Go.Proofs.Tryz (prog)
set_option maxRecDepth 100000
def headL : List Char := [sg 104, sg 97, sg 114, sg 110, sg 101, sg 115, sg 115, sg 32, sg 48, sg 98, sg 102, sg 97, sg 57, sg 51, sg 49, sg 53, sg 53, sg 101, sg 54, sg 53, sg 48, sg 99, sg 51, sg 97, sg 54, sg 97, sg 50, sg 48, sg 98, sg 49, sg 101, sg 48, sg 56, sg 52, sg 98, sg 50, sg 102, sg 48, sg 48, sg 57, sg 100, sg 57, sg 99, sg 48, sg 102, sg 97, sg 99, sg 54, sg 102, sg 49, sg 49, sg 102, sg 55, sg 56, sg 53, sg 97, sg 98, sg 57, sg 57, sg 55, sg 57, sg 97, sg 97, sg 55, sg 57, sg 53, sg 50, sg 48, sg 51, sg 53, sg 102, sg 54, sg 32, sg 99, sg 117, sg 116, sg 32, sg 97, sg 116, sg 32, sg 108, sg 111, sg 111, sg 112, sg 46, sg 101, sg 120, sg 97, sg 109, sg 112, sg 108, sg 101, sg 47, sg 100, sg 121, sg 110, sg 97, sg 109, sg 105, sg 99, sg 98, sg 114, sg 105, sg 100, sg 103, sg 101, sg 115, sg 47, sg 108, sg 97, sg 119, sg 115, sg 46, sg 70, sg 110, sg 69, sg 120, sg 97, sg 99, sg 116, sg 67, sg 111, sg 117, sg 110, sg 116, sg 115, sg 79, sg 102]
theorem head_is : prog.initOrder = String.ofList headL := by kernel_rfl
theorem front_is : behindMainWord (wordsGo [] headL) = [sg 99, sg 117, sg 116] :: wordsGo [] (headL.drop 77) := by kernel_rfl
theorem words_are : behindMainWord (wordsSigns prog.initOrder.toList) = [sg 99, sg 117, sg 116] :: wordsGo [] (headL.drop 77) := by rw [head_is, String.toList_ofList, words_front]; exact front_is
theorem make_cut : prog.make = some .cut := make_of prog _ words_are
theorem lifts_no : prog.liftsFinal = false := lifts_of prog _ words_are
theorem later_no : prog.laysLater = false := by kernel_rfl
theorem reflect_no : prog.bearsReflect = false := by kernel_rfl
theorem door_ok : prog.doorFits [] = true := by kernel_rfl
theorem enter_is : prog.mayEnter = true := enter_of prog _ words_are later_no reflect_no door_ok
end Go.Fw
