/-
  The code of the statements, as the model's own. Printed by a program.
-/
import Derived.Test.YtbolckhedohecaaCd
namespace Go.Fw
set_option maxRecDepth 100000
def mc_laws_FnExactRunTurns : MCode :=
 .seq
  (.reg [
     ⟨(some 2), none, .box 2 (.t 0)⟩,
     ⟨(some 4), none, .mov (.v (.b false))⟩] [1, 2])
  (.seq
  (.reg [
     ⟨(some 5), none, .mov (.v (.i .i64 1048576))⟩] [1, 2, 5])
  (.seq
  (.reg [
     ⟨(some 17), none, .load true 2 (.t 2)⟩,
     ⟨(some 18), none, .mov (.t 5)⟩,
     ⟨(some 19), none, .call fid_laws_szGraph false [.im, .im] [(.t 17), (.t 18)]⟩,
     ⟨(some 5), none, .mov (.t 19)⟩] [1, 2, 5])
  (.seq
  (.seq
   (.reg [
      ⟨(some 20), none, .mov (.t 5)⟩,
      ⟨(some 21), none, .bin .lss (.t 20) (.v (.i .i64 0))⟩] [1, 2, 5, 21])
   (.cond (.t 21)
   (.seq
    (.reg [
       ⟨(some 4), none, .mov (.v (.b true))⟩] [4])
    (.ret))
   (.skip)))
  (.seq
  (.reg [
     ⟨(some 22), none, .mov (.t 1)⟩,
     ⟨(some 23), none, .mov (.t 5)⟩,
     ⟨(some 24), none, .call fid_laws_szTurnS false [.im, .im] [(.t 22), (.t 23)]⟩,
     ⟨(some 5), none, .mov (.t 24)⟩] [1, 2, 5])
  (.seq
  (.seq
   (.reg [
      ⟨(some 25), none, .mov (.t 5)⟩,
      ⟨(some 26), none, .bin .lss (.t 25) (.v (.i .i64 0))⟩] [1, 2, 26])
   (.cond (.t 26)
   (.seq
    (.reg [
       ⟨(some 4), none, .mov (.v (.b true))⟩] [4])
    (.ret))
   (.skip)))
  (.seq
  (.reg [
     ⟨(some 28), none, .load true 2 (.t 2)⟩,
     ⟨(some 29), none, .call fid_laws_toGraph false [.im] [(.t 28)]⟩,
     ⟨(some 30), none, .mov (.t 1)⟩,
     ⟨(some 31), none, .call fid_laws_toTurnS false [.im] [(.t 30)]⟩,
     ⟨(some 32), none, .call fid_spec_RunTurns false [.im, .im] [(.t 29), (.t 31)]⟩,
     ⟨(some 27), none, .mov (.t 32)⟩,
     ⟨(some 33), none, .extract (.t 27) 0⟩,
     ⟨(some 34), none, .extract (.t 27) 1⟩,
     ⟨(some 6), none, .alloc [.i .i64 0, .nl 2]⟩,
     ⟨none, none, .store 2 (.t 6) (.t 33)⟩,
     ⟨(some 7), none, .mov (.t 34)⟩] [1, 2, 6, 7])
  (.seq
  (.reg [
     ⟨(some 35), none, .load true 2 (.t 2)⟩,
     ⟨(some 36), none, .call fid_laws_toGraph false [.im] [(.t 35)]⟩,
     ⟨(some 8), none, .alloc [.i .i64 0, .nl 2]⟩,
     ⟨none, none, .store 2 (.t 8) (.t 36)⟩] [1, 2, 6, 7, 8])
  (.seq
  (.reg [
     ⟨(some 37), none, .mov (.t 1)⟩,
     ⟨(some 38), none, .call fid_laws_toTurnS false [.im] [(.t 37)]⟩,
     ⟨(some 9), none, .mov (.t 38)⟩] [1, 2, 6, 7, 8, 9])
  (.seq
  (.reg [
     ⟨(some 40), none, .load true 2 (.t 8)⟩,
     ⟨(some 41), none, .mov (.t 9)⟩,
     ⟨(some 42), none, .call fid_impl_RunTurns false [.im, .im] [(.t 40), (.t 41)]⟩,
     ⟨(some 39), none, .mov (.t 42)⟩,
     ⟨(some 43), none, .extract (.t 39) 0⟩,
     ⟨(some 44), none, .extract (.t 39) 1⟩,
     ⟨(some 10), none, .alloc [.i .i64 0, .nl 2]⟩,
     ⟨none, none, .store 2 (.t 10) (.t 43)⟩,
     ⟨(some 11), none, .mov (.t 44)⟩] [1, 2, 6, 7, 8, 9, 10, 11])
  (.seq
  (.seq
   (.reg [
      ⟨(some 45), none, .load true 2 (.t 10)⟩,
      ⟨(some 46), none, .load true 2 (.t 6)⟩,
      ⟨(some 47), none, .call fid_laws_eqGraph false [.im, .im] [(.t 45), (.t 46)]⟩,
      ⟨(some 48), none, .un .not (.t 47)⟩,
      ⟨(some 49), none, .mov (.t 48)⟩,
      ⟨(some 50), (some (49, false)), .mov (.t 11)⟩,
      ⟨(some 51), (some (49, false)), .mov (.t 7)⟩,
      ⟨(some 52), (some (49, false)), .binb true (.t 50) (.t 51)⟩,
      ⟨(some 53), none, .pick (.t 49) (.v (.b true)) (.t 52)⟩] [1, 2, 6, 7, 8, 9, 10, 11, 53])
   (.cond (.t 53)
   (.seq
    (.reg [
       ⟨(some 4), none, .mov (.v (.b false))⟩] [4])
    (.ret))
   (.skip)))
  (.seq
  (.seq
   (.draw [0, 0, 2, 7, 15] [
      ⟨(some 54), none, .load true 2 (.t 8)⟩,
      ⟨(some 55), none, .load true 2 (.t 2)⟩,
      ⟨(some 56), none, .call fid_laws_toGraph false [.im] [(.t 55)]⟩,
      ⟨(some 57), none, .call fid_laws_eqGraph false [.im, .im] [(.t 54), (.t 56)]⟩,
      ⟨(some 58), none, .un .not (.t 57)⟩] [1, 2, 6, 7, 8, 9, 10, 11, 58])
   (.cond (.t 58)
   (.seq
    (.reg [
       ⟨(some 4), none, .mov (.v (.b false))⟩] [4])
    (.ret))
   (.skip)))
  (.seq
  (.seq
   (.reg [
      ⟨(some 59), none, .mov (.t 9)⟩,
      ⟨(some 60), none, .mov (.t 1)⟩,
      ⟨(some 61), none, .call fid_laws_toTurnS false [.im] [(.t 60)]⟩,
      ⟨(some 62), none, .call fid_laws_eqTurnS false [.im, .im] [(.t 59), (.t 61)]⟩,
      ⟨(some 63), none, .un .not (.t 62)⟩] [1, 2, 6, 7, 8, 9, 10, 11, 63])
   (.cond (.t 63)
   (.seq
    (.reg [
       ⟨(some 4), none, .mov (.v (.b false))⟩] [4])
    (.ret))
   (.skip)))
  (.seq
  (.reg [
     ⟨(some 12), none, .mov (.v (.i .i64 1))⟩] [1, 2, 6, 7, 8, 9, 10, 11, 12])
  (.seq
  (.reg [
     ⟨(some 64), none, .load true 2 (.t 8)⟩,
     ⟨(some 65), none, .mov (.t 12)⟩,
     ⟨(some 66), none, .call fid_laws_markGraph false [.io, .im] [(.t 64), (.t 65)]⟩,
     ⟨(some 12), none, .mov (.t 66)⟩] [1, 2, 6, 7, 9, 10, 11, 12])
  (.seq
  (.reg [
     ⟨(some 67), none, .mov (.t 9)⟩,
     ⟨(some 68), none, .mov (.t 12)⟩,
     ⟨(some 69), none, .call fid_laws_markTurnS false [.io, .im] [(.t 67), (.t 68)]⟩,
     ⟨(some 12), none, .mov (.t 69)⟩] [1, 2, 6, 7, 10, 11, 12])
  (.seq
  (.seq
   (.reg [
      ⟨(some 70), none, .mov (.t 12)⟩,
      ⟨(some 71), none, .bin .lss (.t 70) (.v (.i .i64 0))⟩,
      ⟨(some 72), none, .mov (.t 71)⟩,
      ⟨(some 73), (some (72, false)), .load true 2 (.t 10)⟩,
      ⟨(some 74), (some (72, false)), .load true 2 (.t 6)⟩,
      ⟨(some 75), (some (72, false)), .call fid_laws_eqGraph false [.im, .im] [(.t 73), (.t 74)]⟩,
      ⟨(some 76), (some (72, false)), .un .not (.t 75)⟩,
      ⟨(some 77), none, .pick (.t 72) (.v (.b true)) (.t 76)⟩,
      ⟨(some 78), none, .mov (.t 77)⟩,
      ⟨(some 79), (some (78, false)), .mov (.t 11)⟩,
      ⟨(some 80), (some (78, false)), .mov (.t 7)⟩,
      ⟨(some 81), (some (78, false)), .binb true (.t 79) (.t 80)⟩,
      ⟨(some 82), none, .pick (.t 78) (.v (.b true)) (.t 81)⟩] [1, 2, 6, 7, 10, 82])
   (.cond (.t 82)
   (.seq
    (.reg [
       ⟨(some 4), none, .mov (.v (.b false))⟩] [4])
    (.ret))
   (.skip)))
  (.seq
  (.reg [
     ⟨(some 13), none, .mov (.v (.i .i64 1))⟩] [1, 2, 6, 7, 10, 13])
  (.seq
  (.reg [
     ⟨(some 83), none, .load true 2 (.t 10)⟩,
     ⟨(some 84), none, .mov (.t 13)⟩,
     ⟨(some 85), none, .call fid_laws_markGraph false [.io, .im] [(.t 83), (.t 84)]⟩,
     ⟨(some 13), none, .mov (.t 85)⟩] [1, 2, 6, 7, 10, 13])
  (.seq
  (.reg [
     ⟨(some 14), none, .mov (.v (.i .i64 1))⟩] [1, 2, 6, 7, 10, 13, 14])
  (.seq
  (.reg [
     ⟨(some 86), none, .load true 2 (.t 10)⟩,
     ⟨(some 87), none, .mov (.t 14)⟩,
     ⟨(some 88), none, .call fid_laws_heldGraph false [.im, .im] [(.t 86), (.t 87)]⟩,
     ⟨(some 14), none, .mov (.t 88)⟩] [1, 2, 6, 7, 10, 13, 14])
  (.seq
  (.seq
   (.reg [
      ⟨(some 89), none, .mov (.t 14)⟩,
      ⟨(some 90), none, .bin .lss (.t 89) (.v (.i .i64 0))⟩] [1, 2, 6, 7, 10, 13, 14, 90])
   (.cond (.t 90)
   (.seq
    (.reg [
       ⟨(some 4), none, .mov (.v (.b false))⟩] [4])
    (.ret))
   (.skip)))
  (.seq
  (.seq
   (.reg [
      ⟨(some 91), none, .mov (.t 14)⟩,
      ⟨(some 92), none, .mov (.t 13)⟩,
      ⟨(some 93), none, .bin .neq (.t 91) (.t 92)⟩] [1, 2, 6, 7, 10, 13, 93])
   (.cond (.t 93)
   (.seq
    (.reg [
       ⟨(some 4), none, .mov (.v (.b false))⟩] [4])
    (.ret))
   (.skip)))
  (.seq
  (.reg [
     ⟨(some 95), none, .load true 2 (.t 2)⟩,
     ⟨(some 96), none, .call fid_laws_toGraph false [.im] [(.t 95)]⟩,
     ⟨(some 97), none, .mov (.t 1)⟩,
     ⟨(some 98), none, .call fid_laws_toTurnS false [.im] [(.t 97)]⟩,
     ⟨(some 99), none, .call fid_impl_RunTurns false [.im, .im] [(.t 96), (.t 98)]⟩,
     ⟨(some 94), none, .mov (.t 99)⟩,
     ⟨(some 100), none, .extract (.t 94) 0⟩,
     ⟨(some 101), none, .extract (.t 94) 1⟩,
     ⟨(some 15), none, .alloc [.i .i64 0, .nl 2]⟩,
     ⟨none, none, .store 2 (.t 15) (.t 100)⟩,
     ⟨(some 16), none, .mov (.t 101)⟩] [6, 7, 10, 13, 15, 16])
  (.seq
  (.seq
   (.reg [
      ⟨(some 102), none, .load true 2 (.t 15)⟩,
      ⟨(some 103), none, .load true 2 (.t 6)⟩,
      ⟨(some 104), none, .call fid_laws_eqGraph false [.im, .im] [(.t 102), (.t 103)]⟩,
      ⟨(some 105), none, .un .not (.t 104)⟩,
      ⟨(some 106), none, .mov (.t 105)⟩,
      ⟨(some 107), (some (106, false)), .mov (.t 16)⟩,
      ⟨(some 108), (some (106, false)), .mov (.t 7)⟩,
      ⟨(some 109), (some (106, false)), .binb true (.t 107) (.t 108)⟩,
      ⟨(some 110), none, .pick (.t 106) (.v (.b true)) (.t 109)⟩] [10, 13, 110])
   (.cond (.t 110)
   (.seq
    (.reg [
       ⟨(some 4), none, .mov (.v (.b false))⟩] [4])
    (.ret))
   (.skip)))
  (.seq
  (.reg [
     ⟨(some 14), none, .mov (.v (.i .i64 1))⟩] [10, 13, 14])
  (.seq
  (.reg [
     ⟨(some 111), none, .load true 2 (.t 10)⟩,
     ⟨(some 112), none, .mov (.t 14)⟩,
     ⟨(some 113), none, .call fid_laws_heldGraph false [.im, .im] [(.t 111), (.t 112)]⟩,
     ⟨(some 14), none, .mov (.t 113)⟩] [13, 14])
  (.seq
  (.seq
   (.reg [
      ⟨(some 114), none, .mov (.t 14)⟩,
      ⟨(some 115), none, .bin .lss (.t 114) (.v (.i .i64 0))⟩] [13, 14, 115])
   (.cond (.t 115)
   (.seq
    (.reg [
       ⟨(some 4), none, .mov (.v (.b false))⟩] [4])
    (.ret))
   (.skip)))
  (.seq
  (.seq
   (.reg [
      ⟨(some 116), none, .mov (.t 14)⟩,
      ⟨(some 117), none, .mov (.t 13)⟩,
      ⟨(some 118), none, .bin .neq (.t 116) (.t 117)⟩] [118])
   (.cond (.t 118)
   (.seq
    (.reg [
       ⟨(some 4), none, .mov (.v (.b false))⟩] [4])
    (.ret))
   (.skip)))
  (.seq
  (.reg [
     ⟨(some 4), none, .mov (.v (.b true))⟩] [4])
  (.ret))))))))))))))))))))))))))))))
theorem get_laws_FnExactRunTurns : Go.Proofs.Try.prog.funcs[fid_laws_FnExactRunTurns]? = some Go.Proofs.Try.f3 := Go.Proofs.Try.func3
theorem ok_laws_FnExactRunTurns : okFn Go.Proofs.Try.prog Go.Proofs.Try.f3 119 [] [(4, none)] mc_laws_FnExactRunTurns = true := by kernel_rfl
def mc_laws_FnRunTurns : MCode :=
 .seq
  (.reg [
     ⟨(some 2), none, .mov (.v (.b false))⟩] [0])
  (.seq
  (.seq
   (.reg [
      ⟨(some 14), none, .mov (.t 0)⟩,
      ⟨(some 15), none, .len (.t 14)⟩,
      ⟨(some 16), none, .bin .gtr (.t 15) (.v (.i .i64 1048576))⟩] [0, 16])
   (.cond (.t 16)
   (.seq
    (.reg [
       ⟨(some 2), none, .mov (.v (.b true))⟩] [2])
    (.ret))
   (.skip)))
  (.seq
  (.reg [
     ⟨(some 18), none, .mov (.t 0)⟩,
     ⟨(some 19), none, .call fid_spec_DrawRunTurns false [.im] [(.t 18)]⟩,
     ⟨(some 17), none, .mov (.t 19)⟩,
     ⟨(some 20), none, .extract (.t 17) 0⟩,
     ⟨(some 21), none, .extract (.t 17) 1⟩,
     ⟨(some 3), none, .alloc [.i .i64 0, .nl 2]⟩,
     ⟨none, none, .store 2 (.t 3) (.t 20)⟩,
     ⟨(some 4), none, .mov (.t 21)⟩] [3, 4])
  (.seq
  (.reg [
     ⟨(some 23), none, .load true 2 (.t 3)⟩,
     ⟨(some 24), none, .mov (.t 4)⟩,
     ⟨(some 25), none, .call fid_impl_RunTurns false [.im, .im] [(.t 23), (.t 24)]⟩,
     ⟨(some 22), none, .mov (.t 25)⟩,
     ⟨(some 26), none, .extract (.t 22) 0⟩,
     ⟨(some 27), none, .extract (.t 22) 1⟩,
     ⟨(some 5), none, .alloc [.i .i64 0, .nl 2]⟩,
     ⟨none, none, .store 2 (.t 5) (.t 26)⟩,
     ⟨(some 6), none, .mov (.t 27)⟩] [3, 4, 5, 6])
  (.seq
  (.reg [
     ⟨(some 29), none, .load true 2 (.t 3)⟩,
     ⟨(some 30), none, .mov (.t 4)⟩,
     ⟨(some 31), none, .call fid_spec_RunTurns false [.im, .im] [(.t 29), (.t 30)]⟩,
     ⟨(some 28), none, .mov (.t 31)⟩,
     ⟨(some 32), none, .extract (.t 28) 0⟩,
     ⟨(some 33), none, .extract (.t 28) 1⟩,
     ⟨(some 7), none, .alloc [.i .i64 0, .nl 2]⟩,
     ⟨none, none, .store 2 (.t 7) (.t 32)⟩,
     ⟨(some 8), none, .mov (.t 33)⟩] [3, 4, 5, 6, 7, 8])
  (.seq
  (.seq
   (.reg [
      ⟨(some 34), none, .load true 2 (.t 5)⟩,
      ⟨(some 35), none, .load true 2 (.t 7)⟩,
      ⟨(some 36), none, .call fid_impl_GraphSame false [.im, .im] [(.t 34), (.t 35)]⟩,
      ⟨(some 37), none, .un .not (.t 36)⟩,
      ⟨(some 38), none, .mov (.t 37)⟩,
      ⟨(some 39), (some (38, false)), .mov (.t 6)⟩,
      ⟨(some 40), (some (38, false)), .mov (.t 8)⟩,
      ⟨(some 41), (some (38, false)), .binb true (.t 39) (.t 40)⟩,
      ⟨(some 42), none, .pick (.t 38) (.v (.b true)) (.t 41)⟩,
      ⟨(some 43), none, .mov (.t 42)⟩,
      ⟨(some 44), (some (43, false)), .mov (.t 6)⟩,
      ⟨(some 45), (some (43, false)), .un .not (.t 44)⟩,
      ⟨(some 46), none, .pick (.t 43) (.v (.b true)) (.t 45)⟩] [3, 4, 5, 6, 7, 8, 46])
   (.cond (.t 46)
   (.seq
    (.reg [
       ⟨(some 47), none, .load true 2 (.t 5)⟩,
       ⟨(some 48), none, .load true 2 (.t 7)⟩,
       ⟨(some 49), none, .call fid_impl_GraphSame false [.im, .im] [(.t 47), (.t 48)]⟩,
       ⟨(some 50), none, .mov (.t 49)⟩,
       ⟨(some 51), (some (50, true)), .mov (.t 6)⟩,
       ⟨(some 52), (some (50, true)), .mov (.t 8)⟩,
       ⟨(some 53), (some (50, true)), .binb false (.t 51) (.t 52)⟩,
       ⟨(some 54), none, .pick (.t 50) (.t 53) (.v (.b false))⟩,
       ⟨(some 2), none, .mov (.t 54)⟩] [2])
    (.ret))
   (.skip)))
  (.seq
  (.reg [
     ⟨(some 55), none, .mov (.t 4)⟩,
     ⟨(some 56), none, .len (.t 55)⟩,
     ⟨(some 57), none, .bin .quo (.t 56) (.v (.i .i64 2))⟩,
     ⟨(some 9), none, .mov (.t 57)⟩] [3, 4, 5, 9])
  (.seq
  (.draw [0, 0, 0, 6, 15, 31, 63, 63, 0, 383, 1023] [
     ⟨(some 59), none, .load true 2 (.t 3)⟩,
     ⟨(some 60), none, .mov (.t 4)⟩,
     ⟨(some 61), none, .mov (.t 9)⟩,
     ⟨(some 62), none, .slice 2 (.t 60) none (some (.t 61))⟩,
     ⟨(some 63), none, .call fid_impl_RunTurns false [.im, .im] [(.t 59), (.t 62)]⟩,
     ⟨(some 58), none, .mov (.t 63)⟩,
     ⟨(some 64), none, .extract (.t 58) 0⟩,
     ⟨(some 65), none, .extract (.t 58) 1⟩,
     ⟨(some 10), none, .alloc [.i .i64 0, .nl 2]⟩,
     ⟨none, none, .store 2 (.t 10) (.t 64)⟩,
     ⟨(some 11), none, .mov (.t 65)⟩] [4, 5, 9, 10, 11])
  (.seq
  (.draw [0, 0, 0, 6, 15, 31, 63, 63, 0, 383, 1023] [
     ⟨(some 67), none, .load true 2 (.t 10)⟩,
     ⟨(some 68), none, .mov (.t 4)⟩,
     ⟨(some 69), none, .mov (.t 9)⟩,
     ⟨(some 70), none, .slice 2 (.t 68) (some (.t 69)) none⟩,
     ⟨(some 71), none, .call fid_impl_RunTurns false [.im, .im] [(.t 67), (.t 70)]⟩,
     ⟨(some 66), none, .mov (.t 71)⟩,
     ⟨(some 72), none, .extract (.t 66) 0⟩,
     ⟨(some 73), none, .extract (.t 66) 1⟩,
     ⟨(some 12), none, .alloc [.i .i64 0, .nl 2]⟩,
     ⟨none, none, .store 2 (.t 12) (.t 72)⟩,
     ⟨(some 13), none, .mov (.t 73)⟩] [5, 11, 12, 13])
  (.seq
  (.reg [
     ⟨(some 74), none, .mov (.t 11)⟩,
     ⟨(some 75), none, .mov (.t 74)⟩,
     ⟨(some 76), (some (75, true)), .mov (.t 13)⟩,
     ⟨(some 77), none, .pick (.t 75) (.t 76) (.v (.b false))⟩,
     ⟨(some 78), none, .mov (.t 77)⟩,
     ⟨(some 79), (some (78, true)), .load true 2 (.t 12)⟩,
     ⟨(some 80), (some (78, true)), .load true 2 (.t 5)⟩,
     ⟨(some 81), (some (78, true)), .call fid_impl_GraphSame false [.im, .im] [(.t 79), (.t 80)]⟩,
     ⟨(some 82), none, .pick (.t 78) (.t 81) (.v (.b false))⟩,
     ⟨(some 83), none, .mov (.t 82)⟩,
     ⟨(some 84), (some (83, true)), .load true 2 (.t 5)⟩,
     ⟨(some 85), (some (83, true)), .call fid_impl_GraphValid false [.im] [(.t 84)]⟩,
     ⟨(some 86), none, .pick (.t 83) (.t 85) (.v (.b false))⟩,
     ⟨(some 2), none, .mov (.t 86)⟩] [2])
  (.ret))))))))))
theorem get_laws_FnRunTurns : Go.Proofs.Try.prog.funcs[fid_laws_FnRunTurns]? = some Go.Proofs.Try.f4 := Go.Proofs.Try.func4
theorem ok_laws_FnRunTurns : okFn Go.Proofs.Try.prog Go.Proofs.Try.f4 87 [] [(2, none)] mc_laws_FnRunTurns = true := by kernel_rfl
def mc_laws_FnTurnsBack : MCode :=
 .seq
  (.reg [
     ⟨(some 2), none, .mov (.v (.b false))⟩] [0])
  (.seq
  (.seq
   (.reg [
      ⟨(some 13), none, .mov (.t 0)⟩,
      ⟨(some 14), none, .len (.t 13)⟩,
      ⟨(some 15), none, .bin .gtr (.t 14) (.v (.i .i64 1048576))⟩] [0, 15])
   (.cond (.t 15)
   (.seq
    (.reg [
       ⟨(some 2), none, .mov (.v (.b true))⟩] [2])
    (.ret))
   (.skip)))
  (.seq
  (.reg [
     ⟨(some 17), none, .mov (.t 0)⟩,
     ⟨(some 18), none, .call fid_spec_DrawRunTurns false [.im] [(.t 17)]⟩,
     ⟨(some 16), none, .mov (.t 18)⟩,
     ⟨(some 19), none, .extract (.t 16) 0⟩,
     ⟨(some 20), none, .extract (.t 16) 1⟩,
     ⟨(some 3), none, .alloc [.i .i64 0, .nl 2]⟩,
     ⟨none, none, .store 2 (.t 3) (.t 19)⟩,
     ⟨(some 4), none, .mov (.t 20)⟩] [3, 4])
  (.seq
  (.reg [
     ⟨(some 22), none, .load true 2 (.t 3)⟩,
     ⟨(some 23), none, .mov (.t 4)⟩,
     ⟨(some 24), none, .call fid_impl_RunTurns false [.im, .im] [(.t 22), (.t 23)]⟩,
     ⟨(some 21), none, .mov (.t 24)⟩,
     ⟨(some 25), none, .extract (.t 21) 0⟩,
     ⟨(some 26), none, .extract (.t 21) 1⟩,
     ⟨(some 5), none, .alloc [.i .i64 0, .nl 2]⟩,
     ⟨none, none, .store 2 (.t 5) (.t 25)⟩,
     ⟨(some 6), none, .mov (.t 26)⟩] [3, 4, 5, 6])
  (.seq
  (.reg [
     ⟨(some 28), none, .load true 2 (.t 3)⟩,
     ⟨(some 29), none, .mov (.t 4)⟩,
     ⟨(some 30), none, .call fid_spec_RunTurns false [.im, .im] [(.t 28), (.t 29)]⟩,
     ⟨(some 27), none, .mov (.t 30)⟩,
     ⟨(some 31), none, .extract (.t 27) 0⟩,
     ⟨(some 32), none, .extract (.t 27) 1⟩,
     ⟨(some 7), none, .alloc [.i .i64 0, .nl 2]⟩,
     ⟨none, none, .store 2 (.t 7) (.t 31)⟩,
     ⟨(some 8), none, .mov (.t 32)⟩] [3, 4, 5, 6, 7, 8])
  (.seq
  (.seq
   (.reg [
      ⟨(some 33), none, .load true 2 (.t 5)⟩,
      ⟨(some 34), none, .load true 2 (.t 7)⟩,
      ⟨(some 35), none, .call fid_impl_GraphSame false [.im, .im] [(.t 33), (.t 34)]⟩,
      ⟨(some 36), none, .un .not (.t 35)⟩,
      ⟨(some 37), none, .mov (.t 36)⟩,
      ⟨(some 38), (some (37, false)), .mov (.t 6)⟩,
      ⟨(some 39), (some (37, false)), .mov (.t 8)⟩,
      ⟨(some 40), (some (37, false)), .binb true (.t 38) (.t 39)⟩,
      ⟨(some 41), none, .pick (.t 37) (.v (.b true)) (.t 40)⟩,
      ⟨(some 42), none, .mov (.t 41)⟩,
      ⟨(some 43), (some (42, false)), .mov (.t 6)⟩,
      ⟨(some 44), (some (42, false)), .un .not (.t 43)⟩,
      ⟨(some 45), none, .pick (.t 42) (.v (.b true)) (.t 44)⟩] [3, 4, 5, 6, 7, 8, 45])
   (.cond (.t 45)
   (.seq
    (.reg [
       ⟨(some 46), none, .load true 2 (.t 5)⟩,
       ⟨(some 47), none, .load true 2 (.t 7)⟩,
       ⟨(some 48), none, .call fid_impl_GraphSame false [.im, .im] [(.t 46), (.t 47)]⟩,
       ⟨(some 49), none, .mov (.t 48)⟩,
       ⟨(some 50), (some (49, true)), .mov (.t 6)⟩,
       ⟨(some 51), (some (49, true)), .mov (.t 8)⟩,
       ⟨(some 52), (some (49, true)), .binb false (.t 50) (.t 51)⟩,
       ⟨(some 53), none, .pick (.t 49) (.t 52) (.v (.b false))⟩,
       ⟨(some 2), none, .mov (.t 53)⟩] [2])
    (.ret))
   (.skip)))
  (.seq
  (.reg [
     ⟨(some 54), none, .buildSlice 2 []⟩,
     ⟨(some 9), none, .mov (.t 54)⟩] [3, 4, 5, 9])
  (.seq
  (.seq
   (.reg [
      ⟨(some 55), none, .mov (.t 4)⟩,
      ⟨(some 56), none, .len (.t 55)⟩,
      ⟨(some 57), none, .bin .sub (.t 56) (.v (.i .i64 1))⟩,
      ⟨(some 10), none, .mov (.t 57)⟩] [3, 4, 5, 9, 10])
   (.block 0
   (.loop [3, 4, 5, 9, 10]
    (.seq
     (.seq
      (.reg [
         ⟨(some 58), none, .mov (.t 10)⟩,
         ⟨(some 59), none, .bin .geq (.t 58) (.v (.i .i64 0))⟩] [3, 4, 5, 9, 10, 59])
      (.cond (.t 59)
      (.skip)
      (.exit 0)))
     (.seq
     (.block 1
      (.reg [
         ⟨(some 62), none, .mov (.t 9)⟩,
         ⟨(some 63), none, .mov (.t 4)⟩,
         ⟨(some 64), none, .mov (.t 10)⟩,
         ⟨(some 65), none, .indexAddr 2 (.t 63) (.t 64)⟩,
         ⟨(some 66), none, .load true 2 (.t 65)⟩,
         ⟨(some 67), none, .buildSlice 2 [(.t 66)]⟩,
         ⟨(some 68), none, .append 2 16 true (.t 62) (.t 67)⟩,
         ⟨(some 9), none, .mov (.t 68)⟩] [3, 4, 5, 9, 10]))
     (.reg [
       ⟨(some 60), none, .mov (.t 10)⟩,
       ⟨(some 61), none, .bin .sub (.t 60) (.v (.i .i64 1))⟩,
       ⟨(some 10), none, .mov (.t 61)⟩] [3, 4, 5, 9, 10]))))))
  (.seq
  (.reg [
     ⟨(some 70), none, .load true 2 (.t 5)⟩,
     ⟨(some 71), none, .mov (.t 9)⟩,
     ⟨(some 72), none, .call fid_impl_RunTurns false [.im, .im] [(.t 70), (.t 71)]⟩,
     ⟨(some 69), none, .mov (.t 72)⟩,
     ⟨(some 73), none, .extract (.t 69) 0⟩,
     ⟨(some 74), none, .extract (.t 69) 1⟩,
     ⟨(some 11), none, .alloc [.i .i64 0, .nl 2]⟩,
     ⟨none, none, .store 2 (.t 11) (.t 73)⟩,
     ⟨(some 12), none, .mov (.t 74)⟩] [3, 11, 12])
  (.seq
  (.reg [
     ⟨(some 75), none, .mov (.t 12)⟩,
     ⟨(some 76), none, .mov (.t 75)⟩,
     ⟨(some 77), (some (76, true)), .load true 2 (.t 11)⟩,
     ⟨(some 78), (some (76, true)), .load true 2 (.t 3)⟩,
     ⟨(some 79), (some (76, true)), .call fid_impl_GraphSame false [.im, .im] [(.t 77), (.t 78)]⟩,
     ⟨(some 80), none, .pick (.t 76) (.t 79) (.v (.b false))⟩,
     ⟨(some 2), none, .mov (.t 80)⟩] [2])
  (.ret))))))))))
theorem get_laws_FnTurnsBack : Go.Proofs.Try.prog.funcs[fid_laws_FnTurnsBack]? = some Go.Proofs.Try.f5 := Go.Proofs.Try.func5
theorem ok_laws_FnTurnsBack : okFn Go.Proofs.Try.prog Go.Proofs.Try.f5 81 [] [(2, none)] mc_laws_FnTurnsBack = true := by kernel_rfl
def mc_laws_FnExactReplayEvents : MCode :=
 .seq
  (.reg [
     ⟨(some 4), none, .mov (.v (.b false))⟩] [0, 1])
  (.seq
  (.reg [
     ⟨(some 5), none, .mov (.v (.i .i64 1048576))⟩] [0, 1, 5])
  (.seq
  (.reg [
     ⟨(some 17), none, .mov (.t 0)⟩,
     ⟨(some 18), none, .mov (.t 5)⟩,
     ⟨(some 19), none, .call fid_laws_szEdgeS false [.im, .im] [(.t 17), (.t 18)]⟩,
     ⟨(some 5), none, .mov (.t 19)⟩] [0, 1, 5])
  (.seq
  (.seq
   (.reg [
      ⟨(some 20), none, .mov (.t 5)⟩,
      ⟨(some 21), none, .bin .lss (.t 20) (.v (.i .i64 0))⟩] [0, 1, 5, 21])
   (.cond (.t 21)
   (.seq
    (.reg [
       ⟨(some 4), none, .mov (.v (.b true))⟩] [4])
    (.ret))
   (.skip)))
  (.seq
  (.reg [
     ⟨(some 22), none, .mov (.t 1)⟩,
     ⟨(some 23), none, .mov (.t 5)⟩,
     ⟨(some 24), none, .call fid_laws_szEventS false [.im, .im] [(.t 22), (.t 23)]⟩,
     ⟨(some 5), none, .mov (.t 24)⟩] [0, 1, 5])
  (.seq
  (.seq
   (.reg [
      ⟨(some 25), none, .mov (.t 5)⟩,
      ⟨(some 26), none, .bin .lss (.t 25) (.v (.i .i64 0))⟩] [0, 1, 26])
   (.cond (.t 26)
   (.seq
    (.reg [
       ⟨(some 4), none, .mov (.v (.b true))⟩] [4])
    (.ret))
   (.skip)))
  (.seq
  (.reg [
     ⟨(some 28), none, .mov (.t 0)⟩,
     ⟨(some 29), none, .call fid_laws_toEdgeS false [.im] [(.t 28)]⟩,
     ⟨(some 30), none, .mov (.t 1)⟩,
     ⟨(some 31), none, .call fid_laws_toEventS false [.im] [(.t 30)]⟩,
     ⟨(some 32), none, .call fid_spec_ReplayEvents false [.im, .im] [(.t 29), (.t 31)]⟩,
     ⟨(some 27), none, .mov (.t 32)⟩,
     ⟨(some 33), none, .extract (.t 27) 0⟩,
     ⟨(some 34), none, .extract (.t 27) 1⟩,
     ⟨(some 6), none, .mov (.t 33)⟩,
     ⟨(some 7), none, .mov (.t 34)⟩] [0, 1, 6, 7])
  (.seq
  (.reg [
     ⟨(some 35), none, .mov (.t 0)⟩,
     ⟨(some 36), none, .call fid_laws_toEdgeS false [.im] [(.t 35)]⟩,
     ⟨(some 8), none, .mov (.t 36)⟩] [0, 1, 6, 7, 8])
  (.seq
  (.reg [
     ⟨(some 37), none, .mov (.t 1)⟩,
     ⟨(some 38), none, .call fid_laws_toEventS false [.im] [(.t 37)]⟩,
     ⟨(some 9), none, .mov (.t 38)⟩] [0, 1, 6, 7, 8, 9])
  (.seq
  (.reg [
     ⟨(some 40), none, .mov (.t 8)⟩,
     ⟨(some 41), none, .mov (.t 9)⟩,
     ⟨(some 42), none, .call fid_impl_ReplayEvents false [.im, .im] [(.t 40), (.t 41)]⟩,
     ⟨(some 39), none, .mov (.t 42)⟩,
     ⟨(some 43), none, .extract (.t 39) 0⟩,
     ⟨(some 44), none, .extract (.t 39) 1⟩,
     ⟨(some 10), none, .mov (.t 43)⟩,
     ⟨(some 11), none, .mov (.t 44)⟩] [0, 1, 6, 7, 8, 9, 10, 11])
  (.seq
  (.seq
   (.reg [
      ⟨(some 45), none, .mov (.t 10)⟩,
      ⟨(some 46), none, .mov (.t 6)⟩,
      ⟨(some 47), none, .call fid_laws_eqEdgeS false [.im, .im] [(.t 45), (.t 46)]⟩,
      ⟨(some 48), none, .un .not (.t 47)⟩,
      ⟨(some 49), none, .mov (.t 48)⟩,
      ⟨(some 50), (some (49, false)), .mov (.t 11)⟩,
      ⟨(some 51), (some (49, false)), .mov (.t 7)⟩,
      ⟨(some 52), (some (49, false)), .binb true (.t 50) (.t 51)⟩,
      ⟨(some 53), none, .pick (.t 49) (.v (.b true)) (.t 52)⟩] [0, 1, 6, 7, 8, 9, 10, 11, 53])
   (.cond (.t 53)
   (.seq
    (.reg [
       ⟨(some 4), none, .mov (.v (.b false))⟩] [4])
    (.ret))
   (.skip)))
  (.seq
  (.seq
   (.reg [
      ⟨(some 54), none, .mov (.t 8)⟩,
      ⟨(some 55), none, .mov (.t 0)⟩,
      ⟨(some 56), none, .call fid_laws_toEdgeS false [.im] [(.t 55)]⟩,
      ⟨(some 57), none, .call fid_laws_eqEdgeS false [.im, .im] [(.t 54), (.t 56)]⟩,
      ⟨(some 58), none, .un .not (.t 57)⟩] [0, 1, 6, 7, 8, 9, 10, 11, 58])
   (.cond (.t 58)
   (.seq
    (.reg [
       ⟨(some 4), none, .mov (.v (.b false))⟩] [4])
    (.ret))
   (.skip)))
  (.seq
  (.seq
   (.reg [
      ⟨(some 59), none, .mov (.t 9)⟩,
      ⟨(some 60), none, .mov (.t 1)⟩,
      ⟨(some 61), none, .call fid_laws_toEventS false [.im] [(.t 60)]⟩,
      ⟨(some 62), none, .call fid_laws_eqEventS false [.im, .im] [(.t 59), (.t 61)]⟩,
      ⟨(some 63), none, .un .not (.t 62)⟩] [0, 1, 6, 7, 8, 9, 10, 11, 63])
   (.cond (.t 63)
   (.seq
    (.reg [
       ⟨(some 4), none, .mov (.v (.b false))⟩] [4])
    (.ret))
   (.skip)))
  (.seq
  (.reg [
     ⟨(some 12), none, .mov (.v (.i .i64 1))⟩] [0, 1, 6, 7, 8, 9, 10, 11, 12])
  (.seq
  (.reg [
     ⟨(some 64), none, .mov (.t 8)⟩,
     ⟨(some 65), none, .mov (.t 12)⟩,
     ⟨(some 66), none, .call fid_laws_markEdgeS false [.io, .im] [(.t 64), (.t 65)]⟩,
     ⟨(some 12), none, .mov (.t 66)⟩] [0, 1, 6, 7, 9, 10, 11, 12])
  (.seq
  (.reg [
     ⟨(some 67), none, .mov (.t 9)⟩,
     ⟨(some 68), none, .mov (.t 12)⟩,
     ⟨(some 69), none, .call fid_laws_markEventS false [.io, .im] [(.t 67), (.t 68)]⟩,
     ⟨(some 12), none, .mov (.t 69)⟩] [0, 1, 6, 7, 10, 11, 12])
  (.seq
  (.seq
   (.reg [
      ⟨(some 70), none, .mov (.t 12)⟩,
      ⟨(some 71), none, .bin .lss (.t 70) (.v (.i .i64 0))⟩,
      ⟨(some 72), none, .mov (.t 71)⟩,
      ⟨(some 73), (some (72, false)), .mov (.t 10)⟩,
      ⟨(some 74), (some (72, false)), .mov (.t 6)⟩,
      ⟨(some 75), (some (72, false)), .call fid_laws_eqEdgeS false [.im, .im] [(.t 73), (.t 74)]⟩,
      ⟨(some 76), (some (72, false)), .un .not (.t 75)⟩,
      ⟨(some 77), none, .pick (.t 72) (.v (.b true)) (.t 76)⟩,
      ⟨(some 78), none, .mov (.t 77)⟩,
      ⟨(some 79), (some (78, false)), .mov (.t 11)⟩,
      ⟨(some 80), (some (78, false)), .mov (.t 7)⟩,
      ⟨(some 81), (some (78, false)), .binb true (.t 79) (.t 80)⟩,
      ⟨(some 82), none, .pick (.t 78) (.v (.b true)) (.t 81)⟩] [0, 1, 6, 7, 10, 82])
   (.cond (.t 82)
   (.seq
    (.reg [
       ⟨(some 4), none, .mov (.v (.b false))⟩] [4])
    (.ret))
   (.skip)))
  (.seq
  (.reg [
     ⟨(some 13), none, .mov (.v (.i .i64 1))⟩] [0, 1, 6, 7, 10, 13])
  (.seq
  (.reg [
     ⟨(some 83), none, .mov (.t 10)⟩,
     ⟨(some 84), none, .mov (.t 13)⟩,
     ⟨(some 85), none, .call fid_laws_markEdgeS false [.io, .im] [(.t 83), (.t 84)]⟩,
     ⟨(some 13), none, .mov (.t 85)⟩] [0, 1, 6, 7, 10, 13])
  (.seq
  (.reg [
     ⟨(some 14), none, .mov (.v (.i .i64 1))⟩] [0, 1, 6, 7, 10, 13, 14])
  (.seq
  (.reg [
     ⟨(some 86), none, .mov (.t 10)⟩,
     ⟨(some 87), none, .mov (.t 14)⟩,
     ⟨(some 88), none, .call fid_laws_heldEdgeS false [.im, .im] [(.t 86), (.t 87)]⟩,
     ⟨(some 14), none, .mov (.t 88)⟩] [0, 1, 6, 7, 10, 13, 14])
  (.seq
  (.seq
   (.reg [
      ⟨(some 89), none, .mov (.t 14)⟩,
      ⟨(some 90), none, .bin .lss (.t 89) (.v (.i .i64 0))⟩] [0, 1, 6, 7, 10, 13, 14, 90])
   (.cond (.t 90)
   (.seq
    (.reg [
       ⟨(some 4), none, .mov (.v (.b false))⟩] [4])
    (.ret))
   (.skip)))
  (.seq
  (.seq
   (.reg [
      ⟨(some 91), none, .mov (.t 14)⟩,
      ⟨(some 92), none, .mov (.t 13)⟩,
      ⟨(some 93), none, .bin .neq (.t 91) (.t 92)⟩] [0, 1, 6, 7, 10, 13, 93])
   (.cond (.t 93)
   (.seq
    (.reg [
       ⟨(some 4), none, .mov (.v (.b false))⟩] [4])
    (.ret))
   (.skip)))
  (.seq
  (.reg [
     ⟨(some 95), none, .mov (.t 0)⟩,
     ⟨(some 96), none, .call fid_laws_toEdgeS false [.im] [(.t 95)]⟩,
     ⟨(some 97), none, .mov (.t 1)⟩,
     ⟨(some 98), none, .call fid_laws_toEventS false [.im] [(.t 97)]⟩,
     ⟨(some 99), none, .call fid_impl_ReplayEvents false [.im, .im] [(.t 96), (.t 98)]⟩,
     ⟨(some 94), none, .mov (.t 99)⟩,
     ⟨(some 100), none, .extract (.t 94) 0⟩,
     ⟨(some 101), none, .extract (.t 94) 1⟩,
     ⟨(some 15), none, .mov (.t 100)⟩,
     ⟨(some 16), none, .mov (.t 101)⟩] [6, 7, 10, 13, 15, 16])
  (.seq
  (.seq
   (.reg [
      ⟨(some 102), none, .mov (.t 15)⟩,
      ⟨(some 103), none, .mov (.t 6)⟩,
      ⟨(some 104), none, .call fid_laws_eqEdgeS false [.im, .im] [(.t 102), (.t 103)]⟩,
      ⟨(some 105), none, .un .not (.t 104)⟩,
      ⟨(some 106), none, .mov (.t 105)⟩,
      ⟨(some 107), (some (106, false)), .mov (.t 16)⟩,
      ⟨(some 108), (some (106, false)), .mov (.t 7)⟩,
      ⟨(some 109), (some (106, false)), .binb true (.t 107) (.t 108)⟩,
      ⟨(some 110), none, .pick (.t 106) (.v (.b true)) (.t 109)⟩] [10, 13, 110])
   (.cond (.t 110)
   (.seq
    (.reg [
       ⟨(some 4), none, .mov (.v (.b false))⟩] [4])
    (.ret))
   (.skip)))
  (.seq
  (.reg [
     ⟨(some 14), none, .mov (.v (.i .i64 1))⟩] [10, 13, 14])
  (.seq
  (.reg [
     ⟨(some 111), none, .mov (.t 10)⟩,
     ⟨(some 112), none, .mov (.t 14)⟩,
     ⟨(some 113), none, .call fid_laws_heldEdgeS false [.im, .im] [(.t 111), (.t 112)]⟩,
     ⟨(some 14), none, .mov (.t 113)⟩] [13, 14])
  (.seq
  (.seq
   (.reg [
      ⟨(some 114), none, .mov (.t 14)⟩,
      ⟨(some 115), none, .bin .lss (.t 114) (.v (.i .i64 0))⟩] [13, 14, 115])
   (.cond (.t 115)
   (.seq
    (.reg [
       ⟨(some 4), none, .mov (.v (.b false))⟩] [4])
    (.ret))
   (.skip)))
  (.seq
  (.seq
   (.reg [
      ⟨(some 116), none, .mov (.t 14)⟩,
      ⟨(some 117), none, .mov (.t 13)⟩,
      ⟨(some 118), none, .bin .neq (.t 116) (.t 117)⟩] [118])
   (.cond (.t 118)
   (.seq
    (.reg [
       ⟨(some 4), none, .mov (.v (.b false))⟩] [4])
    (.ret))
   (.skip)))
  (.seq
  (.reg [
     ⟨(some 4), none, .mov (.v (.b true))⟩] [4])
  (.ret))))))))))))))))))))))))))))))
theorem get_laws_FnExactReplayEvents : Go.Proofs.Try.prog.funcs[fid_laws_FnExactReplayEvents]? = some Go.Proofs.Try.f6 := Go.Proofs.Try.func6
theorem ok_laws_FnExactReplayEvents : okFn Go.Proofs.Try.prog Go.Proofs.Try.f6 119 [] [(4, none)] mc_laws_FnExactReplayEvents = true := by kernel_rfl
def mc_laws_FnReplayParts : MCode :=
 .seq
  (.reg [
     ⟨(some 2), none, .mov (.v (.b false))⟩] [0])
  (.seq
  (.seq
   (.reg [
      ⟨(some 14), none, .mov (.t 0)⟩,
      ⟨(some 15), none, .len (.t 14)⟩,
      ⟨(some 16), none, .bin .gtr (.t 15) (.v (.i .i64 1048576))⟩] [0, 16])
   (.cond (.t 16)
   (.seq
    (.reg [
       ⟨(some 2), none, .mov (.v (.b true))⟩] [2])
    (.ret))
   (.skip)))
  (.seq
  (.reg [
     ⟨(some 18), none, .mov (.t 0)⟩,
     ⟨(some 19), none, .call fid_spec_DrawReplayEvents false [.im] [(.t 18)]⟩,
     ⟨(some 17), none, .mov (.t 19)⟩,
     ⟨(some 20), none, .extract (.t 17) 0⟩,
     ⟨(some 21), none, .extract (.t 17) 1⟩,
     ⟨(some 3), none, .mov (.t 20)⟩,
     ⟨(some 4), none, .mov (.t 21)⟩] [3, 4])
  (.seq
  (.reg [
     ⟨(some 23), none, .mov (.t 3)⟩,
     ⟨(some 24), none, .mov (.t 4)⟩,
     ⟨(some 25), none, .call fid_impl_ReplayEvents false [.im, .im] [(.t 23), (.t 24)]⟩,
     ⟨(some 22), none, .mov (.t 25)⟩,
     ⟨(some 26), none, .extract (.t 22) 0⟩,
     ⟨(some 27), none, .extract (.t 22) 1⟩,
     ⟨(some 5), none, .mov (.t 26)⟩,
     ⟨(some 6), none, .mov (.t 27)⟩] [3, 4, 5, 6])
  (.seq
  (.reg [
     ⟨(some 29), none, .mov (.t 3)⟩,
     ⟨(some 30), none, .mov (.t 4)⟩,
     ⟨(some 31), none, .call fid_spec_ReplayEvents false [.im, .im] [(.t 29), (.t 30)]⟩,
     ⟨(some 28), none, .mov (.t 31)⟩,
     ⟨(some 32), none, .extract (.t 28) 0⟩,
     ⟨(some 33), none, .extract (.t 28) 1⟩,
     ⟨(some 7), none, .mov (.t 32)⟩,
     ⟨(some 8), none, .mov (.t 33)⟩] [3, 4, 5, 6, 7, 8])
  (.seq
  (.seq
   (.reg [
      ⟨(some 34), none, .mov (.t 5)⟩,
      ⟨(some 35), none, .mov (.t 7)⟩,
      ⟨(some 36), none, .call fid_laws_dyEdges false [.im, .im] [(.t 34), (.t 35)]⟩,
      ⟨(some 37), none, .un .not (.t 36)⟩,
      ⟨(some 38), none, .mov (.t 37)⟩,
      ⟨(some 39), (some (38, false)), .mov (.t 6)⟩,
      ⟨(some 40), (some (38, false)), .mov (.t 8)⟩,
      ⟨(some 41), (some (38, false)), .binb true (.t 39) (.t 40)⟩,
      ⟨(some 42), none, .pick (.t 38) (.v (.b true)) (.t 41)⟩,
      ⟨(some 43), none, .mov (.t 42)⟩,
      ⟨(some 44), (some (43, false)), .mov (.t 6)⟩,
      ⟨(some 45), (some (43, false)), .un .not (.t 44)⟩,
      ⟨(some 46), none, .pick (.t 43) (.v (.b true)) (.t 45)⟩] [3, 4, 5, 6, 7, 8, 46])
   (.cond (.t 46)
   (.seq
    (.reg [
       ⟨(some 47), none, .mov (.t 5)⟩,
       ⟨(some 48), none, .mov (.t 7)⟩,
       ⟨(some 49), none, .call fid_laws_dyEdges false [.im, .im] [(.t 47), (.t 48)]⟩,
       ⟨(some 50), none, .mov (.t 49)⟩,
       ⟨(some 51), (some (50, true)), .mov (.t 6)⟩,
       ⟨(some 52), (some (50, true)), .mov (.t 8)⟩,
       ⟨(some 53), (some (50, true)), .binb false (.t 51) (.t 52)⟩,
       ⟨(some 54), none, .pick (.t 50) (.t 53) (.v (.b false))⟩,
       ⟨(some 2), none, .mov (.t 54)⟩] [2])
    (.ret))
   (.skip)))
  (.seq
  (.reg [
     ⟨(some 55), none, .mov (.t 4)⟩,
     ⟨(some 56), none, .len (.t 55)⟩,
     ⟨(some 57), none, .bin .quo (.t 56) (.v (.i .i64 2))⟩,
     ⟨(some 9), none, .mov (.t 57)⟩] [3, 4, 5, 9])
  (.seq
  (.reg [
     ⟨(some 59), none, .mov (.t 3)⟩,
     ⟨(some 60), none, .mov (.t 4)⟩,
     ⟨(some 61), none, .mov (.t 9)⟩,
     ⟨(some 62), none, .slice 4 (.t 60) none (some (.t 61))⟩,
     ⟨(some 63), none, .call fid_impl_ReplayEvents false [.im, .im] [(.t 59), (.t 62)]⟩,
     ⟨(some 58), none, .mov (.t 63)⟩,
     ⟨(some 64), none, .extract (.t 58) 0⟩,
     ⟨(some 65), none, .extract (.t 58) 1⟩,
     ⟨(some 10), none, .mov (.t 64)⟩,
     ⟨(some 11), none, .mov (.t 65)⟩] [4, 5, 9, 10, 11])
  (.seq
  (.reg [
     ⟨(some 67), none, .mov (.t 10)⟩,
     ⟨(some 68), none, .mov (.t 4)⟩,
     ⟨(some 69), none, .mov (.t 9)⟩,
     ⟨(some 70), none, .slice 4 (.t 68) (some (.t 69)) none⟩,
     ⟨(some 71), none, .call fid_impl_ReplayEvents false [.im, .im] [(.t 67), (.t 70)]⟩,
     ⟨(some 66), none, .mov (.t 71)⟩,
     ⟨(some 72), none, .extract (.t 66) 0⟩,
     ⟨(some 73), none, .extract (.t 66) 1⟩,
     ⟨(some 12), none, .mov (.t 72)⟩,
     ⟨(some 13), none, .mov (.t 73)⟩] [5, 11, 12, 13])
  (.seq
  (.reg [
     ⟨(some 74), none, .mov (.t 11)⟩,
     ⟨(some 75), none, .mov (.t 74)⟩,
     ⟨(some 76), (some (75, true)), .mov (.t 13)⟩,
     ⟨(some 77), none, .pick (.t 75) (.t 76) (.v (.b false))⟩,
     ⟨(some 78), none, .mov (.t 77)⟩,
     ⟨(some 79), (some (78, true)), .mov (.t 12)⟩,
     ⟨(some 80), (some (78, true)), .mov (.t 5)⟩,
     ⟨(some 81), (some (78, true)), .call fid_laws_dyEdges false [.im, .im] [(.t 79), (.t 80)]⟩,
     ⟨(some 82), none, .pick (.t 78) (.t 81) (.v (.b false))⟩,
     ⟨(some 2), none, .mov (.t 82)⟩] [2])
  (.ret))))))))))
theorem get_laws_FnReplayParts : Go.Proofs.Try.prog.funcs[fid_laws_FnReplayParts]? = some Go.Proofs.Try.f7 := Go.Proofs.Try.func7
theorem ok_laws_FnReplayParts : okFn Go.Proofs.Try.prog Go.Proofs.Try.f7 83 [] [(2, none)] mc_laws_FnReplayParts = true := by kernel_rfl
def mc_laws_FnExactEventsOf : MCode :=
 .seq
  (.reg [
     ⟨(some 2), none, .box 2 (.t 0)⟩,
     ⟨(some 4), none, .mov (.v (.b false))⟩] [1, 2])
  (.seq
  (.reg [
     ⟨(some 5), none, .mov (.v (.i .i64 1048576))⟩] [1, 2, 5])
  (.seq
  (.reg [
     ⟨(some 17), none, .load true 2 (.t 2)⟩,
     ⟨(some 18), none, .mov (.t 5)⟩,
     ⟨(some 19), none, .call fid_laws_szGraph false [.im, .im] [(.t 17), (.t 18)]⟩,
     ⟨(some 5), none, .mov (.t 19)⟩] [1, 2, 5])
  (.seq
  (.seq
   (.reg [
      ⟨(some 20), none, .mov (.t 5)⟩,
      ⟨(some 21), none, .bin .lss (.t 20) (.v (.i .i64 0))⟩] [1, 2, 5, 21])
   (.cond (.t 21)
   (.seq
    (.reg [
       ⟨(some 4), none, .mov (.v (.b true))⟩] [4])
    (.ret))
   (.skip)))
  (.seq
  (.reg [
     ⟨(some 22), none, .mov (.t 1)⟩,
     ⟨(some 23), none, .mov (.t 5)⟩,
     ⟨(some 24), none, .call fid_laws_szTurnS false [.im, .im] [(.t 22), (.t 23)]⟩,
     ⟨(some 5), none, .mov (.t 24)⟩] [1, 2, 5])
  (.seq
  (.seq
   (.reg [
      ⟨(some 25), none, .mov (.t 5)⟩,
      ⟨(some 26), none, .bin .lss (.t 25) (.v (.i .i64 0))⟩] [1, 2, 26])
   (.cond (.t 26)
   (.seq
    (.reg [
       ⟨(some 4), none, .mov (.v (.b true))⟩] [4])
    (.ret))
   (.skip)))
  (.seq
  (.reg [
     ⟨(some 28), none, .load true 2 (.t 2)⟩,
     ⟨(some 29), none, .call fid_laws_toGraph false [.im] [(.t 28)]⟩,
     ⟨(some 30), none, .mov (.t 1)⟩,
     ⟨(some 31), none, .call fid_laws_toTurnS false [.im] [(.t 30)]⟩,
     ⟨(some 32), none, .call fid_spec_EventsOf false [.im, .im] [(.t 29), (.t 31)]⟩,
     ⟨(some 27), none, .mov (.t 32)⟩,
     ⟨(some 33), none, .extract (.t 27) 0⟩,
     ⟨(some 34), none, .extract (.t 27) 1⟩,
     ⟨(some 6), none, .mov (.t 33)⟩,
     ⟨(some 7), none, .mov (.t 34)⟩] [1, 2, 6, 7])
  (.seq
  (.reg [
     ⟨(some 35), none, .load true 2 (.t 2)⟩,
     ⟨(some 36), none, .call fid_laws_toGraph false [.im] [(.t 35)]⟩,
     ⟨(some 8), none, .alloc [.i .i64 0, .nl 2]⟩,
     ⟨none, none, .store 2 (.t 8) (.t 36)⟩] [1, 2, 6, 7, 8])
  (.seq
  (.reg [
     ⟨(some 37), none, .mov (.t 1)⟩,
     ⟨(some 38), none, .call fid_laws_toTurnS false [.im] [(.t 37)]⟩,
     ⟨(some 9), none, .mov (.t 38)⟩] [1, 2, 6, 7, 8, 9])
  (.seq
  (.reg [
     ⟨(some 40), none, .load true 2 (.t 8)⟩,
     ⟨(some 41), none, .mov (.t 9)⟩,
     ⟨(some 42), none, .call fid_impl_EventsOf false [.im, .im] [(.t 40), (.t 41)]⟩,
     ⟨(some 39), none, .mov (.t 42)⟩,
     ⟨(some 43), none, .extract (.t 39) 0⟩,
     ⟨(some 44), none, .extract (.t 39) 1⟩,
     ⟨(some 10), none, .mov (.t 43)⟩,
     ⟨(some 11), none, .mov (.t 44)⟩] [1, 2, 6, 7, 8, 9, 10, 11])
  (.seq
  (.seq
   (.reg [
      ⟨(some 45), none, .mov (.t 10)⟩,
      ⟨(some 46), none, .mov (.t 6)⟩,
      ⟨(some 47), none, .call fid_laws_eqEventS false [.im, .im] [(.t 45), (.t 46)]⟩,
      ⟨(some 48), none, .un .not (.t 47)⟩,
      ⟨(some 49), none, .mov (.t 48)⟩,
      ⟨(some 50), (some (49, false)), .mov (.t 11)⟩,
      ⟨(some 51), (some (49, false)), .mov (.t 7)⟩,
      ⟨(some 52), (some (49, false)), .binb true (.t 50) (.t 51)⟩,
      ⟨(some 53), none, .pick (.t 49) (.v (.b true)) (.t 52)⟩] [1, 2, 6, 7, 8, 9, 10, 11, 53])
   (.cond (.t 53)
   (.seq
    (.reg [
       ⟨(some 4), none, .mov (.v (.b false))⟩] [4])
    (.ret))
   (.skip)))
  (.seq
  (.seq
   (.draw [0, 0, 2, 7, 15] [
      ⟨(some 54), none, .load true 2 (.t 8)⟩,
      ⟨(some 55), none, .load true 2 (.t 2)⟩,
      ⟨(some 56), none, .call fid_laws_toGraph false [.im] [(.t 55)]⟩,
      ⟨(some 57), none, .call fid_laws_eqGraph false [.im, .im] [(.t 54), (.t 56)]⟩,
      ⟨(some 58), none, .un .not (.t 57)⟩] [1, 2, 6, 7, 8, 9, 10, 11, 58])
   (.cond (.t 58)
   (.seq
    (.reg [
       ⟨(some 4), none, .mov (.v (.b false))⟩] [4])
    (.ret))
   (.skip)))
  (.seq
  (.seq
   (.reg [
      ⟨(some 59), none, .mov (.t 9)⟩,
      ⟨(some 60), none, .mov (.t 1)⟩,
      ⟨(some 61), none, .call fid_laws_toTurnS false [.im] [(.t 60)]⟩,
      ⟨(some 62), none, .call fid_laws_eqTurnS false [.im, .im] [(.t 59), (.t 61)]⟩,
      ⟨(some 63), none, .un .not (.t 62)⟩] [1, 2, 6, 7, 8, 9, 10, 11, 63])
   (.cond (.t 63)
   (.seq
    (.reg [
       ⟨(some 4), none, .mov (.v (.b false))⟩] [4])
    (.ret))
   (.skip)))
  (.seq
  (.reg [
     ⟨(some 12), none, .mov (.v (.i .i64 1))⟩] [1, 2, 6, 7, 8, 9, 10, 11, 12])
  (.seq
  (.reg [
     ⟨(some 64), none, .load true 2 (.t 8)⟩,
     ⟨(some 65), none, .mov (.t 12)⟩,
     ⟨(some 66), none, .call fid_laws_markGraph false [.io, .im] [(.t 64), (.t 65)]⟩,
     ⟨(some 12), none, .mov (.t 66)⟩] [1, 2, 6, 7, 9, 10, 11, 12])
  (.seq
  (.reg [
     ⟨(some 67), none, .mov (.t 9)⟩,
     ⟨(some 68), none, .mov (.t 12)⟩,
     ⟨(some 69), none, .call fid_laws_markTurnS false [.io, .im] [(.t 67), (.t 68)]⟩,
     ⟨(some 12), none, .mov (.t 69)⟩] [1, 2, 6, 7, 10, 11, 12])
  (.seq
  (.seq
   (.reg [
      ⟨(some 70), none, .mov (.t 12)⟩,
      ⟨(some 71), none, .bin .lss (.t 70) (.v (.i .i64 0))⟩,
      ⟨(some 72), none, .mov (.t 71)⟩,
      ⟨(some 73), (some (72, false)), .mov (.t 10)⟩,
      ⟨(some 74), (some (72, false)), .mov (.t 6)⟩,
      ⟨(some 75), (some (72, false)), .call fid_laws_eqEventS false [.im, .im] [(.t 73), (.t 74)]⟩,
      ⟨(some 76), (some (72, false)), .un .not (.t 75)⟩,
      ⟨(some 77), none, .pick (.t 72) (.v (.b true)) (.t 76)⟩,
      ⟨(some 78), none, .mov (.t 77)⟩,
      ⟨(some 79), (some (78, false)), .mov (.t 11)⟩,
      ⟨(some 80), (some (78, false)), .mov (.t 7)⟩,
      ⟨(some 81), (some (78, false)), .binb true (.t 79) (.t 80)⟩,
      ⟨(some 82), none, .pick (.t 78) (.v (.b true)) (.t 81)⟩] [1, 2, 6, 7, 10, 82])
   (.cond (.t 82)
   (.seq
    (.reg [
       ⟨(some 4), none, .mov (.v (.b false))⟩] [4])
    (.ret))
   (.skip)))
  (.seq
  (.reg [
     ⟨(some 13), none, .mov (.v (.i .i64 1))⟩] [1, 2, 6, 7, 10, 13])
  (.seq
  (.reg [
     ⟨(some 83), none, .mov (.t 10)⟩,
     ⟨(some 84), none, .mov (.t 13)⟩,
     ⟨(some 85), none, .call fid_laws_markEventS false [.io, .im] [(.t 83), (.t 84)]⟩,
     ⟨(some 13), none, .mov (.t 85)⟩] [1, 2, 6, 7, 10, 13])
  (.seq
  (.reg [
     ⟨(some 14), none, .mov (.v (.i .i64 1))⟩] [1, 2, 6, 7, 10, 13, 14])
  (.seq
  (.reg [
     ⟨(some 86), none, .mov (.t 10)⟩,
     ⟨(some 87), none, .mov (.t 14)⟩,
     ⟨(some 88), none, .call fid_laws_heldEventS false [.im, .im] [(.t 86), (.t 87)]⟩,
     ⟨(some 14), none, .mov (.t 88)⟩] [1, 2, 6, 7, 10, 13, 14])
  (.seq
  (.seq
   (.reg [
      ⟨(some 89), none, .mov (.t 14)⟩,
      ⟨(some 90), none, .bin .lss (.t 89) (.v (.i .i64 0))⟩] [1, 2, 6, 7, 10, 13, 14, 90])
   (.cond (.t 90)
   (.seq
    (.reg [
       ⟨(some 4), none, .mov (.v (.b false))⟩] [4])
    (.ret))
   (.skip)))
  (.seq
  (.seq
   (.reg [
      ⟨(some 91), none, .mov (.t 14)⟩,
      ⟨(some 92), none, .mov (.t 13)⟩,
      ⟨(some 93), none, .bin .neq (.t 91) (.t 92)⟩] [1, 2, 6, 7, 10, 13, 93])
   (.cond (.t 93)
   (.seq
    (.reg [
       ⟨(some 4), none, .mov (.v (.b false))⟩] [4])
    (.ret))
   (.skip)))
  (.seq
  (.reg [
     ⟨(some 95), none, .load true 2 (.t 2)⟩,
     ⟨(some 96), none, .call fid_laws_toGraph false [.im] [(.t 95)]⟩,
     ⟨(some 97), none, .mov (.t 1)⟩,
     ⟨(some 98), none, .call fid_laws_toTurnS false [.im] [(.t 97)]⟩,
     ⟨(some 99), none, .call fid_impl_EventsOf false [.im, .im] [(.t 96), (.t 98)]⟩,
     ⟨(some 94), none, .mov (.t 99)⟩,
     ⟨(some 100), none, .extract (.t 94) 0⟩,
     ⟨(some 101), none, .extract (.t 94) 1⟩,
     ⟨(some 15), none, .mov (.t 100)⟩,
     ⟨(some 16), none, .mov (.t 101)⟩] [6, 7, 10, 13, 15, 16])
  (.seq
  (.seq
   (.reg [
      ⟨(some 102), none, .mov (.t 15)⟩,
      ⟨(some 103), none, .mov (.t 6)⟩,
      ⟨(some 104), none, .call fid_laws_eqEventS false [.im, .im] [(.t 102), (.t 103)]⟩,
      ⟨(some 105), none, .un .not (.t 104)⟩,
      ⟨(some 106), none, .mov (.t 105)⟩,
      ⟨(some 107), (some (106, false)), .mov (.t 16)⟩,
      ⟨(some 108), (some (106, false)), .mov (.t 7)⟩,
      ⟨(some 109), (some (106, false)), .binb true (.t 107) (.t 108)⟩,
      ⟨(some 110), none, .pick (.t 106) (.v (.b true)) (.t 109)⟩] [10, 13, 110])
   (.cond (.t 110)
   (.seq
    (.reg [
       ⟨(some 4), none, .mov (.v (.b false))⟩] [4])
    (.ret))
   (.skip)))
  (.seq
  (.reg [
     ⟨(some 14), none, .mov (.v (.i .i64 1))⟩] [10, 13, 14])
  (.seq
  (.reg [
     ⟨(some 111), none, .mov (.t 10)⟩,
     ⟨(some 112), none, .mov (.t 14)⟩,
     ⟨(some 113), none, .call fid_laws_heldEventS false [.im, .im] [(.t 111), (.t 112)]⟩,
     ⟨(some 14), none, .mov (.t 113)⟩] [13, 14])
  (.seq
  (.seq
   (.reg [
      ⟨(some 114), none, .mov (.t 14)⟩,
      ⟨(some 115), none, .bin .lss (.t 114) (.v (.i .i64 0))⟩] [13, 14, 115])
   (.cond (.t 115)
   (.seq
    (.reg [
       ⟨(some 4), none, .mov (.v (.b false))⟩] [4])
    (.ret))
   (.skip)))
  (.seq
  (.seq
   (.reg [
      ⟨(some 116), none, .mov (.t 14)⟩,
      ⟨(some 117), none, .mov (.t 13)⟩,
      ⟨(some 118), none, .bin .neq (.t 116) (.t 117)⟩] [118])
   (.cond (.t 118)
   (.seq
    (.reg [
       ⟨(some 4), none, .mov (.v (.b false))⟩] [4])
    (.ret))
   (.skip)))
  (.seq
  (.reg [
     ⟨(some 4), none, .mov (.v (.b true))⟩] [4])
  (.ret))))))))))))))))))))))))))))))
theorem get_laws_FnExactEventsOf : Go.Proofs.Try.prog.funcs[fid_laws_FnExactEventsOf]? = some Go.Proofs.Try.f8 := Go.Proofs.Try.func8
theorem ok_laws_FnExactEventsOf : okFn Go.Proofs.Try.prog Go.Proofs.Try.f8 119 [] [(4, none)] mc_laws_FnExactEventsOf = true := by kernel_rfl
def mc_laws_FnEventsOrder : MCode :=
 .seq
  (.reg [
     ⟨(some 2), none, .mov (.v (.b false))⟩] [0])
  (.seq
  (.seq
   (.reg [
      ⟨(some 11), none, .mov (.t 0)⟩,
      ⟨(some 12), none, .len (.t 11)⟩,
      ⟨(some 13), none, .bin .gtr (.t 12) (.v (.i .i64 1048576))⟩] [0, 13])
   (.cond (.t 13)
   (.seq
    (.reg [
       ⟨(some 2), none, .mov (.v (.b true))⟩] [2])
    (.ret))
   (.skip)))
  (.seq
  (.reg [
     ⟨(some 15), none, .mov (.t 0)⟩,
     ⟨(some 16), none, .call fid_spec_DrawEventsOf false [.im] [(.t 15)]⟩,
     ⟨(some 14), none, .mov (.t 16)⟩,
     ⟨(some 17), none, .extract (.t 14) 0⟩,
     ⟨(some 18), none, .extract (.t 14) 1⟩,
     ⟨(some 3), none, .alloc [.i .i64 0, .nl 2]⟩,
     ⟨none, none, .store 2 (.t 3) (.t 17)⟩,
     ⟨(some 4), none, .mov (.t 18)⟩] [3, 4])
  (.seq
  (.reg [
     ⟨(some 20), none, .load true 2 (.t 3)⟩,
     ⟨(some 21), none, .mov (.t 4)⟩,
     ⟨(some 22), none, .call fid_impl_EventsOf false [.im, .im] [(.t 20), (.t 21)]⟩,
     ⟨(some 19), none, .mov (.t 22)⟩,
     ⟨(some 23), none, .extract (.t 19) 0⟩,
     ⟨(some 24), none, .extract (.t 19) 1⟩,
     ⟨(some 5), none, .mov (.t 23)⟩,
     ⟨(some 6), none, .mov (.t 24)⟩] [3, 4, 5, 6])
  (.seq
  (.reg [
     ⟨(some 26), none, .load true 2 (.t 3)⟩,
     ⟨(some 27), none, .mov (.t 4)⟩,
     ⟨(some 28), none, .call fid_spec_EventsOf false [.im, .im] [(.t 26), (.t 27)]⟩,
     ⟨(some 25), none, .mov (.t 28)⟩,
     ⟨(some 29), none, .extract (.t 25) 0⟩,
     ⟨(some 30), none, .extract (.t 25) 1⟩,
     ⟨(some 7), none, .mov (.t 29)⟩,
     ⟨(some 8), none, .mov (.t 30)⟩] [4, 5, 6, 7, 8])
  (.seq
  (.seq
   (.reg [
      ⟨(some 31), none, .mov (.t 5)⟩,
      ⟨(some 32), none, .mov (.t 7)⟩,
      ⟨(some 33), none, .call fid_laws_dyEvents false [.im, .im] [(.t 31), (.t 32)]⟩,
      ⟨(some 34), none, .un .not (.t 33)⟩,
      ⟨(some 35), none, .mov (.t 34)⟩,
      ⟨(some 36), (some (35, false)), .mov (.t 6)⟩,
      ⟨(some 37), (some (35, false)), .mov (.t 8)⟩,
      ⟨(some 38), (some (35, false)), .binb true (.t 36) (.t 37)⟩,
      ⟨(some 39), none, .pick (.t 35) (.v (.b true)) (.t 38)⟩,
      ⟨(some 40), none, .mov (.t 39)⟩,
      ⟨(some 41), (some (40, false)), .mov (.t 6)⟩,
      ⟨(some 42), (some (40, false)), .un .not (.t 41)⟩,
      ⟨(some 43), none, .pick (.t 40) (.v (.b true)) (.t 42)⟩] [4, 5, 6, 7, 8, 43])
   (.cond (.t 43)
   (.seq
    (.reg [
       ⟨(some 44), none, .mov (.t 5)⟩,
       ⟨(some 45), none, .mov (.t 7)⟩,
       ⟨(some 46), none, .call fid_laws_dyEvents false [.im, .im] [(.t 44), (.t 45)]⟩,
       ⟨(some 47), none, .mov (.t 46)⟩,
       ⟨(some 48), (some (47, true)), .mov (.t 6)⟩,
       ⟨(some 49), (some (47, true)), .mov (.t 8)⟩,
       ⟨(some 50), (some (47, true)), .binb false (.t 48) (.t 49)⟩,
       ⟨(some 51), none, .pick (.t 47) (.t 50) (.v (.b false))⟩,
       ⟨(some 2), none, .mov (.t 51)⟩] [2])
    (.ret))
   (.skip)))
  (.seq
  (.seq
   (.reg [
      ⟨(some 9), none, .mov (.v (.i .i64 0))⟩] [4, 5, 9])
   (.block 0
   (.loop [4, 5, 9]
    (.seq
     (.seq
      (.reg [
         ⟨(some 52), none, .mov (.t 9)⟩,
         ⟨(some 53), none, .mov (.t 5)⟩,
         ⟨(some 54), none, .len (.t 53)⟩,
         ⟨(some 55), none, .bin .lss (.t 52) (.t 54)⟩] [4, 5, 9, 55])
      (.cond (.t 55)
      (.skip)
      (.exit 0)))
     (.seq
     (.block 1
      (.seq
       (.seq
        (.draw [0, 1, 3, 7, 7, 31, 63, 127, 7, 7, 519, 1799, 3847, 7943, 16383, 32767, 65535, 131071, 131071, 524287, 1048575, 2097151, 4194303, 8388607, 16777215, 33554431, 33554431, 134217727, 268435455, 536870911, 33554431, 1107296255, 4294967295, 8589934591] [
           ⟨(some 58), none, .mov (.t 9)⟩,
           ⟨(some 59), none, .bin .gtr (.t 58) (.v (.i .i64 0))⟩,
           ⟨(some 60), none, .mov (.t 59)⟩,
           ⟨(some 61), (some (60, true)), .mov (.t 5)⟩,
           ⟨(some 62), (some (60, true)), .mov (.t 9)⟩,
           ⟨(some 63), (some (60, true)), .indexAddr 4 (.t 61) (.t 62)⟩,
           ⟨(some 64), (some (60, true)), .fieldAddr 0 (.t 63)⟩,
           ⟨(some 65), (some (60, true)), .load false 1 (.t 64)⟩,
           ⟨(some 66), (some (60, true)), .mov (.t 5)⟩,
           ⟨(some 67), (some (60, true)), .mov (.t 9)⟩,
           ⟨(some 68), (some (60, true)), .bin .sub (.t 67) (.v (.i .i64 1))⟩,
           ⟨(some 69), (some (60, true)), .indexAddr 4 (.t 66) (.t 68)⟩,
           ⟨(some 70), (some (60, true)), .fieldAddr 0 (.t 69)⟩,
           ⟨(some 71), (some (60, true)), .load false 1 (.t 70)⟩,
           ⟨(some 72), (some (60, true)), .bin .lss (.t 65) (.t 71)⟩,
           ⟨(some 73), none, .pick (.t 60) (.t 72) (.v (.b false))⟩,
           ⟨(some 74), none, .mov (.t 73)⟩,
           ⟨(some 75), (some (74, false)), .mov (.t 5)⟩,
           ⟨(some 76), (some (74, false)), .mov (.t 9)⟩,
           ⟨(some 77), (some (74, false)), .indexAddr 4 (.t 75) (.t 76)⟩,
           ⟨(some 78), (some (74, false)), .fieldAddr 0 (.t 77)⟩,
           ⟨(some 79), (some (74, false)), .load false 1 (.t 78)⟩,
           ⟨(some 80), (some (74, false)), .bin .lss (.t 79) (.v (.i .i64 0))⟩,
           ⟨(some 81), none, .pick (.t 74) (.v (.b true)) (.t 80)⟩,
           ⟨(some 82), none, .mov (.t 81)⟩,
           ⟨(some 83), (some (82, false)), .mov (.t 5)⟩,
           ⟨(some 84), (some (82, false)), .mov (.t 9)⟩,
           ⟨(some 85), (some (82, false)), .indexAddr 4 (.t 83) (.t 84)⟩,
           ⟨(some 86), (some (82, false)), .fieldAddr 0 (.t 85)⟩,
           ⟨(some 87), (some (82, false)), .load false 1 (.t 86)⟩,
           ⟨(some 88), (some (82, false)), .mov (.t 4)⟩,
           ⟨(some 89), (some (82, false)), .len (.t 88)⟩,
           ⟨(some 90), (some (82, false)), .bin .geq (.t 87) (.t 89)⟩,
           ⟨(some 91), none, .pick (.t 82) (.v (.b true)) (.t 90)⟩] [4, 5, 9, 91])
        (.cond (.t 91)
        (.seq
         (.reg [
            ⟨(some 2), none, .mov (.v (.b false))⟩] [2])
         (.ret))
        (.skip)))
       (.seq
       (.reg [
          ⟨(some 10), none, .mov (.v (.i .i64 0))⟩] [4, 5, 9, 10])
       (.block 2
       (.loop [4, 5, 9, 10]
        (.seq
         (.seq
          (.reg [
             ⟨(some 92), none, .mov (.t 10)⟩,
             ⟨(some 93), none, .mov (.t 9)⟩,
             ⟨(some 94), none, .bin .lss (.t 92) (.t 93)⟩] [4, 5, 9, 10, 94])
          (.cond (.t 94)
          (.skip)
          (.exit 2)))
         (.seq
         (.block 3
          (.seq
           (.draw [0, 0, 3, 7, 15, 0, 0, 96, 224, 480, 1023, 2047, 4095, 4095, 16383, 32767, 65535, 4095, 4095, 397311, 921599, 1970175, 4194303, 8388607] [
              ⟨(some 97), none, .mov (.t 5)⟩,
              ⟨(some 98), none, .mov (.t 10)⟩,
              ⟨(some 99), none, .indexAddr 4 (.t 97) (.t 98)⟩,
              ⟨(some 100), none, .fieldAddr 0 (.t 99)⟩,
              ⟨(some 101), none, .load false 1 (.t 100)⟩,
              ⟨(some 102), none, .mov (.t 5)⟩,
              ⟨(some 103), none, .mov (.t 9)⟩,
              ⟨(some 104), none, .indexAddr 4 (.t 102) (.t 103)⟩,
              ⟨(some 105), none, .fieldAddr 0 (.t 104)⟩,
              ⟨(some 106), none, .load false 1 (.t 105)⟩,
              ⟨(some 107), none, .bin .eql (.t 101) (.t 106)⟩,
              ⟨(some 108), none, .mov (.t 107)⟩,
              ⟨(some 109), (some (108, true)), .mov (.t 5)⟩,
              ⟨(some 110), (some (108, true)), .mov (.t 10)⟩,
              ⟨(some 111), (some (108, true)), .indexAddr 4 (.t 109) (.t 110)⟩,
              ⟨(some 112), (some (108, true)), .fieldAddr 1 (.t 111)⟩,
              ⟨(some 113), (some (108, true)), .load true 2 (.t 112)⟩,
              ⟨(some 114), (some (108, true)), .mov (.t 5)⟩,
              ⟨(some 115), (some (108, true)), .mov (.t 9)⟩,
              ⟨(some 116), (some (108, true)), .indexAddr 4 (.t 114) (.t 115)⟩,
              ⟨(some 117), (some (108, true)), .fieldAddr 1 (.t 116)⟩,
              ⟨(some 118), (some (108, true)), .load true 2 (.t 117)⟩,
              ⟨(some 119), (some (108, true)), .eqAgg false [true, true] (.t 113) (.t 118)⟩,
              ⟨(some 120), none, .pick (.t 108) (.t 119) (.v (.b false))⟩] [4, 5, 9, 10, 120])
           (.cond (.t 120)
           (.seq
            (.reg [
               ⟨(some 2), none, .mov (.v (.b false))⟩] [2])
            (.ret))
           (.skip))))
         (.reg [
           ⟨(some 95), none, .mov (.t 10)⟩,
           ⟨(some 96), none, .bin .add (.t 95) (.v (.i .i64 1))⟩,
           ⟨(some 10), none, .mov (.t 96)⟩] [4, 5, 9, 10]))))))))
     (.reg [
       ⟨(some 56), none, .mov (.t 9)⟩,
       ⟨(some 57), none, .bin .add (.t 56) (.v (.i .i64 1))⟩,
       ⟨(some 9), none, .mov (.t 57)⟩] [4, 5, 9]))))))
  (.seq
  (.reg [
     ⟨(some 2), none, .mov (.v (.b true))⟩] [2])
  (.ret))))))))
theorem get_laws_FnEventsOrder : Go.Proofs.Try.prog.funcs[fid_laws_FnEventsOrder]? = some Go.Proofs.Try.f9 := Go.Proofs.Try.func9
theorem ok_laws_FnEventsOrder : okFn Go.Proofs.Try.prog Go.Proofs.Try.f9 121 [] [(2, none)] mc_laws_FnEventsOrder = true := by kernel_rfl
def mc_laws_FnEventsPart : MCode :=
 .seq
  (.reg [
     ⟨(some 2), none, .mov (.v (.b false))⟩] [0])
  (.seq
  (.seq
   (.reg [
      ⟨(some 11), none, .mov (.t 0)⟩,
      ⟨(some 12), none, .len (.t 11)⟩,
      ⟨(some 13), none, .bin .gtr (.t 12) (.v (.i .i64 1048576))⟩] [0, 13])
   (.cond (.t 13)
   (.seq
    (.reg [
       ⟨(some 2), none, .mov (.v (.b true))⟩] [2])
    (.ret))
   (.skip)))
  (.seq
  (.reg [
     ⟨(some 15), none, .mov (.t 0)⟩,
     ⟨(some 16), none, .call fid_spec_DrawEventsOf false [.im] [(.t 15)]⟩,
     ⟨(some 14), none, .mov (.t 16)⟩,
     ⟨(some 17), none, .extract (.t 14) 0⟩,
     ⟨(some 18), none, .extract (.t 14) 1⟩,
     ⟨(some 3), none, .alloc [.i .i64 0, .nl 2]⟩,
     ⟨none, none, .store 2 (.t 3) (.t 17)⟩,
     ⟨(some 4), none, .mov (.t 18)⟩] [3, 4])
  (.seq
  (.reg [
     ⟨(some 20), none, .load true 2 (.t 3)⟩,
     ⟨(some 21), none, .mov (.t 4)⟩,
     ⟨(some 22), none, .call fid_impl_EventsOf false [.im, .im] [(.t 20), (.t 21)]⟩,
     ⟨(some 19), none, .mov (.t 22)⟩,
     ⟨(some 23), none, .extract (.t 19) 0⟩,
     ⟨(some 24), none, .extract (.t 19) 1⟩,
     ⟨(some 5), none, .mov (.t 23)⟩,
     ⟨(some 6), none, .mov (.t 24)⟩] [3, 4, 5, 6])
  (.seq
  (.reg [
     ⟨(some 26), none, .load true 2 (.t 3)⟩,
     ⟨(some 27), none, .mov (.t 4)⟩,
     ⟨(some 28), none, .call fid_spec_EventsOf false [.im, .im] [(.t 26), (.t 27)]⟩,
     ⟨(some 25), none, .mov (.t 28)⟩,
     ⟨(some 29), none, .extract (.t 25) 0⟩,
     ⟨(some 30), none, .extract (.t 25) 1⟩,
     ⟨(some 7), none, .mov (.t 29)⟩,
     ⟨(some 8), none, .mov (.t 30)⟩] [3, 4, 5, 6, 7, 8])
  (.seq
  (.seq
   (.reg [
      ⟨(some 31), none, .mov (.t 5)⟩,
      ⟨(some 32), none, .mov (.t 7)⟩,
      ⟨(some 33), none, .call fid_laws_dyEvents false [.im, .im] [(.t 31), (.t 32)]⟩,
      ⟨(some 34), none, .un .not (.t 33)⟩,
      ⟨(some 35), none, .mov (.t 34)⟩,
      ⟨(some 36), (some (35, false)), .mov (.t 6)⟩,
      ⟨(some 37), (some (35, false)), .mov (.t 8)⟩,
      ⟨(some 38), (some (35, false)), .binb true (.t 36) (.t 37)⟩,
      ⟨(some 39), none, .pick (.t 35) (.v (.b true)) (.t 38)⟩,
      ⟨(some 40), none, .mov (.t 39)⟩,
      ⟨(some 41), (some (40, false)), .mov (.t 6)⟩,
      ⟨(some 42), (some (40, false)), .un .not (.t 41)⟩,
      ⟨(some 43), none, .pick (.t 40) (.v (.b true)) (.t 42)⟩] [3, 4, 5, 6, 7, 8, 43])
   (.cond (.t 43)
   (.seq
    (.reg [
       ⟨(some 44), none, .mov (.t 5)⟩,
       ⟨(some 45), none, .mov (.t 7)⟩,
       ⟨(some 46), none, .call fid_laws_dyEvents false [.im, .im] [(.t 44), (.t 45)]⟩,
       ⟨(some 47), none, .mov (.t 46)⟩,
       ⟨(some 48), (some (47, true)), .mov (.t 6)⟩,
       ⟨(some 49), (some (47, true)), .mov (.t 8)⟩,
       ⟨(some 50), (some (47, true)), .binb false (.t 48) (.t 49)⟩,
       ⟨(some 51), none, .pick (.t 47) (.t 50) (.v (.b false))⟩,
       ⟨(some 2), none, .mov (.t 51)⟩] [2])
    (.ret))
   (.skip)))
  (.seq
  (.draw [0, 0, 0, 4, 12, 30, 63, 127, 255, 255, 511, 2047] [
     ⟨(some 53), none, .load true 2 (.t 3)⟩,
     ⟨(some 54), none, .mov (.t 4)⟩,
     ⟨(some 55), none, .mov (.t 4)⟩,
     ⟨(some 56), none, .len (.t 55)⟩,
     ⟨(some 57), none, .bin .quo (.t 56) (.v (.i .i64 2))⟩,
     ⟨(some 58), none, .slice 2 (.t 54) none (some (.t 57))⟩,
     ⟨(some 59), none, .call fid_impl_EventsOf false [.im, .im] [(.t 53), (.t 58)]⟩,
     ⟨(some 52), none, .mov (.t 59)⟩,
     ⟨(some 60), none, .extract (.t 52) 0⟩,
     ⟨(some 61), none, .extract (.t 52) 1⟩,
     ⟨(some 9), none, .mov (.t 60)⟩,
     ⟨(some 10), none, .mov (.t 61)⟩] [5, 9, 10])
  (.seq
  (.reg [
     ⟨(some 62), none, .mov (.t 10)⟩,
     ⟨(some 63), none, .mov (.t 62)⟩,
     ⟨(some 64), (some (63, true)), .mov (.t 9)⟩,
     ⟨(some 65), (some (63, true)), .len (.t 64)⟩,
     ⟨(some 66), (some (63, true)), .mov (.t 5)⟩,
     ⟨(some 67), (some (63, true)), .len (.t 66)⟩,
     ⟨(some 68), (some (63, true)), .bin .leq (.t 65) (.t 67)⟩,
     ⟨(some 69), none, .pick (.t 63) (.t 68) (.v (.b false))⟩,
     ⟨(some 70), none, .mov (.t 69)⟩,
     ⟨(some 71), (some (70, true)), .mov (.t 9)⟩,
     ⟨(some 72), (some (70, true)), .mov (.t 5)⟩,
     ⟨(some 73), (some (70, true)), .mov (.t 9)⟩,
     ⟨(some 74), (some (70, true)), .len (.t 73)⟩,
     ⟨(some 75), (some (70, true)), .slice 4 (.t 72) none (some (.t 74))⟩,
     ⟨(some 76), (some (70, true)), .call fid_laws_dyEvents false [.im, .im] [(.t 71), (.t 75)]⟩,
     ⟨(some 77), none, .pick (.t 70) (.t 76) (.v (.b false))⟩,
     ⟨(some 2), none, .mov (.t 77)⟩] [2])
  (.ret))))))))
theorem get_laws_FnEventsPart : Go.Proofs.Try.prog.funcs[fid_laws_FnEventsPart]? = some Go.Proofs.Try.f10 := Go.Proofs.Try.func10
theorem ok_laws_FnEventsPart : okFn Go.Proofs.Try.prog Go.Proofs.Try.f10 78 [] [(2, none)] mc_laws_FnEventsPart = true := by kernel_rfl
def mc_laws_FnEventsOf : MCode :=
 .seq
  (.reg [
     ⟨(some 2), none, .mov (.v (.b false))⟩] [0])
  (.seq
  (.seq
   (.reg [
      ⟨(some 13), none, .mov (.t 0)⟩,
      ⟨(some 14), none, .len (.t 13)⟩,
      ⟨(some 15), none, .bin .gtr (.t 14) (.v (.i .i64 1048576))⟩] [0, 15])
   (.cond (.t 15)
   (.seq
    (.reg [
       ⟨(some 2), none, .mov (.v (.b true))⟩] [2])
    (.ret))
   (.skip)))
  (.seq
  (.reg [
     ⟨(some 17), none, .mov (.t 0)⟩,
     ⟨(some 18), none, .call fid_spec_DrawEventsOf false [.im] [(.t 17)]⟩,
     ⟨(some 16), none, .mov (.t 18)⟩,
     ⟨(some 19), none, .extract (.t 16) 0⟩,
     ⟨(some 20), none, .extract (.t 16) 1⟩,
     ⟨(some 3), none, .alloc [.i .i64 0, .nl 2]⟩,
     ⟨none, none, .store 2 (.t 3) (.t 19)⟩,
     ⟨(some 4), none, .mov (.t 20)⟩] [3, 4])
  (.seq
  (.reg [
     ⟨(some 22), none, .load true 2 (.t 3)⟩,
     ⟨(some 23), none, .mov (.t 4)⟩,
     ⟨(some 24), none, .call fid_impl_EventsOf false [.im, .im] [(.t 22), (.t 23)]⟩,
     ⟨(some 21), none, .mov (.t 24)⟩,
     ⟨(some 25), none, .extract (.t 21) 0⟩,
     ⟨(some 26), none, .extract (.t 21) 1⟩,
     ⟨(some 5), none, .mov (.t 25)⟩,
     ⟨(some 6), none, .mov (.t 26)⟩] [3, 4, 5, 6])
  (.seq
  (.reg [
     ⟨(some 28), none, .load true 2 (.t 3)⟩,
     ⟨(some 29), none, .mov (.t 4)⟩,
     ⟨(some 30), none, .call fid_spec_EventsOf false [.im, .im] [(.t 28), (.t 29)]⟩,
     ⟨(some 27), none, .mov (.t 30)⟩,
     ⟨(some 31), none, .extract (.t 27) 0⟩,
     ⟨(some 32), none, .extract (.t 27) 1⟩,
     ⟨(some 7), none, .mov (.t 31)⟩,
     ⟨(some 8), none, .mov (.t 32)⟩] [3, 4, 5, 6, 7, 8])
  (.seq
  (.seq
   (.reg [
      ⟨(some 33), none, .mov (.t 5)⟩,
      ⟨(some 34), none, .mov (.t 7)⟩,
      ⟨(some 35), none, .call fid_laws_dyEvents false [.im, .im] [(.t 33), (.t 34)]⟩,
      ⟨(some 36), none, .un .not (.t 35)⟩,
      ⟨(some 37), none, .mov (.t 36)⟩,
      ⟨(some 38), (some (37, false)), .mov (.t 6)⟩,
      ⟨(some 39), (some (37, false)), .mov (.t 8)⟩,
      ⟨(some 40), (some (37, false)), .binb true (.t 38) (.t 39)⟩,
      ⟨(some 41), none, .pick (.t 37) (.v (.b true)) (.t 40)⟩,
      ⟨(some 42), none, .mov (.t 41)⟩,
      ⟨(some 43), (some (42, false)), .mov (.t 6)⟩,
      ⟨(some 44), (some (42, false)), .un .not (.t 43)⟩,
      ⟨(some 45), none, .pick (.t 42) (.v (.b true)) (.t 44)⟩] [3, 4, 5, 6, 7, 8, 45])
   (.cond (.t 45)
   (.seq
    (.reg [
       ⟨(some 46), none, .mov (.t 5)⟩,
       ⟨(some 47), none, .mov (.t 7)⟩,
       ⟨(some 48), none, .call fid_laws_dyEvents false [.im, .im] [(.t 46), (.t 47)]⟩,
       ⟨(some 49), none, .mov (.t 48)⟩,
       ⟨(some 50), (some (49, true)), .mov (.t 6)⟩,
       ⟨(some 51), (some (49, true)), .mov (.t 8)⟩,
       ⟨(some 52), (some (49, true)), .binb false (.t 50) (.t 51)⟩,
       ⟨(some 53), none, .pick (.t 49) (.t 52) (.v (.b false))⟩,
       ⟨(some 2), none, .mov (.t 53)⟩] [2])
    (.ret))
   (.skip)))
  (.seq
  (.reg [
     ⟨(some 55), none, .load true 2 (.t 3)⟩,
     ⟨(some 56), none, .mov (.t 4)⟩,
     ⟨(some 57), none, .call fid_impl_RunTurns false [.im, .im] [(.t 55), (.t 56)]⟩,
     ⟨(some 54), none, .mov (.t 57)⟩,
     ⟨(some 58), none, .extract (.t 54) 0⟩,
     ⟨(some 59), none, .extract (.t 54) 1⟩,
     ⟨(some 9), none, .alloc [.i .i64 0, .nl 2]⟩,
     ⟨none, none, .store 2 (.t 9) (.t 58)⟩,
     ⟨(some 10), none, .mov (.t 59)⟩] [3, 5, 9, 10])
  (.seq
  (.reg [
     ⟨(some 61), none, .load true 2 (.t 3)⟩,
     ⟨(some 62), none, .call fid_impl_BridgesOf false [.im] [(.t 61)]⟩,
     ⟨(some 63), none, .mov (.t 5)⟩,
     ⟨(some 64), none, .call fid_impl_ReplayEvents false [.im, .im] [(.t 62), (.t 63)]⟩,
     ⟨(some 60), none, .mov (.t 64)⟩,
     ⟨(some 65), none, .extract (.t 60) 0⟩,
     ⟨(some 66), none, .extract (.t 60) 1⟩,
     ⟨(some 11), none, .mov (.t 65)⟩,
     ⟨(some 12), none, .mov (.t 66)⟩] [9, 10, 11, 12])
  (.seq
  (.reg [
     ⟨(some 67), none, .mov (.t 10)⟩,
     ⟨(some 68), none, .mov (.t 67)⟩,
     ⟨(some 69), (some (68, true)), .mov (.t 12)⟩,
     ⟨(some 70), none, .pick (.t 68) (.t 69) (.v (.b false))⟩,
     ⟨(some 71), none, .mov (.t 70)⟩,
     ⟨(some 72), (some (71, true)), .mov (.t 11)⟩,
     ⟨(some 73), (some (71, true)), .load true 2 (.t 9)⟩,
     ⟨(some 74), (some (71, true)), .call fid_impl_BridgesOf false [.im] [(.t 73)]⟩,
     ⟨(some 75), (some (71, true)), .call fid_laws_dyEdges false [.im, .im] [(.t 72), (.t 74)]⟩,
     ⟨(some 76), none, .pick (.t 71) (.t 75) (.v (.b false))⟩,
     ⟨(some 2), none, .mov (.t 76)⟩] [2])
  (.ret)))))))))
theorem get_laws_FnEventsOf : Go.Proofs.Try.prog.funcs[fid_laws_FnEventsOf]? = some Go.Proofs.Try.f11 := Go.Proofs.Try.func11
theorem ok_laws_FnEventsOf : okFn Go.Proofs.Try.prog Go.Proofs.Try.f11 77 [] [(2, none)] mc_laws_FnEventsOf = true := by kernel_rfl
def mc_laws_FnExactForestsOf : MCode :=
 .seq
  (.reg [
     ⟨(some 2), none, .box 2 (.t 0)⟩,
     ⟨(some 4), none, .mov (.v (.b false))⟩] [1, 2])
  (.seq
  (.reg [
     ⟨(some 5), none, .mov (.v (.i .i64 1048576))⟩] [1, 2, 5])
  (.seq
  (.reg [
     ⟨(some 16), none, .load true 2 (.t 2)⟩,
     ⟨(some 17), none, .mov (.t 5)⟩,
     ⟨(some 18), none, .call fid_laws_szGraph false [.im, .im] [(.t 16), (.t 17)]⟩,
     ⟨(some 5), none, .mov (.t 18)⟩] [1, 2, 5])
  (.seq
  (.seq
   (.reg [
      ⟨(some 19), none, .mov (.t 5)⟩,
      ⟨(some 20), none, .bin .lss (.t 19) (.v (.i .i64 0))⟩] [1, 2, 20])
   (.cond (.t 20)
   (.seq
    (.reg [
       ⟨(some 4), none, .mov (.v (.b true))⟩] [4])
    (.ret))
   (.skip)))
  (.seq
  (.reg [
     ⟨(some 22), none, .load true 2 (.t 2)⟩,
     ⟨(some 23), none, .call fid_laws_toGraph false [.im] [(.t 22)]⟩,
     ⟨(some 24), none, .mov (.t 1)⟩,
     ⟨(some 25), none, .call fid_spec_ForestsOf true [.im, .im] [(.t 23), (.t 24)]⟩,
     ⟨(some 21), none, .mov (.t 25)⟩,
     ⟨(some 26), none, .extract (.t 21) 0⟩,
     ⟨(some 27), none, .extract (.t 21) 1⟩,
     ⟨(some 6), none, .mov (.t 26)⟩,
     ⟨(some 7), none, .mov (.t 27)⟩] [1, 2, 6, 7])
  (.seq
  (.reg [
     ⟨(some 28), none, .load true 2 (.t 2)⟩,
     ⟨(some 29), none, .call fid_laws_toGraph false [.im] [(.t 28)]⟩,
     ⟨(some 8), none, .alloc [.i .i64 0, .nl 2]⟩,
     ⟨none, none, .store 2 (.t 8) (.t 29)⟩] [1, 2, 6, 7, 8])
  (.seq
  (.reg [
     ⟨(some 31), none, .load true 2 (.t 8)⟩,
     ⟨(some 32), none, .mov (.t 1)⟩,
     ⟨(some 33), none, .call fid_impl_ForestsOf true [.im, .im] [(.t 31), (.t 32)]⟩,
     ⟨(some 30), none, .mov (.t 33)⟩,
     ⟨(some 34), none, .extract (.t 30) 0⟩,
     ⟨(some 35), none, .extract (.t 30) 1⟩,
     ⟨(some 9), none, .mov (.t 34)⟩,
     ⟨(some 10), none, .mov (.t 35)⟩] [1, 2, 6, 7, 8, 9, 10])
  (.seq
  (.seq
   (.reg [
      ⟨(some 36), none, .mov (.t 9)⟩,
      ⟨(some 37), none, .mov (.t 6)⟩,
      ⟨(some 38), none, .call fid_laws_eqEdgeSS false [.im, .im] [(.t 36), (.t 37)]⟩,
      ⟨(some 39), none, .un .not (.t 38)⟩,
      ⟨(some 40), none, .mov (.t 39)⟩,
      ⟨(some 41), (some (40, false)), .mov (.t 10)⟩,
      ⟨(some 42), (some (40, false)), .mov (.t 7)⟩,
      ⟨(some 43), (some (40, false)), .binb true (.t 41) (.t 42)⟩,
      ⟨(some 44), none, .pick (.t 40) (.v (.b true)) (.t 43)⟩] [1, 2, 6, 7, 8, 9, 10, 44])
   (.cond (.t 44)
   (.seq
    (.reg [
       ⟨(some 4), none, .mov (.v (.b false))⟩] [4])
    (.ret))
   (.skip)))
  (.seq
  (.seq
   (.draw [0, 0, 2, 7, 15] [
      ⟨(some 45), none, .load true 2 (.t 8)⟩,
      ⟨(some 46), none, .load true 2 (.t 2)⟩,
      ⟨(some 47), none, .call fid_laws_toGraph false [.im] [(.t 46)]⟩,
      ⟨(some 48), none, .call fid_laws_eqGraph false [.im, .im] [(.t 45), (.t 47)]⟩,
      ⟨(some 49), none, .un .not (.t 48)⟩] [1, 2, 6, 7, 8, 9, 10, 49])
   (.cond (.t 49)
   (.seq
    (.reg [
       ⟨(some 4), none, .mov (.v (.b false))⟩] [4])
    (.ret))
   (.skip)))
  (.seq
  (.reg [
     ⟨(some 11), none, .mov (.v (.i .i64 1))⟩] [1, 2, 6, 7, 8, 9, 10, 11])
  (.seq
  (.reg [
     ⟨(some 50), none, .load true 2 (.t 8)⟩,
     ⟨(some 51), none, .mov (.t 11)⟩,
     ⟨(some 52), none, .call fid_laws_markGraph false [.io, .im] [(.t 50), (.t 51)]⟩,
     ⟨(some 11), none, .mov (.t 52)⟩] [1, 2, 6, 7, 9, 10, 11])
  (.seq
  (.seq
   (.reg [
      ⟨(some 53), none, .mov (.t 11)⟩,
      ⟨(some 54), none, .bin .lss (.t 53) (.v (.i .i64 0))⟩,
      ⟨(some 55), none, .mov (.t 54)⟩,
      ⟨(some 56), (some (55, false)), .mov (.t 9)⟩,
      ⟨(some 57), (some (55, false)), .mov (.t 6)⟩,
      ⟨(some 58), (some (55, false)), .call fid_laws_eqEdgeSS false [.im, .im] [(.t 56), (.t 57)]⟩,
      ⟨(some 59), (some (55, false)), .un .not (.t 58)⟩,
      ⟨(some 60), none, .pick (.t 55) (.v (.b true)) (.t 59)⟩,
      ⟨(some 61), none, .mov (.t 60)⟩,
      ⟨(some 62), (some (61, false)), .mov (.t 10)⟩,
      ⟨(some 63), (some (61, false)), .mov (.t 7)⟩,
      ⟨(some 64), (some (61, false)), .binb true (.t 62) (.t 63)⟩,
      ⟨(some 65), none, .pick (.t 61) (.v (.b true)) (.t 64)⟩] [1, 2, 6, 7, 9, 65])
   (.cond (.t 65)
   (.seq
    (.reg [
       ⟨(some 4), none, .mov (.v (.b false))⟩] [4])
    (.ret))
   (.skip)))
  (.seq
  (.reg [
     ⟨(some 12), none, .mov (.v (.i .i64 1))⟩] [1, 2, 6, 7, 9, 12])
  (.seq
  (.reg [
     ⟨(some 66), none, .mov (.t 9)⟩,
     ⟨(some 67), none, .mov (.t 12)⟩,
     ⟨(some 68), none, .call fid_laws_markEdgeSS false [.im, .im] [(.t 66), (.t 67)]⟩,
     ⟨(some 12), none, .mov (.t 68)⟩] [1, 2, 6, 7, 9, 12])
  (.seq
  (.reg [
     ⟨(some 13), none, .mov (.v (.i .i64 1))⟩] [1, 2, 6, 7, 9, 12, 13])
  (.seq
  (.reg [
     ⟨(some 69), none, .mov (.t 9)⟩,
     ⟨(some 70), none, .mov (.t 13)⟩,
     ⟨(some 71), none, .call fid_laws_heldEdgeSS false [.im, .im] [(.t 69), (.t 70)]⟩,
     ⟨(some 13), none, .mov (.t 71)⟩] [1, 2, 6, 7, 9, 12, 13])
  (.seq
  (.seq
   (.reg [
      ⟨(some 72), none, .mov (.t 13)⟩,
      ⟨(some 73), none, .bin .lss (.t 72) (.v (.i .i64 0))⟩] [1, 2, 6, 7, 9, 12, 13, 73])
   (.cond (.t 73)
   (.seq
    (.reg [
       ⟨(some 4), none, .mov (.v (.b false))⟩] [4])
    (.ret))
   (.skip)))
  (.seq
  (.seq
   (.reg [
      ⟨(some 74), none, .mov (.t 13)⟩,
      ⟨(some 75), none, .mov (.t 12)⟩,
      ⟨(some 76), none, .bin .neq (.t 74) (.t 75)⟩] [1, 2, 6, 7, 9, 12, 76])
   (.cond (.t 76)
   (.seq
    (.reg [
       ⟨(some 4), none, .mov (.v (.b false))⟩] [4])
    (.ret))
   (.skip)))
  (.seq
  (.reg [
     ⟨(some 78), none, .load true 2 (.t 2)⟩,
     ⟨(some 79), none, .call fid_laws_toGraph false [.im] [(.t 78)]⟩,
     ⟨(some 80), none, .mov (.t 1)⟩,
     ⟨(some 81), none, .call fid_impl_ForestsOf true [.im, .im] [(.t 79), (.t 80)]⟩,
     ⟨(some 77), none, .mov (.t 81)⟩,
     ⟨(some 82), none, .extract (.t 77) 0⟩,
     ⟨(some 83), none, .extract (.t 77) 1⟩,
     ⟨(some 14), none, .mov (.t 82)⟩,
     ⟨(some 15), none, .mov (.t 83)⟩] [6, 7, 9, 12, 14, 15])
  (.seq
  (.seq
   (.reg [
      ⟨(some 84), none, .mov (.t 14)⟩,
      ⟨(some 85), none, .mov (.t 6)⟩,
      ⟨(some 86), none, .call fid_laws_eqEdgeSS false [.im, .im] [(.t 84), (.t 85)]⟩,
      ⟨(some 87), none, .un .not (.t 86)⟩,
      ⟨(some 88), none, .mov (.t 87)⟩,
      ⟨(some 89), (some (88, false)), .mov (.t 15)⟩,
      ⟨(some 90), (some (88, false)), .mov (.t 7)⟩,
      ⟨(some 91), (some (88, false)), .binb true (.t 89) (.t 90)⟩,
      ⟨(some 92), none, .pick (.t 88) (.v (.b true)) (.t 91)⟩] [9, 12, 92])
   (.cond (.t 92)
   (.seq
    (.reg [
       ⟨(some 4), none, .mov (.v (.b false))⟩] [4])
    (.ret))
   (.skip)))
  (.seq
  (.reg [
     ⟨(some 13), none, .mov (.v (.i .i64 1))⟩] [9, 12, 13])
  (.seq
  (.reg [
     ⟨(some 93), none, .mov (.t 9)⟩,
     ⟨(some 94), none, .mov (.t 13)⟩,
     ⟨(some 95), none, .call fid_laws_heldEdgeSS false [.im, .im] [(.t 93), (.t 94)]⟩,
     ⟨(some 13), none, .mov (.t 95)⟩] [12, 13])
  (.seq
  (.seq
   (.reg [
      ⟨(some 96), none, .mov (.t 13)⟩,
      ⟨(some 97), none, .bin .lss (.t 96) (.v (.i .i64 0))⟩] [12, 13, 97])
   (.cond (.t 97)
   (.seq
    (.reg [
       ⟨(some 4), none, .mov (.v (.b false))⟩] [4])
    (.ret))
   (.skip)))
  (.seq
  (.seq
   (.reg [
      ⟨(some 98), none, .mov (.t 13)⟩,
      ⟨(some 99), none, .mov (.t 12)⟩,
      ⟨(some 100), none, .bin .neq (.t 98) (.t 99)⟩] [100])
   (.cond (.t 100)
   (.seq
    (.reg [
       ⟨(some 4), none, .mov (.v (.b false))⟩] [4])
    (.ret))
   (.skip)))
  (.seq
  (.reg [
     ⟨(some 4), none, .mov (.v (.b true))⟩] [4])
  (.ret)))))))))))))))))))))))))
theorem get_laws_FnExactForestsOf : Go.Proofs.Try.prog.funcs[fid_laws_FnExactForestsOf]? = some Go.Proofs.Try.f12 := Go.Proofs.Try.func12
theorem ok_laws_FnExactForestsOf : okFn Go.Proofs.Try.prog Go.Proofs.Try.f12 101 [] [(4, none)] mc_laws_FnExactForestsOf = true := by kernel_rfl
def mc_laws_FnForestsOf : MCode :=
 .seq
  (.reg [
     ⟨(some 2), none, .mov (.v (.b false))⟩] [0])
  (.seq
  (.seq
   (.reg [
      ⟨(some 14), none, .mov (.t 0)⟩,
      ⟨(some 15), none, .len (.t 14)⟩,
      ⟨(some 16), none, .bin .gtr (.t 15) (.v (.i .i64 1048576))⟩] [0, 16])
   (.cond (.t 16)
   (.seq
    (.reg [
       ⟨(some 2), none, .mov (.v (.b true))⟩] [2])
    (.ret))
   (.skip)))
  (.seq
  (.reg [
     ⟨(some 18), none, .mov (.t 0)⟩,
     ⟨(some 19), none, .call fid_spec_DrawForestsOf false [.im] [(.t 18)]⟩,
     ⟨(some 17), none, .mov (.t 19)⟩,
     ⟨(some 20), none, .extract (.t 17) 0⟩,
     ⟨(some 21), none, .extract (.t 17) 1⟩,
     ⟨(some 3), none, .alloc [.i .i64 0, .nl 2]⟩,
     ⟨none, none, .store 2 (.t 3) (.t 20)⟩,
     ⟨(some 4), none, .mov (.t 21)⟩] [3, 4])
  (.seq
  (.reg [
     ⟨(some 23), none, .load true 2 (.t 3)⟩,
     ⟨(some 24), none, .mov (.t 4)⟩,
     ⟨(some 25), none, .call fid_impl_ForestsOf true [.im, .im] [(.t 23), (.t 24)]⟩,
     ⟨(some 22), none, .mov (.t 25)⟩,
     ⟨(some 26), none, .extract (.t 22) 0⟩,
     ⟨(some 27), none, .extract (.t 22) 1⟩,
     ⟨(some 5), none, .mov (.t 26)⟩,
     ⟨(some 6), none, .mov (.t 27)⟩] [3, 4, 5, 6])
  (.seq
  (.reg [
     ⟨(some 29), none, .load true 2 (.t 3)⟩,
     ⟨(some 30), none, .mov (.t 4)⟩,
     ⟨(some 31), none, .call fid_spec_ForestsOf true [.im, .im] [(.t 29), (.t 30)]⟩,
     ⟨(some 28), none, .mov (.t 31)⟩,
     ⟨(some 32), none, .extract (.t 28) 0⟩,
     ⟨(some 33), none, .extract (.t 28) 1⟩,
     ⟨(some 7), none, .mov (.t 32)⟩,
     ⟨(some 8), none, .mov (.t 33)⟩] [3, 4, 5, 6, 7, 8])
  (.seq
  (.seq
   (.reg [
      ⟨(some 34), none, .mov (.t 5)⟩,
      ⟨(some 35), none, .mov (.t 7)⟩,
      ⟨(some 36), none, .call fid_laws_dyBlocks false [.im, .im] [(.t 34), (.t 35)]⟩,
      ⟨(some 37), none, .un .not (.t 36)⟩,
      ⟨(some 38), none, .mov (.t 37)⟩,
      ⟨(some 39), (some (38, false)), .mov (.t 6)⟩,
      ⟨(some 40), (some (38, false)), .mov (.t 8)⟩,
      ⟨(some 41), (some (38, false)), .binb true (.t 39) (.t 40)⟩,
      ⟨(some 42), none, .pick (.t 38) (.v (.b true)) (.t 41)⟩,
      ⟨(some 43), none, .mov (.t 42)⟩,
      ⟨(some 44), (some (43, false)), .mov (.t 6)⟩,
      ⟨(some 45), (some (43, false)), .un .not (.t 44)⟩,
      ⟨(some 46), none, .pick (.t 43) (.v (.b true)) (.t 45)⟩] [3, 4, 5, 6, 7, 8, 46])
   (.cond (.t 46)
   (.seq
    (.reg [
       ⟨(some 47), none, .mov (.t 5)⟩,
       ⟨(some 48), none, .mov (.t 7)⟩,
       ⟨(some 49), none, .call fid_laws_dyBlocks false [.im, .im] [(.t 47), (.t 48)]⟩,
       ⟨(some 50), none, .mov (.t 49)⟩,
       ⟨(some 51), (some (50, true)), .mov (.t 6)⟩,
       ⟨(some 52), (some (50, true)), .mov (.t 8)⟩,
       ⟨(some 53), (some (50, true)), .binb false (.t 51) (.t 52)⟩,
       ⟨(some 54), none, .pick (.t 50) (.t 53) (.v (.b false))⟩,
       ⟨(some 2), none, .mov (.t 54)⟩] [2])
    (.ret))
   (.skip)))
  (.seq
  (.reg [
     ⟨(some 55), none, .load true 2 (.t 3)⟩,
     ⟨(some 9), none, .alloc [.i .i64 0, .nl 2]⟩,
     ⟨none, none, .store 2 (.t 9) (.t 55)⟩] [4, 5, 9])
  (.seq
  (.seq
   (.reg [
      ⟨(some 10), none, .mov (.v (.i .i64 0))⟩] [4, 5, 9, 10])
   (.block 0
   (.loop [4, 5, 9, 10]
    (.seq
     (.seq
      (.reg [
         ⟨(some 56), none, .mov (.t 10)⟩,
         ⟨(some 57), none, .mov (.t 5)⟩,
         ⟨(some 58), none, .len (.t 57)⟩,
         ⟨(some 59), none, .bin .lss (.t 56) (.t 58)⟩] [4, 5, 9, 10, 59])
      (.cond (.t 59)
      (.skip)
      (.exit 0)))
     (.seq
     (.block 1
      (.seq
       (.seq
        (.draw [0, 0, 3, 7, 0, 16, 63, 127] [
           ⟨(some 62), none, .mov (.t 5)⟩,
           ⟨(some 63), none, .mov (.t 10)⟩,
           ⟨(some 64), none, .indexAddr 1 (.t 62) (.t 63)⟩,
           ⟨(some 65), none, .load false 1 (.t 64)⟩,
           ⟨(some 66), none, .load true 2 (.t 9)⟩,
           ⟨(some 67), none, .call fid_impl_ForestOf false [.im] [(.t 66)]⟩,
           ⟨(some 68), none, .call fid_laws_dyEdges false [.im, .im] [(.t 65), (.t 67)]⟩,
           ⟨(some 69), none, .un .not (.t 68)⟩] [4, 5, 9, 10, 69])
        (.cond (.t 69)
        (.seq
         (.reg [
            ⟨(some 2), none, .mov (.v (.b false))⟩] [2])
         (.ret))
        (.skip)))
       (.seq
       (.reg [
          ⟨(some 11), none, .mov (.v (.i .i64 0))⟩] [4, 5, 9, 10, 11])
       (.block 2
       (.loop [4, 5, 9, 10, 11]
        (.seq
         (.seq
          (.reg [
             ⟨(some 70), none, .mov (.t 11)⟩,
             ⟨(some 71), none, .mov (.t 5)⟩,
             ⟨(some 72), none, .mov (.t 10)⟩,
             ⟨(some 73), none, .indexAddr 1 (.t 71) (.t 72)⟩,
             ⟨(some 74), none, .load false 1 (.t 73)⟩,
             ⟨(some 75), none, .len (.t 74)⟩,
             ⟨(some 76), none, .bin .lss (.t 70) (.t 75)⟩] [4, 5, 9, 10, 11, 76])
          (.cond (.t 76)
          (.skip)
          (.exit 2)))
         (.seq
         (.block 3
          (.seq
           (.draw [0, 0, 0, 6, 14, 0, 62, 126, 255, 511, 1023, 1023, 0, 6143, 16383] [
              ⟨(some 80), none, .load true 2 (.t 9)⟩,
              ⟨(some 81), none, .mov (.t 5)⟩,
              ⟨(some 82), none, .mov (.t 10)⟩,
              ⟨(some 83), none, .indexAddr 1 (.t 81) (.t 82)⟩,
              ⟨(some 84), none, .load false 1 (.t 83)⟩,
              ⟨(some 85), none, .mov (.t 11)⟩,
              ⟨(some 86), none, .indexAddr 2 (.t 84) (.t 85)⟩,
              ⟨(some 87), none, .load true 2 (.t 86)⟩,
              ⟨(some 88), none, .call fid_impl_CutEdge false [.im, .im] [(.t 80), (.t 87)]⟩,
              ⟨(some 79), none, .mov (.t 88)⟩,
              ⟨(some 89), none, .extract (.t 79) 0⟩,
              ⟨(some 90), none, .extract (.t 79) 1⟩,
              ⟨(some 12), none, .alloc [.i .i64 0, .nl 2]⟩,
              ⟨none, none, .store 2 (.t 12) (.t 89)⟩,
              ⟨(some 13), none, .mov (.t 90)⟩] [4, 5, 9, 10, 11, 12, 13])
           (.seq
           (.seq
            (.reg [
               ⟨(some 91), none, .mov (.t 13)⟩,
               ⟨(some 92), none, .un .not (.t 91)⟩] [4, 5, 9, 10, 11, 12, 92])
            (.cond (.t 92)
            (.seq
             (.reg [
                ⟨(some 2), none, .mov (.v (.b false))⟩] [2])
             (.ret))
            (.skip)))
           (.reg [
             ⟨(some 93), none, .load true 2 (.t 12)⟩,
             ⟨none, none, .store 2 (.t 9) (.t 93)⟩] [4, 5, 9, 10, 11]))))
         (.reg [
           ⟨(some 77), none, .mov (.t 11)⟩,
           ⟨(some 78), none, .bin .add (.t 77) (.v (.i .i64 1))⟩,
           ⟨(some 11), none, .mov (.t 78)⟩] [4, 5, 9, 10, 11]))))))))
     (.reg [
       ⟨(some 60), none, .mov (.t 10)⟩,
       ⟨(some 61), none, .bin .add (.t 60) (.v (.i .i64 1))⟩,
       ⟨(some 10), none, .mov (.t 61)⟩] [4, 5, 9, 10]))))))
  (.seq
  (.reg [
     ⟨(some 94), none, .mov (.t 5)⟩,
     ⟨(some 95), none, .len (.t 94)⟩,
     ⟨(some 96), none, .mov (.t 4)⟩,
     ⟨(some 97), none, .bin .eql (.t 95) (.t 96)⟩,
     ⟨(some 2), none, .mov (.t 97)⟩] [2])
  (.ret)))))))))
theorem get_laws_FnForestsOf : Go.Proofs.Try.prog.funcs[fid_laws_FnForestsOf]? = some Go.Proofs.Try.f13 := Go.Proofs.Try.func13
theorem ok_laws_FnForestsOf : okFn Go.Proofs.Try.prog Go.Proofs.Try.f13 98 [] [(2, none)] mc_laws_FnForestsOf = true := by kernel_rfl
def mc_laws_FnChainEdges : MCode :=
 .seq
  (.reg [
     ⟨(some 2), none, .mov (.v (.b false))⟩] [0])
  (.seq
  (.seq
   (.reg [
      ⟨(some 11), none, .mov (.t 0)⟩,
      ⟨(some 12), none, .len (.t 11)⟩,
      ⟨(some 13), none, .bin .gtr (.t 12) (.v (.i .i64 1048576))⟩] [0, 13])
   (.cond (.t 13)
   (.seq
    (.reg [
       ⟨(some 2), none, .mov (.v (.b true))⟩] [2])
    (.ret))
   (.skip)))
  (.seq
  (.reg [
     ⟨(some 14), none, .mov (.t 0)⟩,
     ⟨(some 15), none, .call fid_spec_DrawChainEdges false [.im] [(.t 14)]⟩,
     ⟨(some 3), none, .mov (.t 15)⟩] [3])
  (.seq
  (.reg [
     ⟨(some 17), none, .mov (.t 3)⟩,
     ⟨(some 18), none, .call fid_impl_ChainEdges false [.im] [(.t 17)]⟩,
     ⟨(some 16), none, .mov (.t 18)⟩,
     ⟨(some 19), none, .extract (.t 16) 0⟩,
     ⟨(some 20), none, .extract (.t 16) 1⟩,
     ⟨(some 4), none, .mov (.t 19)⟩,
     ⟨(some 5), none, .mov (.t 20)⟩] [3, 4, 5])
  (.seq
  (.reg [
     ⟨(some 22), none, .mov (.t 3)⟩,
     ⟨(some 23), none, .call fid_spec_ChainEdges false [.im] [(.t 22)]⟩,
     ⟨(some 21), none, .mov (.t 23)⟩,
     ⟨(some 24), none, .extract (.t 21) 0⟩,
     ⟨(some 25), none, .extract (.t 21) 1⟩,
     ⟨(some 6), none, .mov (.t 24)⟩,
     ⟨(some 7), none, .mov (.t 25)⟩] [3, 4, 5, 6, 7])
  (.seq
  (.seq
   (.reg [
      ⟨(some 26), none, .mov (.t 4)⟩,
      ⟨(some 27), none, .mov (.t 6)⟩,
      ⟨(some 28), none, .call fid_laws_dyEdges false [.im, .im] [(.t 26), (.t 27)]⟩,
      ⟨(some 29), none, .un .not (.t 28)⟩,
      ⟨(some 30), none, .mov (.t 29)⟩,
      ⟨(some 31), (some (30, false)), .mov (.t 5)⟩,
      ⟨(some 32), (some (30, false)), .mov (.t 7)⟩,
      ⟨(some 33), (some (30, false)), .binb true (.t 31) (.t 32)⟩,
      ⟨(some 34), none, .pick (.t 30) (.v (.b true)) (.t 33)⟩,
      ⟨(some 35), none, .mov (.t 34)⟩,
      ⟨(some 36), (some (35, false)), .mov (.t 5)⟩,
      ⟨(some 37), (some (35, false)), .un .not (.t 36)⟩,
      ⟨(some 38), none, .pick (.t 35) (.v (.b true)) (.t 37)⟩,
      ⟨(some 39), none, .mov (.t 38)⟩,
      ⟨(some 40), (some (39, false)), .mov (.t 3)⟩,
      ⟨(some 41), (some (39, false)), .len (.t 40)⟩,
      ⟨(some 42), (some (39, false)), .bin .eql (.t 41) (.v (.i .i64 0))⟩,
      ⟨(some 43), none, .pick (.t 39) (.v (.b true)) (.t 42)⟩] [3, 4, 5, 6, 7, 43])
   (.cond (.t 43)
   (.seq
    (.reg [
       ⟨(some 44), none, .mov (.t 4)⟩,
       ⟨(some 45), none, .mov (.t 6)⟩,
       ⟨(some 46), none, .call fid_laws_dyEdges false [.im, .im] [(.t 44), (.t 45)]⟩,
       ⟨(some 47), none, .mov (.t 46)⟩,
       ⟨(some 48), (some (47, true)), .mov (.t 5)⟩,
       ⟨(some 49), (some (47, true)), .mov (.t 7)⟩,
       ⟨(some 50), (some (47, true)), .binb false (.t 48) (.t 49)⟩,
       ⟨(some 51), none, .pick (.t 47) (.t 50) (.v (.b false))⟩,
       ⟨(some 2), none, .mov (.t 51)⟩] [2])
    (.ret))
   (.skip)))
  (.seq
  (.seq
   (.reg [
      ⟨(some 8), none, .mov (.v (.i .i64 0))⟩] [3, 4, 8])
   (.block 0
   (.loop [3, 4, 8]
    (.seq
     (.seq
      (.reg [
         ⟨(some 52), none, .mov (.t 8)⟩,
         ⟨(some 53), none, .mov (.t 4)⟩,
         ⟨(some 54), none, .len (.t 53)⟩,
         ⟨(some 55), none, .bin .lss (.t 52) (.t 54)⟩] [3, 4, 8, 55])
      (.cond (.t 55)
      (.skip)
      (.exit 0)))
     (.seq
     (.block 1
      (.seq
       (.draw [0, 0, 3, 7, 0, 0, 32, 112, 240, 511, 1023, 2047, 2047, 0, 12287, 32767] [
          ⟨(some 59), none, .mov (.t 3)⟩,
          ⟨(some 60), none, .mov (.t 8)⟩,
          ⟨(some 61), none, .indexAddr 1 (.t 59) (.t 60)⟩,
          ⟨(some 62), none, .load false 1 (.t 61)⟩,
          ⟨(some 63), none, .mov (.t 3)⟩,
          ⟨(some 64), none, .mov (.t 8)⟩,
          ⟨(some 65), none, .bin .add (.t 64) (.v (.i .i64 1))⟩,
          ⟨(some 66), none, .indexAddr 1 (.t 63) (.t 65)⟩,
          ⟨(some 67), none, .load false 1 (.t 66)⟩,
          ⟨(some 68), none, .call fid_impl_EdgeOf false [.im, .im] [(.t 62), (.t 67)]⟩,
          ⟨(some 58), none, .mov (.t 68)⟩,
          ⟨(some 69), none, .extract (.t 58) 0⟩,
          ⟨(some 70), none, .extract (.t 58) 1⟩,
          ⟨(some 9), none, .alloc [.i .i64 0, .i .i64 0]⟩,
          ⟨none, none, .store 2 (.t 9) (.t 69)⟩,
          ⟨(some 10), none, .mov (.t 70)⟩] [3, 4, 8, 9, 10])
       (.seq
       (.draw [0, 1, 3, 7, 7, 7, 55, 119, 255, 511] [
          ⟨(some 71), none, .mov (.t 10)⟩,
          ⟨(some 72), none, .un .not (.t 71)⟩,
          ⟨(some 73), none, .mov (.t 72)⟩,
          ⟨(some 74), (some (73, false)), .load true 2 (.t 9)⟩,
          ⟨(some 75), (some (73, false)), .mov (.t 4)⟩,
          ⟨(some 76), (some (73, false)), .mov (.t 8)⟩,
          ⟨(some 77), (some (73, false)), .indexAddr 2 (.t 75) (.t 76)⟩,
          ⟨(some 78), (some (73, false)), .load true 2 (.t 77)⟩,
          ⟨(some 79), (some (73, false)), .eqAgg true [true, true] (.t 74) (.t 78)⟩,
          ⟨(some 80), none, .pick (.t 73) (.v (.b true)) (.t 79)⟩] [3, 4, 8, 80])
       (.cond (.t 80)
       (.seq
        (.reg [
           ⟨(some 2), none, .mov (.v (.b false))⟩] [2])
        (.ret))
       (.skip)))))
     (.reg [
       ⟨(some 56), none, .mov (.t 8)⟩,
       ⟨(some 57), none, .bin .add (.t 56) (.v (.i .i64 1))⟩,
       ⟨(some 8), none, .mov (.t 57)⟩] [3, 4, 8]))))))
  (.seq
  (.reg [
     ⟨(some 81), none, .mov (.t 4)⟩,
     ⟨(some 82), none, .len (.t 81)⟩,
     ⟨(some 83), none, .mov (.t 3)⟩,
     ⟨(some 84), none, .len (.t 83)⟩,
     ⟨(some 85), none, .bin .sub (.t 84) (.v (.i .i64 1))⟩,
     ⟨(some 86), none, .bin .eql (.t 82) (.t 85)⟩,
     ⟨(some 2), none, .mov (.t 86)⟩] [2])
  (.ret))))))))
theorem get_laws_FnChainEdges : Go.Proofs.Try.prog.funcs[fid_laws_FnChainEdges]? = some Go.Proofs.Try.f14 := Go.Proofs.Try.func14
theorem ok_laws_FnChainEdges : okFn Go.Proofs.Try.prog Go.Proofs.Try.f14 87 [] [(2, none)] mc_laws_FnChainEdges = true := by kernel_rfl
def mc_laws_szGraph : MCode :=
 .seq
  (.reg [
     ⟨(some 2), none, .box 2 (.t 0)⟩,
     ⟨(some 4), none, .mov (.v (.i .i64 0))⟩] [1, 2])
  (.seq
  (.reg [
     ⟨(some 5), none, .fieldAddr 1 (.t 2)⟩,
     ⟨(some 6), none, .load false 1 (.t 5)⟩,
     ⟨(some 7), none, .mov (.t 1)⟩,
     ⟨(some 8), none, .call fid_laws_szEdgeS false [.im, .im] [(.t 6), (.t 7)]⟩,
     ⟨(some 1), none, .mov (.t 8)⟩] [1])
  (.seq
  (.seq
   (.reg [
      ⟨(some 9), none, .mov (.t 1)⟩,
      ⟨(some 10), none, .bin .lss (.t 9) (.v (.i .i64 0))⟩] [1, 10])
   (.cond (.t 10)
   (.seq
    (.reg [
       ⟨(some 4), none, .mov (.v (.i .i64 (-1)))⟩] [4])
    (.ret))
   (.skip)))
  (.seq
  (.reg [
     ⟨(some 11), none, .mov (.t 1)⟩,
     ⟨(some 4), none, .mov (.t 11)⟩] [4])
  (.ret))))
theorem get_laws_szGraph : Go.Proofs.Try.prog.funcs[fid_laws_szGraph]? = some Go.Proofs.Try.f15 := Go.Proofs.Try.func15
theorem ok_laws_szGraph : okFn Go.Proofs.Try.prog Go.Proofs.Try.f15 12 [] [(4, none)] mc_laws_szGraph = true := by kernel_rfl
def mc_laws_szTurnS : MCode :=
 .seq
  (.reg [
     ⟨(some 4), none, .mov (.v (.i .i64 0))⟩] [0, 1])
  (.seq
  (.reg [
     ⟨(some 5), none, .mov (.t 1)⟩,
     ⟨(some 6), none, .mov (.t 0)⟩,
     ⟨(some 7), none, .len (.t 6)⟩,
     ⟨(some 8), none, .bin .sub (.t 5) (.t 7)⟩,
     ⟨(some 1), none, .mov (.t 8)⟩] [1])
  (.seq
  (.seq
   (.reg [
      ⟨(some 9), none, .mov (.t 1)⟩,
      ⟨(some 10), none, .bin .lss (.t 9) (.v (.i .i64 0))⟩] [1, 10])
   (.cond (.t 10)
   (.seq
    (.reg [
       ⟨(some 4), none, .mov (.v (.i .i64 (-1)))⟩] [4])
    (.ret))
   (.skip)))
  (.seq
  (.reg [
     ⟨(some 11), none, .mov (.t 1)⟩,
     ⟨(some 4), none, .mov (.t 11)⟩] [4])
  (.ret))))
theorem get_laws_szTurnS : Go.Proofs.Try.prog.funcs[fid_laws_szTurnS]? = some Go.Proofs.Try.f16 := Go.Proofs.Try.func16
theorem ok_laws_szTurnS : okFn Go.Proofs.Try.prog Go.Proofs.Try.f16 12 [] [(4, none)] mc_laws_szTurnS = true := by kernel_rfl
def mc_laws_toGraph : MCode :=
 .seq
  (.reg [
     ⟨(some 1), none, .box 2 (.t 0)⟩,
     ⟨(some 2), none, .alloc [.i .i64 0, .nl 2]⟩] [1, 2])
  (.seq
  (.reg [
     ⟨(some 3), none, .alloc [.i .i64 0, .nl 2]⟩] [1, 2, 3])
  (.seq
  (.reg [
     ⟨(some 4), none, .fieldAddr 0 (.t 1)⟩,
     ⟨(some 5), none, .load false 1 (.t 4)⟩,
     ⟨(some 6), none, .fieldAddr 0 (.t 3)⟩,
     ⟨none, none, .store 1 (.t 6) (.t 5)⟩] [1, 2, 3])
  (.seq
  (.reg [
     ⟨(some 7), none, .fieldAddr 1 (.t 1)⟩,
     ⟨(some 8), none, .load false 1 (.t 7)⟩,
     ⟨(some 9), none, .call fid_laws_toEdgeS false [.im] [(.t 8)]⟩,
     ⟨(some 10), none, .fieldAddr 1 (.t 3)⟩,
     ⟨none, none, .store 1 (.t 10) (.t 9)⟩] [2, 3])
  (.seq
  (.reg [
     ⟨(some 11), none, .load true 2 (.t 3)⟩,
     ⟨none, none, .store 2 (.t 2) (.t 11)⟩] [2])
  (.ret)))))
theorem get_laws_toGraph : Go.Proofs.Try.prog.funcs[fid_laws_toGraph]? = some Go.Proofs.Try.f18 := Go.Proofs.Try.func18
theorem ok_laws_toGraph : okFn Go.Proofs.Try.prog Go.Proofs.Try.f18 12 [] [(2, some (true, 2))] mc_laws_toGraph = true := by kernel_rfl
def mc_laws_toTurnS : MCode :=
 .seq
  (.reg [
     ⟨(some 2), none, .mov (.v (.nl 2))⟩] [0])
  (.seq
  (.reg [
     ⟨(some 5), none, .mov (.t 0)⟩,
     ⟨(some 6), none, .len (.t 5)⟩,
     ⟨(some 7), none, .makeSlice 2 16 [.i .i64 0, .i .i64 0] (.t 6) (.t 6)⟩,
     ⟨(some 3), none, .mov (.t 7)⟩] [0, 3])
  (.seq
  (.seq
   (.reg [
      ⟨(some 4), none, .mov (.v (.i .i64 0))⟩] [0, 3, 4])
   (.block 0
   (.loop [0, 3, 4]
    (.seq
     (.seq
      (.reg [
         ⟨(some 8), none, .mov (.t 4)⟩,
         ⟨(some 9), none, .mov (.t 0)⟩,
         ⟨(some 10), none, .len (.t 9)⟩,
         ⟨(some 11), none, .bin .lss (.t 8) (.t 10)⟩] [0, 3, 4, 11])
      (.cond (.t 11)
      (.skip)
      (.exit 0)))
     (.seq
     (.block 1
      (.reg [
         ⟨(some 14), none, .mov (.t 3)⟩,
         ⟨(some 15), none, .mov (.t 4)⟩,
         ⟨(some 16), none, .mov (.t 0)⟩,
         ⟨(some 17), none, .mov (.t 4)⟩,
         ⟨(some 18), none, .indexAddr 2 (.t 16) (.t 17)⟩,
         ⟨(some 19), none, .load true 2 (.t 18)⟩,
         ⟨(some 20), none, .call fid_laws_toTurn false [.im] [(.t 19)]⟩,
         ⟨(some 21), none, .indexAddr 2 (.t 14) (.t 15)⟩,
         ⟨none, none, .store 2 (.t 21) (.t 20)⟩] [0, 3, 4]))
     (.reg [
       ⟨(some 12), none, .mov (.t 4)⟩,
       ⟨(some 13), none, .bin .add (.t 12) (.v (.i .i64 1))⟩,
       ⟨(some 4), none, .mov (.t 13)⟩] [0, 3, 4]))))))
  (.seq
  (.reg [
     ⟨(some 22), none, .mov (.t 3)⟩,
     ⟨(some 2), none, .mov (.t 22)⟩] [2])
  (.ret))))
theorem get_laws_toTurnS : Go.Proofs.Try.prog.funcs[fid_laws_toTurnS]? = some Go.Proofs.Try.f19 := Go.Proofs.Try.func19
theorem ok_laws_toTurnS : okFn Go.Proofs.Try.prog Go.Proofs.Try.f19 23 [] [(2, none)] mc_laws_toTurnS = true := by kernel_rfl
def mc_laws_eqGraph : MCode :=
 .seq
  (.reg [
     ⟨(some 2), none, .box 2 (.t 0)⟩,
     ⟨(some 3), none, .box 2 (.t 1)⟩,
     ⟨(some 4), none, .mov (.v (.b false))⟩] [2, 3])
  (.seq
  (.seq
   (.reg [
      ⟨(some 5), none, .fieldAddr 0 (.t 2)⟩,
      ⟨(some 6), none, .load false 1 (.t 5)⟩,
      ⟨(some 7), none, .fieldAddr 0 (.t 3)⟩,
      ⟨(some 8), none, .load false 1 (.t 7)⟩,
      ⟨(some 9), none, .bin .neq (.t 6) (.t 8)⟩] [2, 3, 9])
   (.cond (.t 9)
   (.seq
    (.reg [
       ⟨(some 4), none, .mov (.v (.b false))⟩] [4])
    (.ret))
   (.skip)))
  (.seq
  (.seq
   (.reg [
      ⟨(some 10), none, .fieldAddr 1 (.t 2)⟩,
      ⟨(some 11), none, .load false 1 (.t 10)⟩,
      ⟨(some 12), none, .fieldAddr 1 (.t 3)⟩,
      ⟨(some 13), none, .load false 1 (.t 12)⟩,
      ⟨(some 14), none, .call fid_laws_eqEdgeS false [.im, .im] [(.t 11), (.t 13)]⟩,
      ⟨(some 15), none, .un .not (.t 14)⟩] [15])
   (.cond (.t 15)
   (.seq
    (.reg [
       ⟨(some 4), none, .mov (.v (.b false))⟩] [4])
    (.ret))
   (.skip)))
  (.seq
  (.reg [
     ⟨(some 4), none, .mov (.v (.b true))⟩] [4])
  (.ret))))
theorem get_laws_eqGraph : Go.Proofs.Try.prog.funcs[fid_laws_eqGraph]? = some Go.Proofs.Try.f21 := Go.Proofs.Try.func21
theorem ok_laws_eqGraph : okFn Go.Proofs.Try.prog Go.Proofs.Try.f21 16 [] [(4, none)] mc_laws_eqGraph = true := by kernel_rfl
def mc_laws_eqTurnS : MCode :=
 .seq
  (.reg [
     ⟨(some 4), none, .mov (.v (.b false))⟩] [0, 1])
  (.seq
  (.seq
   (.reg [
      ⟨(some 6), none, .mov (.t 0)⟩,
      ⟨(some 7), none, .len (.t 6)⟩,
      ⟨(some 8), none, .mov (.t 1)⟩,
      ⟨(some 9), none, .len (.t 8)⟩,
      ⟨(some 10), none, .bin .neq (.t 7) (.t 9)⟩] [0, 1, 10])
   (.cond (.t 10)
   (.seq
    (.reg [
       ⟨(some 4), none, .mov (.v (.b false))⟩] [4])
    (.ret))
   (.skip)))
  (.seq
  (.seq
   (.reg [
      ⟨(some 5), none, .mov (.v (.i .i64 0))⟩] [0, 1, 5])
   (.block 0
   (.loop [0, 1, 5]
    (.seq
     (.seq
      (.reg [
         ⟨(some 11), none, .mov (.t 5)⟩,
         ⟨(some 12), none, .mov (.t 0)⟩,
         ⟨(some 13), none, .len (.t 12)⟩,
         ⟨(some 14), none, .bin .lss (.t 11) (.t 13)⟩] [0, 1, 5, 14])
      (.cond (.t 14)
      (.skip)
      (.exit 0)))
     (.seq
     (.block 1
      (.seq
       (.draw [0, 0, 3, 7, 0, 0, 48, 112, 255, 511] [
          ⟨(some 17), none, .mov (.t 0)⟩,
          ⟨(some 18), none, .mov (.t 5)⟩,
          ⟨(some 19), none, .indexAddr 2 (.t 17) (.t 18)⟩,
          ⟨(some 20), none, .load true 2 (.t 19)⟩,
          ⟨(some 21), none, .mov (.t 1)⟩,
          ⟨(some 22), none, .mov (.t 5)⟩,
          ⟨(some 23), none, .indexAddr 2 (.t 21) (.t 22)⟩,
          ⟨(some 24), none, .load true 2 (.t 23)⟩,
          ⟨(some 25), none, .call fid_laws_eqTurn false [.im, .im] [(.t 20), (.t 24)]⟩,
          ⟨(some 26), none, .un .not (.t 25)⟩] [0, 1, 5, 26])
       (.cond (.t 26)
       (.seq
        (.reg [
           ⟨(some 4), none, .mov (.v (.b false))⟩] [4])
        (.ret))
       (.skip))))
     (.reg [
       ⟨(some 15), none, .mov (.t 5)⟩,
       ⟨(some 16), none, .bin .add (.t 15) (.v (.i .i64 1))⟩,
       ⟨(some 5), none, .mov (.t 16)⟩] [0, 1, 5]))))))
  (.seq
  (.reg [
     ⟨(some 4), none, .mov (.v (.b true))⟩] [4])
  (.ret))))
theorem get_laws_eqTurnS : Go.Proofs.Try.prog.funcs[fid_laws_eqTurnS]? = some Go.Proofs.Try.f22 := Go.Proofs.Try.func22
theorem ok_laws_eqTurnS : okFn Go.Proofs.Try.prog Go.Proofs.Try.f22 27 [] [(4, none)] mc_laws_eqTurnS = true := by kernel_rfl
def mc_laws_markGraph : MCode :=
 .seq
  (.reg [
     ⟨(some 2), none, .box 2 (.t 0)⟩,
     ⟨(some 4), none, .mov (.v (.i .i64 0))⟩] [0, 1, 2])
  (.seq
  (.reg [
     ⟨(some 5), none, .fieldAddr 1 (.t 2)⟩,
     ⟨(some 6), none, .load false 1 (.t 5)⟩,
     ⟨(some 7), none, .mov (.t 1)⟩,
     ⟨(some 8), none, .call fid_laws_markEdgeS false [.io, .im] [(.t 6), (.t 7)]⟩,
     ⟨(some 1), none, .mov (.t 8)⟩] [0, 1])
  (.seq
  (.reg [
     ⟨(some 9), none, .mov (.t 1)⟩,
     ⟨(some 4), none, .mov (.t 9)⟩] [0, 4])
  (.ret)))
theorem get_laws_markGraph : Go.Proofs.Try.prog.funcs[fid_laws_markGraph]? = some Go.Proofs.Try.f23 := Go.Proofs.Try.func23
theorem ok_laws_markGraph : okFn Go.Proofs.Try.prog Go.Proofs.Try.f23 10 [0] [(4, none)] mc_laws_markGraph = true := by kernel_rfl
def mc_laws_markTurnS : MCode :=
 .seq
  (.reg [
     ⟨(some 4), none, .mov (.v (.i .i64 0))⟩] [0, 1])
  (.seq
  (.seq
   (.reg [
      ⟨(some 5), none, .mov (.v (.i .i64 0))⟩] [0, 1, 5])
   (.block 0
   (.loop [0, 1, 5]
    (.seq
     (.seq
      (.reg [
         ⟨(some 6), none, .mov (.t 5)⟩,
         ⟨(some 7), none, .mov (.t 0)⟩,
         ⟨(some 8), none, .len (.t 7)⟩,
         ⟨(some 9), none, .bin .lss (.t 6) (.t 8)⟩] [0, 1, 5, 9])
      (.cond (.t 9)
      (.skip)
      (.exit 0)))
     (.seq
     (.block 1
      (.seq
       (.reg [
          ⟨(some 12), none, .mov (.t 0)⟩,
          ⟨(some 13), none, .mov (.t 5)⟩,
          ⟨(some 14), none, .mov (.t 1)⟩,
          ⟨(some 15), none, .indexAddr 2 (.t 12) (.t 13)⟩,
          ⟨(some 16), none, .fieldAddr 0 (.t 15)⟩,
          ⟨(some 17), none, .fieldAddr 0 (.t 16)⟩,
          ⟨none, none, .store 1 (.t 17) (.t 14)⟩] [0, 1, 5])
       (.seq
       (.reg [
          ⟨(some 18), none, .mov (.t 1)⟩,
          ⟨(some 19), none, .bin .add (.t 18) (.v (.i .i64 1))⟩,
          ⟨(some 1), none, .mov (.t 19)⟩] [0, 1, 5])
       (.seq
       (.reg [
          ⟨(some 20), none, .mov (.t 0)⟩,
          ⟨(some 21), none, .mov (.t 5)⟩,
          ⟨(some 22), none, .mov (.t 1)⟩,
          ⟨(some 23), none, .indexAddr 2 (.t 20) (.t 21)⟩,
          ⟨(some 24), none, .fieldAddr 0 (.t 23)⟩,
          ⟨(some 25), none, .fieldAddr 1 (.t 24)⟩,
          ⟨none, none, .store 1 (.t 25) (.t 22)⟩] [0, 1, 5])
       (.reg [
         ⟨(some 26), none, .mov (.t 1)⟩,
         ⟨(some 27), none, .bin .add (.t 26) (.v (.i .i64 1))⟩,
         ⟨(some 1), none, .mov (.t 27)⟩] [0, 1, 5])))))
     (.reg [
       ⟨(some 10), none, .mov (.t 5)⟩,
       ⟨(some 11), none, .bin .add (.t 10) (.v (.i .i64 1))⟩,
       ⟨(some 5), none, .mov (.t 11)⟩] [0, 1, 5]))))))
  (.seq
  (.reg [
     ⟨(some 28), none, .mov (.t 1)⟩,
     ⟨(some 4), none, .mov (.t 28)⟩] [0, 4])
  (.ret)))
theorem get_laws_markTurnS : Go.Proofs.Try.prog.funcs[fid_laws_markTurnS]? = some Go.Proofs.Try.f24 := Go.Proofs.Try.func24
theorem ok_laws_markTurnS : okFn Go.Proofs.Try.prog Go.Proofs.Try.f24 29 [0] [(4, none)] mc_laws_markTurnS = true := by kernel_rfl
def mc_laws_heldGraph : MCode :=
 .seq
  (.reg [
     ⟨(some 2), none, .box 2 (.t 0)⟩,
     ⟨(some 4), none, .mov (.v (.i .i64 0))⟩] [1, 2])
  (.seq
  (.reg [
     ⟨(some 5), none, .fieldAddr 1 (.t 2)⟩,
     ⟨(some 6), none, .load false 1 (.t 5)⟩,
     ⟨(some 7), none, .mov (.t 1)⟩,
     ⟨(some 8), none, .call fid_laws_heldEdgeS false [.im, .im] [(.t 6), (.t 7)]⟩,
     ⟨(some 1), none, .mov (.t 8)⟩] [1])
  (.seq
  (.seq
   (.reg [
      ⟨(some 9), none, .mov (.t 1)⟩,
      ⟨(some 10), none, .bin .lss (.t 9) (.v (.i .i64 0))⟩] [1, 10])
   (.cond (.t 10)
   (.seq
    (.reg [
       ⟨(some 4), none, .mov (.v (.i .i64 (-1)))⟩] [4])
    (.ret))
   (.skip)))
  (.seq
  (.reg [
     ⟨(some 11), none, .mov (.t 1)⟩,
     ⟨(some 4), none, .mov (.t 11)⟩] [4])
  (.ret))))
theorem get_laws_heldGraph : Go.Proofs.Try.prog.funcs[fid_laws_heldGraph]? = some Go.Proofs.Try.f25 := Go.Proofs.Try.func25
theorem ok_laws_heldGraph : okFn Go.Proofs.Try.prog Go.Proofs.Try.f25 12 [] [(4, none)] mc_laws_heldGraph = true := by kernel_rfl
def mc_laws_szEdgeS : MCode :=
 .seq
  (.reg [
     ⟨(some 4), none, .mov (.v (.i .i64 0))⟩] [0, 1])
  (.seq
  (.reg [
     ⟨(some 5), none, .mov (.t 1)⟩,
     ⟨(some 6), none, .mov (.t 0)⟩,
     ⟨(some 7), none, .len (.t 6)⟩,
     ⟨(some 8), none, .bin .sub (.t 5) (.t 7)⟩,
     ⟨(some 1), none, .mov (.t 8)⟩] [1])
  (.seq
  (.seq
   (.reg [
      ⟨(some 9), none, .mov (.t 1)⟩,
      ⟨(some 10), none, .bin .lss (.t 9) (.v (.i .i64 0))⟩] [1, 10])
   (.cond (.t 10)
   (.seq
    (.reg [
       ⟨(some 4), none, .mov (.v (.i .i64 (-1)))⟩] [4])
    (.ret))
   (.skip)))
  (.seq
  (.reg [
     ⟨(some 11), none, .mov (.t 1)⟩,
     ⟨(some 4), none, .mov (.t 11)⟩] [4])
  (.ret))))
theorem get_laws_szEdgeS : Go.Proofs.Try.prog.funcs[fid_laws_szEdgeS]? = some Go.Proofs.Try.f29 := Go.Proofs.Try.func29
theorem ok_laws_szEdgeS : okFn Go.Proofs.Try.prog Go.Proofs.Try.f29 12 [] [(4, none)] mc_laws_szEdgeS = true := by kernel_rfl
def mc_laws_szEventS : MCode :=
 .seq
  (.reg [
     ⟨(some 4), none, .mov (.v (.i .i64 0))⟩] [0, 1])
  (.seq
  (.reg [
     ⟨(some 5), none, .mov (.t 1)⟩,
     ⟨(some 6), none, .mov (.t 0)⟩,
     ⟨(some 7), none, .len (.t 6)⟩,
     ⟨(some 8), none, .bin .sub (.t 5) (.t 7)⟩,
     ⟨(some 1), none, .mov (.t 8)⟩] [1])
  (.seq
  (.seq
   (.reg [
      ⟨(some 9), none, .mov (.t 1)⟩,
      ⟨(some 10), none, .bin .lss (.t 9) (.v (.i .i64 0))⟩] [1, 10])
   (.cond (.t 10)
   (.seq
    (.reg [
       ⟨(some 4), none, .mov (.v (.i .i64 (-1)))⟩] [4])
    (.ret))
   (.skip)))
  (.seq
  (.reg [
     ⟨(some 11), none, .mov (.t 1)⟩,
     ⟨(some 4), none, .mov (.t 11)⟩] [4])
  (.ret))))
theorem get_laws_szEventS : Go.Proofs.Try.prog.funcs[fid_laws_szEventS]? = some Go.Proofs.Try.f30 := Go.Proofs.Try.func30
theorem ok_laws_szEventS : okFn Go.Proofs.Try.prog Go.Proofs.Try.f30 12 [] [(4, none)] mc_laws_szEventS = true := by kernel_rfl
def mc_laws_toEdgeS : MCode :=
 .seq
  (.reg [
     ⟨(some 2), none, .mov (.v (.nl 2))⟩] [0])
  (.seq
  (.reg [
     ⟨(some 5), none, .mov (.t 0)⟩,
     ⟨(some 6), none, .len (.t 5)⟩,
     ⟨(some 7), none, .makeSlice 2 16 [.i .i64 0, .i .i64 0] (.t 6) (.t 6)⟩,
     ⟨(some 3), none, .mov (.t 7)⟩] [0, 3])
  (.seq
  (.seq
   (.reg [
      ⟨(some 4), none, .mov (.v (.i .i64 0))⟩] [0, 3, 4])
   (.block 0
   (.loop [0, 3, 4]
    (.seq
     (.seq
      (.reg [
         ⟨(some 8), none, .mov (.t 4)⟩,
         ⟨(some 9), none, .mov (.t 0)⟩,
         ⟨(some 10), none, .len (.t 9)⟩,
         ⟨(some 11), none, .bin .lss (.t 8) (.t 10)⟩] [0, 3, 4, 11])
      (.cond (.t 11)
      (.skip)
      (.exit 0)))
     (.seq
     (.block 1
      (.reg [
         ⟨(some 14), none, .mov (.t 3)⟩,
         ⟨(some 15), none, .mov (.t 4)⟩,
         ⟨(some 16), none, .mov (.t 0)⟩,
         ⟨(some 17), none, .mov (.t 4)⟩,
         ⟨(some 18), none, .indexAddr 2 (.t 16) (.t 17)⟩,
         ⟨(some 19), none, .load true 2 (.t 18)⟩,
         ⟨(some 20), none, .call fid_laws_toEdge false [.im] [(.t 19)]⟩,
         ⟨(some 21), none, .indexAddr 2 (.t 14) (.t 15)⟩,
         ⟨none, none, .store 2 (.t 21) (.t 20)⟩] [0, 3, 4]))
     (.reg [
       ⟨(some 12), none, .mov (.t 4)⟩,
       ⟨(some 13), none, .bin .add (.t 12) (.v (.i .i64 1))⟩,
       ⟨(some 4), none, .mov (.t 13)⟩] [0, 3, 4]))))))
  (.seq
  (.reg [
     ⟨(some 22), none, .mov (.t 3)⟩,
     ⟨(some 2), none, .mov (.t 22)⟩] [2])
  (.ret))))
theorem get_laws_toEdgeS : Go.Proofs.Try.prog.funcs[fid_laws_toEdgeS]? = some Go.Proofs.Try.f32 := Go.Proofs.Try.func32
theorem ok_laws_toEdgeS : okFn Go.Proofs.Try.prog Go.Proofs.Try.f32 23 [] [(2, none)] mc_laws_toEdgeS = true := by kernel_rfl
def mc_laws_toEventS : MCode :=
 .seq
  (.reg [
     ⟨(some 2), none, .mov (.v (.nl 4))⟩] [0])
  (.seq
  (.reg [
     ⟨(some 5), none, .mov (.t 0)⟩,
     ⟨(some 6), none, .len (.t 5)⟩,
     ⟨(some 7), none, .makeSlice 4 32 [.i .i64 0, .i .i64 0, .i .i64 0, .b false] (.t 6) (.t 6)⟩,
     ⟨(some 3), none, .mov (.t 7)⟩] [0, 3])
  (.seq
  (.seq
   (.reg [
      ⟨(some 4), none, .mov (.v (.i .i64 0))⟩] [0, 3, 4])
   (.block 0
   (.loop [0, 3, 4]
    (.seq
     (.seq
      (.reg [
         ⟨(some 8), none, .mov (.t 4)⟩,
         ⟨(some 9), none, .mov (.t 0)⟩,
         ⟨(some 10), none, .len (.t 9)⟩,
         ⟨(some 11), none, .bin .lss (.t 8) (.t 10)⟩] [0, 3, 4, 11])
      (.cond (.t 11)
      (.skip)
      (.exit 0)))
     (.seq
     (.block 1
      (.reg [
         ⟨(some 14), none, .mov (.t 3)⟩,
         ⟨(some 15), none, .mov (.t 4)⟩,
         ⟨(some 16), none, .mov (.t 0)⟩,
         ⟨(some 17), none, .mov (.t 4)⟩,
         ⟨(some 18), none, .indexAddr 4 (.t 16) (.t 17)⟩,
         ⟨(some 19), none, .load true 4 (.t 18)⟩,
         ⟨(some 20), none, .call fid_laws_toEvent false [.im] [(.t 19)]⟩,
         ⟨(some 21), none, .indexAddr 4 (.t 14) (.t 15)⟩,
         ⟨none, none, .store 4 (.t 21) (.t 20)⟩] [0, 3, 4]))
     (.reg [
       ⟨(some 12), none, .mov (.t 4)⟩,
       ⟨(some 13), none, .bin .add (.t 12) (.v (.i .i64 1))⟩,
       ⟨(some 4), none, .mov (.t 13)⟩] [0, 3, 4]))))))
  (.seq
  (.reg [
     ⟨(some 22), none, .mov (.t 3)⟩,
     ⟨(some 2), none, .mov (.t 22)⟩] [2])
  (.ret))))
theorem get_laws_toEventS : Go.Proofs.Try.prog.funcs[fid_laws_toEventS]? = some Go.Proofs.Try.f33 := Go.Proofs.Try.func33
theorem ok_laws_toEventS : okFn Go.Proofs.Try.prog Go.Proofs.Try.f33 23 [] [(2, none)] mc_laws_toEventS = true := by kernel_rfl
def mc_laws_eqEdgeS : MCode :=
 .seq
  (.reg [
     ⟨(some 4), none, .mov (.v (.b false))⟩] [0, 1])
  (.seq
  (.seq
   (.reg [
      ⟨(some 6), none, .mov (.t 0)⟩,
      ⟨(some 7), none, .len (.t 6)⟩,
      ⟨(some 8), none, .mov (.t 1)⟩,
      ⟨(some 9), none, .len (.t 8)⟩,
      ⟨(some 10), none, .bin .neq (.t 7) (.t 9)⟩] [0, 1, 10])
   (.cond (.t 10)
   (.seq
    (.reg [
       ⟨(some 4), none, .mov (.v (.b false))⟩] [4])
    (.ret))
   (.skip)))
  (.seq
  (.seq
   (.reg [
      ⟨(some 5), none, .mov (.v (.i .i64 0))⟩] [0, 1, 5])
   (.block 0
   (.loop [0, 1, 5]
    (.seq
     (.seq
      (.reg [
         ⟨(some 11), none, .mov (.t 5)⟩,
         ⟨(some 12), none, .mov (.t 0)⟩,
         ⟨(some 13), none, .len (.t 12)⟩,
         ⟨(some 14), none, .bin .lss (.t 11) (.t 13)⟩] [0, 1, 5, 14])
      (.cond (.t 14)
      (.skip)
      (.exit 0)))
     (.seq
     (.block 1
      (.seq
       (.draw [0, 0, 3, 7, 0, 0, 48, 112, 255, 511] [
          ⟨(some 17), none, .mov (.t 0)⟩,
          ⟨(some 18), none, .mov (.t 5)⟩,
          ⟨(some 19), none, .indexAddr 2 (.t 17) (.t 18)⟩,
          ⟨(some 20), none, .load true 2 (.t 19)⟩,
          ⟨(some 21), none, .mov (.t 1)⟩,
          ⟨(some 22), none, .mov (.t 5)⟩,
          ⟨(some 23), none, .indexAddr 2 (.t 21) (.t 22)⟩,
          ⟨(some 24), none, .load true 2 (.t 23)⟩,
          ⟨(some 25), none, .call fid_laws_eqEdge false [.im, .im] [(.t 20), (.t 24)]⟩,
          ⟨(some 26), none, .un .not (.t 25)⟩] [0, 1, 5, 26])
       (.cond (.t 26)
       (.seq
        (.reg [
           ⟨(some 4), none, .mov (.v (.b false))⟩] [4])
        (.ret))
       (.skip))))
     (.reg [
       ⟨(some 15), none, .mov (.t 5)⟩,
       ⟨(some 16), none, .bin .add (.t 15) (.v (.i .i64 1))⟩,
       ⟨(some 5), none, .mov (.t 16)⟩] [0, 1, 5]))))))
  (.seq
  (.reg [
     ⟨(some 4), none, .mov (.v (.b true))⟩] [4])
  (.ret))))
theorem get_laws_eqEdgeS : Go.Proofs.Try.prog.funcs[fid_laws_eqEdgeS]? = some Go.Proofs.Try.f35 := Go.Proofs.Try.func35
theorem ok_laws_eqEdgeS : okFn Go.Proofs.Try.prog Go.Proofs.Try.f35 27 [] [(4, none)] mc_laws_eqEdgeS = true := by kernel_rfl
def mc_laws_eqEventS : MCode :=
 .seq
  (.reg [
     ⟨(some 4), none, .mov (.v (.b false))⟩] [0, 1])
  (.seq
  (.seq
   (.reg [
      ⟨(some 6), none, .mov (.t 0)⟩,
      ⟨(some 7), none, .len (.t 6)⟩,
      ⟨(some 8), none, .mov (.t 1)⟩,
      ⟨(some 9), none, .len (.t 8)⟩,
      ⟨(some 10), none, .bin .neq (.t 7) (.t 9)⟩] [0, 1, 10])
   (.cond (.t 10)
   (.seq
    (.reg [
       ⟨(some 4), none, .mov (.v (.b false))⟩] [4])
    (.ret))
   (.skip)))
  (.seq
  (.seq
   (.reg [
      ⟨(some 5), none, .mov (.v (.i .i64 0))⟩] [0, 1, 5])
   (.block 0
   (.loop [0, 1, 5]
    (.seq
     (.seq
      (.reg [
         ⟨(some 11), none, .mov (.t 5)⟩,
         ⟨(some 12), none, .mov (.t 0)⟩,
         ⟨(some 13), none, .len (.t 12)⟩,
         ⟨(some 14), none, .bin .lss (.t 11) (.t 13)⟩] [0, 1, 5, 14])
      (.cond (.t 14)
      (.skip)
      (.exit 0)))
     (.seq
     (.block 1
      (.seq
       (.draw [0, 0, 3, 7, 0, 0, 48, 112, 255, 511] [
          ⟨(some 17), none, .mov (.t 0)⟩,
          ⟨(some 18), none, .mov (.t 5)⟩,
          ⟨(some 19), none, .indexAddr 4 (.t 17) (.t 18)⟩,
          ⟨(some 20), none, .load true 4 (.t 19)⟩,
          ⟨(some 21), none, .mov (.t 1)⟩,
          ⟨(some 22), none, .mov (.t 5)⟩,
          ⟨(some 23), none, .indexAddr 4 (.t 21) (.t 22)⟩,
          ⟨(some 24), none, .load true 4 (.t 23)⟩,
          ⟨(some 25), none, .call fid_laws_eqEvent false [.im, .im] [(.t 20), (.t 24)]⟩,
          ⟨(some 26), none, .un .not (.t 25)⟩] [0, 1, 5, 26])
       (.cond (.t 26)
       (.seq
        (.reg [
           ⟨(some 4), none, .mov (.v (.b false))⟩] [4])
        (.ret))
       (.skip))))
     (.reg [
       ⟨(some 15), none, .mov (.t 5)⟩,
       ⟨(some 16), none, .bin .add (.t 15) (.v (.i .i64 1))⟩,
       ⟨(some 5), none, .mov (.t 16)⟩] [0, 1, 5]))))))
  (.seq
  (.reg [
     ⟨(some 4), none, .mov (.v (.b true))⟩] [4])
  (.ret))))
theorem get_laws_eqEventS : Go.Proofs.Try.prog.funcs[fid_laws_eqEventS]? = some Go.Proofs.Try.f36 := Go.Proofs.Try.func36
theorem ok_laws_eqEventS : okFn Go.Proofs.Try.prog Go.Proofs.Try.f36 27 [] [(4, none)] mc_laws_eqEventS = true := by kernel_rfl
def mc_laws_markEdgeS : MCode :=
 .seq
  (.reg [
     ⟨(some 4), none, .mov (.v (.i .i64 0))⟩] [0, 1])
  (.seq
  (.seq
   (.reg [
      ⟨(some 5), none, .mov (.v (.i .i64 0))⟩] [0, 1, 5])
   (.block 0
   (.loop [0, 1, 5]
    (.seq
     (.seq
      (.reg [
         ⟨(some 6), none, .mov (.t 5)⟩,
         ⟨(some 7), none, .mov (.t 0)⟩,
         ⟨(some 8), none, .len (.t 7)⟩,
         ⟨(some 9), none, .bin .lss (.t 6) (.t 8)⟩] [0, 1, 5, 9])
      (.cond (.t 9)
      (.skip)
      (.exit 0)))
     (.seq
     (.block 1
      (.seq
       (.reg [
          ⟨(some 12), none, .mov (.t 0)⟩,
          ⟨(some 13), none, .mov (.t 5)⟩,
          ⟨(some 14), none, .mov (.t 1)⟩,
          ⟨(some 15), none, .indexAddr 2 (.t 12) (.t 13)⟩,
          ⟨(some 16), none, .fieldAddr 0 (.t 15)⟩,
          ⟨none, none, .store 1 (.t 16) (.t 14)⟩] [0, 1, 5])
       (.seq
       (.reg [
          ⟨(some 17), none, .mov (.t 1)⟩,
          ⟨(some 18), none, .bin .add (.t 17) (.v (.i .i64 1))⟩,
          ⟨(some 1), none, .mov (.t 18)⟩] [0, 1, 5])
       (.seq
       (.reg [
          ⟨(some 19), none, .mov (.t 0)⟩,
          ⟨(some 20), none, .mov (.t 5)⟩,
          ⟨(some 21), none, .mov (.t 1)⟩,
          ⟨(some 22), none, .indexAddr 2 (.t 19) (.t 20)⟩,
          ⟨(some 23), none, .fieldAddr 1 (.t 22)⟩,
          ⟨none, none, .store 1 (.t 23) (.t 21)⟩] [0, 1, 5])
       (.reg [
         ⟨(some 24), none, .mov (.t 1)⟩,
         ⟨(some 25), none, .bin .add (.t 24) (.v (.i .i64 1))⟩,
         ⟨(some 1), none, .mov (.t 25)⟩] [0, 1, 5])))))
     (.reg [
       ⟨(some 10), none, .mov (.t 5)⟩,
       ⟨(some 11), none, .bin .add (.t 10) (.v (.i .i64 1))⟩,
       ⟨(some 5), none, .mov (.t 11)⟩] [0, 1, 5]))))))
  (.seq
  (.reg [
     ⟨(some 26), none, .mov (.t 1)⟩,
     ⟨(some 4), none, .mov (.t 26)⟩] [0, 4])
  (.ret)))
theorem get_laws_markEdgeS : Go.Proofs.Try.prog.funcs[fid_laws_markEdgeS]? = some Go.Proofs.Try.f37 := Go.Proofs.Try.func37
theorem ok_laws_markEdgeS : okFn Go.Proofs.Try.prog Go.Proofs.Try.f37 27 [0] [(4, none)] mc_laws_markEdgeS = true := by kernel_rfl
def mc_laws_markEventS : MCode :=
 .seq
  (.reg [
     ⟨(some 4), none, .mov (.v (.i .i64 0))⟩] [0, 1])
  (.seq
  (.seq
   (.reg [
      ⟨(some 5), none, .mov (.v (.i .i64 0))⟩] [0, 1, 5])
   (.block 0
   (.loop [0, 1, 5]
    (.seq
     (.seq
      (.reg [
         ⟨(some 6), none, .mov (.t 5)⟩,
         ⟨(some 7), none, .mov (.t 0)⟩,
         ⟨(some 8), none, .len (.t 7)⟩,
         ⟨(some 9), none, .bin .lss (.t 6) (.t 8)⟩] [0, 1, 5, 9])
      (.cond (.t 9)
      (.skip)
      (.exit 0)))
     (.seq
     (.block 1
      (.seq
       (.reg [
          ⟨(some 12), none, .mov (.t 0)⟩,
          ⟨(some 13), none, .mov (.t 5)⟩,
          ⟨(some 14), none, .mov (.t 1)⟩,
          ⟨(some 15), none, .indexAddr 4 (.t 12) (.t 13)⟩,
          ⟨(some 16), none, .fieldAddr 0 (.t 15)⟩,
          ⟨none, none, .store 1 (.t 16) (.t 14)⟩] [0, 1, 5])
       (.seq
       (.reg [
          ⟨(some 17), none, .mov (.t 1)⟩,
          ⟨(some 18), none, .bin .add (.t 17) (.v (.i .i64 1))⟩,
          ⟨(some 1), none, .mov (.t 18)⟩] [0, 1, 5])
       (.seq
       (.reg [
          ⟨(some 19), none, .mov (.t 0)⟩,
          ⟨(some 20), none, .mov (.t 5)⟩,
          ⟨(some 21), none, .mov (.t 1)⟩,
          ⟨(some 22), none, .indexAddr 4 (.t 19) (.t 20)⟩,
          ⟨(some 23), none, .fieldAddr 1 (.t 22)⟩,
          ⟨(some 24), none, .fieldAddr 0 (.t 23)⟩,
          ⟨none, none, .store 1 (.t 24) (.t 21)⟩] [0, 1, 5])
       (.seq
       (.reg [
          ⟨(some 25), none, .mov (.t 1)⟩,
          ⟨(some 26), none, .bin .add (.t 25) (.v (.i .i64 1))⟩,
          ⟨(some 1), none, .mov (.t 26)⟩] [0, 1, 5])
       (.seq
       (.reg [
          ⟨(some 27), none, .mov (.t 0)⟩,
          ⟨(some 28), none, .mov (.t 5)⟩,
          ⟨(some 29), none, .mov (.t 1)⟩,
          ⟨(some 30), none, .indexAddr 4 (.t 27) (.t 28)⟩,
          ⟨(some 31), none, .fieldAddr 1 (.t 30)⟩,
          ⟨(some 32), none, .fieldAddr 1 (.t 31)⟩,
          ⟨none, none, .store 1 (.t 32) (.t 29)⟩] [0, 1, 5])
       (.seq
       (.reg [
          ⟨(some 33), none, .mov (.t 1)⟩,
          ⟨(some 34), none, .bin .add (.t 33) (.v (.i .i64 1))⟩,
          ⟨(some 1), none, .mov (.t 34)⟩] [0, 1, 5])
       (.seq
       (.reg [
          ⟨(some 35), none, .mov (.t 0)⟩,
          ⟨(some 36), none, .mov (.t 5)⟩,
          ⟨(some 37), none, .mov (.t 1)⟩,
          ⟨(some 38), none, .bin .rem (.t 37) (.v (.i .i64 3))⟩,
          ⟨(some 39), none, .bin .eql (.t 38) (.v (.i .i64 0))⟩,
          ⟨(some 40), none, .indexAddr 4 (.t 35) (.t 36)⟩,
          ⟨(some 41), none, .fieldAddr 3 (.t 40)⟩,
          ⟨none, none, .store 1 (.t 41) (.t 39)⟩] [0, 1, 5])
       (.reg [
         ⟨(some 42), none, .mov (.t 1)⟩,
         ⟨(some 43), none, .bin .add (.t 42) (.v (.i .i64 1))⟩,
         ⟨(some 1), none, .mov (.t 43)⟩] [0, 1, 5])))))))))
     (.reg [
       ⟨(some 10), none, .mov (.t 5)⟩,
       ⟨(some 11), none, .bin .add (.t 10) (.v (.i .i64 1))⟩,
       ⟨(some 5), none, .mov (.t 11)⟩] [0, 1, 5]))))))
  (.seq
  (.reg [
     ⟨(some 44), none, .mov (.t 1)⟩,
     ⟨(some 4), none, .mov (.t 44)⟩] [0, 4])
  (.ret)))
theorem get_laws_markEventS : Go.Proofs.Try.prog.funcs[fid_laws_markEventS]? = some Go.Proofs.Try.f38 := Go.Proofs.Try.func38
theorem ok_laws_markEventS : okFn Go.Proofs.Try.prog Go.Proofs.Try.f38 45 [0] [(4, none)] mc_laws_markEventS = true := by kernel_rfl
def mc_laws_heldEdgeS : MCode :=
 .seq
  (.reg [
     ⟨(some 4), none, .mov (.v (.i .i64 0))⟩] [0, 1])
  (.seq
  (.seq
   (.reg [
      ⟨(some 5), none, .mov (.v (.i .i64 0))⟩] [0, 1, 5])
   (.block 0
   (.loop [0, 1, 5]
    (.seq
     (.seq
      (.reg [
         ⟨(some 6), none, .mov (.t 5)⟩,
         ⟨(some 7), none, .mov (.t 0)⟩,
         ⟨(some 8), none, .len (.t 7)⟩,
         ⟨(some 9), none, .bin .lss (.t 6) (.t 8)⟩] [0, 1, 5, 9])
      (.cond (.t 9)
      (.skip)
      (.exit 0)))
     (.seq
     (.block 1
      (.seq
       (.seq
        (.reg [
           ⟨(some 12), none, .mov (.t 0)⟩,
           ⟨(some 13), none, .mov (.t 5)⟩,
           ⟨(some 14), none, .indexAddr 2 (.t 12) (.t 13)⟩,
           ⟨(some 15), none, .fieldAddr 0 (.t 14)⟩,
           ⟨(some 16), none, .load false 1 (.t 15)⟩,
           ⟨(some 17), none, .mov (.t 1)⟩,
           ⟨(some 18), none, .bin .neq (.t 16) (.t 17)⟩] [0, 1, 5, 18])
        (.cond (.t 18)
        (.seq
         (.reg [
            ⟨(some 4), none, .mov (.v (.i .i64 (-1)))⟩] [4])
         (.ret))
        (.skip)))
       (.seq
       (.reg [
          ⟨(some 19), none, .mov (.t 1)⟩,
          ⟨(some 20), none, .bin .add (.t 19) (.v (.i .i64 1))⟩,
          ⟨(some 1), none, .mov (.t 20)⟩] [0, 1, 5])
       (.seq
       (.seq
        (.reg [
           ⟨(some 21), none, .mov (.t 0)⟩,
           ⟨(some 22), none, .mov (.t 5)⟩,
           ⟨(some 23), none, .indexAddr 2 (.t 21) (.t 22)⟩,
           ⟨(some 24), none, .fieldAddr 1 (.t 23)⟩,
           ⟨(some 25), none, .load false 1 (.t 24)⟩,
           ⟨(some 26), none, .mov (.t 1)⟩,
           ⟨(some 27), none, .bin .neq (.t 25) (.t 26)⟩] [0, 1, 5, 27])
        (.cond (.t 27)
        (.seq
         (.reg [
            ⟨(some 4), none, .mov (.v (.i .i64 (-1)))⟩] [4])
         (.ret))
        (.skip)))
       (.reg [
         ⟨(some 28), none, .mov (.t 1)⟩,
         ⟨(some 29), none, .bin .add (.t 28) (.v (.i .i64 1))⟩,
         ⟨(some 1), none, .mov (.t 29)⟩] [0, 1, 5])))))
     (.reg [
       ⟨(some 10), none, .mov (.t 5)⟩,
       ⟨(some 11), none, .bin .add (.t 10) (.v (.i .i64 1))⟩,
       ⟨(some 5), none, .mov (.t 11)⟩] [0, 1, 5]))))))
  (.seq
  (.reg [
     ⟨(some 30), none, .mov (.t 1)⟩,
     ⟨(some 4), none, .mov (.t 30)⟩] [4])
  (.ret)))
theorem get_laws_heldEdgeS : Go.Proofs.Try.prog.funcs[fid_laws_heldEdgeS]? = some Go.Proofs.Try.f39 := Go.Proofs.Try.func39
theorem ok_laws_heldEdgeS : okFn Go.Proofs.Try.prog Go.Proofs.Try.f39 31 [] [(4, none)] mc_laws_heldEdgeS = true := by kernel_rfl
def mc_laws_dyEdges : MCode :=
 .seq
  (.reg [
     ⟨(some 4), none, .mov (.v (.b false))⟩] [0, 1])
  (.seq
  (.seq
   (.reg [
      ⟨(some 6), none, .mov (.t 0)⟩,
      ⟨(some 7), none, .len (.t 6)⟩,
      ⟨(some 8), none, .mov (.t 1)⟩,
      ⟨(some 9), none, .len (.t 8)⟩,
      ⟨(some 10), none, .bin .neq (.t 7) (.t 9)⟩] [0, 1, 10])
   (.cond (.t 10)
   (.seq
    (.reg [
       ⟨(some 4), none, .mov (.v (.b false))⟩] [4])
    (.ret))
   (.skip)))
  (.seq
  (.seq
   (.reg [
      ⟨(some 5), none, .mov (.v (.i .i64 0))⟩] [0, 1, 5])
   (.block 0
   (.loop [0, 1, 5]
    (.seq
     (.seq
      (.reg [
         ⟨(some 11), none, .mov (.t 5)⟩,
         ⟨(some 12), none, .mov (.t 0)⟩,
         ⟨(some 13), none, .len (.t 12)⟩,
         ⟨(some 14), none, .bin .lss (.t 11) (.t 13)⟩] [0, 1, 5, 14])
      (.cond (.t 14)
      (.skip)
      (.exit 0)))
     (.seq
     (.block 1
      (.seq
       (.draw [0, 0, 3, 7, 0, 0, 48, 112, 255] [
          ⟨(some 17), none, .mov (.t 0)⟩,
          ⟨(some 18), none, .mov (.t 5)⟩,
          ⟨(some 19), none, .indexAddr 2 (.t 17) (.t 18)⟩,
          ⟨(some 20), none, .load true 2 (.t 19)⟩,
          ⟨(some 21), none, .mov (.t 1)⟩,
          ⟨(some 22), none, .mov (.t 5)⟩,
          ⟨(some 23), none, .indexAddr 2 (.t 21) (.t 22)⟩,
          ⟨(some 24), none, .load true 2 (.t 23)⟩,
          ⟨(some 25), none, .eqAgg true [true, true] (.t 20) (.t 24)⟩] [0, 1, 5, 25])
       (.cond (.t 25)
       (.seq
        (.reg [
           ⟨(some 4), none, .mov (.v (.b false))⟩] [4])
        (.ret))
       (.skip))))
     (.reg [
       ⟨(some 15), none, .mov (.t 5)⟩,
       ⟨(some 16), none, .bin .add (.t 15) (.v (.i .i64 1))⟩,
       ⟨(some 5), none, .mov (.t 16)⟩] [0, 1, 5]))))))
  (.seq
  (.reg [
     ⟨(some 4), none, .mov (.v (.b true))⟩] [4])
  (.ret))))
theorem get_laws_dyEdges : Go.Proofs.Try.prog.funcs[fid_laws_dyEdges]? = some Go.Proofs.Try.f41 := Go.Proofs.Try.func41
theorem ok_laws_dyEdges : okFn Go.Proofs.Try.prog Go.Proofs.Try.f41 26 [] [(4, none)] mc_laws_dyEdges = true := by kernel_rfl
def mc_laws_heldEventS : MCode :=
 .seq
  (.reg [
     ⟨(some 4), none, .mov (.v (.i .i64 0))⟩] [0, 1])
  (.seq
  (.seq
   (.reg [
      ⟨(some 5), none, .mov (.v (.i .i64 0))⟩] [0, 1, 5])
   (.block 0
   (.loop [0, 1, 5]
    (.seq
     (.seq
      (.reg [
         ⟨(some 6), none, .mov (.t 5)⟩,
         ⟨(some 7), none, .mov (.t 0)⟩,
         ⟨(some 8), none, .len (.t 7)⟩,
         ⟨(some 9), none, .bin .lss (.t 6) (.t 8)⟩] [0, 1, 5, 9])
      (.cond (.t 9)
      (.skip)
      (.exit 0)))
     (.seq
     (.block 1
      (.seq
       (.seq
        (.reg [
           ⟨(some 12), none, .mov (.t 0)⟩,
           ⟨(some 13), none, .mov (.t 5)⟩,
           ⟨(some 14), none, .indexAddr 4 (.t 12) (.t 13)⟩,
           ⟨(some 15), none, .fieldAddr 0 (.t 14)⟩,
           ⟨(some 16), none, .load false 1 (.t 15)⟩,
           ⟨(some 17), none, .mov (.t 1)⟩,
           ⟨(some 18), none, .bin .neq (.t 16) (.t 17)⟩] [0, 1, 5, 18])
        (.cond (.t 18)
        (.seq
         (.reg [
            ⟨(some 4), none, .mov (.v (.i .i64 (-1)))⟩] [4])
         (.ret))
        (.skip)))
       (.seq
       (.reg [
          ⟨(some 19), none, .mov (.t 1)⟩,
          ⟨(some 20), none, .bin .add (.t 19) (.v (.i .i64 1))⟩,
          ⟨(some 1), none, .mov (.t 20)⟩] [0, 1, 5])
       (.seq
       (.seq
        (.reg [
           ⟨(some 21), none, .mov (.t 0)⟩,
           ⟨(some 22), none, .mov (.t 5)⟩,
           ⟨(some 23), none, .indexAddr 4 (.t 21) (.t 22)⟩,
           ⟨(some 24), none, .fieldAddr 1 (.t 23)⟩,
           ⟨(some 25), none, .fieldAddr 0 (.t 24)⟩,
           ⟨(some 26), none, .load false 1 (.t 25)⟩,
           ⟨(some 27), none, .mov (.t 1)⟩,
           ⟨(some 28), none, .bin .neq (.t 26) (.t 27)⟩] [0, 1, 5, 28])
        (.cond (.t 28)
        (.seq
         (.reg [
            ⟨(some 4), none, .mov (.v (.i .i64 (-1)))⟩] [4])
         (.ret))
        (.skip)))
       (.seq
       (.reg [
          ⟨(some 29), none, .mov (.t 1)⟩,
          ⟨(some 30), none, .bin .add (.t 29) (.v (.i .i64 1))⟩,
          ⟨(some 1), none, .mov (.t 30)⟩] [0, 1, 5])
       (.seq
       (.seq
        (.reg [
           ⟨(some 31), none, .mov (.t 0)⟩,
           ⟨(some 32), none, .mov (.t 5)⟩,
           ⟨(some 33), none, .indexAddr 4 (.t 31) (.t 32)⟩,
           ⟨(some 34), none, .fieldAddr 1 (.t 33)⟩,
           ⟨(some 35), none, .fieldAddr 1 (.t 34)⟩,
           ⟨(some 36), none, .load false 1 (.t 35)⟩,
           ⟨(some 37), none, .mov (.t 1)⟩,
           ⟨(some 38), none, .bin .neq (.t 36) (.t 37)⟩] [0, 1, 5, 38])
        (.cond (.t 38)
        (.seq
         (.reg [
            ⟨(some 4), none, .mov (.v (.i .i64 (-1)))⟩] [4])
         (.ret))
        (.skip)))
       (.seq
       (.reg [
          ⟨(some 39), none, .mov (.t 1)⟩,
          ⟨(some 40), none, .bin .add (.t 39) (.v (.i .i64 1))⟩,
          ⟨(some 1), none, .mov (.t 40)⟩] [0, 1, 5])
       (.seq
       (.seq
        (.reg [
           ⟨(some 41), none, .mov (.t 0)⟩,
           ⟨(some 42), none, .mov (.t 5)⟩,
           ⟨(some 43), none, .indexAddr 4 (.t 41) (.t 42)⟩,
           ⟨(some 44), none, .fieldAddr 3 (.t 43)⟩,
           ⟨(some 45), none, .load false 1 (.t 44)⟩,
           ⟨(some 46), none, .mov (.t 1)⟩,
           ⟨(some 47), none, .bin .rem (.t 46) (.v (.i .i64 3))⟩,
           ⟨(some 48), none, .bin .eql (.t 47) (.v (.i .i64 0))⟩,
           ⟨(some 49), none, .binb true (.t 45) (.t 48)⟩] [0, 1, 5, 49])
        (.cond (.t 49)
        (.seq
         (.reg [
            ⟨(some 4), none, .mov (.v (.i .i64 (-1)))⟩] [4])
         (.ret))
        (.skip)))
       (.reg [
         ⟨(some 50), none, .mov (.t 1)⟩,
         ⟨(some 51), none, .bin .add (.t 50) (.v (.i .i64 1))⟩,
         ⟨(some 1), none, .mov (.t 51)⟩] [0, 1, 5])))))))))
     (.reg [
       ⟨(some 10), none, .mov (.t 5)⟩,
       ⟨(some 11), none, .bin .add (.t 10) (.v (.i .i64 1))⟩,
       ⟨(some 5), none, .mov (.t 11)⟩] [0, 1, 5]))))))
  (.seq
  (.reg [
     ⟨(some 52), none, .mov (.t 1)⟩,
     ⟨(some 4), none, .mov (.t 52)⟩] [4])
  (.ret)))
theorem get_laws_heldEventS : Go.Proofs.Try.prog.funcs[fid_laws_heldEventS]? = some Go.Proofs.Try.f44 := Go.Proofs.Try.func44
theorem ok_laws_heldEventS : okFn Go.Proofs.Try.prog Go.Proofs.Try.f44 53 [] [(4, none)] mc_laws_heldEventS = true := by kernel_rfl
def mc_laws_dyEvents : MCode :=
 .seq
  (.reg [
     ⟨(some 4), none, .mov (.v (.b false))⟩] [0, 1])
  (.seq
  (.seq
   (.reg [
      ⟨(some 6), none, .mov (.t 0)⟩,
      ⟨(some 7), none, .len (.t 6)⟩,
      ⟨(some 8), none, .mov (.t 1)⟩,
      ⟨(some 9), none, .len (.t 8)⟩,
      ⟨(some 10), none, .bin .neq (.t 7) (.t 9)⟩] [0, 1, 10])
   (.cond (.t 10)
   (.seq
    (.reg [
       ⟨(some 4), none, .mov (.v (.b false))⟩] [4])
    (.ret))
   (.skip)))
  (.seq
  (.seq
   (.reg [
      ⟨(some 5), none, .mov (.v (.i .i64 0))⟩] [0, 1, 5])
   (.block 0
   (.loop [0, 1, 5]
    (.seq
     (.seq
      (.reg [
         ⟨(some 11), none, .mov (.t 5)⟩,
         ⟨(some 12), none, .mov (.t 0)⟩,
         ⟨(some 13), none, .len (.t 12)⟩,
         ⟨(some 14), none, .bin .lss (.t 11) (.t 13)⟩] [0, 1, 5, 14])
      (.cond (.t 14)
      (.skip)
      (.exit 0)))
     (.seq
     (.block 1
      (.seq
       (.draw [0, 0, 3, 7, 0, 0, 48, 112, 255] [
          ⟨(some 17), none, .mov (.t 0)⟩,
          ⟨(some 18), none, .mov (.t 5)⟩,
          ⟨(some 19), none, .indexAddr 4 (.t 17) (.t 18)⟩,
          ⟨(some 20), none, .load true 4 (.t 19)⟩,
          ⟨(some 21), none, .mov (.t 1)⟩,
          ⟨(some 22), none, .mov (.t 5)⟩,
          ⟨(some 23), none, .indexAddr 4 (.t 21) (.t 22)⟩,
          ⟨(some 24), none, .load true 4 (.t 23)⟩,
          ⟨(some 25), none, .eqAgg true [true, true, true, false] (.t 20) (.t 24)⟩] [0, 1, 5, 25])
       (.cond (.t 25)
       (.seq
        (.reg [
           ⟨(some 4), none, .mov (.v (.b false))⟩] [4])
        (.ret))
       (.skip))))
     (.reg [
       ⟨(some 15), none, .mov (.t 5)⟩,
       ⟨(some 16), none, .bin .add (.t 15) (.v (.i .i64 1))⟩,
       ⟨(some 5), none, .mov (.t 16)⟩] [0, 1, 5]))))))
  (.seq
  (.reg [
     ⟨(some 4), none, .mov (.v (.b true))⟩] [4])
  (.ret))))
theorem get_laws_dyEvents : Go.Proofs.Try.prog.funcs[fid_laws_dyEvents]? = some Go.Proofs.Try.f46 := Go.Proofs.Try.func46
theorem ok_laws_dyEvents : okFn Go.Proofs.Try.prog Go.Proofs.Try.f46 26 [] [(4, none)] mc_laws_dyEvents = true := by kernel_rfl
def mc_laws_eqEdgeSS : MCode :=
 .seq
  (.reg [
     ⟨(some 4), none, .mov (.v (.b false))⟩] [0, 1])
  (.seq
  (.seq
   (.reg [
      ⟨(some 6), none, .mov (.t 0)⟩,
      ⟨(some 7), none, .len (.t 6)⟩,
      ⟨(some 8), none, .mov (.t 1)⟩,
      ⟨(some 9), none, .len (.t 8)⟩,
      ⟨(some 10), none, .bin .neq (.t 7) (.t 9)⟩] [0, 1, 10])
   (.cond (.t 10)
   (.seq
    (.reg [
       ⟨(some 4), none, .mov (.v (.b false))⟩] [4])
    (.ret))
   (.skip)))
  (.seq
  (.seq
   (.reg [
      ⟨(some 5), none, .mov (.v (.i .i64 0))⟩] [0, 1, 5])
   (.block 0
   (.loop [0, 1, 5]
    (.seq
     (.seq
      (.reg [
         ⟨(some 11), none, .mov (.t 5)⟩,
         ⟨(some 12), none, .mov (.t 0)⟩,
         ⟨(some 13), none, .len (.t 12)⟩,
         ⟨(some 14), none, .bin .lss (.t 11) (.t 13)⟩] [0, 1, 5, 14])
      (.cond (.t 14)
      (.skip)
      (.exit 0)))
     (.seq
     (.block 1
      (.seq
       (.draw [0, 0, 3, 7, 0, 0, 48, 112, 255, 511] [
          ⟨(some 17), none, .mov (.t 0)⟩,
          ⟨(some 18), none, .mov (.t 5)⟩,
          ⟨(some 19), none, .indexAddr 1 (.t 17) (.t 18)⟩,
          ⟨(some 20), none, .load false 1 (.t 19)⟩,
          ⟨(some 21), none, .mov (.t 1)⟩,
          ⟨(some 22), none, .mov (.t 5)⟩,
          ⟨(some 23), none, .indexAddr 1 (.t 21) (.t 22)⟩,
          ⟨(some 24), none, .load false 1 (.t 23)⟩,
          ⟨(some 25), none, .call fid_laws_eqEdgeS false [.im, .im] [(.t 20), (.t 24)]⟩,
          ⟨(some 26), none, .un .not (.t 25)⟩] [0, 1, 5, 26])
       (.cond (.t 26)
       (.seq
        (.reg [
           ⟨(some 4), none, .mov (.v (.b false))⟩] [4])
        (.ret))
       (.skip))))
     (.reg [
       ⟨(some 15), none, .mov (.t 5)⟩,
       ⟨(some 16), none, .bin .add (.t 15) (.v (.i .i64 1))⟩,
       ⟨(some 5), none, .mov (.t 16)⟩] [0, 1, 5]))))))
  (.seq
  (.reg [
     ⟨(some 4), none, .mov (.v (.b true))⟩] [4])
  (.ret))))
theorem get_laws_eqEdgeSS : Go.Proofs.Try.prog.funcs[fid_laws_eqEdgeSS]? = some Go.Proofs.Try.f50 := Go.Proofs.Try.func50
theorem ok_laws_eqEdgeSS : okFn Go.Proofs.Try.prog Go.Proofs.Try.f50 27 [] [(4, none)] mc_laws_eqEdgeSS = true := by kernel_rfl
def mc_laws_markEdgeSS : MCode :=
 .seq
  (.reg [
     ⟨(some 4), none, .mov (.v (.i .i64 0))⟩] [0, 1])
  (.seq
  (.seq
   (.reg [
      ⟨(some 5), none, .mov (.v (.i .i64 0))⟩] [0, 1, 5])
   (.block 0
   (.loop [0, 1, 5]
    (.seq
     (.seq
      (.reg [
         ⟨(some 6), none, .mov (.t 5)⟩,
         ⟨(some 7), none, .mov (.t 0)⟩,
         ⟨(some 8), none, .len (.t 7)⟩,
         ⟨(some 9), none, .bin .lss (.t 6) (.t 8)⟩] [0, 1, 5, 9])
      (.cond (.t 9)
      (.skip)
      (.exit 0)))
     (.seq
     (.block 1
      (.reg [
         ⟨(some 12), none, .mov (.t 0)⟩,
         ⟨(some 13), none, .mov (.t 5)⟩,
         ⟨(some 14), none, .indexAddr 1 (.t 12) (.t 13)⟩,
         ⟨(some 15), none, .load false 1 (.t 14)⟩,
         ⟨(some 16), none, .mov (.t 1)⟩,
         ⟨(some 17), none, .call fid_laws_markEdgeS false [.io, .im] [(.t 15), (.t 16)]⟩,
         ⟨(some 1), none, .mov (.t 17)⟩] [0, 1, 5]))
     (.reg [
       ⟨(some 10), none, .mov (.t 5)⟩,
       ⟨(some 11), none, .bin .add (.t 10) (.v (.i .i64 1))⟩,
       ⟨(some 5), none, .mov (.t 11)⟩] [0, 1, 5]))))))
  (.seq
  (.reg [
     ⟨(some 18), none, .mov (.t 1)⟩,
     ⟨(some 4), none, .mov (.t 18)⟩] [4])
  (.ret)))
theorem get_laws_markEdgeSS : Go.Proofs.Try.prog.funcs[fid_laws_markEdgeSS]? = some Go.Proofs.Try.f51 := Go.Proofs.Try.func51
theorem ok_laws_markEdgeSS : okFn Go.Proofs.Try.prog Go.Proofs.Try.f51 19 [] [(4, none)] mc_laws_markEdgeSS = true := by kernel_rfl
def mc_laws_heldEdgeSS : MCode :=
 .seq
  (.reg [
     ⟨(some 4), none, .mov (.v (.i .i64 0))⟩] [0, 1])
  (.seq
  (.seq
   (.reg [
      ⟨(some 5), none, .mov (.v (.i .i64 0))⟩] [0, 1, 5])
   (.block 0
   (.loop [0, 1, 5]
    (.seq
     (.seq
      (.reg [
         ⟨(some 6), none, .mov (.t 5)⟩,
         ⟨(some 7), none, .mov (.t 0)⟩,
         ⟨(some 8), none, .len (.t 7)⟩,
         ⟨(some 9), none, .bin .lss (.t 6) (.t 8)⟩] [0, 1, 5, 9])
      (.cond (.t 9)
      (.skip)
      (.exit 0)))
     (.seq
     (.block 1
      (.seq
       (.reg [
          ⟨(some 12), none, .mov (.t 0)⟩,
          ⟨(some 13), none, .mov (.t 5)⟩,
          ⟨(some 14), none, .indexAddr 1 (.t 12) (.t 13)⟩,
          ⟨(some 15), none, .load false 1 (.t 14)⟩,
          ⟨(some 16), none, .mov (.t 1)⟩,
          ⟨(some 17), none, .call fid_laws_heldEdgeS false [.im, .im] [(.t 15), (.t 16)]⟩,
          ⟨(some 1), none, .mov (.t 17)⟩] [0, 1, 5])
       (.seq
       (.reg [
          ⟨(some 18), none, .mov (.t 1)⟩,
          ⟨(some 19), none, .bin .lss (.t 18) (.v (.i .i64 0))⟩] [0, 1, 5, 19])
       (.cond (.t 19)
       (.seq
        (.reg [
           ⟨(some 4), none, .mov (.v (.i .i64 (-1)))⟩] [4])
        (.ret))
       (.skip)))))
     (.reg [
       ⟨(some 10), none, .mov (.t 5)⟩,
       ⟨(some 11), none, .bin .add (.t 10) (.v (.i .i64 1))⟩,
       ⟨(some 5), none, .mov (.t 11)⟩] [0, 1, 5]))))))
  (.seq
  (.reg [
     ⟨(some 20), none, .mov (.t 1)⟩,
     ⟨(some 4), none, .mov (.t 20)⟩] [4])
  (.ret)))
theorem get_laws_heldEdgeSS : Go.Proofs.Try.prog.funcs[fid_laws_heldEdgeSS]? = some Go.Proofs.Try.f52 := Go.Proofs.Try.func52
theorem ok_laws_heldEdgeSS : okFn Go.Proofs.Try.prog Go.Proofs.Try.f52 21 [] [(4, none)] mc_laws_heldEdgeSS = true := by kernel_rfl
def mc_laws_dyBlocks : MCode :=
 .seq
  (.reg [
     ⟨(some 4), none, .mov (.v (.b false))⟩] [0, 1])
  (.seq
  (.seq
   (.reg [
      ⟨(some 6), none, .mov (.t 0)⟩,
      ⟨(some 7), none, .len (.t 6)⟩,
      ⟨(some 8), none, .mov (.t 1)⟩,
      ⟨(some 9), none, .len (.t 8)⟩,
      ⟨(some 10), none, .bin .neq (.t 7) (.t 9)⟩] [0, 1, 10])
   (.cond (.t 10)
   (.seq
    (.reg [
       ⟨(some 4), none, .mov (.v (.b false))⟩] [4])
    (.ret))
   (.skip)))
  (.seq
  (.seq
   (.reg [
      ⟨(some 5), none, .mov (.v (.i .i64 0))⟩] [0, 1, 5])
   (.block 0
   (.loop [0, 1, 5]
    (.seq
     (.seq
      (.reg [
         ⟨(some 11), none, .mov (.t 5)⟩,
         ⟨(some 12), none, .mov (.t 0)⟩,
         ⟨(some 13), none, .len (.t 12)⟩,
         ⟨(some 14), none, .bin .lss (.t 11) (.t 13)⟩] [0, 1, 5, 14])
      (.cond (.t 14)
      (.skip)
      (.exit 0)))
     (.seq
     (.block 1
      (.seq
       (.draw [0, 0, 3, 7, 0, 0, 48, 112, 255, 511] [
          ⟨(some 17), none, .mov (.t 0)⟩,
          ⟨(some 18), none, .mov (.t 5)⟩,
          ⟨(some 19), none, .indexAddr 1 (.t 17) (.t 18)⟩,
          ⟨(some 20), none, .load false 1 (.t 19)⟩,
          ⟨(some 21), none, .mov (.t 1)⟩,
          ⟨(some 22), none, .mov (.t 5)⟩,
          ⟨(some 23), none, .indexAddr 1 (.t 21) (.t 22)⟩,
          ⟨(some 24), none, .load false 1 (.t 23)⟩,
          ⟨(some 25), none, .call fid_laws_dyEdges false [.im, .im] [(.t 20), (.t 24)]⟩,
          ⟨(some 26), none, .un .not (.t 25)⟩] [0, 1, 5, 26])
       (.cond (.t 26)
       (.seq
        (.reg [
           ⟨(some 4), none, .mov (.v (.b false))⟩] [4])
        (.ret))
       (.skip))))
     (.reg [
       ⟨(some 15), none, .mov (.t 5)⟩,
       ⟨(some 16), none, .bin .add (.t 15) (.v (.i .i64 1))⟩,
       ⟨(some 5), none, .mov (.t 16)⟩] [0, 1, 5]))))))
  (.seq
  (.reg [
     ⟨(some 4), none, .mov (.v (.b true))⟩] [4])
  (.ret))))
theorem get_laws_dyBlocks : Go.Proofs.Try.prog.funcs[fid_laws_dyBlocks]? = some Go.Proofs.Try.f54 := Go.Proofs.Try.func54
theorem ok_laws_dyBlocks : okFn Go.Proofs.Try.prog Go.Proofs.Try.f54 27 [] [(4, none)] mc_laws_dyBlocks = true := by kernel_rfl
def mc_laws_toTurn : MCode :=
 .seq
  (.reg [
     ⟨(some 1), none, .box 2 (.t 0)⟩,
     ⟨(some 2), none, .alloc [.i .i64 0, .i .i64 0]⟩] [1, 2])
  (.seq
  (.reg [
     ⟨(some 3), none, .alloc [.i .i64 0, .i .i64 0]⟩] [1, 2, 3])
  (.seq
  (.reg [
     ⟨(some 4), none, .fieldAddr 0 (.t 1)⟩,
     ⟨(some 5), none, .load true 2 (.t 4)⟩,
     ⟨(some 6), none, .call fid_laws_toEdge false [.im] [(.t 5)]⟩,
     ⟨(some 7), none, .fieldAddr 0 (.t 3)⟩,
     ⟨none, none, .store 2 (.t 7) (.t 6)⟩] [2, 3])
  (.seq
  (.reg [
     ⟨(some 8), none, .load true 2 (.t 3)⟩,
     ⟨none, none, .store 2 (.t 2) (.t 8)⟩] [2])
  (.ret))))
theorem get_laws_toTurn : Go.Proofs.Try.prog.funcs[fid_laws_toTurn]? = some Go.Proofs.Try.f64 := Go.Proofs.Try.func64
theorem ok_laws_toTurn : okFn Go.Proofs.Try.prog Go.Proofs.Try.f64 9 [] [(2, some (true, 2))] mc_laws_toTurn = true := by kernel_rfl
def mc_laws_eqTurn : MCode :=
 .seq
  (.reg [
     ⟨(some 2), none, .box 2 (.t 0)⟩,
     ⟨(some 3), none, .box 2 (.t 1)⟩,
     ⟨(some 4), none, .mov (.v (.b false))⟩] [2, 3])
  (.seq
  (.seq
   (.reg [
      ⟨(some 5), none, .fieldAddr 0 (.t 2)⟩,
      ⟨(some 6), none, .load true 2 (.t 5)⟩,
      ⟨(some 7), none, .fieldAddr 0 (.t 3)⟩,
      ⟨(some 8), none, .load true 2 (.t 7)⟩,
      ⟨(some 9), none, .call fid_laws_eqEdge false [.im, .im] [(.t 6), (.t 8)]⟩,
      ⟨(some 10), none, .un .not (.t 9)⟩] [10])
   (.cond (.t 10)
   (.seq
    (.reg [
       ⟨(some 4), none, .mov (.v (.b false))⟩] [4])
    (.ret))
   (.skip)))
  (.seq
  (.reg [
     ⟨(some 4), none, .mov (.v (.b true))⟩] [4])
  (.ret)))
theorem get_laws_eqTurn : Go.Proofs.Try.prog.funcs[fid_laws_eqTurn]? = some Go.Proofs.Try.f67 := Go.Proofs.Try.func67
theorem ok_laws_eqTurn : okFn Go.Proofs.Try.prog Go.Proofs.Try.f67 11 [] [(4, none)] mc_laws_eqTurn = true := by kernel_rfl
def mc_laws_toEdge : MCode :=
 .seq
  (.reg [
     ⟨(some 1), none, .box 2 (.t 0)⟩,
     ⟨(some 2), none, .alloc [.i .i64 0, .i .i64 0]⟩] [1, 2])
  (.seq
  (.reg [
     ⟨(some 3), none, .alloc [.i .i64 0, .i .i64 0]⟩] [1, 2, 3])
  (.seq
  (.reg [
     ⟨(some 4), none, .fieldAddr 0 (.t 1)⟩,
     ⟨(some 5), none, .load false 1 (.t 4)⟩,
     ⟨(some 6), none, .fieldAddr 0 (.t 3)⟩,
     ⟨none, none, .store 1 (.t 6) (.t 5)⟩] [1, 2, 3])
  (.seq
  (.reg [
     ⟨(some 7), none, .fieldAddr 1 (.t 1)⟩,
     ⟨(some 8), none, .load false 1 (.t 7)⟩,
     ⟨(some 9), none, .fieldAddr 1 (.t 3)⟩,
     ⟨none, none, .store 1 (.t 9) (.t 8)⟩] [2, 3])
  (.seq
  (.reg [
     ⟨(some 10), none, .load true 2 (.t 3)⟩,
     ⟨none, none, .store 2 (.t 2) (.t 10)⟩] [2])
  (.ret)))))
theorem get_laws_toEdge : Go.Proofs.Try.prog.funcs[fid_laws_toEdge]? = some Go.Proofs.Try.f75 := Go.Proofs.Try.func75
theorem ok_laws_toEdge : okFn Go.Proofs.Try.prog Go.Proofs.Try.f75 11 [] [(2, some (true, 2))] mc_laws_toEdge = true := by kernel_rfl
def mc_laws_toEvent : MCode :=
 .seq
  (.reg [
     ⟨(some 1), none, .box 4 (.t 0)⟩,
     ⟨(some 2), none, .alloc [.i .i64 0, .i .i64 0, .i .i64 0, .b false]⟩] [1, 2])
  (.seq
  (.reg [
     ⟨(some 3), none, .alloc [.i .i64 0, .i .i64 0, .i .i64 0, .b false]⟩] [1, 2, 3])
  (.seq
  (.reg [
     ⟨(some 4), none, .fieldAddr 0 (.t 1)⟩,
     ⟨(some 5), none, .load false 1 (.t 4)⟩,
     ⟨(some 6), none, .fieldAddr 0 (.t 3)⟩,
     ⟨none, none, .store 1 (.t 6) (.t 5)⟩] [1, 2, 3])
  (.seq
  (.reg [
     ⟨(some 7), none, .fieldAddr 1 (.t 1)⟩,
     ⟨(some 8), none, .load true 2 (.t 7)⟩,
     ⟨(some 9), none, .call fid_laws_toEdge false [.im] [(.t 8)]⟩,
     ⟨(some 10), none, .fieldAddr 1 (.t 3)⟩,
     ⟨none, none, .store 2 (.t 10) (.t 9)⟩] [1, 2, 3])
  (.seq
  (.reg [
     ⟨(some 11), none, .fieldAddr 3 (.t 1)⟩,
     ⟨(some 12), none, .load false 1 (.t 11)⟩,
     ⟨(some 13), none, .fieldAddr 3 (.t 3)⟩,
     ⟨none, none, .store 1 (.t 13) (.t 12)⟩] [2, 3])
  (.seq
  (.reg [
     ⟨(some 14), none, .load true 4 (.t 3)⟩,
     ⟨none, none, .store 4 (.t 2) (.t 14)⟩] [2])
  (.ret))))))
theorem get_laws_toEvent : Go.Proofs.Try.prog.funcs[fid_laws_toEvent]? = some Go.Proofs.Try.f76 := Go.Proofs.Try.func76
theorem ok_laws_toEvent : okFn Go.Proofs.Try.prog Go.Proofs.Try.f76 15 [] [(2, some (true, 4))] mc_laws_toEvent = true := by kernel_rfl
def mc_laws_eqEdge : MCode :=
 .seq
  (.reg [
     ⟨(some 2), none, .box 2 (.t 0)⟩,
     ⟨(some 3), none, .box 2 (.t 1)⟩,
     ⟨(some 4), none, .mov (.v (.b false))⟩] [2, 3])
  (.seq
  (.seq
   (.reg [
      ⟨(some 5), none, .fieldAddr 0 (.t 2)⟩,
      ⟨(some 6), none, .load false 1 (.t 5)⟩,
      ⟨(some 7), none, .fieldAddr 0 (.t 3)⟩,
      ⟨(some 8), none, .load false 1 (.t 7)⟩,
      ⟨(some 9), none, .bin .neq (.t 6) (.t 8)⟩] [2, 3, 9])
   (.cond (.t 9)
   (.seq
    (.reg [
       ⟨(some 4), none, .mov (.v (.b false))⟩] [4])
    (.ret))
   (.skip)))
  (.seq
  (.seq
   (.reg [
      ⟨(some 10), none, .fieldAddr 1 (.t 2)⟩,
      ⟨(some 11), none, .load false 1 (.t 10)⟩,
      ⟨(some 12), none, .fieldAddr 1 (.t 3)⟩,
      ⟨(some 13), none, .load false 1 (.t 12)⟩,
      ⟨(some 14), none, .bin .neq (.t 11) (.t 13)⟩] [14])
   (.cond (.t 14)
   (.seq
    (.reg [
       ⟨(some 4), none, .mov (.v (.b false))⟩] [4])
    (.ret))
   (.skip)))
  (.seq
  (.reg [
     ⟨(some 4), none, .mov (.v (.b true))⟩] [4])
  (.ret))))
theorem get_laws_eqEdge : Go.Proofs.Try.prog.funcs[fid_laws_eqEdge]? = some Go.Proofs.Try.f80 := Go.Proofs.Try.func80
theorem ok_laws_eqEdge : okFn Go.Proofs.Try.prog Go.Proofs.Try.f80 15 [] [(4, none)] mc_laws_eqEdge = true := by kernel_rfl
def mc_laws_eqEvent : MCode :=
 .seq
  (.reg [
     ⟨(some 2), none, .box 4 (.t 0)⟩,
     ⟨(some 3), none, .box 4 (.t 1)⟩,
     ⟨(some 4), none, .mov (.v (.b false))⟩] [2, 3])
  (.seq
  (.seq
   (.reg [
      ⟨(some 5), none, .fieldAddr 0 (.t 2)⟩,
      ⟨(some 6), none, .load false 1 (.t 5)⟩,
      ⟨(some 7), none, .fieldAddr 0 (.t 3)⟩,
      ⟨(some 8), none, .load false 1 (.t 7)⟩,
      ⟨(some 9), none, .bin .neq (.t 6) (.t 8)⟩] [2, 3, 9])
   (.cond (.t 9)
   (.seq
    (.reg [
       ⟨(some 4), none, .mov (.v (.b false))⟩] [4])
    (.ret))
   (.skip)))
  (.seq
  (.seq
   (.reg [
      ⟨(some 10), none, .fieldAddr 1 (.t 2)⟩,
      ⟨(some 11), none, .load true 2 (.t 10)⟩,
      ⟨(some 12), none, .fieldAddr 1 (.t 3)⟩,
      ⟨(some 13), none, .load true 2 (.t 12)⟩,
      ⟨(some 14), none, .call fid_laws_eqEdge false [.im, .im] [(.t 11), (.t 13)]⟩,
      ⟨(some 15), none, .un .not (.t 14)⟩] [2, 3, 15])
   (.cond (.t 15)
   (.seq
    (.reg [
       ⟨(some 4), none, .mov (.v (.b false))⟩] [4])
    (.ret))
   (.skip)))
  (.seq
  (.seq
   (.reg [
      ⟨(some 16), none, .fieldAddr 3 (.t 2)⟩,
      ⟨(some 17), none, .load false 1 (.t 16)⟩,
      ⟨(some 18), none, .fieldAddr 3 (.t 3)⟩,
      ⟨(some 19), none, .load false 1 (.t 18)⟩,
      ⟨(some 20), none, .binb true (.t 17) (.t 19)⟩] [20])
   (.cond (.t 20)
   (.seq
    (.reg [
       ⟨(some 4), none, .mov (.v (.b false))⟩] [4])
    (.ret))
   (.skip)))
  (.seq
  (.reg [
     ⟨(some 4), none, .mov (.v (.b true))⟩] [4])
  (.ret)))))
theorem get_laws_eqEvent : Go.Proofs.Try.prog.funcs[fid_laws_eqEvent]? = some Go.Proofs.Try.f81 := Go.Proofs.Try.func81
theorem ok_laws_eqEvent : okFn Go.Proofs.Try.prog Go.Proofs.Try.f81 21 [] [(4, none)] mc_laws_eqEvent = true := by kernel_rfl

end Go.Fw
