/-
  The code of the statement FnCertificateBridges, as the model's own. Printed by a program.
-/
import Derived.Test.YtjklefjjmfpnoaaCf
namespace Go.Fw
open Go.Proofs.Try
set_option maxRecDepth 100000
def mc_laws_FnCertificateBridges : MCode :=
 .seq
 (.reg [
 ⟨some 2, none, .mov (.v (.b false))⟩] [0])
 (.seq
 (.seq
 (.reg [
 ⟨some 10, none, .mov (.t 0)⟩,
 ⟨some 11, none, .len (.t 10)⟩,
 ⟨some 12, none, .bin .gtr (.t 11) (.v (.i .i64 1048576))⟩] [0, 12])
 (.cond (.t 12)
 (.seq
 (.reg [
 ⟨some 2, none, .mov (.v (.b true))⟩] [2])
 (.ret))
 (.skip)))
 (.seq
 (.reg [
 ⟨some 14, none, .mov (.t 0)⟩,
 ⟨some 15, none, .call fid_spec_DrawCertificateOf false [.im] [(.t 14)]⟩,
 ⟨some 13, none, .mov (.t 15)⟩,
 ⟨some 16, none, .extract (.t 13) 0⟩,
 ⟨some 17, none, .extract (.t 13) 1⟩,
 ⟨some 3, none, .alloc [.i .i64 0, .nl 2]⟩,
 ⟨none, none, .store 2 (.t 3) (.t 16)⟩,
 ⟨some 4, none, .mov (.t 17)⟩] [3, 4])
 (.seq
 (.reg [
 ⟨some 19, none, .load true 2 (.t 3)⟩,
 ⟨some 20, none, .mov (.t 4)⟩,
 ⟨some 21, none, .call fid_impl_CertificateOf false [.im, .im] [(.t 19), (.t 20)]⟩,
 ⟨some 18, none, .mov (.t 21)⟩,
 ⟨some 22, none, .extract (.t 18) 0⟩,
 ⟨some 23, none, .extract (.t 18) 1⟩,
 ⟨some 5, none, .alloc [.i .i64 0, .nl 2]⟩,
 ⟨none, none, .store 2 (.t 5) (.t 22)⟩,
 ⟨some 6, none, .mov (.t 23)⟩] [3, 4, 5, 6])
 (.seq
 (.reg [
 ⟨some 25, none, .load true 2 (.t 3)⟩,
 ⟨some 26, none, .mov (.t 4)⟩,
 ⟨some 27, none, .call fid_spec_CertificateOf false [.im, .im] [(.t 25), (.t 26)]⟩,
 ⟨some 24, none, .mov (.t 27)⟩,
 ⟨some 28, none, .extract (.t 24) 0⟩,
 ⟨some 29, none, .extract (.t 24) 1⟩,
 ⟨some 7, none, .alloc [.i .i64 0, .nl 2]⟩,
 ⟨none, none, .store 2 (.t 7) (.t 28)⟩,
 ⟨some 8, none, .mov (.t 29)⟩] [3, 4, 5, 6, 7, 8])
 (.seq
 (.seq
 (.reg [
 ⟨some 30, none, .load true 2 (.t 5)⟩,
 ⟨some 31, none, .load true 2 (.t 7)⟩,
 ⟨some 32, none, .call fid_impl_GraphSame false [.im, .im] [(.t 30), (.t 31)]⟩,
 ⟨some 33, none, .un .not (.t 32)⟩,
 ⟨some 34, none, .mov (.t 33)⟩,
 ⟨some 35, (some (34, false)), .mov (.t 6)⟩,
 ⟨some 36, (some (34, false)), .mov (.t 8)⟩,
 ⟨some 37, (some (34, false)), .binb true (.t 35) (.t 36)⟩,
 ⟨some 38, none, .pick (.t 34) (.v (.b true)) (.t 37)⟩,
 ⟨some 39, none, .mov (.t 38)⟩,
 ⟨some 40, (some (39, false)), .mov (.t 6)⟩,
 ⟨some 41, (some (39, false)), .un .not (.t 40)⟩,
 ⟨some 42, none, .pick (.t 39) (.v (.b true)) (.t 41)⟩] [3, 4, 5, 6, 7, 8, 42])
 (.cond (.t 42)
 (.seq
 (.reg [
 ⟨some 43, none, .load true 2 (.t 5)⟩,
 ⟨some 44, none, .load true 2 (.t 7)⟩,
 ⟨some 45, none, .call fid_impl_GraphSame false [.im, .im] [(.t 43), (.t 44)]⟩,
 ⟨some 46, none, .mov (.t 45)⟩,
 ⟨some 47, (some (46, true)), .mov (.t 6)⟩,
 ⟨some 48, (some (46, true)), .mov (.t 8)⟩,
 ⟨some 49, (some (46, true)), .binb false (.t 47) (.t 48)⟩,
 ⟨some 50, none, .pick (.t 46) (.t 49) (.v (.b false))⟩,
 ⟨some 2, none, .mov (.t 50)⟩] [2])
 (.ret))
 (.skip)))
 (.seq
 (.seq
 (.reg [
 ⟨some 51, none, .mov (.t 4)⟩,
 ⟨some 52, none, .bin .lss (.t 51) (.v (.i .i64 1))⟩] [3, 4, 5, 52])
 (.cond (.t 52)
 (.seq
 (.reg [
 ⟨some 53, none, .fieldAddr 1 (.t 5)⟩,
 ⟨some 54, none, .load false 1 (.t 53)⟩,
 ⟨some 55, none, .len (.t 54)⟩,
 ⟨some 56, none, .bin .eql (.t 55) (.v (.i .i64 0))⟩,
 ⟨some 2, none, .mov (.t 56)⟩] [2])
 (.ret))
 (.skip)))
 (.seq
 (.reg [
 ⟨some 57, none, .load true 2 (.t 3)⟩,
 ⟨some 58, none, .call fid_impl_BridgesOf false [.im] [(.t 57)]⟩,
 ⟨some 9, none, .mov (.t 58)⟩] [3, 4, 5, 9])
 (.seq
 (.draw [0, 1, 0, 7, 15, 31, 63, 127, 255, 511, 1023, 511, 4095, 8191, 16383, 32767, 16383, 131071, 262143, 524287, 1048575, 2097151, 4194303] [
 ⟨some 59, none, .load true 2 (.t 5)⟩,
 ⟨some 60, none, .call fid_impl_PartsOf false [.im] [(.t 59)]⟩,
 ⟨some 61, none, .load true 2 (.t 3)⟩,
 ⟨some 62, none, .call fid_impl_PartsOf false [.im] [(.t 61)]⟩,
 ⟨some 63, none, .call fid_laws_dyInts false [.im, .im] [(.t 60), (.t 62)]⟩,
 ⟨some 64, none, .mov (.t 63)⟩,
 ⟨some 65, (some (64, true)), .mov (.t 4)⟩,
 ⟨some 66, (some (64, true)), .bin .lss (.t 65) (.v (.i .i64 2))⟩,
 ⟨some 67, (some (64, true)), .mov (.t 66)⟩,
 ⟨some 68, (some (67, false)), .load true 2 (.t 5)⟩,
 ⟨some 69, (some (67, false)), .call fid_impl_BridgesOf false [.im] [(.t 68)]⟩,
 ⟨some 70, (some (67, false)), .mov (.t 9)⟩,
 ⟨some 71, (some (67, false)), .call fid_laws_dyEdges false [.im, .im] [(.t 69), (.t 70)]⟩,
 ⟨some 72, (some (67, false)), .mov (.t 71)⟩,
 ⟨some 73, (some (72, true)), .load true 2 (.t 5)⟩,
 ⟨some 74, (some (72, true)), .call fid_impl_SafeParts false [.im] [(.t 73)]⟩,
 ⟨some 75, (some (72, true)), .load true 2 (.t 3)⟩,
 ⟨some 76, (some (72, true)), .call fid_impl_SafeParts false [.im] [(.t 75)]⟩,
 ⟨some 77, (some (72, true)), .call fid_laws_dyInts false [.im, .im] [(.t 74), (.t 76)]⟩,
 ⟨some 78, (some (67, false)), .pick (.t 72) (.t 77) (.v (.b false))⟩,
 ⟨some 79, (some (64, true)), .pick (.t 67) (.v (.b true)) (.t 78)⟩,
 ⟨some 80, none, .pick (.t 64) (.t 79) (.v (.b false))⟩,
 ⟨some 2, none, .mov (.t 80)⟩] [2])
 (.ret)))))))))
theorem get_laws_FnCertificateBridges : prog.funcs[fid_laws_FnCertificateBridges]? = some f10 := func10
theorem ok_laws_FnCertificateBridges : okFn prog f10 81 [] [(2, none)] mc_laws_FnCertificateBridges = true := by kernel_rfl

end Go.Fw
