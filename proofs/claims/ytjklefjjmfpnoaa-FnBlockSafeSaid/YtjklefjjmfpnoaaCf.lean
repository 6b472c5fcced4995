/-
  The code of the statements, as the model's own. Printed by a program.
-/
import Derived.Test.YtjklefjjmfpnoaaCd
namespace Go.Fw
open Go.Proofs.Try
set_option maxRecDepth 100000
def mc_laws_dyLists : MCode :=
 .seq
 (.reg [
 ⟨some 4, none, .mov (.v (.b false))⟩] [0, 1])
 (.seq
 (.seq
 (.reg [
 ⟨some 6, none, .mov (.t 0)⟩,
 ⟨some 7, none, .len (.t 6)⟩,
 ⟨some 8, none, .mov (.t 1)⟩,
 ⟨some 9, none, .len (.t 8)⟩,
 ⟨some 10, none, .bin .neq (.t 7) (.t 9)⟩] [0, 1, 10])
 (.cond (.t 10)
 (.seq
 (.reg [
 ⟨some 4, none, .mov (.v (.b false))⟩] [4])
 (.ret))
 (.skip)))
 (.seq
 (.seq
 (.reg [
 ⟨some 5, none, .mov (.v (.i .i64 0))⟩] [0, 1, 5])
 (.block 0
 (.loop [0, 1, 5]
 (.seq
 (.seq
 (.reg [
 ⟨some 11, none, .mov (.t 5)⟩,
 ⟨some 12, none, .mov (.t 0)⟩,
 ⟨some 13, none, .len (.t 12)⟩,
 ⟨some 14, none, .bin .lss (.t 11) (.t 13)⟩] [0, 1, 5, 14])
 (.cond (.t 14)
 (.skip)
 (.exit 0)))
 (.seq
 (.block 1
 (.seq
 (.draw [0, 0, 3, 7, 0, 0, 48, 112, 255, 511] [
 ⟨some 17, none, .mov (.t 0)⟩,
 ⟨some 18, none, .mov (.t 5)⟩,
 ⟨some 19, none, .indexAddr 1 (.t 17) (.t 18)⟩,
 ⟨some 20, none, .load false 1 (.t 19)⟩,
 ⟨some 21, none, .mov (.t 1)⟩,
 ⟨some 22, none, .mov (.t 5)⟩,
 ⟨some 23, none, .indexAddr 1 (.t 21) (.t 22)⟩,
 ⟨some 24, none, .load false 1 (.t 23)⟩,
 ⟨some 25, none, .call fid_laws_dyInts false [.im, .im] [(.t 20), (.t 24)]⟩,
 ⟨some 26, none, .un .not (.t 25)⟩] [0, 1, 5, 26])
 (.cond (.t 26)
 (.seq
 (.reg [
 ⟨some 4, none, .mov (.v (.b false))⟩] [4])
 (.ret))
 (.skip))))
 (.reg [
 ⟨some 15, none, .mov (.t 5)⟩,
 ⟨some 16, none, .bin .add (.t 15) (.v (.i .i64 1))⟩,
 ⟨some 5, none, .mov (.t 16)⟩] [0, 1, 5]))))))
 (.seq
 (.reg [
 ⟨some 4, none, .mov (.v (.b true))⟩] [4])
 (.ret))))
theorem get_laws_dyLists : prog.funcs[fid_laws_dyLists]? = some f15 := func15
theorem ok_laws_dyLists : okFn prog f15 27 [] [(4, none)] mc_laws_dyLists = true := by kernel_rfl
def mc_laws_dyIn : MCode :=
 .seq
 (.reg [
 ⟨some 4, none, .mov (.v (.b false))⟩] [0, 1])
 (.seq
 (.seq
 (.reg [
 ⟨some 5, none, .mov (.v (.i .i64 0))⟩] [0, 1, 5])
 (.block 0
 (.loop [0, 1, 5]
 (.seq
 (.seq
 (.reg [
 ⟨some 6, none, .mov (.t 5)⟩,
 ⟨some 7, none, .mov (.t 0)⟩,
 ⟨some 8, none, .len (.t 7)⟩,
 ⟨some 9, none, .bin .lss (.t 6) (.t 8)⟩] [0, 1, 5, 9])
 (.cond (.t 9)
 (.skip)
 (.exit 0)))
 (.seq
 (.block 1
 (.seq
 (.reg [
 ⟨some 12, none, .mov (.t 0)⟩,
 ⟨some 13, none, .mov (.t 5)⟩,
 ⟨some 14, none, .indexAddr 1 (.t 12) (.t 13)⟩,
 ⟨some 15, none, .load false 1 (.t 14)⟩,
 ⟨some 16, none, .mov (.t 1)⟩,
 ⟨some 17, none, .bin .eql (.t 15) (.t 16)⟩] [0, 1, 5, 17])
 (.cond (.t 17)
 (.seq
 (.reg [
 ⟨some 4, none, .mov (.v (.b true))⟩] [4])
 (.ret))
 (.skip))))
 (.reg [
 ⟨some 10, none, .mov (.t 5)⟩,
 ⟨some 11, none, .bin .add (.t 10) (.v (.i .i64 1))⟩,
 ⟨some 5, none, .mov (.t 11)⟩] [0, 1, 5]))))))
 (.seq
 (.reg [
 ⟨some 4, none, .mov (.v (.b false))⟩] [4])
 (.ret)))
theorem get_laws_dyIn : prog.funcs[fid_laws_dyIn]? = some f20 := func20
theorem ok_laws_dyIn : okFn prog f20 18 [] [(4, none)] mc_laws_dyIn = true := by kernel_rfl
def mc_laws_szGraph : MCode :=
 .seq
 (.reg [
 ⟨some 2, none, .box 2 (.t 0)⟩,
 ⟨some 4, none, .mov (.v (.i .i64 0))⟩] [1, 2])
 (.seq
 (.reg [
 ⟨some 5, none, .fieldAddr 1 (.t 2)⟩,
 ⟨some 6, none, .load false 1 (.t 5)⟩,
 ⟨some 7, none, .mov (.t 1)⟩,
 ⟨some 8, none, .call fid_laws_szEdgeS false [.im, .im] [(.t 6), (.t 7)]⟩,
 ⟨some 1, none, .mov (.t 8)⟩] [1])
 (.seq
 (.seq
 (.reg [
 ⟨some 9, none, .mov (.t 1)⟩,
 ⟨some 10, none, .bin .lss (.t 9) (.v (.i .i64 0))⟩] [1, 10])
 (.cond (.t 10)
 (.seq
 (.reg [
 ⟨some 4, none, .mov (.v (.i .i64 (-1)))⟩] [4])
 (.ret))
 (.skip)))
 (.seq
 (.reg [
 ⟨some 11, none, .mov (.t 1)⟩,
 ⟨some 4, none, .mov (.t 11)⟩] [4])
 (.ret))))
theorem get_laws_szGraph : prog.funcs[fid_laws_szGraph]? = some f25 := func25
theorem ok_laws_szGraph : okFn prog f25 12 [] [(4, none)] mc_laws_szGraph = true := by kernel_rfl
def mc_laws_toGraph : MCode :=
 .seq
 (.reg [
 ⟨some 1, none, .box 2 (.t 0)⟩,
 ⟨some 2, none, .alloc [.i .i64 0, .nl 2]⟩] [1, 2])
 (.seq
 (.reg [
 ⟨some 3, none, .alloc [.i .i64 0, .nl 2]⟩] [1, 2, 3])
 (.seq
 (.reg [
 ⟨some 4, none, .fieldAddr 0 (.t 1)⟩,
 ⟨some 5, none, .load false 1 (.t 4)⟩,
 ⟨some 6, none, .fieldAddr 0 (.t 3)⟩,
 ⟨none, none, .store 1 (.t 6) (.t 5)⟩] [1, 2, 3])
 (.seq
 (.reg [
 ⟨some 7, none, .fieldAddr 1 (.t 1)⟩,
 ⟨some 8, none, .load false 1 (.t 7)⟩,
 ⟨some 9, none, .call fid_laws_toEdgeS false [.im] [(.t 8)]⟩,
 ⟨some 10, none, .fieldAddr 1 (.t 3)⟩,
 ⟨none, none, .store 1 (.t 10) (.t 9)⟩] [2, 3])
 (.seq
 (.reg [
 ⟨some 11, none, .load true 2 (.t 3)⟩,
 ⟨none, none, .store 2 (.t 2) (.t 11)⟩] [2])
 (.ret)))))
theorem get_laws_toGraph : prog.funcs[fid_laws_toGraph]? = some f26 := func26
theorem ok_laws_toGraph : okFn prog f26 12 [] [(2, some (true, 2))] mc_laws_toGraph = true := by kernel_rfl
def mc_laws_eqIntSS : MCode :=
 .seq
 (.reg [
 ⟨some 4, none, .mov (.v (.b false))⟩] [0, 1])
 (.seq
 (.seq
 (.reg [
 ⟨some 6, none, .mov (.t 0)⟩,
 ⟨some 7, none, .len (.t 6)⟩,
 ⟨some 8, none, .mov (.t 1)⟩,
 ⟨some 9, none, .len (.t 8)⟩,
 ⟨some 10, none, .bin .neq (.t 7) (.t 9)⟩] [0, 1, 10])
 (.cond (.t 10)
 (.seq
 (.reg [
 ⟨some 4, none, .mov (.v (.b false))⟩] [4])
 (.ret))
 (.skip)))
 (.seq
 (.seq
 (.reg [
 ⟨some 5, none, .mov (.v (.i .i64 0))⟩] [0, 1, 5])
 (.block 0
 (.loop [0, 1, 5]
 (.seq
 (.seq
 (.reg [
 ⟨some 11, none, .mov (.t 5)⟩,
 ⟨some 12, none, .mov (.t 0)⟩,
 ⟨some 13, none, .len (.t 12)⟩,
 ⟨some 14, none, .bin .lss (.t 11) (.t 13)⟩] [0, 1, 5, 14])
 (.cond (.t 14)
 (.skip)
 (.exit 0)))
 (.seq
 (.block 1
 (.seq
 (.draw [0, 0, 3, 7, 0, 0, 48, 112, 255, 511] [
 ⟨some 17, none, .mov (.t 0)⟩,
 ⟨some 18, none, .mov (.t 5)⟩,
 ⟨some 19, none, .indexAddr 1 (.t 17) (.t 18)⟩,
 ⟨some 20, none, .load false 1 (.t 19)⟩,
 ⟨some 21, none, .mov (.t 1)⟩,
 ⟨some 22, none, .mov (.t 5)⟩,
 ⟨some 23, none, .indexAddr 1 (.t 21) (.t 22)⟩,
 ⟨some 24, none, .load false 1 (.t 23)⟩,
 ⟨some 25, none, .call fid_laws_eqIntS false [.im, .im] [(.t 20), (.t 24)]⟩,
 ⟨some 26, none, .un .not (.t 25)⟩] [0, 1, 5, 26])
 (.cond (.t 26)
 (.seq
 (.reg [
 ⟨some 4, none, .mov (.v (.b false))⟩] [4])
 (.ret))
 (.skip))))
 (.reg [
 ⟨some 15, none, .mov (.t 5)⟩,
 ⟨some 16, none, .bin .add (.t 15) (.v (.i .i64 1))⟩,
 ⟨some 5, none, .mov (.t 16)⟩] [0, 1, 5]))))))
 (.seq
 (.reg [
 ⟨some 4, none, .mov (.v (.b true))⟩] [4])
 (.ret))))
theorem get_laws_eqIntSS : prog.funcs[fid_laws_eqIntSS]? = some f27 := func27
theorem ok_laws_eqIntSS : okFn prog f27 27 [] [(4, none)] mc_laws_eqIntSS = true := by kernel_rfl
def mc_laws_eqGraph : MCode :=
 .seq
 (.reg [
 ⟨some 2, none, .box 2 (.t 0)⟩,
 ⟨some 3, none, .box 2 (.t 1)⟩,
 ⟨some 4, none, .mov (.v (.b false))⟩] [2, 3])
 (.seq
 (.seq
 (.reg [
 ⟨some 5, none, .fieldAddr 0 (.t 2)⟩,
 ⟨some 6, none, .load false 1 (.t 5)⟩,
 ⟨some 7, none, .fieldAddr 0 (.t 3)⟩,
 ⟨some 8, none, .load false 1 (.t 7)⟩,
 ⟨some 9, none, .bin .neq (.t 6) (.t 8)⟩] [2, 3, 9])
 (.cond (.t 9)
 (.seq
 (.reg [
 ⟨some 4, none, .mov (.v (.b false))⟩] [4])
 (.ret))
 (.skip)))
 (.seq
 (.seq
 (.reg [
 ⟨some 10, none, .fieldAddr 1 (.t 2)⟩,
 ⟨some 11, none, .load false 1 (.t 10)⟩,
 ⟨some 12, none, .fieldAddr 1 (.t 3)⟩,
 ⟨some 13, none, .load false 1 (.t 12)⟩,
 ⟨some 14, none, .call fid_laws_eqEdgeS false [.im, .im] [(.t 11), (.t 13)]⟩,
 ⟨some 15, none, .un .not (.t 14)⟩] [15])
 (.cond (.t 15)
 (.seq
 (.reg [
 ⟨some 4, none, .mov (.v (.b false))⟩] [4])
 (.ret))
 (.skip)))
 (.seq
 (.reg [
 ⟨some 4, none, .mov (.v (.b true))⟩] [4])
 (.ret))))
theorem get_laws_eqGraph : prog.funcs[fid_laws_eqGraph]? = some f28 := func28
theorem ok_laws_eqGraph : okFn prog f28 16 [] [(4, none)] mc_laws_eqGraph = true := by kernel_rfl
def mc_laws_markGraph : MCode :=
 .seq
 (.reg [
 ⟨some 2, none, .box 2 (.t 0)⟩,
 ⟨some 4, none, .mov (.v (.i .i64 0))⟩] [0, 1, 2])
 (.seq
 (.reg [
 ⟨some 5, none, .fieldAddr 1 (.t 2)⟩,
 ⟨some 6, none, .load false 1 (.t 5)⟩,
 ⟨some 7, none, .mov (.t 1)⟩,
 ⟨some 8, none, .call fid_laws_markEdgeS false [.io, .im] [(.t 6), (.t 7)]⟩,
 ⟨some 1, none, .mov (.t 8)⟩] [0, 1])
 (.seq
 (.reg [
 ⟨some 9, none, .mov (.t 1)⟩,
 ⟨some 4, none, .mov (.t 9)⟩] [0, 4])
 (.ret)))
theorem get_laws_markGraph : prog.funcs[fid_laws_markGraph]? = some f29 := func29
theorem ok_laws_markGraph : okFn prog f29 10 [0] [(4, none)] mc_laws_markGraph = true := by kernel_rfl
def mc_laws_markIntSS : MCode :=
 .seq
 (.reg [
 ⟨some 4, none, .mov (.v (.i .i64 0))⟩] [0, 1])
 (.seq
 (.seq
 (.reg [
 ⟨some 5, none, .mov (.v (.i .i64 0))⟩] [0, 1, 5])
 (.block 0
 (.loop [0, 1, 5]
 (.seq
 (.seq
 (.reg [
 ⟨some 6, none, .mov (.t 5)⟩,
 ⟨some 7, none, .mov (.t 0)⟩,
 ⟨some 8, none, .len (.t 7)⟩,
 ⟨some 9, none, .bin .lss (.t 6) (.t 8)⟩] [0, 1, 5, 9])
 (.cond (.t 9)
 (.skip)
 (.exit 0)))
 (.seq
 (.block 1
 (.reg [
 ⟨some 12, none, .mov (.t 0)⟩,
 ⟨some 13, none, .mov (.t 5)⟩,
 ⟨some 14, none, .rowAddr (.t 12) (.t 13)⟩,
 ⟨some 15, none, .rowLoad (.t 14)⟩,
 ⟨some 16, none, .mov (.t 1)⟩,
 ⟨some 17, none, .callRow fid_laws_markIntS (.t 15) (.t 16)⟩,
 ⟨some 1, none, .mov (.t 17)⟩] [0, 1, 5]))
 (.reg [
 ⟨some 10, none, .mov (.t 5)⟩,
 ⟨some 11, none, .bin .add (.t 10) (.v (.i .i64 1))⟩,
 ⟨some 5, none, .mov (.t 11)⟩] [0, 1, 5]))))))
 (.seq
 (.reg [
 ⟨some 18, none, .mov (.t 1)⟩,
 ⟨some 4, none, .mov (.t 18)⟩] [0, 4])
 (.ret)))
theorem get_laws_markIntSS : prog.funcs[fid_laws_markIntSS]? = some f30 := func30
theorem ok_laws_markIntSS : okFn prog f30 19 [0] [(4, none)] mc_laws_markIntSS = true := by kernel_rfl
def mc_laws_heldIntSS : MCode :=
 .seq
 (.reg [
 ⟨some 4, none, .mov (.v (.i .i64 0))⟩] [0, 1])
 (.seq
 (.seq
 (.reg [
 ⟨some 5, none, .mov (.v (.i .i64 0))⟩] [0, 1, 5])
 (.block 0
 (.loop [0, 1, 5]
 (.seq
 (.seq
 (.reg [
 ⟨some 6, none, .mov (.t 5)⟩,
 ⟨some 7, none, .mov (.t 0)⟩,
 ⟨some 8, none, .len (.t 7)⟩,
 ⟨some 9, none, .bin .lss (.t 6) (.t 8)⟩] [0, 1, 5, 9])
 (.cond (.t 9)
 (.skip)
 (.exit 0)))
 (.seq
 (.block 1
 (.seq
 (.reg [
 ⟨some 12, none, .mov (.t 0)⟩,
 ⟨some 13, none, .mov (.t 5)⟩,
 ⟨some 14, none, .indexAddr 1 (.t 12) (.t 13)⟩,
 ⟨some 15, none, .load false 1 (.t 14)⟩,
 ⟨some 16, none, .mov (.t 1)⟩,
 ⟨some 17, none, .call fid_laws_heldIntS false [.im, .im] [(.t 15), (.t 16)]⟩,
 ⟨some 1, none, .mov (.t 17)⟩] [0, 1, 5])
 (.seq
 (.reg [
 ⟨some 18, none, .mov (.t 1)⟩,
 ⟨some 19, none, .bin .lss (.t 18) (.v (.i .i64 0))⟩] [0, 1, 5, 19])
 (.cond (.t 19)
 (.seq
 (.reg [
 ⟨some 4, none, .mov (.v (.i .i64 (-1)))⟩] [4])
 (.ret))
 (.skip)))))
 (.reg [
 ⟨some 10, none, .mov (.t 5)⟩,
 ⟨some 11, none, .bin .add (.t 10) (.v (.i .i64 1))⟩,
 ⟨some 5, none, .mov (.t 11)⟩] [0, 1, 5]))))))
 (.seq
 (.reg [
 ⟨some 20, none, .mov (.t 1)⟩,
 ⟨some 4, none, .mov (.t 20)⟩] [4])
 (.ret)))
theorem get_laws_heldIntSS : prog.funcs[fid_laws_heldIntSS]? = some f31 := func31
theorem ok_laws_heldIntSS : okFn prog f31 21 [] [(4, none)] mc_laws_heldIntSS = true := by kernel_rfl
def mc_laws_heldGraph : MCode :=
 .seq
 (.reg [
 ⟨some 2, none, .box 2 (.t 0)⟩,
 ⟨some 4, none, .mov (.v (.i .i64 0))⟩] [1, 2])
 (.seq
 (.reg [
 ⟨some 5, none, .fieldAddr 1 (.t 2)⟩,
 ⟨some 6, none, .load false 1 (.t 5)⟩,
 ⟨some 7, none, .mov (.t 1)⟩,
 ⟨some 8, none, .call fid_laws_heldEdgeS false [.im, .im] [(.t 6), (.t 7)]⟩,
 ⟨some 1, none, .mov (.t 8)⟩] [1])
 (.seq
 (.seq
 (.reg [
 ⟨some 9, none, .mov (.t 1)⟩,
 ⟨some 10, none, .bin .lss (.t 9) (.v (.i .i64 0))⟩] [1, 10])
 (.cond (.t 10)
 (.seq
 (.reg [
 ⟨some 4, none, .mov (.v (.i .i64 (-1)))⟩] [4])
 (.ret))
 (.skip)))
 (.seq
 (.reg [
 ⟨some 11, none, .mov (.t 1)⟩,
 ⟨some 4, none, .mov (.t 11)⟩] [4])
 (.ret))))
theorem get_laws_heldGraph : prog.funcs[fid_laws_heldGraph]? = some f43 := func43
theorem ok_laws_heldGraph : okFn prog f43 12 [] [(4, none)] mc_laws_heldGraph = true := by kernel_rfl
def mc_laws_dyInts : MCode :=
 .seq
 (.reg [
 ⟨some 4, none, .mov (.v (.b false))⟩] [0, 1])
 (.seq
 (.seq
 (.reg [
 ⟨some 6, none, .mov (.t 0)⟩,
 ⟨some 7, none, .len (.t 6)⟩,
 ⟨some 8, none, .mov (.t 1)⟩,
 ⟨some 9, none, .len (.t 8)⟩,
 ⟨some 10, none, .bin .neq (.t 7) (.t 9)⟩] [0, 1, 10])
 (.cond (.t 10)
 (.seq
 (.reg [
 ⟨some 4, none, .mov (.v (.b false))⟩] [4])
 (.ret))
 (.skip)))
 (.seq
 (.seq
 (.reg [
 ⟨some 5, none, .mov (.v (.i .i64 0))⟩] [0, 1, 5])
 (.block 0
 (.loop [0, 1, 5]
 (.seq
 (.seq
 (.reg [
 ⟨some 11, none, .mov (.t 5)⟩,
 ⟨some 12, none, .mov (.t 0)⟩,
 ⟨some 13, none, .len (.t 12)⟩,
 ⟨some 14, none, .bin .lss (.t 11) (.t 13)⟩] [0, 1, 5, 14])
 (.cond (.t 14)
 (.skip)
 (.exit 0)))
 (.seq
 (.block 1
 (.seq
 (.draw [0, 0, 3, 7, 0, 0, 48, 112, 255] [
 ⟨some 17, none, .mov (.t 0)⟩,
 ⟨some 18, none, .mov (.t 5)⟩,
 ⟨some 19, none, .indexAddr 1 (.t 17) (.t 18)⟩,
 ⟨some 20, none, .load false 1 (.t 19)⟩,
 ⟨some 21, none, .mov (.t 1)⟩,
 ⟨some 22, none, .mov (.t 5)⟩,
 ⟨some 23, none, .indexAddr 1 (.t 21) (.t 22)⟩,
 ⟨some 24, none, .load false 1 (.t 23)⟩,
 ⟨some 25, none, .bin .neq (.t 20) (.t 24)⟩] [0, 1, 5, 25])
 (.cond (.t 25)
 (.seq
 (.reg [
 ⟨some 4, none, .mov (.v (.b false))⟩] [4])
 (.ret))
 (.skip))))
 (.reg [
 ⟨some 15, none, .mov (.t 5)⟩,
 ⟨some 16, none, .bin .add (.t 15) (.v (.i .i64 1))⟩,
 ⟨some 5, none, .mov (.t 16)⟩] [0, 1, 5]))))))
 (.seq
 (.reg [
 ⟨some 4, none, .mov (.v (.b true))⟩] [4])
 (.ret))))
theorem get_laws_dyInts : prog.funcs[fid_laws_dyInts]? = some f46 := func46
theorem ok_laws_dyInts : okFn prog f46 26 [] [(4, none)] mc_laws_dyInts = true := by kernel_rfl
def mc_laws_szEdgeS : MCode :=
 .seq
 (.reg [
 ⟨some 4, none, .mov (.v (.i .i64 0))⟩] [0, 1])
 (.seq
 (.reg [
 ⟨some 5, none, .mov (.t 1)⟩,
 ⟨some 6, none, .mov (.t 0)⟩,
 ⟨some 7, none, .len (.t 6)⟩,
 ⟨some 8, none, .bin .sub (.t 5) (.t 7)⟩,
 ⟨some 1, none, .mov (.t 8)⟩] [1])
 (.seq
 (.seq
 (.reg [
 ⟨some 9, none, .mov (.t 1)⟩,
 ⟨some 10, none, .bin .lss (.t 9) (.v (.i .i64 0))⟩] [1, 10])
 (.cond (.t 10)
 (.seq
 (.reg [
 ⟨some 4, none, .mov (.v (.i .i64 (-1)))⟩] [4])
 (.ret))
 (.skip)))
 (.seq
 (.reg [
 ⟨some 11, none, .mov (.t 1)⟩,
 ⟨some 4, none, .mov (.t 11)⟩] [4])
 (.ret))))
theorem get_laws_szEdgeS : prog.funcs[fid_laws_szEdgeS]? = some f71 := func71
theorem ok_laws_szEdgeS : okFn prog f71 12 [] [(4, none)] mc_laws_szEdgeS = true := by kernel_rfl
def mc_laws_toEdgeS : MCode :=
 .seq
 (.reg [
 ⟨some 2, none, .mov (.v (.nl 2))⟩] [0])
 (.seq
 (.reg [
 ⟨some 5, none, .mov (.t 0)⟩,
 ⟨some 6, none, .len (.t 5)⟩,
 ⟨some 7, none, .makeSlice 2 16 [.i .i64 0, .i .i64 0] (.t 6) (.t 6)⟩,
 ⟨some 3, none, .mov (.t 7)⟩] [0, 3])
 (.seq
 (.seq
 (.reg [
 ⟨some 4, none, .mov (.v (.i .i64 0))⟩] [0, 3, 4])
 (.block 0
 (.loop [0, 3, 4]
 (.seq
 (.seq
 (.reg [
 ⟨some 8, none, .mov (.t 4)⟩,
 ⟨some 9, none, .mov (.t 0)⟩,
 ⟨some 10, none, .len (.t 9)⟩,
 ⟨some 11, none, .bin .lss (.t 8) (.t 10)⟩] [0, 3, 4, 11])
 (.cond (.t 11)
 (.skip)
 (.exit 0)))
 (.seq
 (.block 1
 (.reg [
 ⟨some 14, none, .mov (.t 3)⟩,
 ⟨some 15, none, .mov (.t 4)⟩,
 ⟨some 16, none, .mov (.t 0)⟩,
 ⟨some 17, none, .mov (.t 4)⟩,
 ⟨some 18, none, .indexAddr 2 (.t 16) (.t 17)⟩,
 ⟨some 19, none, .load true 2 (.t 18)⟩,
 ⟨some 20, none, .call fid_laws_toEdge false [.im] [(.t 19)]⟩,
 ⟨some 21, none, .indexAddr 2 (.t 14) (.t 15)⟩,
 ⟨none, none, .store 2 (.t 21) (.t 20)⟩] [0, 3, 4]))
 (.reg [
 ⟨some 12, none, .mov (.t 4)⟩,
 ⟨some 13, none, .bin .add (.t 12) (.v (.i .i64 1))⟩,
 ⟨some 4, none, .mov (.t 13)⟩] [0, 3, 4]))))))
 (.seq
 (.reg [
 ⟨some 22, none, .mov (.t 3)⟩,
 ⟨some 2, none, .mov (.t 22)⟩] [2])
 (.ret))))
theorem get_laws_toEdgeS : prog.funcs[fid_laws_toEdgeS]? = some f72 := func72
theorem ok_laws_toEdgeS : okFn prog f72 23 [] [(2, none)] mc_laws_toEdgeS = true := by kernel_rfl
def mc_laws_eqIntS : MCode :=
 .seq
 (.reg [
 ⟨some 4, none, .mov (.v (.b false))⟩] [0, 1])
 (.seq
 (.seq
 (.reg [
 ⟨some 6, none, .mov (.t 0)⟩,
 ⟨some 7, none, .len (.t 6)⟩,
 ⟨some 8, none, .mov (.t 1)⟩,
 ⟨some 9, none, .len (.t 8)⟩,
 ⟨some 10, none, .bin .neq (.t 7) (.t 9)⟩] [0, 1, 10])
 (.cond (.t 10)
 (.seq
 (.reg [
 ⟨some 4, none, .mov (.v (.b false))⟩] [4])
 (.ret))
 (.skip)))
 (.seq
 (.seq
 (.reg [
 ⟨some 5, none, .mov (.v (.i .i64 0))⟩] [0, 1, 5])
 (.block 0
 (.loop [0, 1, 5]
 (.seq
 (.seq
 (.reg [
 ⟨some 11, none, .mov (.t 5)⟩,
 ⟨some 12, none, .mov (.t 0)⟩,
 ⟨some 13, none, .len (.t 12)⟩,
 ⟨some 14, none, .bin .lss (.t 11) (.t 13)⟩] [0, 1, 5, 14])
 (.cond (.t 14)
 (.skip)
 (.exit 0)))
 (.seq
 (.block 1
 (.seq
 (.draw [0, 0, 3, 7, 0, 0, 48, 112, 255] [
 ⟨some 17, none, .mov (.t 0)⟩,
 ⟨some 18, none, .mov (.t 5)⟩,
 ⟨some 19, none, .indexAddr 1 (.t 17) (.t 18)⟩,
 ⟨some 20, none, .load false 1 (.t 19)⟩,
 ⟨some 21, none, .mov (.t 1)⟩,
 ⟨some 22, none, .mov (.t 5)⟩,
 ⟨some 23, none, .indexAddr 1 (.t 21) (.t 22)⟩,
 ⟨some 24, none, .load false 1 (.t 23)⟩,
 ⟨some 25, none, .bin .neq (.t 20) (.t 24)⟩] [0, 1, 5, 25])
 (.cond (.t 25)
 (.seq
 (.reg [
 ⟨some 4, none, .mov (.v (.b false))⟩] [4])
 (.ret))
 (.skip))))
 (.reg [
 ⟨some 15, none, .mov (.t 5)⟩,
 ⟨some 16, none, .bin .add (.t 15) (.v (.i .i64 1))⟩,
 ⟨some 5, none, .mov (.t 16)⟩] [0, 1, 5]))))))
 (.seq
 (.reg [
 ⟨some 4, none, .mov (.v (.b true))⟩] [4])
 (.ret))))
theorem get_laws_eqIntS : prog.funcs[fid_laws_eqIntS]? = some f73 := func73
theorem ok_laws_eqIntS : okFn prog f73 26 [] [(4, none)] mc_laws_eqIntS = true := by kernel_rfl
def mc_laws_eqEdgeS : MCode :=
 .seq
 (.reg [
 ⟨some 4, none, .mov (.v (.b false))⟩] [0, 1])
 (.seq
 (.seq
 (.reg [
 ⟨some 6, none, .mov (.t 0)⟩,
 ⟨some 7, none, .len (.t 6)⟩,
 ⟨some 8, none, .mov (.t 1)⟩,
 ⟨some 9, none, .len (.t 8)⟩,
 ⟨some 10, none, .bin .neq (.t 7) (.t 9)⟩] [0, 1, 10])
 (.cond (.t 10)
 (.seq
 (.reg [
 ⟨some 4, none, .mov (.v (.b false))⟩] [4])
 (.ret))
 (.skip)))
 (.seq
 (.seq
 (.reg [
 ⟨some 5, none, .mov (.v (.i .i64 0))⟩] [0, 1, 5])
 (.block 0
 (.loop [0, 1, 5]
 (.seq
 (.seq
 (.reg [
 ⟨some 11, none, .mov (.t 5)⟩,
 ⟨some 12, none, .mov (.t 0)⟩,
 ⟨some 13, none, .len (.t 12)⟩,
 ⟨some 14, none, .bin .lss (.t 11) (.t 13)⟩] [0, 1, 5, 14])
 (.cond (.t 14)
 (.skip)
 (.exit 0)))
 (.seq
 (.block 1
 (.seq
 (.draw [0, 0, 3, 7, 0, 0, 48, 112, 255, 511] [
 ⟨some 17, none, .mov (.t 0)⟩,
 ⟨some 18, none, .mov (.t 5)⟩,
 ⟨some 19, none, .indexAddr 2 (.t 17) (.t 18)⟩,
 ⟨some 20, none, .load true 2 (.t 19)⟩,
 ⟨some 21, none, .mov (.t 1)⟩,
 ⟨some 22, none, .mov (.t 5)⟩,
 ⟨some 23, none, .indexAddr 2 (.t 21) (.t 22)⟩,
 ⟨some 24, none, .load true 2 (.t 23)⟩,
 ⟨some 25, none, .call fid_laws_eqEdge false [.im, .im] [(.t 20), (.t 24)]⟩,
 ⟨some 26, none, .un .not (.t 25)⟩] [0, 1, 5, 26])
 (.cond (.t 26)
 (.seq
 (.reg [
 ⟨some 4, none, .mov (.v (.b false))⟩] [4])
 (.ret))
 (.skip))))
 (.reg [
 ⟨some 15, none, .mov (.t 5)⟩,
 ⟨some 16, none, .bin .add (.t 15) (.v (.i .i64 1))⟩,
 ⟨some 5, none, .mov (.t 16)⟩] [0, 1, 5]))))))
 (.seq
 (.reg [
 ⟨some 4, none, .mov (.v (.b true))⟩] [4])
 (.ret))))
theorem get_laws_eqEdgeS : prog.funcs[fid_laws_eqEdgeS]? = some f74 := func74
theorem ok_laws_eqEdgeS : okFn prog f74 27 [] [(4, none)] mc_laws_eqEdgeS = true := by kernel_rfl
def mc_laws_markEdgeS : MCode :=
 .seq
 (.reg [
 ⟨some 4, none, .mov (.v (.i .i64 0))⟩] [0, 1])
 (.seq
 (.seq
 (.reg [
 ⟨some 5, none, .mov (.v (.i .i64 0))⟩] [0, 1, 5])
 (.block 0
 (.loop [0, 1, 5]
 (.seq
 (.seq
 (.reg [
 ⟨some 6, none, .mov (.t 5)⟩,
 ⟨some 7, none, .mov (.t 0)⟩,
 ⟨some 8, none, .len (.t 7)⟩,
 ⟨some 9, none, .bin .lss (.t 6) (.t 8)⟩] [0, 1, 5, 9])
 (.cond (.t 9)
 (.skip)
 (.exit 0)))
 (.seq
 (.block 1
 (.seq
 (.reg [
 ⟨some 12, none, .mov (.t 0)⟩,
 ⟨some 13, none, .mov (.t 5)⟩,
 ⟨some 14, none, .mov (.t 1)⟩,
 ⟨some 15, none, .indexAddr 2 (.t 12) (.t 13)⟩,
 ⟨some 16, none, .fieldAddr 0 (.t 15)⟩,
 ⟨none, none, .store 1 (.t 16) (.t 14)⟩] [0, 1, 5])
 (.seq
 (.reg [
 ⟨some 17, none, .mov (.t 1)⟩,
 ⟨some 18, none, .bin .add (.t 17) (.v (.i .i64 1))⟩,
 ⟨some 1, none, .mov (.t 18)⟩] [0, 1, 5])
 (.seq
 (.reg [
 ⟨some 19, none, .mov (.t 0)⟩,
 ⟨some 20, none, .mov (.t 5)⟩,
 ⟨some 21, none, .mov (.t 1)⟩,
 ⟨some 22, none, .indexAddr 2 (.t 19) (.t 20)⟩,
 ⟨some 23, none, .fieldAddr 1 (.t 22)⟩,
 ⟨none, none, .store 1 (.t 23) (.t 21)⟩] [0, 1, 5])
 (.reg [
 ⟨some 24, none, .mov (.t 1)⟩,
 ⟨some 25, none, .bin .add (.t 24) (.v (.i .i64 1))⟩,
 ⟨some 1, none, .mov (.t 25)⟩] [0, 1, 5])))))
 (.reg [
 ⟨some 10, none, .mov (.t 5)⟩,
 ⟨some 11, none, .bin .add (.t 10) (.v (.i .i64 1))⟩,
 ⟨some 5, none, .mov (.t 11)⟩] [0, 1, 5]))))))
 (.seq
 (.reg [
 ⟨some 26, none, .mov (.t 1)⟩,
 ⟨some 4, none, .mov (.t 26)⟩] [0, 4])
 (.ret)))
theorem get_laws_markEdgeS : prog.funcs[fid_laws_markEdgeS]? = some f75 := func75
theorem ok_laws_markEdgeS : okFn prog f75 27 [0] [(4, none)] mc_laws_markEdgeS = true := by kernel_rfl
def mc_laws_markIntS : MCode :=
 .seq
 (.reg [
 ⟨some 4, none, .mov (.v (.i .i64 0))⟩] [0, 1])
 (.seq
 (.seq
 (.reg [
 ⟨some 5, none, .mov (.v (.i .i64 0))⟩] [0, 1, 5])
 (.block 0
 (.loop [0, 1, 5]
 (.seq
 (.seq
 (.reg [
 ⟨some 6, none, .mov (.t 5)⟩,
 ⟨some 7, none, .mov (.t 0)⟩,
 ⟨some 8, none, .len (.t 7)⟩,
 ⟨some 9, none, .bin .lss (.t 6) (.t 8)⟩] [0, 1, 5, 9])
 (.cond (.t 9)
 (.skip)
 (.exit 0)))
 (.seq
 (.block 1
 (.seq
 (.reg [
 ⟨some 12, none, .mov (.t 0)⟩,
 ⟨some 13, none, .mov (.t 5)⟩,
 ⟨some 14, none, .mov (.t 1)⟩,
 ⟨some 15, none, .indexAddr 1 (.t 12) (.t 13)⟩,
 ⟨none, none, .store 1 (.t 15) (.t 14)⟩] [0, 1, 5])
 (.reg [
 ⟨some 16, none, .mov (.t 1)⟩,
 ⟨some 17, none, .bin .add (.t 16) (.v (.i .i64 1))⟩,
 ⟨some 1, none, .mov (.t 17)⟩] [0, 1, 5])))
 (.reg [
 ⟨some 10, none, .mov (.t 5)⟩,
 ⟨some 11, none, .bin .add (.t 10) (.v (.i .i64 1))⟩,
 ⟨some 5, none, .mov (.t 11)⟩] [0, 1, 5]))))))
 (.seq
 (.reg [
 ⟨some 18, none, .mov (.t 1)⟩,
 ⟨some 4, none, .mov (.t 18)⟩] [0, 4])
 (.ret)))
theorem get_laws_markIntS : prog.funcs[fid_laws_markIntS]? = some f76 := func76
theorem ok_laws_markIntS : okFn prog f76 19 [0] [(4, none)] mc_laws_markIntS = true := by kernel_rfl
def mc_laws_heldIntS : MCode :=
 .seq
 (.reg [
 ⟨some 4, none, .mov (.v (.i .i64 0))⟩] [0, 1])
 (.seq
 (.seq
 (.reg [
 ⟨some 5, none, .mov (.v (.i .i64 0))⟩] [0, 1, 5])
 (.block 0
 (.loop [0, 1, 5]
 (.seq
 (.seq
 (.reg [
 ⟨some 6, none, .mov (.t 5)⟩,
 ⟨some 7, none, .mov (.t 0)⟩,
 ⟨some 8, none, .len (.t 7)⟩,
 ⟨some 9, none, .bin .lss (.t 6) (.t 8)⟩] [0, 1, 5, 9])
 (.cond (.t 9)
 (.skip)
 (.exit 0)))
 (.seq
 (.block 1
 (.seq
 (.seq
 (.reg [
 ⟨some 12, none, .mov (.t 0)⟩,
 ⟨some 13, none, .mov (.t 5)⟩,
 ⟨some 14, none, .indexAddr 1 (.t 12) (.t 13)⟩,
 ⟨some 15, none, .load false 1 (.t 14)⟩,
 ⟨some 16, none, .mov (.t 1)⟩,
 ⟨some 17, none, .bin .neq (.t 15) (.t 16)⟩] [0, 1, 5, 17])
 (.cond (.t 17)
 (.seq
 (.reg [
 ⟨some 4, none, .mov (.v (.i .i64 (-1)))⟩] [4])
 (.ret))
 (.skip)))
 (.reg [
 ⟨some 18, none, .mov (.t 1)⟩,
 ⟨some 19, none, .bin .add (.t 18) (.v (.i .i64 1))⟩,
 ⟨some 1, none, .mov (.t 19)⟩] [0, 1, 5])))
 (.reg [
 ⟨some 10, none, .mov (.t 5)⟩,
 ⟨some 11, none, .bin .add (.t 10) (.v (.i .i64 1))⟩,
 ⟨some 5, none, .mov (.t 11)⟩] [0, 1, 5]))))))
 (.seq
 (.reg [
 ⟨some 20, none, .mov (.t 1)⟩,
 ⟨some 4, none, .mov (.t 20)⟩] [4])
 (.ret)))
theorem get_laws_heldIntS : prog.funcs[fid_laws_heldIntS]? = some f77 := func77
theorem ok_laws_heldIntS : okFn prog f77 21 [] [(4, none)] mc_laws_heldIntS = true := by kernel_rfl
def mc_laws_heldEdgeS : MCode :=
 .seq
 (.reg [
 ⟨some 4, none, .mov (.v (.i .i64 0))⟩] [0, 1])
 (.seq
 (.seq
 (.reg [
 ⟨some 5, none, .mov (.v (.i .i64 0))⟩] [0, 1, 5])
 (.block 0
 (.loop [0, 1, 5]
 (.seq
 (.seq
 (.reg [
 ⟨some 6, none, .mov (.t 5)⟩,
 ⟨some 7, none, .mov (.t 0)⟩,
 ⟨some 8, none, .len (.t 7)⟩,
 ⟨some 9, none, .bin .lss (.t 6) (.t 8)⟩] [0, 1, 5, 9])
 (.cond (.t 9)
 (.skip)
 (.exit 0)))
 (.seq
 (.block 1
 (.seq
 (.seq
 (.reg [
 ⟨some 12, none, .mov (.t 0)⟩,
 ⟨some 13, none, .mov (.t 5)⟩,
 ⟨some 14, none, .indexAddr 2 (.t 12) (.t 13)⟩,
 ⟨some 15, none, .fieldAddr 0 (.t 14)⟩,
 ⟨some 16, none, .load false 1 (.t 15)⟩,
 ⟨some 17, none, .mov (.t 1)⟩,
 ⟨some 18, none, .bin .neq (.t 16) (.t 17)⟩] [0, 1, 5, 18])
 (.cond (.t 18)
 (.seq
 (.reg [
 ⟨some 4, none, .mov (.v (.i .i64 (-1)))⟩] [4])
 (.ret))
 (.skip)))
 (.seq
 (.reg [
 ⟨some 19, none, .mov (.t 1)⟩,
 ⟨some 20, none, .bin .add (.t 19) (.v (.i .i64 1))⟩,
 ⟨some 1, none, .mov (.t 20)⟩] [0, 1, 5])
 (.seq
 (.seq
 (.reg [
 ⟨some 21, none, .mov (.t 0)⟩,
 ⟨some 22, none, .mov (.t 5)⟩,
 ⟨some 23, none, .indexAddr 2 (.t 21) (.t 22)⟩,
 ⟨some 24, none, .fieldAddr 1 (.t 23)⟩,
 ⟨some 25, none, .load false 1 (.t 24)⟩,
 ⟨some 26, none, .mov (.t 1)⟩,
 ⟨some 27, none, .bin .neq (.t 25) (.t 26)⟩] [0, 1, 5, 27])
 (.cond (.t 27)
 (.seq
 (.reg [
 ⟨some 4, none, .mov (.v (.i .i64 (-1)))⟩] [4])
 (.ret))
 (.skip)))
 (.reg [
 ⟨some 28, none, .mov (.t 1)⟩,
 ⟨some 29, none, .bin .add (.t 28) (.v (.i .i64 1))⟩,
 ⟨some 1, none, .mov (.t 29)⟩] [0, 1, 5])))))
 (.reg [
 ⟨some 10, none, .mov (.t 5)⟩,
 ⟨some 11, none, .bin .add (.t 10) (.v (.i .i64 1))⟩,
 ⟨some 5, none, .mov (.t 11)⟩] [0, 1, 5]))))))
 (.seq
 (.reg [
 ⟨some 30, none, .mov (.t 1)⟩,
 ⟨some 4, none, .mov (.t 30)⟩] [4])
 (.ret)))
theorem get_laws_heldEdgeS : prog.funcs[fid_laws_heldEdgeS]? = some f85 := func85
theorem ok_laws_heldEdgeS : okFn prog f85 31 [] [(4, none)] mc_laws_heldEdgeS = true := by kernel_rfl
def mc_laws_toEdge : MCode :=
 .seq
 (.reg [
 ⟨some 1, none, .box 2 (.t 0)⟩,
 ⟨some 2, none, .alloc [.i .i64 0, .i .i64 0]⟩] [1, 2])
 (.seq
 (.reg [
 ⟨some 3, none, .alloc [.i .i64 0, .i .i64 0]⟩] [1, 2, 3])
 (.seq
 (.reg [
 ⟨some 4, none, .fieldAddr 0 (.t 1)⟩,
 ⟨some 5, none, .load false 1 (.t 4)⟩,
 ⟨some 6, none, .fieldAddr 0 (.t 3)⟩,
 ⟨none, none, .store 1 (.t 6) (.t 5)⟩] [1, 2, 3])
 (.seq
 (.reg [
 ⟨some 7, none, .fieldAddr 1 (.t 1)⟩,
 ⟨some 8, none, .load false 1 (.t 7)⟩,
 ⟨some 9, none, .fieldAddr 1 (.t 3)⟩,
 ⟨none, none, .store 1 (.t 9) (.t 8)⟩] [2, 3])
 (.seq
 (.reg [
 ⟨some 10, none, .load true 2 (.t 3)⟩,
 ⟨none, none, .store 2 (.t 2) (.t 10)⟩] [2])
 (.ret)))))
theorem get_laws_toEdge : prog.funcs[fid_laws_toEdge]? = some f117 := func117
theorem ok_laws_toEdge : okFn prog f117 11 [] [(2, some (true, 2))] mc_laws_toEdge = true := by kernel_rfl
def mc_laws_eqEdge : MCode :=
 .seq
 (.reg [
 ⟨some 2, none, .box 2 (.t 0)⟩,
 ⟨some 3, none, .box 2 (.t 1)⟩,
 ⟨some 4, none, .mov (.v (.b false))⟩] [2, 3])
 (.seq
 (.seq
 (.reg [
 ⟨some 5, none, .fieldAddr 0 (.t 2)⟩,
 ⟨some 6, none, .load false 1 (.t 5)⟩,
 ⟨some 7, none, .fieldAddr 0 (.t 3)⟩,
 ⟨some 8, none, .load false 1 (.t 7)⟩,
 ⟨some 9, none, .bin .neq (.t 6) (.t 8)⟩] [2, 3, 9])
 (.cond (.t 9)
 (.seq
 (.reg [
 ⟨some 4, none, .mov (.v (.b false))⟩] [4])
 (.ret))
 (.skip)))
 (.seq
 (.seq
 (.reg [
 ⟨some 10, none, .fieldAddr 1 (.t 2)⟩,
 ⟨some 11, none, .load false 1 (.t 10)⟩,
 ⟨some 12, none, .fieldAddr 1 (.t 3)⟩,
 ⟨some 13, none, .load false 1 (.t 12)⟩,
 ⟨some 14, none, .bin .neq (.t 11) (.t 13)⟩] [14])
 (.cond (.t 14)
 (.seq
 (.reg [
 ⟨some 4, none, .mov (.v (.b false))⟩] [4])
 (.ret))
 (.skip)))
 (.seq
 (.reg [
 ⟨some 4, none, .mov (.v (.b true))⟩] [4])
 (.ret))))
theorem get_laws_eqEdge : prog.funcs[fid_laws_eqEdge]? = some f118 := func118
theorem ok_laws_eqEdge : okFn prog f118 15 [] [(4, none)] mc_laws_eqEdge = true := by kernel_rfl

end Go.Fw
