/- All contracts in one table, and that each is met. No condition. -/
import Derived.Test.YtpdcjocjkbgddaaDoorYa
namespace Go.Proofs.YtpdcjocjkbgddaaDoor.Abs
open Go.RowKit
set_option maxRecDepth 20000

def t1 : Tab := (6, s6) :: []
theorem a1 : AllMeets Tryd.prog t1 := (allMeets_nil Tryd.prog).add mixed kp6 (show Tryd.prog.funcs[6]? = some Tryd.f6 from Tryd.func6) (by kernel_rfl) (f6 [])
def t2 : Tab := (7, s7) :: t1
theorem a2 : AllMeets Tryd.prog t2 := a1.add mixed kp7 (show Tryd.prog.funcs[7]? = some Tryd.f7 from Tryd.func7) (by kernel_rfl) (f7 t1)
def t3 : Tab := (4, s4) :: t2
theorem a3 : AllMeets Tryd.prog t3 := a2.add mixed kp4 (show Tryd.prog.funcs[4]? = some Tryd.f4 from Tryd.func4) (by kernel_rfl) (f4 t2 rfl rfl)
def t4 : Tab := (8, s8) :: t3
theorem a4 : AllMeets Tryd.prog t4 := a3.add mixed kp8 (show Tryd.prog.funcs[8]? = some Tryd.f8 from Tryd.func8) (by kernel_rfl) (f8 t3)
def t5 : Tab := (9, s9) :: t4
theorem a5 : AllMeets Tryd.prog t5 := a4.cons m9
def t6 : Tab := (5, s5) :: t5
theorem a6 : AllMeets Tryd.prog t6 := a5.add mixed kp5 (show Tryd.prog.funcs[5]? = some Tryd.f5 from Tryd.func5) (by kernel_rfl) (f5 t5 rfl rfl)
def t7 : Tab := (3, s3) :: t6
theorem a7 : AllMeets Tryd.prog t7 := a6.add mixed kp3 (show Tryd.prog.funcs[3]? = some Tryd.f3 from Tryd.func3) (by kernel_rfl) (f3 t6 rfl rfl)
end Go.Proofs.YtpdcjocjkbgddaaDoor.Abs
