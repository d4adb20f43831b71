/- All contracts in one table, and that each is met. No condition. -/
import Derived.Test.YtcbjdodehjpddaaJr
namespace Go.Proofs.Ytcbjdodehjpddaa.Abs
open Go.RowKit

def t1 : Tab := (85, s85) :: []
theorem a1 : AllMeets Try.prog t1 := (allMeets_nil Try.prog).add mixed kp85 (show Try.prog.funcs[85]? = some Try.f85 from Try.func85) (by kernel_rfl) (f85 [])
def t2 : Tab := (89, s89) :: t1
theorem a2 : AllMeets Try.prog t2 := a1.add mixed kp89 (show Try.prog.funcs[89]? = some Try.f89 from Try.func89) (by kernel_rfl) (f89 t1)
def t3 : Tab := (87, s87) :: t2
theorem a3 : AllMeets Try.prog t3 := a2.add mixed kp87 (show Try.prog.funcs[87]? = some Try.f87 from Try.func87) (by kernel_rfl) (f87 t2)
def t4 : Tab := (88, s88) :: t3
theorem a4 : AllMeets Try.prog t4 := a3.add mixed kp88 (show Try.prog.funcs[88]? = some Try.f88 from Try.func88) (by kernel_rfl) (f88 t3)
def t5 : Tab := (86, s86) :: t4
theorem a5 : AllMeets Try.prog t5 := a4.add mixed kp86 (show Try.prog.funcs[86]? = some Try.f86 from Try.func86) (by kernel_rfl) (f86 t4)
def t6 : Tab := (26, s26) :: t5
theorem a6 : AllMeets Try.prog t6 := a5.add mixed kp26 (show Try.prog.funcs[26]? = some Try.f26 from Try.func26) (by kernel_rfl) (f26 t5)
def t7 : Tab := (27, s27) :: t6
theorem a7 : AllMeets Try.prog t7 := a6.add mixed kp27 (show Try.prog.funcs[27]? = some Try.f27 from Try.func27) (by kernel_rfl) (f27 t6)
def t8 : Tab := (28, s28) :: t7
theorem a8 : AllMeets Try.prog t8 := a7.add mixed kp28 (show Try.prog.funcs[28]? = some Try.f28 from Try.func28) (by kernel_rfl) (f28 t7)
def t9 : Tab := (55, s55) :: t8
theorem a9 : AllMeets Try.prog t9 := a8.add mixed kp55 (show Try.prog.funcs[55]? = some Try.f55 from Try.func55) (by kernel_rfl) (f55 t8 rfl)
def t10 : Tab := (54, s54) :: t9
theorem a10 : AllMeets Try.prog t10 := a9.add mixed kp54 (show Try.prog.funcs[54]? = some Try.f54 from Try.func54) (by kernel_rfl) (f54 t9 rfl)
def t11 : Tab := (50, s50) :: t10
theorem a11 : AllMeets Try.prog t11 := a10.add mixed kp50 (show Try.prog.funcs[50]? = some Try.f50 from Try.func50) (by kernel_rfl) (f50 t10 rfl)
def t12 : Tab := (49, s49) :: t11
theorem a12 : AllMeets Try.prog t12 := a11.add mixed kp49 (show Try.prog.funcs[49]? = some Try.f49 from Try.func49) (by kernel_rfl) (f49 t11 rfl)
def t13 : Tab := (57, s57) :: t12
theorem a13 : AllMeets Try.prog t13 := a12.add mixed kp57 (show Try.prog.funcs[57]? = some Try.f57 from Try.func57) (by kernel_rfl) (f57 t12)
def t14 : Tab := (56, s56) :: t13
theorem a14 : AllMeets Try.prog t14 := a13.add mixed kp56 (show Try.prog.funcs[56]? = some Try.f56 from Try.func56) (by kernel_rfl) (f56 t13)
def t15 : Tab := (44, s44) :: t14
theorem a15 : AllMeets Try.prog t15 := a14.add mixed kp44 (show Try.prog.funcs[44]? = some Try.f44 from Try.func44) (by kernel_rfl) (f44 t14)
def t16 : Tab := (45, s45) :: t15
theorem a16 : AllMeets Try.prog t16 := a15.add mixed kp45 (show Try.prog.funcs[45]? = some Try.f45 from Try.func45) (by kernel_rfl) (f45 t15)
def t17 : Tab := (17, s17) :: t16
theorem a17 : AllMeets Try.prog t17 := a16.add mixed kp17 (show Try.prog.funcs[17]? = some Try.f17 from Try.func17) (by kernel_rfl) (f17 t16 rfl rfl)
def t18 : Tab := (19, s19) :: t17
theorem a18 : AllMeets Try.prog t18 := a17.add mixed kp19 (show Try.prog.funcs[19]? = some Try.f19 from Try.func19) (by kernel_rfl) (f19 t17 rfl rfl)
def t19 : Tab := (21, s21) :: t18
theorem a19 : AllMeets Try.prog t19 := a18.add mixed kp21 (show Try.prog.funcs[21]? = some Try.f21 from Try.func21) (by kernel_rfl) (f21 t18 rfl rfl)
def t20 : Tab := (22, s22) :: t19
theorem a20 : AllMeets Try.prog t20 := a19.add mixed kp22 (show Try.prog.funcs[22]? = some Try.f22 from Try.func22) (by kernel_rfl) (f22 t19 rfl rfl)
def t21 : Tab := (63, s63) :: t20
theorem a21 : AllMeets Try.prog t21 := a20.add mixed kp63 (show Try.prog.funcs[63]? = some Try.f63 from Try.func63) (by kernel_rfl) (f63 t20)
def t22 : Tab := (53, s53) :: t21
theorem a22 : AllMeets Try.prog t22 := a21.add mixed kp53 (show Try.prog.funcs[53]? = some Try.f53 from Try.func53) (by kernel_rfl) (f53 t21 rfl)
def t23 : Tab := (67, s67) :: t22
theorem a23 : AllMeets Try.prog t23 := a22.cons m67
def t24 : Tab := (68, s68) :: t23
theorem a24 : AllMeets Try.prog t24 := a23.cons m68
def t25 : Tab := (32, s32) :: t24
theorem a25 : AllMeets Try.prog t25 := a24.add mixed kp32 (show Try.prog.funcs[32]? = some Try.f32 from Try.func32) (by kernel_rfl) (f32 t24 rfl rfl rfl)
def t26 : Tab := (31, s31) :: t25
theorem a26 : AllMeets Try.prog t26 := a25.add mixed kp31 (show Try.prog.funcs[31]? = some Try.f31 from Try.func31) (by kernel_rfl) (f31 t25)
def t27 : Tab := (7, s7) :: t26
theorem a27 : AllMeets Try.prog t27 := a26.add mixed kp7 (show Try.prog.funcs[7]? = some Try.f7 from Try.func7) (by kernel_rfl) (f7 t26 rfl rfl rfl rfl rfl rfl rfl rfl rfl)
end Go.Proofs.Ytcbjdodehjpddaa.Abs
