/- All contracts in one table, and that each is met. No condition. -/
import Derived.Test.YtcbjdodehjpddaaPi
namespace Go.Proofs.Ytcbjdodehjpddaa.Abs
open Go.RowKit
set_option maxRecDepth 20000

def t1 : Tab := (44, s44) :: []
theorem a1 : AllMeets Try.prog t1 := (allMeets_nil Try.prog).add mixed kp44 (show Try.prog.funcs[44]? = some Try.f44 from Try.func44) (by kernel_rfl) (f44 [])
def t2 : Tab := (45, s45) :: t1
theorem a2 : AllMeets Try.prog t2 := a1.add mixed kp45 (show Try.prog.funcs[45]? = some Try.f45 from Try.func45) (by kernel_rfl) (f45 t1)
def t3 : Tab := (17, s17') :: t2
theorem a3 : AllMeets Try.prog t3 := a2.add mixed kp17 (show Try.prog.funcs[17]? = some Try.f17 from Try.func17) (by kernel_rfl) (fun args m Q h => f17 t2 rfl rfl args m Q (to17 h))
def t4 : Tab := (69, s69) :: t3
theorem a4 : AllMeets Try.prog t4 := a3.add mixed kp69 (show Try.prog.funcs[69]? = some Try.f69 from Try.func69) (by kernel_rfl) (f69 t3 rfl)
def t5 : Tab := (70, s70) :: t4
theorem a5 : AllMeets Try.prog t5 := a4.add mixed kp70 (show Try.prog.funcs[70]? = some Try.f70 from Try.func70) (by kernel_rfl) (f70 t4)
def t6 : Tab := (33, s33) :: t5
theorem a6 : AllMeets Try.prog t6 := a5.add mixed kp33 (show Try.prog.funcs[33]? = some Try.f33 from Try.func33) (by kernel_rfl) (f33 t5 rfl rfl)
def t7 : Tab := (86, s86) :: t6
theorem a7 : AllMeets Try.prog t7 := a6.add mixed kp86 (show Try.prog.funcs[86]? = some Try.f86 from Try.func86) (by kernel_rfl) (f86 t6)
def t8 : Tab := (49, s49) :: t7
theorem a8 : AllMeets Try.prog t8 := a7.add mixed kp49 (show Try.prog.funcs[49]? = some Try.f49 from Try.func49) (by kernel_rfl) (f49 t7 rfl)
def t9 : Tab := (87, s87) :: t8
theorem a9 : AllMeets Try.prog t9 := a8.add mixed kp87 (show Try.prog.funcs[87]? = some Try.f87 from Try.func87) (by kernel_rfl) (f87 t8)
def t10 : Tab := (50, s50) :: t9
theorem a10 : AllMeets Try.prog t10 := a9.add mixed kp50 (show Try.prog.funcs[50]? = some Try.f50 from Try.func50) (by kernel_rfl) (f50 t9 rfl)
def t11 : Tab := (19, s19') :: t10
theorem a11 : AllMeets Try.prog t11 := a10.add mixed kp19 (show Try.prog.funcs[19]? = some Try.f19 from Try.func19) (by kernel_rfl) (fun args m Q h => f19 t10 rfl rfl args m Q (to19 h))
def t12 : Tab := (74, s74) :: t11
theorem a12 : AllMeets Try.prog t12 := a11.add mixed kp74 (show Try.prog.funcs[74]? = some Try.f74 from Try.func74) (by kernel_rfl) (f74 t11 rfl)
def t13 : Tab := (75, s75) :: t12
theorem a13 : AllMeets Try.prog t13 := a12.add mixed kp75 (show Try.prog.funcs[75]? = some Try.f75 from Try.func75) (by kernel_rfl) (f75 t12)
def t14 : Tab := (35, s35) :: t13
theorem a14 : AllMeets Try.prog t14 := a13.add mixed kp35 (show Try.prog.funcs[35]? = some Try.f35 from Try.func35) (by kernel_rfl) (f35 t13 rfl rfl)
def t15 : Tab := (88, s88) :: t14
theorem a15 : AllMeets Try.prog t15 := a14.add mixed kp88 (show Try.prog.funcs[88]? = some Try.f88 from Try.func88) (by kernel_rfl) (f88 t14)
def t16 : Tab := (54, s54) :: t15
theorem a16 : AllMeets Try.prog t16 := a15.add mixed kp54 (show Try.prog.funcs[54]? = some Try.f54 from Try.func54) (by kernel_rfl) (f54 t15 rfl)
def t17 : Tab := (89, s89) :: t16
theorem a17 : AllMeets Try.prog t17 := a16.add mixed kp89 (show Try.prog.funcs[89]? = some Try.f89 from Try.func89) (by kernel_rfl) (f89 t16)
def t18 : Tab := (55, s55) :: t17
theorem a18 : AllMeets Try.prog t18 := a17.add mixed kp55 (show Try.prog.funcs[55]? = some Try.f55 from Try.func55) (by kernel_rfl) (f55 t17 rfl)
def t19 : Tab := (21, s21') :: t18
theorem a19 : AllMeets Try.prog t19 := a18.add mixed kp21 (show Try.prog.funcs[21]? = some Try.f21 from Try.func21) (by kernel_rfl) (fun args m Q h => f21 t18 rfl rfl args m Q (to21 h))
def t20 : Tab := (79, s79) :: t19
theorem a20 : AllMeets Try.prog t20 := a19.add mixed kp79 (show Try.prog.funcs[79]? = some Try.f79 from Try.func79) (by kernel_rfl) (f79 t19 rfl)
def t21 : Tab := (80, s80) :: t20
theorem a21 : AllMeets Try.prog t21 := a20.add mixed kp80 (show Try.prog.funcs[80]? = some Try.f80 from Try.func80) (by kernel_rfl) (f80 t20)
def t22 : Tab := (37, s37) :: t21
theorem a22 : AllMeets Try.prog t22 := a21.add mixed kp37 (show Try.prog.funcs[37]? = some Try.f37 from Try.func37) (by kernel_rfl) (f37 t21 rfl rfl)
def t23 : Tab := (56, s56') :: t22
theorem a23 : AllMeets Try.prog t23 := a22.add mixed kp56 (show Try.prog.funcs[56]? = some Try.f56 from Try.func56) (by kernel_rfl) (f56' t22)
def t24 : Tab := (57, s57') :: t23
theorem a24 : AllMeets Try.prog t24 := a23.add mixed kp57 (show Try.prog.funcs[57]? = some Try.f57 from Try.func57) (by kernel_rfl) (f57' t23)
def t25 : Tab := (81, s81) :: t24
theorem a25 : AllMeets Try.prog t25 := a24.add mixed kp81 (show Try.prog.funcs[81]? = some Try.f81 from Try.func81) (by kernel_rfl) (f81 t24 rfl rfl)
def t26 : Tab := (94, s94) :: t25
theorem a26 : AllMeets Try.prog t26 := a25.add mixed kp94 (show Try.prog.funcs[94]? = some Try.f94 from Try.func94) (by kernel_rfl) (f94 t25)
def t27 : Tab := (82, s82) :: t26
theorem a27 : AllMeets Try.prog t27 := a26.add mixed kp82 (show Try.prog.funcs[82]? = some Try.f82 from Try.func82) (by kernel_rfl) (f82 t26 rfl)
def t28 : Tab := (38, s38) :: t27
theorem a28 : AllMeets Try.prog t28 := a27.add mixed kp38 (show Try.prog.funcs[38]? = some Try.f38 from Try.func38) (by kernel_rfl) (f38 t27 rfl rfl)
def t29 : Tab := (58, s58) :: t28
theorem a29 : AllMeets Try.prog t29 := a28.add mixed kp58 (show Try.prog.funcs[58]? = some Try.f58 from Try.func58) (by kernel_rfl) (f58 t28)
def t30 : Tab := (59, s59) :: t29
theorem a30 : AllMeets Try.prog t30 := a29.add mixed kp59 (show Try.prog.funcs[59]? = some Try.f59 from Try.func59) (by kernel_rfl) (f59 t29)
def t31 : Tab := (83, s83) :: t30
theorem a31 : AllMeets Try.prog t31 := a30.add mixed kp83 (show Try.prog.funcs[83]? = some Try.f83 from Try.func83) (by kernel_rfl) (f83 t30 rfl rfl)
def t32 : Tab := (84, s84) :: t31
theorem a32 : AllMeets Try.prog t32 := a31.add mixed kp84 (show Try.prog.funcs[84]? = some Try.f84 from Try.func84) (by kernel_rfl) (f84 t31 rfl)
def t33 : Tab := (39, s39) :: t32
theorem a33 : AllMeets Try.prog t33 := a32.add mixed kp39 (show Try.prog.funcs[39]? = some Try.f39 from Try.func39) (by kernel_rfl) (f39 t32 rfl rfl)
def t34 : Tab := (46, s46) :: t33
theorem a34 : AllMeets Try.prog t34 := a33.add mixed kp46 (show Try.prog.funcs[46]? = some Try.f46 from Try.func46) (by kernel_rfl) (f46 t33)
def t35 : Tab := (48, s48) :: t34
theorem a35 : AllMeets Try.prog t35 := a34.add mixed kp48 (show Try.prog.funcs[48]? = some Try.f48 from Try.func48) (by kernel_rfl) (f48 t34)
def t36 : Tab := (85, s85) :: t35
theorem a36 : AllMeets Try.prog t36 := a35.add mixed kp85 (show Try.prog.funcs[85]? = some Try.f85 from Try.func85) (by kernel_rfl) (f85 t35)
def t37 : Tab := (47, s47) :: t36
theorem a37 : AllMeets Try.prog t37 := a36.add mixed kp47 (show Try.prog.funcs[47]? = some Try.f47 from Try.func47) (by kernel_rfl) (f47 t36 rfl rfl)
def t38 : Tab := (18, s18) :: t37
theorem a38 : AllMeets Try.prog t38 := a37.add mixed kp18 (show Try.prog.funcs[18]? = some Try.f18 from Try.func18) (by kernel_rfl) (f18 t37 rfl rfl rfl)
def t39 : Tab := (65, s65) :: t38
theorem a39 : AllMeets Try.prog t39 := a38.add mixed kp65 (show Try.prog.funcs[65]? = some Try.f65 from Try.func65) (by kernel_rfl) (f65 t38 rfl)
def t40 : Tab := (29, s29) :: t39
theorem a40 : AllMeets Try.prog t40 := a39.add mixed kp29 (show Try.prog.funcs[29]? = some Try.f29 from Try.func29) (by kernel_rfl) (f29 t39 rfl rfl rfl rfl)
def t41 : Tab := (92, s92) :: t40
theorem a41 : AllMeets Try.prog t41 := a40.add mixed kp92 (show Try.prog.funcs[92]? = some Try.f92 from Try.func92) (by kernel_rfl) (f92 t40 rfl)
def t42 : Tab := (71, s71) :: t41
theorem a42 : AllMeets Try.prog t42 := a41.add mixed kp71 (show Try.prog.funcs[71]? = some Try.f71 from Try.func71) (by kernel_rfl) (f71 t41 rfl rfl)
def t43 : Tab := (72, s72) :: t42
theorem a43 : AllMeets Try.prog t43 := a42.add mixed kp72 (show Try.prog.funcs[72]? = some Try.f72 from Try.func72) (by kernel_rfl) (f72 t42)
def t44 : Tab := (73, s73) :: t43
theorem a44 : AllMeets Try.prog t44 := a43.add mixed kp73 (show Try.prog.funcs[73]? = some Try.f73 from Try.func73) (by kernel_rfl) (f73 t43 rfl)
def t45 : Tab := (40, s40) :: t44
theorem a45 : AllMeets Try.prog t45 := a44.add mixed kp40 (show Try.prog.funcs[40]? = some Try.f40 from Try.func40) (by kernel_rfl) (f40 t44 rfl rfl rfl rfl rfl)
def t46 : Tab := (51, s51) :: t45
theorem a46 : AllMeets Try.prog t46 := a45.add mixed kp51 (show Try.prog.funcs[51]? = some Try.f51 from Try.func51) (by kernel_rfl) (f51 t45)
def t47 : Tab := (63, s63) :: t46
theorem a47 : AllMeets Try.prog t47 := a46.add mixed kp63 (show Try.prog.funcs[63]? = some Try.f63 from Try.func63) (by kernel_rfl) (f63 t46)
def t48 : Tab := (53, s53) :: t47
theorem a48 : AllMeets Try.prog t48 := a47.add mixed kp53 (show Try.prog.funcs[53]? = some Try.f53 from Try.func53) (by kernel_rfl) (f53 t47 rfl)
def t49 : Tab := (52, s52) :: t48
theorem a49 : AllMeets Try.prog t49 := a48.add mixed kp52 (show Try.prog.funcs[52]? = some Try.f52 from Try.func52) (by kernel_rfl) (f52 t48 rfl rfl)
def t50 : Tab := (20, s20) :: t49
theorem a50 : AllMeets Try.prog t50 := a49.add mixed kp20 (show Try.prog.funcs[20]? = some Try.f20 from Try.func20) (by kernel_rfl) (f20 t49 rfl rfl rfl)
def t51 : Tab := (66, s66) :: t50
theorem a51 : AllMeets Try.prog t51 := a50.add mixed kp66 (show Try.prog.funcs[66]? = some Try.f66 from Try.func66) (by kernel_rfl) (f66 t50)
def t52 : Tab := (30, s30) :: t51
theorem a52 : AllMeets Try.prog t52 := a51.add mixed kp30 (show Try.prog.funcs[30]? = some Try.f30 from Try.func30) (by kernel_rfl) (f30 t51 rfl rfl rfl rfl)
def t53 : Tab := (106, s106) :: t52
theorem a53 : AllMeets Try.prog t53 := a52.add mixed kp106 (show Try.prog.funcs[106]? = some Try.f106 from Try.func106) (by kernel_rfl) (f106 t52 rfl)
def t54 : Tab := (107, s107) :: t53
theorem a54 : AllMeets Try.prog t54 := a53.add mixed kp107 (show Try.prog.funcs[107]? = some Try.f107 from Try.func107) (by kernel_rfl) (f107 t53)
def t55 : Tab := (93, s93) :: t54
theorem a55 : AllMeets Try.prog t55 := a54.add mixed kp93 (show Try.prog.funcs[93]? = some Try.f93 from Try.func93) (by kernel_rfl) (f93 t54 rfl rfl rfl)
def t56 : Tab := (76, s76) :: t55
theorem a56 : AllMeets Try.prog t56 := a55.add mixed kp76 (show Try.prog.funcs[76]? = some Try.f76 from Try.func76) (by kernel_rfl) (f76 t55 rfl rfl)
def t57 : Tab := (77, s77) :: t56
theorem a57 : AllMeets Try.prog t57 := a56.add mixed kp77 (show Try.prog.funcs[77]? = some Try.f77 from Try.func77) (by kernel_rfl) (f77 t56)
def t58 : Tab := (78, s78) :: t57
theorem a58 : AllMeets Try.prog t58 := a57.add mixed kp78 (show Try.prog.funcs[78]? = some Try.f78 from Try.func78) (by kernel_rfl) (f78 t57 rfl)
def t59 : Tab := (41, s41) :: t58
theorem a59 : AllMeets Try.prog t59 := a58.add mixed kp41 (show Try.prog.funcs[41]? = some Try.f41 from Try.func41) (by kernel_rfl) (f41 t58 rfl rfl rfl rfl rfl)
def t60 : Tab := (9, s9) :: t59
theorem a60 : AllMeets Try.prog t60 := a59.add mixed kp9 (show Try.prog.funcs[9]? = some Try.f9 from Try.func9) (by kernel_rfl) (f9 t59 rfl rfl rfl rfl rfl rfl rfl)
end Go.Proofs.Ytcbjdodehjpddaa.Abs
