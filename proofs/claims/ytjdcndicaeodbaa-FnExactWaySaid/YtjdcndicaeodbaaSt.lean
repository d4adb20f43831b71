/- All contracts in one table, and that each is met. No condition. -/
import Derived.Test.YtjdcndicaeodbaaSs
import Derived.Test.YtjdcndicaeodbaaSr
namespace Go.Proofs.Ytjdcndicaeodbaa.Abs
open Go.RowKit
set_option maxRecDepth 20000

def t1 : Tab := (27, s27) :: []
theorem a1 : AllMeets Try.prog t1 := (allMeets_nil Try.prog).add mixed kp27 (show Try.prog.funcs[27]? = some Try.f27 from Try.func27) (by kernel_rfl) (f27 [])
def t2 : Tab := (28, s28) :: t1
theorem a2 : AllMeets Try.prog t2 := a1.add mixed kp28 (show Try.prog.funcs[28]? = some Try.f28 from Try.func28) (by kernel_rfl) (f28 t1)
def t3 : Tab := (7, s7) :: t2
theorem a3 : AllMeets Try.prog t3 := a2.add mixed kp7 (show Try.prog.funcs[7]? = some Try.f7 from Try.func7) (by kernel_rfl) (f7 t2 rfl rfl)
def t4 : Tab := (32, s32) :: t3
theorem a4 : AllMeets Try.prog t4 := a3.add mixed kp32 (show Try.prog.funcs[32]? = some Try.f32 from Try.func32) (by kernel_rfl) (f32 t3)
def t5 : Tab := (67, s67) :: t4
theorem a5 : AllMeets Try.prog t5 := a4.add mixed kp67 (show Try.prog.funcs[67]? = some Try.f67 from Try.func67) (by kernel_rfl) (f67 t4)
def t6 : Tab := (33, s33) :: t5
theorem a6 : AllMeets Try.prog t6 := a5.add mixed kp33 (show Try.prog.funcs[33]? = some Try.f33 from Try.func33) (by kernel_rfl) (f33 t5 rfl)
def t7 : Tab := (9, s9) :: t6
theorem a7 : AllMeets Try.prog t7 := a6.add mixed kp9 (show Try.prog.funcs[9]? = some Try.f9 from Try.func9) (by kernel_rfl) (f9 t6 rfl rfl)
def t8 : Tab := (11, s11) :: t7
theorem a8 : AllMeets Try.prog t8 := a7.add mixed kp11 (show Try.prog.funcs[11]? = some Try.f11 from Try.func11) (by kernel_rfl) (f11 t7)
def t9 : Tab := (37, s37) :: t8
theorem a9 : AllMeets Try.prog t9 := a8.add mixed kp37 (show Try.prog.funcs[37]? = some Try.f37 from Try.func37) (by kernel_rfl) (f37 t8)
def t10 : Tab := (72, s72) :: t9
theorem a10 : AllMeets Try.prog t10 := a9.add mixed kp72 (show Try.prog.funcs[72]? = some Try.f72 from Try.func72) (by kernel_rfl) (f72 t9)
def t11 : Tab := (38, s38) :: t10
theorem a11 : AllMeets Try.prog t11 := a10.add mixed kp38 (show Try.prog.funcs[38]? = some Try.f38 from Try.func38) (by kernel_rfl) (f38 t10 rfl)
def t12 : Tab := (12, s12) :: t11
theorem a12 : AllMeets Try.prog t12 := a11.add mixed kp12 (show Try.prog.funcs[12]? = some Try.f12 from Try.func12) (by kernel_rfl) (f12 t11 rfl rfl)
def t13 : Tab := (39, s39) :: t12
theorem a13 : AllMeets Try.prog t13 := a12.add mixed kp39 (show Try.prog.funcs[39]? = some Try.f39 from Try.func39) (by kernel_rfl) (f39 t12)
def t14 : Tab := (40, s40) :: t13
theorem a14 : AllMeets Try.prog t14 := a13.add mixed kp40 (show Try.prog.funcs[40]? = some Try.f40 from Try.func40) (by kernel_rfl) (f40 t13)
def t15 : Tab := (13, s13) :: t14
theorem a15 : AllMeets Try.prog t15 := a14.add mixed kp13 (show Try.prog.funcs[13]? = some Try.f13 from Try.func13) (by kernel_rfl) (f13 t14 rfl rfl)
def t16 : Tab := (14, s14) :: t15
theorem a16 : AllMeets Try.prog t16 := a15.add mixed kp14 (show Try.prog.funcs[14]? = some Try.f14 from Try.func14) (by kernel_rfl) (f14 t15)
def t17 : Tab := (15, s15) :: t16
theorem a17 : AllMeets Try.prog t17 := a16.add mixed kp15 (show Try.prog.funcs[15]? = some Try.f15 from Try.func15) (by kernel_rfl) (f15 t16)
def t18 : Tab := (82, s82) :: t17
theorem a18 : AllMeets Try.prog t18 := a17.add mixed kp82 (show Try.prog.funcs[82]? = some Try.f82 from Try.func82) (by kernel_rfl) (f82 t17)
def t19 : Tab := (65, s65) :: t18
theorem a19 : AllMeets Try.prog t19 := a18.add mixed kp65 (show Try.prog.funcs[65]? = some Try.f65 from Try.func65) (by kernel_rfl) (f65 t18)
def t20 : Tab := (83, s83) :: t19
theorem a20 : AllMeets Try.prog t20 := a19.add mixed kp83 (show Try.prog.funcs[83]? = some Try.f83 from Try.func83) (by kernel_rfl) (f83 t19)
def t21 : Tab := (58, s58) :: t20
theorem a21 : AllMeets Try.prog t21 := a20.add mixed kp58 (show Try.prog.funcs[58]? = some Try.f58 from Try.func58) (by kernel_rfl) (f58 t20 rfl rfl rfl)
def t22 : Tab := (100, s100) :: t21
theorem a22 : AllMeets Try.prog t22 := a21.add mixed kp100 (show Try.prog.funcs[100]? = some Try.f100 from Try.func100) (by kernel_rfl) (f100 t21 rfl)
def t23 : Tab := (92, s92) :: t22
theorem a23 : AllMeets Try.prog t23 := a22.add mixed kp92 (show Try.prog.funcs[92]? = some Try.f92 from Try.func92) (by kernel_rfl) (f92 t22 rfl)
def t24 : Tab := (66, s66) :: t23
theorem a24 : AllMeets Try.prog t24 := a23.add mixed kp66 (show Try.prog.funcs[66]? = some Try.f66 from Try.func66) (by kernel_rfl) (f66 t23 rfl)
def t25 : Tab := (84, s84) :: t24
theorem a25 : AllMeets Try.prog t25 := a24.add mixed kp84 (show Try.prog.funcs[84]? = some Try.f84 from Try.func84) (by kernel_rfl) (f84 t24)
def t26 : Tab := (31, s31) :: t25
theorem a26 : AllMeets Try.prog t26 := a25.add mixed kp31 (show Try.prog.funcs[31]? = some Try.f31 from Try.func31) (by kernel_rfl) (f31 t25 rfl)
def t27 : Tab := (59, s59) :: t26
theorem a27 : AllMeets Try.prog t27 := a26.add mixed kp59 (show Try.prog.funcs[59]? = some Try.f59 from Try.func59) (by kernel_rfl) (f59 t26 rfl rfl rfl rfl rfl)
def t28 : Tab := (60, s60) :: t27
theorem a28 : AllMeets Try.prog t28 := a27.add mixed kp60 (show Try.prog.funcs[60]? = some Try.f60 from Try.func60) (by kernel_rfl) (f60 t27 rfl)
def t29 : Tab := (91, s91) :: t28
theorem a29 : AllMeets Try.prog t29 := a28.add mixed kp91 (show Try.prog.funcs[91]? = some Try.f91 from Try.func91) (by kernel_rfl) (f91 t28)
def t30 : Tab := (74, s74) :: t29
theorem a30 : AllMeets Try.prog t30 := a29.add mixed kp74 (show Try.prog.funcs[74]? = some Try.f74 from Try.func74) (by kernel_rfl) (f74 t29 rfl)
def t31 : Tab := (63, s63) :: t30
theorem a31 : AllMeets Try.prog t31 := a30.add mixed kp63 (show Try.prog.funcs[63]? = some Try.f63 from Try.func63) (by kernel_rfl) (f63 t30 rfl rfl)
def t32 : Tab := (76, s76) :: t31
theorem a32 : AllMeets Try.prog t32 := a31.add mixed kp76 (show Try.prog.funcs[76]? = some Try.f76 from Try.func76) (by kernel_rfl) (f76 t31 rfl)
def t33 : Tab := (77, s77) :: t32
theorem a33 : AllMeets Try.prog t33 := a32.add mixed kp77 (show Try.prog.funcs[77]? = some Try.f77 from Try.func77) (by kernel_rfl) (f77 t32 rfl)
def t34 : Tab := (64, s64) :: t33
theorem a34 : AllMeets Try.prog t34 := a33.add mixed kp64 (show Try.prog.funcs[64]? = some Try.f64 from Try.func64) (by kernel_rfl) (f64 t33 rfl rfl rfl rfl)
def t35 : Tab := (86, s86) :: t34
theorem a35 : AllMeets Try.prog t35 := a34.add mixed kp86 (show Try.prog.funcs[86]? = some Try.f86 from Try.func86) (by kernel_rfl) (f86 t34)
def t36 : Tab := (85, s85) :: t35
theorem a36 : AllMeets Try.prog t36 := a35.add mixed kp85 (show Try.prog.funcs[85]? = some Try.f85 from Try.func85) (by kernel_rfl) (f85 t35 rfl rfl)
def t37 : Tab := (87, s87) :: t36
theorem a37 : AllMeets Try.prog t37 := a36.add mixed kp87 (show Try.prog.funcs[87]? = some Try.f87 from Try.func87) (by kernel_rfl) (f87 t36 rfl rfl rfl)
def t38 : Tab := (75, s75) :: t37
theorem a38 : AllMeets Try.prog t38 := a37.add mixed kp75 (show Try.prog.funcs[75]? = some Try.f75 from Try.func75) (by kernel_rfl) (f75 t37 rfl)
def t39 : Tab := (61, s61) :: t38
theorem a39 : AllMeets Try.prog t39 := a38.add mixed kp61 (show Try.prog.funcs[61]? = some Try.f61 from Try.func61) (by kernel_rfl) (f61 t38 rfl rfl rfl rfl rfl rfl rfl rfl)
def t40 : Tab := (89, s89) :: t39
theorem a40 : AllMeets Try.prog t40 := a39.add mixed kp89 (show Try.prog.funcs[89]? = some Try.f89 from Try.func89) (by kernel_rfl) (f89 t39 rfl)
def t41 : Tab := (110, s110) :: t40
theorem a41 : AllMeets Try.prog t41 := a40.add mixed kp110 (show Try.prog.funcs[110]? = some Try.f110 from Try.func110) (by kernel_rfl) (f110 t40 rfl)
def t42 : Tab := (102, s102) :: t41
theorem a42 : AllMeets Try.prog t42 := a41.add mixed kp102 (show Try.prog.funcs[102]? = some Try.f102 from Try.func102) (by kernel_rfl) (f102 t41 rfl rfl rfl)
def t43 : Tab := (101, s101) :: t42
theorem a43 : AllMeets Try.prog t43 := a42.add mixed kp101 (show Try.prog.funcs[101]? = some Try.f101 from Try.func101) (by kernel_rfl) (f101 t42 rfl rfl rfl)
def t44 : Tab := (90, s90) :: t43
theorem a44 : AllMeets Try.prog t44 := a43.add mixed kp90 (show Try.prog.funcs[90]? = some Try.f90 from Try.func90) (by kernel_rfl) (f90 t43 rfl rfl rfl)
def t45 : Tab := (88, s88) :: t44
theorem a45 : AllMeets Try.prog t45 := a44.add mixed kp88 (show Try.prog.funcs[88]? = some Try.f88 from Try.func88) (by kernel_rfl) (f88 t44 rfl)
def t46 : Tab := (62, s62) :: t45
theorem a46 : AllMeets Try.prog t46 := a45.add mixed kp62 (show Try.prog.funcs[62]? = some Try.f62 from Try.func62) (by kernel_rfl) (f62 t45 rfl rfl rfl rfl rfl rfl)
def t47 : Tab := (29, s29) :: t46
theorem a47 : AllMeets Try.prog t47 := a46.add mixed kp29 (show Try.prog.funcs[29]? = some Try.f29 from Try.func29) (by kernel_rfl) (f29 t46 rfl rfl rfl rfl rfl rfl rfl rfl)
def t48 : Tab := (44, s44) :: t47
theorem a48 : AllMeets Try.prog t48 := a47.add mixed kp44 (show Try.prog.funcs[44]? = some Try.f44 from Try.func44) (by kernel_rfl) (f44 t47 rfl rfl rfl rfl rfl)
def t49 : Tab := (21, s21') :: t48
theorem a49 : AllMeets Try.prog t49 := a48.add mixed kp21 (show Try.prog.funcs[21]? = some Try.f21 from Try.func21) (by kernel_rfl) (fun args m Q h => f21 t48 rfl rfl rfl args m Q (to21 h))
def t50 : Tab := (52, s52) :: t49
theorem a50 : AllMeets Try.prog t50 := a49.add mixed kp52 (show Try.prog.funcs[52]? = some Try.f52 from Try.func52) (by kernel_rfl) (f52 t49)
def t51 : Tab := (53, s53) :: t50
theorem a51 : AllMeets Try.prog t51 := a50.add mixed kp53 (show Try.prog.funcs[53]? = some Try.f53 from Try.func53) (by kernel_rfl) (f53 t50)
def t52 : Tab := (54, s54) :: t51
theorem a52 : AllMeets Try.prog t52 := a51.add mixed kp54 (show Try.prog.funcs[54]? = some Try.f54 from Try.func54) (by kernel_rfl) (f54 t51)
def t53 : Tab := (55, s55) :: t52
theorem a53 : AllMeets Try.prog t53 := a52.add mixed kp55 (show Try.prog.funcs[55]? = some Try.f55 from Try.func55) (by kernel_rfl) (f55 t52)
def t54 : Tab := (69, s69) :: t53
theorem a54 : AllMeets Try.prog t54 := a53.add mixed kp69 (show Try.prog.funcs[69]? = some Try.f69 from Try.func69) (by kernel_rfl) (f69 t53 rfl rfl)
def t55 : Tab := (80, s80) :: t54
theorem a55 : AllMeets Try.prog t55 := a54.add mixed kp80 (show Try.prog.funcs[80]? = some Try.f80 from Try.func80) (by kernel_rfl) (f80 t54)
def t56 : Tab := (108, s108) :: t55
theorem a56 : AllMeets Try.prog t56 := a55.add mixed kp108 (show Try.prog.funcs[108]? = some Try.f108 from Try.func108) (by kernel_rfl) (f108 t55 rfl)
def t57 : Tab := (109, s109) :: t56
theorem a57 : AllMeets Try.prog t57 := a56.add mixed kp109 (show Try.prog.funcs[109]? = some Try.f109 from Try.func109) (by kernel_rfl) (f109 t56)
def t58 : Tab := (99, s99) :: t57
theorem a58 : AllMeets Try.prog t58 := a57.add mixed kp99 (show Try.prog.funcs[99]? = some Try.f99 from Try.func99) (by kernel_rfl) (f99 t57 rfl rfl rfl)
def t59 : Tab := (71, s71) :: t58
theorem a59 : AllMeets Try.prog t59 := a58.add mixed kp71 (show Try.prog.funcs[71]? = some Try.f71 from Try.func71) (by kernel_rfl) (f71 t58 rfl)
def t60 : Tab := (36, s36) :: t59
theorem a60 : AllMeets Try.prog t60 := a59.add mixed kp36 (show Try.prog.funcs[36]? = some Try.f36 from Try.func36) (by kernel_rfl) (f36 t59 rfl)
def t61 : Tab := (68, s68) :: t60
theorem a61 : AllMeets Try.prog t61 := a60.add mixed kp68 (show Try.prog.funcs[68]? = some Try.f68 from Try.func68) (by kernel_rfl) (f68 t60 rfl rfl rfl)
def t62 : Tab := (78, s78) :: t61
theorem a62 : AllMeets Try.prog t62 := a61.add mixed kp78 (show Try.prog.funcs[78]? = some Try.f78 from Try.func78) (by kernel_rfl) (f78 t61)
def t63 : Tab := (97, s97) :: t62
theorem a63 : AllMeets Try.prog t63 := a62.add mixed kp97 (show Try.prog.funcs[97]? = some Try.f97 from Try.func97) (by kernel_rfl) (f97 t62 rfl rfl)
def t64 : Tab := (103, s103) :: t63
theorem a64 : AllMeets Try.prog t64 := a63.add mixed kp103 (show Try.prog.funcs[103]? = some Try.f103 from Try.func103) (by kernel_rfl) (f103 t63 rfl rfl)
def t65 : Tab := (46, s46) :: t64
theorem a65 : AllMeets Try.prog t65 := a64.add mixed kp46 (show Try.prog.funcs[46]? = some Try.f46 from Try.func46) (by kernel_rfl) (f46 t64 rfl)
def t66 : Tab := (79, s79) :: t65
theorem a66 : AllMeets Try.prog t66 := a65.add mixed kp79 (show Try.prog.funcs[79]? = some Try.f79 from Try.func79) (by kernel_rfl) (f79 t65 rfl rfl rfl rfl)
def t67 : Tab := (47, s47) :: t66
theorem a67 : AllMeets Try.prog t67 := a66.add mixed kp47 (show Try.prog.funcs[47]? = some Try.f47 from Try.func47) (by kernel_rfl) (f47 t66 rfl rfl)
def t68 : Tab := (98, s98) :: t67
theorem a68 : AllMeets Try.prog t68 := a67.add mixed kp98 (show Try.prog.funcs[98]? = some Try.f98 from Try.func98) (by kernel_rfl) (f98 t67 rfl rfl rfl rfl)
def t69 : Tab := (104, s104) :: t68
theorem a69 : AllMeets Try.prog t69 := a68.add mixed kp104 (show Try.prog.funcs[104]? = some Try.f104 from Try.func104) (by kernel_rfl) (f104 t68)
def t70 : Tab := (49, s49) :: t69
theorem a70 : AllMeets Try.prog t70 := a69.add mixed kp49 (show Try.prog.funcs[49]? = some Try.f49 from Try.func49) (by kernel_rfl) (f49 t69)
def t71 : Tab := (48, s48) :: t70
theorem a71 : AllMeets Try.prog t71 := a70.add mixed kp48 (show Try.prog.funcs[48]? = some Try.f48 from Try.func48) (by kernel_rfl) (f48 t70)
def t72 : Tab := (105, s105) :: t71
theorem a72 : AllMeets Try.prog t72 := a71.add mixed kp105 (show Try.prog.funcs[105]? = some Try.f105 from Try.func105) (by kernel_rfl) (f105 t71 rfl rfl)
def t73 : Tab := (93, s93) :: t72
theorem a73 : AllMeets Try.prog t73 := a72.add mixed kp93 (show Try.prog.funcs[93]? = some Try.f93 from Try.func93) (by kernel_rfl) (f93 t72 rfl rfl rfl rfl rfl rfl)
def t74 : Tab := (113, s113) :: t73
theorem a74 : AllMeets Try.prog t74 := a73.add mixed kp113 (show Try.prog.funcs[113]? = some Try.f113 from Try.func113) (by kernel_rfl) (f113 t73)
def t75 : Tab := (112, s112) :: t74
theorem a75 : AllMeets Try.prog t75 := a74.add mixed kp112 (show Try.prog.funcs[112]? = some Try.f112 from Try.func112) (by kernel_rfl) (f112 t74 rfl rfl rfl)
def t76 : Tab := (111, s111) :: t75
theorem a76 : AllMeets Try.prog t76 := a75.add mixed kp111 (show Try.prog.funcs[111]? = some Try.f111 from Try.func111) (by kernel_rfl) (f111 t75 rfl rfl rfl)
def t77 : Tab := (106, s106) :: t76
theorem a77 : AllMeets Try.prog t77 := a76.add mixed kp106 (show Try.prog.funcs[106]? = some Try.f106 from Try.func106) (by kernel_rfl) (f106 t76 rfl rfl rfl rfl)
def t78 : Tab := (94, s94) :: t77
theorem a78 : AllMeets Try.prog t78 := a77.add mixed kp94 (show Try.prog.funcs[94]? = some Try.f94 from Try.func94) (by kernel_rfl) (f94 t77 rfl rfl rfl rfl)
def t79 : Tab := (96, s96) :: t78
theorem a79 : AllMeets Try.prog t79 := a78.add mixed kp96 (show Try.prog.funcs[96]? = some Try.f96 from Try.func96) (by kernel_rfl) (f96 t78 rfl rfl)
def t80 : Tab := (107, s107) :: t79
theorem a80 : AllMeets Try.prog t80 := a79.add mixed kp107 (show Try.prog.funcs[107]? = some Try.f107 from Try.func107) (by kernel_rfl) (f107 t79 rfl)
def t81 : Tab := (95, s95) :: t80
theorem a81 : AllMeets Try.prog t81 := a80.add mixed kp95 (show Try.prog.funcs[95]? = some Try.f95 from Try.func95) (by kernel_rfl) (f95 t80 rfl)
def t82 : Tab := (70, s70) :: t81
theorem a82 : AllMeets Try.prog t82 := a81.add mixed kp70 (show Try.prog.funcs[70]? = some Try.f70 from Try.func70) (by kernel_rfl) (f70 t81 rfl rfl rfl rfl)
def t83 : Tab := (34, s34) :: t82
theorem a83 : AllMeets Try.prog t83 := a82.add mixed kp34 (show Try.prog.funcs[34]? = some Try.f34 from Try.func34) (by kernel_rfl) (f34 t82 rfl rfl rfl rfl rfl rfl rfl)
def t84 : Tab := (45, s45) :: t83
theorem a84 : AllMeets Try.prog t84 := a83.add mixed kp45 (show Try.prog.funcs[45]? = some Try.f45 from Try.func45) (by kernel_rfl) (f45 t83 rfl rfl)
def t85 : Tab := (22, s22') :: t84
theorem a85 : AllMeets Try.prog t85 := a84.add mixed kp22 (show Try.prog.funcs[22]? = some Try.f22 from Try.func22) (by kernel_rfl) (fun args m Q h => f22 t84 rfl rfl rfl rfl rfl args m Q (to22 h))
def t86 : Tab := (5, s5) :: t85
theorem a86 : AllMeets Try.prog t86 := a85.add mixed kp5 (show Try.prog.funcs[5]? = some Try.f5 from Try.func5) (by kernel_rfl) (f5 t85 rfl rfl rfl rfl rfl rfl rfl rfl rfl)
end Go.Proofs.Ytjdcndicaeodbaa.Abs
