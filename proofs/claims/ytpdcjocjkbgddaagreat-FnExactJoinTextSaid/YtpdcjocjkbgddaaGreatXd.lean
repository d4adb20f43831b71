/- All contracts in one table, and that each is met. No condition. -/
import Derived.Test.YtpdcjocjkbgddaaGreatXc
import Derived.Test.YtpdcjocjkbgddaaGreatXb
namespace Go.Proofs.YtpdcjocjkbgddaaGreat.Abs
open Go.RowKit
set_option maxRecDepth 20000

def t1 : Tab := (23, s23) :: []
theorem a1 : AllMeets Tryz.prog t1 := (allMeets_nil Tryz.prog).add mixed kp23 (show Tryz.prog.funcs[23]? = some Tryz.f23 from Tryz.func23) (by kernel_rfl) (f23 [])
def t2 : Tab := (24, s24) :: t1
theorem a2 : AllMeets Tryz.prog t2 := a1.add mixed kp24 (show Tryz.prog.funcs[24]? = some Tryz.f24 from Tryz.func24) (by kernel_rfl) (f24 t1)
def t3 : Tab := (7, s7) :: t2
theorem a3 : AllMeets Tryz.prog t3 := a2.add mixed kp7 (show Tryz.prog.funcs[7]? = some Tryz.f7 from Tryz.func7) (by kernel_rfl) (f7 t2 rfl rfl)
def t4 : Tab := (29, s29) :: t3
theorem a4 : AllMeets Tryz.prog t4 := a3.add mixed kp29 (show Tryz.prog.funcs[29]? = some Tryz.f29 from Tryz.func29) (by kernel_rfl) (f29 t3)
def t5 : Tab := (61, s61) :: t4
theorem a5 : AllMeets Tryz.prog t5 := a4.add mixed kp61 (show Tryz.prog.funcs[61]? = some Tryz.f61 from Tryz.func61) (by kernel_rfl) (f61 t4)
def t6 : Tab := (30, s30) :: t5
theorem a6 : AllMeets Tryz.prog t6 := a5.add mixed kp30 (show Tryz.prog.funcs[30]? = some Tryz.f30 from Tryz.func30) (by kernel_rfl) (f30 t5 rfl)
def t7 : Tab := (9, s9) :: t6
theorem a7 : AllMeets Tryz.prog t7 := a6.add mixed kp9 (show Tryz.prog.funcs[9]? = some Tryz.f9 from Tryz.func9) (by kernel_rfl) (f9 t6 rfl rfl)
def t8 : Tab := (35, s35) :: t7
theorem a8 : AllMeets Tryz.prog t8 := a7.add mixed kp35 (show Tryz.prog.funcs[35]? = some Tryz.f35 from Tryz.func35) (by kernel_rfl) (f35 t7)
def t9 : Tab := (70, s70) :: t8
theorem a9 : AllMeets Tryz.prog t9 := a8.add mixed kp70 (show Tryz.prog.funcs[70]? = some Tryz.f70 from Tryz.func70) (by kernel_rfl) (f70 t8)
def t10 : Tab := (36, s36) :: t9
theorem a10 : AllMeets Tryz.prog t10 := a9.add mixed kp36 (show Tryz.prog.funcs[36]? = some Tryz.f36 from Tryz.func36) (by kernel_rfl) (f36 t9 rfl)
def t11 : Tab := (11, s11) :: t10
theorem a11 : AllMeets Tryz.prog t11 := a10.add mixed kp11 (show Tryz.prog.funcs[11]? = some Tryz.f11 from Tryz.func11) (by kernel_rfl) (f11 t10 rfl rfl)
def t12 : Tab := (37, s37) :: t11
theorem a12 : AllMeets Tryz.prog t12 := a11.add mixed kp37 (show Tryz.prog.funcs[37]? = some Tryz.f37 from Tryz.func37) (by kernel_rfl) (f37 t11)
def t13 : Tab := (38, s38) :: t12
theorem a13 : AllMeets Tryz.prog t13 := a12.add mixed kp38 (show Tryz.prog.funcs[38]? = some Tryz.f38 from Tryz.func38) (by kernel_rfl) (f38 t12)
def t14 : Tab := (12, s12) :: t13
theorem a14 : AllMeets Tryz.prog t14 := a13.add mixed kp12 (show Tryz.prog.funcs[12]? = some Tryz.f12 from Tryz.func12) (by kernel_rfl) (f12 t13 rfl rfl)
def t15 : Tab := (39, s39) :: t14
theorem a15 : AllMeets Tryz.prog t15 := a14.add mixed kp39 (show Tryz.prog.funcs[39]? = some Tryz.f39 from Tryz.func39) (by kernel_rfl) (f39 t14)
def t16 : Tab := (40, s40) :: t15
theorem a16 : AllMeets Tryz.prog t16 := a15.add mixed kp40 (show Tryz.prog.funcs[40]? = some Tryz.f40 from Tryz.func40) (by kernel_rfl) (f40 t15)
def t17 : Tab := (13, s13) :: t16
theorem a17 : AllMeets Tryz.prog t17 := a16.add mixed kp13 (show Tryz.prog.funcs[13]? = some Tryz.f13 from Tryz.func13) (by kernel_rfl) (f13 t16 rfl rfl)
def t18 : Tab := (60, s60) :: t17
theorem a18 : AllMeets Tryz.prog t18 := a17.add mixed kp60 (show Tryz.prog.funcs[60]? = some Tryz.f60 from Tryz.func60) (by kernel_rfl) (f60 t17)
def t19 : Tab := (27, s27) :: t18
theorem a19 : AllMeets Tryz.prog t19 := a18.add mixed kp27 (show Tryz.prog.funcs[27]? = some Tryz.f27 from Tryz.func27) (by kernel_rfl) (f27 t18 rfl)
def t20 : Tab := (44, s44) :: t19
theorem a20 : AllMeets Tryz.prog t20 := a19.add mixed kp44 (show Tryz.prog.funcs[44]? = some Tryz.f44 from Tryz.func44) (by kernel_rfl) (f44 t19)
def t21 : Tab := (73, s73) :: t20
theorem a21 : AllMeets Tryz.prog t21 := a20.add mixed kp73 (show Tryz.prog.funcs[73]? = some Tryz.f73 from Tryz.func73) (by kernel_rfl) (f73 t20)
def t22 : Tab := (90, s90) :: t21
theorem a22 : AllMeets Tryz.prog t22 := a21.add mixed kp90 (show Tryz.prog.funcs[90]? = some Tryz.f90 from Tryz.func90) (by kernel_rfl) (f90 t21)
def t23 : Tab := (52, s52) :: t22
theorem a23 : AllMeets Tryz.prog t23 := a22.add mixed kp52 (show Tryz.prog.funcs[52]? = some Tryz.f52 from Tryz.func52) (by kernel_rfl) (f52 t22 rfl rfl rfl)
def t24 : Tab := (118, s118) :: t23
theorem a24 : AllMeets Tryz.prog t24 := a23.add mixed kp118 (show Tryz.prog.funcs[118]? = some Tryz.f118 from Tryz.func118) (by kernel_rfl) (f118 t23 rfl)
def t25 : Tab := (79, s79) :: t24
theorem a25 : AllMeets Tryz.prog t25 := a24.add mixed kp79 (show Tryz.prog.funcs[79]? = some Tryz.f79 from Tryz.func79) (by kernel_rfl) (f79 t24 rfl)
def t26 : Tab := (91, s91) :: t25
theorem a26 : AllMeets Tryz.prog t26 := a25.add mixed kp91 (show Tryz.prog.funcs[91]? = some Tryz.f91 from Tryz.func91) (by kernel_rfl) (f91 t25 rfl)
def t27 : Tab := (92, s92) :: t26
theorem a27 : AllMeets Tryz.prog t27 := a26.add mixed kp92 (show Tryz.prog.funcs[92]? = some Tryz.f92 from Tryz.func92) (by kernel_rfl) (f92 t26)
def t28 : Tab := (56, s56) :: t27
theorem a28 : AllMeets Tryz.prog t28 := a27.add mixed kp56 (show Tryz.prog.funcs[56]? = some Tryz.f56 from Tryz.func56) (by kernel_rfl) (f56 t27 rfl)
def t29 : Tab := (53, s53) :: t28
theorem a29 : AllMeets Tryz.prog t29 := a28.add mixed kp53 (show Tryz.prog.funcs[53]? = some Tryz.f53 from Tryz.func53) (by kernel_rfl) (f53 t28 rfl rfl rfl rfl rfl)
def t30 : Tab := (54, s54) :: t29
theorem a30 : AllMeets Tryz.prog t30 := a29.add mixed kp54 (show Tryz.prog.funcs[54]? = some Tryz.f54 from Tryz.func54) (by kernel_rfl) (f54 t29 rfl)
def t31 : Tab := (101, s101) :: t30
theorem a31 : AllMeets Tryz.prog t31 := a30.add mixed kp101 (show Tryz.prog.funcs[101]? = some Tryz.f101 from Tryz.func101) (by kernel_rfl) (f101 t30)
def t32 : Tab := (100, s100) :: t31
theorem a32 : AllMeets Tryz.prog t32 := a31.add mixed kp100 (show Tryz.prog.funcs[100]? = some Tryz.f100 from Tryz.func100) (by kernel_rfl) (f100 t31 rfl)
def t33 : Tab := (58, s58) :: t32
theorem a33 : AllMeets Tryz.prog t33 := a32.add mixed kp58 (show Tryz.prog.funcs[58]? = some Tryz.f58 from Tryz.func58) (by kernel_rfl) (f58 t32 rfl rfl)
def t34 : Tab := (94, s94) :: t33
theorem a34 : AllMeets Tryz.prog t34 := a33.add mixed kp94 (show Tryz.prog.funcs[94]? = some Tryz.f94 from Tryz.func94) (by kernel_rfl) (f94 t33 rfl)
def t35 : Tab := (97, s97) :: t34
theorem a35 : AllMeets Tryz.prog t35 := a34.add mixed kp97 (show Tryz.prog.funcs[97]? = some Tryz.f97 from Tryz.func97) (by kernel_rfl) (f97 t34 rfl)
def t36 : Tab := (59, s59) :: t35
theorem a36 : AllMeets Tryz.prog t36 := a35.add mixed kp59 (show Tryz.prog.funcs[59]? = some Tryz.f59 from Tryz.func59) (by kernel_rfl) (f59 t35 rfl rfl rfl rfl)
def t37 : Tab := (71, s71) :: t36
theorem a37 : AllMeets Tryz.prog t37 := a36.add mixed kp71 (show Tryz.prog.funcs[71]? = some Tryz.f71 from Tryz.func71) (by kernel_rfl) (f71 t36)
def t38 : Tab := (95, s95) :: t37
theorem a38 : AllMeets Tryz.prog t38 := a37.add mixed kp95 (show Tryz.prog.funcs[95]? = some Tryz.f95 from Tryz.func95) (by kernel_rfl) (f95 t37 rfl rfl)
def t39 : Tab := (96, s96) :: t38
theorem a39 : AllMeets Tryz.prog t39 := a38.add mixed kp96 (show Tryz.prog.funcs[96]? = some Tryz.f96 from Tryz.func96) (by kernel_rfl) (f96 t38 rfl rfl rfl)
def t40 : Tab := (93, s93) :: t39
theorem a40 : AllMeets Tryz.prog t40 := a39.add mixed kp93 (show Tryz.prog.funcs[93]? = some Tryz.f93 from Tryz.func93) (by kernel_rfl) (f93 t39 rfl)
def t41 : Tab := (55, s55) :: t40
theorem a41 : AllMeets Tryz.prog t41 := a40.add mixed kp55 (show Tryz.prog.funcs[55]? = some Tryz.f55 from Tryz.func55) (by kernel_rfl) (f55 t40 rfl rfl rfl rfl rfl rfl rfl rfl)
def t42 : Tab := (99, s99) :: t41
theorem a42 : AllMeets Tryz.prog t42 := a41.add mixed kp99 (show Tryz.prog.funcs[99]? = some Tryz.f99 from Tryz.func99) (by kernel_rfl) (f99 t41 rfl)
def t43 : Tab := (42, s42) :: t42
theorem a43 : AllMeets Tryz.prog t43 := a42.add mixed kp42 (show Tryz.prog.funcs[42]? = some Tryz.f42 from Tryz.func42) (by kernel_rfl) (f42 t42 rfl)
def t44 : Tab := (122, s122) :: t43
theorem a44 : AllMeets Tryz.prog t44 := a43.add mixed kp122 (show Tryz.prog.funcs[122]? = some Tryz.f122 from Tryz.func122) (by kernel_rfl) (f122 t43 rfl rfl rfl)
def t45 : Tab := (121, s121) :: t44
theorem a45 : AllMeets Tryz.prog t45 := a44.add mixed kp121 (show Tryz.prog.funcs[121]? = some Tryz.f121 from Tryz.func121) (by kernel_rfl) (f121 t44 rfl rfl rfl)
def t46 : Tab := (82, s82) :: t45
theorem a46 : AllMeets Tryz.prog t46 := a45.add mixed kp82 (show Tryz.prog.funcs[82]? = some Tryz.f82 from Tryz.func82) (by kernel_rfl) (f82 t45 rfl rfl rfl)
def t47 : Tab := (98, s98) :: t46
theorem a47 : AllMeets Tryz.prog t47 := a46.add mixed kp98 (show Tryz.prog.funcs[98]? = some Tryz.f98 from Tryz.func98) (by kernel_rfl) (f98 t46 rfl)
def t48 : Tab := (57, s57) :: t47
theorem a48 : AllMeets Tryz.prog t48 := a47.add mixed kp57 (show Tryz.prog.funcs[57]? = some Tryz.f57 from Tryz.func57) (by kernel_rfl) (f57 t47 rfl rfl rfl rfl rfl rfl)
def t49 : Tab := (25, s25) :: t48
theorem a49 : AllMeets Tryz.prog t49 := a48.add mixed kp25 (show Tryz.prog.funcs[25]? = some Tryz.f25 from Tryz.func25) (by kernel_rfl) (f25 t48 rfl rfl rfl rfl rfl rfl rfl rfl)
def t50 : Tab := (26, s26) :: t49
theorem a50 : AllMeets Tryz.prog t50 := a49.add mixed kp26 (show Tryz.prog.funcs[26]? = some Tryz.f26 from Tryz.func26) (by kernel_rfl) (f26 t49 rfl)
def t51 : Tab := (41, s41) :: t50
theorem a51 : AllMeets Tryz.prog t51 := a50.add mixed kp41 (show Tryz.prog.funcs[41]? = some Tryz.f41 from Tryz.func41) (by kernel_rfl) (f41 t50 rfl)
def t52 : Tab := (77, s77) :: t51
theorem a52 : AllMeets Tryz.prog t52 := a51.add mixed kp77 (show Tryz.prog.funcs[77]? = some Tryz.f77 from Tryz.func77) (by kernel_rfl) (f77 t51 rfl rfl)
def t53 : Tab := (116, s116) :: t52
theorem a53 : AllMeets Tryz.prog t53 := a52.add mixed kp116 (show Tryz.prog.funcs[116]? = some Tryz.f116 from Tryz.func116) (by kernel_rfl) (f116 t52 rfl rfl rfl)
def t54 : Tab := (76, s76) :: t53
theorem a54 : AllMeets Tryz.prog t54 := a53.add mixed kp76 (show Tryz.prog.funcs[76]? = some Tryz.f76 from Tryz.func76) (by kernel_rfl) (f76 t53)
def t55 : Tab := (75, s75) :: t54
theorem a55 : AllMeets Tryz.prog t55 := a54.add mixed kp75 (show Tryz.prog.funcs[75]? = some Tryz.f75 from Tryz.func75) (by kernel_rfl) (f75 t54 rfl rfl rfl rfl rfl)
def t56 : Tab := (117, s117) :: t55
theorem a56 : AllMeets Tryz.prog t56 := a55.add mixed kp117 (show Tryz.prog.funcs[117]? = some Tryz.f117 from Tryz.func117) (by kernel_rfl) (f117 t55 rfl rfl)
def t57 : Tab := (74, s74) :: t56
theorem a57 : AllMeets Tryz.prog t57 := a56.add mixed kp74 (show Tryz.prog.funcs[74]? = some Tryz.f74 from Tryz.func74) (by kernel_rfl) (f74 t56 rfl rfl rfl)
def t58 : Tab := (78, s78) :: t57
theorem a58 : AllMeets Tryz.prog t58 := a57.add mixed kp78 (show Tryz.prog.funcs[78]? = some Tryz.f78 from Tryz.func78) (by kernel_rfl) (f78 t57 rfl rfl)
def t59 : Tab := (45, s45) :: t58
theorem a59 : AllMeets Tryz.prog t59 := a58.add mixed kp45 (show Tryz.prog.funcs[45]? = some Tryz.f45 from Tryz.func45) (by kernel_rfl) (f45 t58 rfl rfl rfl rfl rfl rfl rfl)
def t60 : Tab := (28, s28) :: t59
theorem a60 : AllMeets Tryz.prog t60 := a59.add mixed kp28 (show Tryz.prog.funcs[28]? = some Tryz.f28 from Tryz.func28) (by kernel_rfl) (f28 t59 rfl)
def t61 : Tab := (8, s8) :: t60
theorem a61 : AllMeets Tryz.prog t61 := a60.add mixed kp8 (show Tryz.prog.funcs[8]? = some Tryz.f8 from Tryz.func8) (by kernel_rfl) (f8 t60 rfl rfl rfl rfl)
def t62 : Tab := (14, s14') :: t61
theorem a62 : AllMeets Tryz.prog t62 := a61.add mixed kp14 (show Tryz.prog.funcs[14]? = some Tryz.f14 from Tryz.func14) (by kernel_rfl) (fun args m Q h => f14 t61 rfl rfl rfl rfl rfl rfl args m Q (to14 h))
def t63 : Tab := (62, s62) :: t62
theorem a63 : AllMeets Tryz.prog t63 := a62.add mixed kp62 (show Tryz.prog.funcs[62]? = some Tryz.f62 from Tryz.func62) (by kernel_rfl) (f62 t62)
def t64 : Tab := (31, s31) :: t63
theorem a64 : AllMeets Tryz.prog t64 := a63.add mixed kp31 (show Tryz.prog.funcs[31]? = some Tryz.f31 from Tryz.func31) (by kernel_rfl) (f31 t63 rfl)
def t65 : Tab := (47, s47) :: t64
theorem a65 : AllMeets Tryz.prog t65 := a64.add mixed kp47 (show Tryz.prog.funcs[47]? = some Tryz.f47 from Tryz.func47) (by kernel_rfl) (f47 t64)
def t66 : Tab := (63, s63) :: t65
theorem a66 : AllMeets Tryz.prog t66 := a65.add mixed kp63 (show Tryz.prog.funcs[63]? = some Tryz.f63 from Tryz.func63) (by kernel_rfl) (f63 t65)
def t67 : Tab := (64, s64) :: t66
theorem a67 : AllMeets Tryz.prog t67 := a66.add mixed kp64 (show Tryz.prog.funcs[64]? = some Tryz.f64 from Tryz.func64) (by kernel_rfl) (f64 t66)
def t68 : Tab := (66, s66) :: t67
theorem a68 : AllMeets Tryz.prog t68 := a67.add mixed kp66 (show Tryz.prog.funcs[66]? = some Tryz.f66 from Tryz.func66) (by kernel_rfl) (f66 t67)
def t69 : Tab := (67, s67) :: t68
theorem a69 : AllMeets Tryz.prog t69 := a68.add mixed kp67 (show Tryz.prog.funcs[67]? = some Tryz.f67 from Tryz.func67) (by kernel_rfl) (f67 t68 rfl rfl)
def t70 : Tab := (102, s102) :: t69
theorem a70 : AllMeets Tryz.prog t70 := a69.add mixed kp102 (show Tryz.prog.funcs[102]? = some Tryz.f102 from Tryz.func102) (by kernel_rfl) (f102 t69)
def t71 : Tab := (141, s141) :: t70
theorem a71 : AllMeets Tryz.prog t71 := a70.add mixed kp141 (show Tryz.prog.funcs[141]? = some Tryz.f141 from Tryz.func141) (by kernel_rfl) (f141 t70 rfl)
def t72 : Tab := (114, s114) :: t71
theorem a72 : AllMeets Tryz.prog t72 := a71.add mixed kp114 (show Tryz.prog.funcs[114]? = some Tryz.f114 from Tryz.func114) (by kernel_rfl) (f114 t71)
def t73 : Tab := (130, s130) :: t72
theorem a73 : AllMeets Tryz.prog t73 := a72.add mixed kp130 (show Tryz.prog.funcs[130]? = some Tryz.f130 from Tryz.func130) (by kernel_rfl) (f130 t72 rfl rfl rfl)
def t74 : Tab := (103, s103) :: t73
theorem a74 : AllMeets Tryz.prog t74 := a73.add mixed kp103 (show Tryz.prog.funcs[103]? = some Tryz.f103 from Tryz.func103) (by kernel_rfl) (f103 t73 rfl)
def t75 : Tab := (86, s86) :: t74
theorem a75 : AllMeets Tryz.prog t75 := a74.add mixed kp86 (show Tryz.prog.funcs[86]? = some Tryz.f86 from Tryz.func86) (by kernel_rfl) (f86 t74 rfl)
def t76 : Tab := (65, s65) :: t75
theorem a76 : AllMeets Tryz.prog t76 := a75.add mixed kp65 (show Tryz.prog.funcs[65]? = some Tryz.f65 from Tryz.func65) (by kernel_rfl) (f65 t75 rfl rfl rfl)
def t77 : Tab := (136, s136) :: t76
theorem a77 : AllMeets Tryz.prog t77 := a76.add mixed kp136 (show Tryz.prog.funcs[136]? = some Tryz.f136 from Tryz.func136) (by kernel_rfl) (f136 t76)
def t78 : Tab := (108, s108) :: t77
theorem a78 : AllMeets Tryz.prog t78 := a77.add mixed kp108 (show Tryz.prog.funcs[108]? = some Tryz.f108 from Tryz.func108) (by kernel_rfl) (f108 t77 rfl rfl)
def t79 : Tab := (132, s132) :: t78
theorem a79 : AllMeets Tryz.prog t79 := a78.add mixed kp132 (show Tryz.prog.funcs[132]? = some Tryz.f132 from Tryz.func132) (by kernel_rfl) (f132 t78 rfl rfl)
def t80 : Tab := (137, s137) :: t79
theorem a80 : AllMeets Tryz.prog t80 := a79.add mixed kp137 (show Tryz.prog.funcs[137]? = some Tryz.f137 from Tryz.func137) (by kernel_rfl) (f137 t79 rfl)
def t81 : Tab := (140, s140) :: t80
theorem a81 : AllMeets Tryz.prog t81 := a80.add mixed kp140 (show Tryz.prog.funcs[140]? = some Tryz.f140 from Tryz.func140) (by kernel_rfl) (f140 t80 rfl rfl rfl rfl)
def t82 : Tab := (129, s129) :: t81
theorem a82 : AllMeets Tryz.prog t82 := a81.add mixed kp129 (show Tryz.prog.funcs[129]? = some Tryz.f129 from Tryz.func129) (by kernel_rfl) (f129 t81 rfl rfl)
def t83 : Tab := (109, s109) :: t82
theorem a83 : AllMeets Tryz.prog t83 := a82.add mixed kp109 (show Tryz.prog.funcs[109]? = some Tryz.f109 from Tryz.func109) (by kernel_rfl) (f109 t82 rfl rfl rfl rfl)
def t84 : Tab := (133, s133) :: t83
theorem a84 : AllMeets Tryz.prog t84 := a83.add mixed kp133 (show Tryz.prog.funcs[133]? = some Tryz.f133 from Tryz.func133) (by kernel_rfl) (f133 t83)
def t85 : Tab := (125, s125) :: t84
theorem a85 : AllMeets Tryz.prog t85 := a84.add mixed kp125 (show Tryz.prog.funcs[125]? = some Tryz.f125 from Tryz.func125) (by kernel_rfl) (f125 t84)
def t86 : Tab := (131, s131) :: t85
theorem a86 : AllMeets Tryz.prog t86 := a85.add mixed kp131 (show Tryz.prog.funcs[131]? = some Tryz.f131 from Tryz.func131) (by kernel_rfl) (f131 t85)
def t87 : Tab := (134, s134) :: t86
theorem a87 : AllMeets Tryz.prog t87 := a86.add mixed kp134 (show Tryz.prog.funcs[134]? = some Tryz.f134 from Tryz.func134) (by kernel_rfl) (f134 t86 rfl rfl)
def t88 : Tab := (104, s104) :: t87
theorem a88 : AllMeets Tryz.prog t88 := a87.add mixed kp104 (show Tryz.prog.funcs[104]? = some Tryz.f104 from Tryz.func104) (by kernel_rfl) (f104 t87 rfl rfl rfl rfl rfl rfl)
def t89 : Tab := (72, s72) :: t88
theorem a89 : AllMeets Tryz.prog t89 := a88.add mixed kp72 (show Tryz.prog.funcs[72]? = some Tryz.f72 from Tryz.func72) (by kernel_rfl) (f72 t88)
def t90 : Tab := (127, s127) :: t89
theorem a90 : AllMeets Tryz.prog t90 := a89.add mixed kp127 (show Tryz.prog.funcs[127]? = some Tryz.f127 from Tryz.func127) (by kernel_rfl) (f127 t89 rfl rfl rfl)
def t91 : Tab := (126, s126) :: t90
theorem a91 : AllMeets Tryz.prog t91 := a90.add mixed kp126 (show Tryz.prog.funcs[126]? = some Tryz.f126 from Tryz.func126) (by kernel_rfl) (f126 t90 rfl rfl rfl)
def t92 : Tab := (85, s85) :: t91
theorem a92 : AllMeets Tryz.prog t92 := a91.add mixed kp85 (show Tryz.prog.funcs[85]? = some Tryz.f85 from Tryz.func85) (by kernel_rfl) (f85 t91 rfl rfl rfl rfl)
def t93 : Tab := (105, s105) :: t92
theorem a93 : AllMeets Tryz.prog t93 := a92.add mixed kp105 (show Tryz.prog.funcs[105]? = some Tryz.f105 from Tryz.func105) (by kernel_rfl) (f105 t92 rfl rfl rfl rfl)
def t94 : Tab := (107, s107) :: t93
theorem a94 : AllMeets Tryz.prog t94 := a93.add mixed kp107 (show Tryz.prog.funcs[107]? = some Tryz.f107 from Tryz.func107) (by kernel_rfl) (f107 t93 rfl rfl)
def t95 : Tab := (135, s135) :: t94
theorem a95 : AllMeets Tryz.prog t95 := a94.add mixed kp135 (show Tryz.prog.funcs[135]? = some Tryz.f135 from Tryz.func135) (by kernel_rfl) (f135 t94 rfl)
def t96 : Tab := (106, s106) :: t95
theorem a96 : AllMeets Tryz.prog t96 := a95.add mixed kp106 (show Tryz.prog.funcs[106]? = some Tryz.f106 from Tryz.func106) (by kernel_rfl) (f106 t95 rfl)
def t97 : Tab := (68, s68) :: t96
theorem a97 : AllMeets Tryz.prog t97 := a96.add mixed kp68 (show Tryz.prog.funcs[68]? = some Tryz.f68 from Tryz.func68) (by kernel_rfl) (f68 t96 rfl rfl rfl rfl)
def t98 : Tab := (32, s32) :: t97
theorem a98 : AllMeets Tryz.prog t98 := a97.add mixed kp32 (show Tryz.prog.funcs[32]? = some Tryz.f32 from Tryz.func32) (by kernel_rfl) (f32 t97 rfl rfl rfl rfl rfl rfl rfl)
def t99 : Tab := (33, s33) :: t98
theorem a99 : AllMeets Tryz.prog t99 := a98.add mixed kp33 (show Tryz.prog.funcs[33]? = some Tryz.f33 from Tryz.func33) (by kernel_rfl) (f33 t98 rfl)
def t100 : Tab := (43, s43) :: t99
theorem a100 : AllMeets Tryz.prog t100 := a99.add mixed kp43 (show Tryz.prog.funcs[43]? = some Tryz.f43 from Tryz.func43) (by kernel_rfl) (f43 t99 rfl rfl)
def t101 : Tab := (115, s115) :: t100
theorem a101 : AllMeets Tryz.prog t101 := a100.add mixed kp115 (show Tryz.prog.funcs[115]? = some Tryz.f115 from Tryz.func115) (by kernel_rfl) (f115 t100 rfl)
def t102 : Tab := (112, s112) :: t101
theorem a102 : AllMeets Tryz.prog t102 := a101.add mixed kp112 (show Tryz.prog.funcs[112]? = some Tryz.f112 from Tryz.func112) (by kernel_rfl) (f112 t101 rfl rfl)
def t103 : Tab := (124, s124) :: t102
theorem a103 : AllMeets Tryz.prog t103 := a102.add mixed kp124 (show Tryz.prog.funcs[124]? = some Tryz.f124 from Tryz.func124) (by kernel_rfl) (f124 t102 rfl rfl rfl rfl)
def t104 : Tab := (80, s80) :: t103
theorem a104 : AllMeets Tryz.prog t104 := a103.add mixed kp80 (show Tryz.prog.funcs[80]? = some Tryz.f80 from Tryz.func80) (by kernel_rfl) (f80 t103)
def t105 : Tab := (138, s138) :: t104
theorem a105 : AllMeets Tryz.prog t105 := a104.add mixed kp138 (show Tryz.prog.funcs[138]? = some Tryz.f138 from Tryz.func138) (by kernel_rfl) (f138 t104)
def t106 : Tab := (110, s110) :: t105
theorem a106 : AllMeets Tryz.prog t106 := a105.add mixed kp110 (show Tryz.prog.funcs[110]? = some Tryz.f110 from Tryz.func110) (by kernel_rfl) (f110 t105 rfl rfl rfl rfl rfl rfl)
def t107 : Tab := (139, s139) :: t106
theorem a107 : AllMeets Tryz.prog t107 := a106.add mixed kp139 (show Tryz.prog.funcs[139]? = some Tryz.f139 from Tryz.func139) (by kernel_rfl) (f139 t106 rfl)
def t108 : Tab := (111, s111) :: t107
theorem a108 : AllMeets Tryz.prog t108 := a107.add mixed kp111 (show Tryz.prog.funcs[111]? = some Tryz.f111 from Tryz.func111) (by kernel_rfl) (f111 t107 rfl rfl rfl)
def t109 : Tab := (113, s113) :: t108
theorem a109 : AllMeets Tryz.prog t109 := a108.add mixed kp113 (show Tryz.prog.funcs[113]? = some Tryz.f113 from Tryz.func113) (by kernel_rfl) (f113 t108 rfl rfl)
def t110 : Tab := (69, s69) :: t109
theorem a110 : AllMeets Tryz.prog t110 := a109.add mixed kp69 (show Tryz.prog.funcs[69]? = some Tryz.f69 from Tryz.func69) (by kernel_rfl) (f69 t109 rfl rfl rfl rfl rfl rfl rfl)
def t111 : Tab := (34, s34) :: t110
theorem a111 : AllMeets Tryz.prog t111 := a110.add mixed kp34 (show Tryz.prog.funcs[34]? = some Tryz.f34 from Tryz.func34) (by kernel_rfl) (f34 t110 rfl)
def t112 : Tab := (15, s15') :: t111
theorem a112 : AllMeets Tryz.prog t112 := a111.add mixed kp15 (show Tryz.prog.funcs[15]? = some Tryz.f15 from Tryz.func15) (by kernel_rfl) (fun args m Q h => f15 t111 rfl rfl rfl rfl rfl args m Q (to15 h))
def t113 : Tab := (4, s4) :: t112
theorem a113 : AllMeets Tryz.prog t113 := a112.add mixed kp4 (show Tryz.prog.funcs[4]? = some Tryz.f4 from Tryz.func4) (by kernel_rfl) (f4 t112 rfl rfl rfl rfl rfl rfl rfl)
end Go.Proofs.YtpdcjocjkbgddaaGreat.Abs
