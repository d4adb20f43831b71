/- All contracts in one table, and that each is met. No condition. -/
import Derived.Test.YtjdcndicaeodbaaGreatTo
import Derived.Test.YtjdcndicaeodbaaGreatTn
namespace Go.Proofs.YtjdcndicaeodbaaGreat.Abs
open Go.RowKit
set_option maxRecDepth 20000

def t1 : Tab := (51, s51) :: []
theorem a1 : AllMeets Tryz.prog t1 := (allMeets_nil Tryz.prog).add mixed kp51 (show Tryz.prog.funcs[51]? = some Tryz.f51 from Tryz.func51) (by kernel_rfl) (f51 [])
def t2 : Tab := (52, s52) :: t1
theorem a2 : AllMeets Tryz.prog t2 := a1.add mixed kp52 (show Tryz.prog.funcs[52]? = some Tryz.f52 from Tryz.func52) (by kernel_rfl) (f52 t1)
def t3 : Tab := (11, s11) :: t2
theorem a3 : AllMeets Tryz.prog t3 := a2.add mixed kp11 (show Tryz.prog.funcs[11]? = some Tryz.f11 from Tryz.func11) (by kernel_rfl) (f11 t2 rfl rfl)
def t4 : Tab := (78, s78) :: t3
theorem a4 : AllMeets Tryz.prog t4 := a3.add mixed kp78 (show Tryz.prog.funcs[78]? = some Tryz.f78 from Tryz.func78) (by kernel_rfl) (f78 t3)
def t5 : Tab := (68, s68) :: t4
theorem a5 : AllMeets Tryz.prog t5 := a4.add mixed kp68 (show Tryz.prog.funcs[68]? = some Tryz.f68 from Tryz.func68) (by kernel_rfl) (f68 t4)
def t6 : Tab := (157, s157) :: t5
theorem a6 : AllMeets Tryz.prog t6 := a5.add mixed kp157 (show Tryz.prog.funcs[157]? = some Tryz.f157 from Tryz.func157) (by kernel_rfl) (f157 t5)
def t7 : Tab := (99, s99) :: t6
theorem a7 : AllMeets Tryz.prog t7 := a6.add mixed kp99 (show Tryz.prog.funcs[99]? = some Tryz.f99 from Tryz.func99) (by kernel_rfl) (f99 t6 rfl rfl rfl)
def t8 : Tab := (41, s41) :: t7
theorem a8 : AllMeets Tryz.prog t8 := a7.add mixed kp41 (show Tryz.prog.funcs[41]? = some Tryz.f41 from Tryz.func41) (by kernel_rfl) (f41 t7 rfl)
def t9 : Tab := (182, s182) :: t8
theorem a9 : AllMeets Tryz.prog t9 := a8.add mixed kp182 (show Tryz.prog.funcs[182]? = some Tryz.f182 from Tryz.func182) (by kernel_rfl) (f182 t8 rfl)
def t10 : Tab := (124, s124) :: t9
theorem a10 : AllMeets Tryz.prog t10 := a9.add mixed kp124 (show Tryz.prog.funcs[124]? = some Tryz.f124 from Tryz.func124) (by kernel_rfl) (f124 t9 rfl)
def t11 : Tab := (158, s158) :: t10
theorem a11 : AllMeets Tryz.prog t11 := a10.add mixed kp158 (show Tryz.prog.funcs[158]? = some Tryz.f158 from Tryz.func158) (by kernel_rfl) (f158 t10)
def t12 : Tab := (55, s55) :: t11
theorem a12 : AllMeets Tryz.prog t12 := a11.add mixed kp55 (show Tryz.prog.funcs[55]? = some Tryz.f55 from Tryz.func55) (by kernel_rfl) (f55 t11 rfl)
def t13 : Tab := (100, s100) :: t12
theorem a13 : AllMeets Tryz.prog t13 := a12.add mixed kp100 (show Tryz.prog.funcs[100]? = some Tryz.f100 from Tryz.func100) (by kernel_rfl) (f100 t12 rfl rfl rfl rfl rfl)
def t14 : Tab := (101, s101) :: t13
theorem a14 : AllMeets Tryz.prog t14 := a13.add mixed kp101 (show Tryz.prog.funcs[101]? = some Tryz.f101 from Tryz.func101) (by kernel_rfl) (f101 t13 rfl)
def t15 : Tab := (165, s165) :: t14
theorem a15 : AllMeets Tryz.prog t15 := a14.add mixed kp165 (show Tryz.prog.funcs[165]? = some Tryz.f165 from Tryz.func165) (by kernel_rfl) (f165 t14)
def t16 : Tab := (120, s120) :: t15
theorem a16 : AllMeets Tryz.prog t16 := a15.add mixed kp120 (show Tryz.prog.funcs[120]? = some Tryz.f120 from Tryz.func120) (by kernel_rfl) (f120 t15 rfl)
def t17 : Tab := (104, s104) :: t16
theorem a17 : AllMeets Tryz.prog t17 := a16.add mixed kp104 (show Tryz.prog.funcs[104]? = some Tryz.f104 from Tryz.func104) (by kernel_rfl) (f104 t16 rfl rfl)
def t18 : Tab := (122, s122) :: t17
theorem a18 : AllMeets Tryz.prog t18 := a17.add mixed kp122 (show Tryz.prog.funcs[122]? = some Tryz.f122 from Tryz.func122) (by kernel_rfl) (f122 t17 rfl)
def t19 : Tab := (123, s123) :: t18
theorem a19 : AllMeets Tryz.prog t19 := a18.add mixed kp123 (show Tryz.prog.funcs[123]? = some Tryz.f123 from Tryz.func123) (by kernel_rfl) (f123 t18 rfl)
def t20 : Tab := (105, s105) :: t19
theorem a20 : AllMeets Tryz.prog t20 := a19.add mixed kp105 (show Tryz.prog.funcs[105]? = some Tryz.f105 from Tryz.func105) (by kernel_rfl) (f105 t19 rfl rfl rfl rfl)
def t21 : Tab := (160, s160) :: t20
theorem a21 : AllMeets Tryz.prog t21 := a20.add mixed kp160 (show Tryz.prog.funcs[160]? = some Tryz.f160 from Tryz.func160) (by kernel_rfl) (f160 t20)
def t22 : Tab := (159, s159) :: t21
theorem a22 : AllMeets Tryz.prog t22 := a21.add mixed kp159 (show Tryz.prog.funcs[159]? = some Tryz.f159 from Tryz.func159) (by kernel_rfl) (f159 t21 rfl rfl)
def t23 : Tab := (161, s161) :: t22
theorem a23 : AllMeets Tryz.prog t23 := a22.add mixed kp161 (show Tryz.prog.funcs[161]? = some Tryz.f161 from Tryz.func161) (by kernel_rfl) (f161 t22 rfl rfl rfl)
def t24 : Tab := (121, s121) :: t23
theorem a24 : AllMeets Tryz.prog t24 := a23.add mixed kp121 (show Tryz.prog.funcs[121]? = some Tryz.f121 from Tryz.func121) (by kernel_rfl) (f121 t23 rfl)
def t25 : Tab := (102, s102) :: t24
theorem a25 : AllMeets Tryz.prog t25 := a24.add mixed kp102 (show Tryz.prog.funcs[102]? = some Tryz.f102 from Tryz.func102) (by kernel_rfl) (f102 t24 rfl rfl rfl rfl rfl rfl rfl rfl)
def t26 : Tab := (163, s163) :: t25
theorem a26 : AllMeets Tryz.prog t26 := a25.add mixed kp163 (show Tryz.prog.funcs[163]? = some Tryz.f163 from Tryz.func163) (by kernel_rfl) (f163 t25 rfl)
def t27 : Tab := (146, s146) :: t26
theorem a27 : AllMeets Tryz.prog t27 := a26.add mixed kp146 (show Tryz.prog.funcs[146]? = some Tryz.f146 from Tryz.func146) (by kernel_rfl) (f146 t26 rfl)
def t28 : Tab := (222, s222) :: t27
theorem a28 : AllMeets Tryz.prog t28 := a27.add mixed kp222 (show Tryz.prog.funcs[222]? = some Tryz.f222 from Tryz.func222) (by kernel_rfl) (f222 t27 rfl rfl rfl)
def t29 : Tab := (221, s221) :: t28
theorem a29 : AllMeets Tryz.prog t29 := a28.add mixed kp221 (show Tryz.prog.funcs[221]? = some Tryz.f221 from Tryz.func221) (by kernel_rfl) (f221 t28 rfl rfl rfl)
def t30 : Tab := (164, s164) :: t29
theorem a30 : AllMeets Tryz.prog t30 := a29.add mixed kp164 (show Tryz.prog.funcs[164]? = some Tryz.f164 from Tryz.func164) (by kernel_rfl) (f164 t29 rfl rfl rfl)
def t31 : Tab := (162, s162) :: t30
theorem a31 : AllMeets Tryz.prog t31 := a30.add mixed kp162 (show Tryz.prog.funcs[162]? = some Tryz.f162 from Tryz.func162) (by kernel_rfl) (f162 t30 rfl)
def t32 : Tab := (103, s103) :: t31
theorem a32 : AllMeets Tryz.prog t32 := a31.add mixed kp103 (show Tryz.prog.funcs[103]? = some Tryz.f103 from Tryz.func103) (by kernel_rfl) (f103 t31 rfl rfl rfl rfl rfl rfl)
def t33 : Tab := (38, s38) :: t32
theorem a33 : AllMeets Tryz.prog t33 := a32.add mixed kp38 (show Tryz.prog.funcs[38]? = some Tryz.f38 from Tryz.func38) (by kernel_rfl) (f38 t32 rfl rfl rfl rfl rfl rfl rfl rfl)
def t34 : Tab := (53, s53) :: t33
theorem a34 : AllMeets Tryz.prog t34 := a33.add mixed kp53 (show Tryz.prog.funcs[53]? = some Tryz.f53 from Tryz.func53) (by kernel_rfl) (f53 t33 rfl)
def t35 : Tab := (54, s54) :: t34
theorem a35 : AllMeets Tryz.prog t35 := a34.add mixed kp54 (show Tryz.prog.funcs[54]? = some Tryz.f54 from Tryz.func54) (by kernel_rfl) (f54 t34 rfl rfl rfl rfl rfl)
def t36 : Tab := (12, s12') :: t35
theorem a36 : AllMeets Tryz.prog t36 := a35.add mixed kp12 (show Tryz.prog.funcs[12]? = some Tryz.f12 from Tryz.func12) (by kernel_rfl) (fun args m Q h => f12 t35 rfl rfl rfl rfl args m Q (to12 h))
def t37 : Tab := (56, s56) :: t36
theorem a37 : AllMeets Tryz.prog t37 := a36.add mixed kp56 (show Tryz.prog.funcs[56]? = some Tryz.f56 from Tryz.func56) (by kernel_rfl) (f56 t36)
def t38 : Tab := (71, s71) :: t37
theorem a38 : AllMeets Tryz.prog t38 := a37.add mixed kp71 (show Tryz.prog.funcs[71]? = some Tryz.f71 from Tryz.func71) (by kernel_rfl) (f71 t37)
def t39 : Tab := (57, s57) :: t38
theorem a39 : AllMeets Tryz.prog t39 := a38.add mixed kp57 (show Tryz.prog.funcs[57]? = some Tryz.f57 from Tryz.func57) (by kernel_rfl) (f57 t38 rfl)
def t40 : Tab := (13, s13) :: t39
theorem a40 : AllMeets Tryz.prog t40 := a39.add mixed kp13 (show Tryz.prog.funcs[13]? = some Tryz.f13 from Tryz.func13) (by kernel_rfl) (f13 t39 rfl rfl)
def t41 : Tab := (80, s80) :: t40
theorem a41 : AllMeets Tryz.prog t41 := a40.add mixed kp80 (show Tryz.prog.funcs[80]? = some Tryz.f80 from Tryz.func80) (by kernel_rfl) (f80 t40)
def t42 : Tab := (73, s73) :: t41
theorem a42 : AllMeets Tryz.prog t42 := a41.add mixed kp73 (show Tryz.prog.funcs[73]? = some Tryz.f73 from Tryz.func73) (by kernel_rfl) (f73 t41)
def t43 : Tab := (106, s106) :: t42
theorem a43 : AllMeets Tryz.prog t43 := a42.add mixed kp106 (show Tryz.prog.funcs[106]? = some Tryz.f106 from Tryz.func106) (by kernel_rfl) (f106 t42)
def t44 : Tab := (108, s108) :: t43
theorem a44 : AllMeets Tryz.prog t44 := a43.add mixed kp108 (show Tryz.prog.funcs[108]? = some Tryz.f108 from Tryz.func108) (by kernel_rfl) (f108 t43)
def t45 : Tab := (109, s109) :: t44
theorem a45 : AllMeets Tryz.prog t45 := a44.add mixed kp109 (show Tryz.prog.funcs[109]? = some Tryz.f109 from Tryz.func109) (by kernel_rfl) (f109 t44 rfl rfl)
def t46 : Tab := (166, s166) :: t45
theorem a46 : AllMeets Tryz.prog t46 := a45.add mixed kp166 (show Tryz.prog.funcs[166]? = some Tryz.f166 from Tryz.func166) (by kernel_rfl) (f166 t45)
def t47 : Tab := (174, s174) :: t46
theorem a47 : AllMeets Tryz.prog t47 := a46.add mixed kp174 (show Tryz.prog.funcs[174]? = some Tryz.f174 from Tryz.func174) (by kernel_rfl) (f174 t46 rfl)
def t48 : Tab := (175, s175) :: t47
theorem a48 : AllMeets Tryz.prog t48 := a47.add mixed kp175 (show Tryz.prog.funcs[175]? = some Tryz.f175 from Tryz.func175) (by kernel_rfl) (f175 t47)
def t49 : Tab := (112, s112) :: t48
theorem a49 : AllMeets Tryz.prog t49 := a48.add mixed kp112 (show Tryz.prog.funcs[112]? = some Tryz.f112 from Tryz.func112) (by kernel_rfl) (f112 t48 rfl rfl rfl)
def t50 : Tab := (130, s130) :: t49
theorem a50 : AllMeets Tryz.prog t50 := a49.add mixed kp130 (show Tryz.prog.funcs[130]? = some Tryz.f130 from Tryz.func130) (by kernel_rfl) (f130 t49 rfl)
def t51 : Tab := (60, s60) :: t50
theorem a51 : AllMeets Tryz.prog t51 := a50.add mixed kp60 (show Tryz.prog.funcs[60]? = some Tryz.f60 from Tryz.func60) (by kernel_rfl) (f60 t50 rfl)
def t52 : Tab := (107, s107) :: t51
theorem a52 : AllMeets Tryz.prog t52 := a51.add mixed kp107 (show Tryz.prog.funcs[107]? = some Tryz.f107 from Tryz.func107) (by kernel_rfl) (f107 t51 rfl rfl rfl)
def t53 : Tab := (186, s186) :: t52
theorem a53 : AllMeets Tryz.prog t53 := a52.add mixed kp186 (show Tryz.prog.funcs[186]? = some Tryz.f186 from Tryz.func186) (by kernel_rfl) (f186 t52)
def t54 : Tab := (171, s171) :: t53
theorem a54 : AllMeets Tryz.prog t54 := a53.add mixed kp171 (show Tryz.prog.funcs[171]? = some Tryz.f171 from Tryz.func171) (by kernel_rfl) (f171 t53 rfl rfl)
def t55 : Tab := (223, s223) :: t54
theorem a55 : AllMeets Tryz.prog t55 := a54.add mixed kp223 (show Tryz.prog.funcs[223]? = some Tryz.f223 from Tryz.func223) (by kernel_rfl) (f223 t54 rfl rfl)
def t56 : Tab := (126, s126) :: t55
theorem a56 : AllMeets Tryz.prog t56 := a55.add mixed kp126 (show Tryz.prog.funcs[126]? = some Tryz.f126 from Tryz.func126) (by kernel_rfl) (f126 t55 rfl)
def t57 : Tab := (187, s187) :: t56
theorem a57 : AllMeets Tryz.prog t57 := a56.add mixed kp187 (show Tryz.prog.funcs[187]? = some Tryz.f187 from Tryz.func187) (by kernel_rfl) (f187 t56 rfl rfl rfl rfl)
def t58 : Tab := (127, s127) :: t57
theorem a58 : AllMeets Tryz.prog t58 := a57.add mixed kp127 (show Tryz.prog.funcs[127]? = some Tryz.f127 from Tryz.func127) (by kernel_rfl) (f127 t57 rfl rfl)
def t59 : Tab := (172, s172) :: t58
theorem a59 : AllMeets Tryz.prog t59 := a58.add mixed kp172 (show Tryz.prog.funcs[172]? = some Tryz.f172 from Tryz.func172) (by kernel_rfl) (f172 t58 rfl rfl rfl rfl)
def t60 : Tab := (224, s224) :: t59
theorem a60 : AllMeets Tryz.prog t60 := a59.add mixed kp224 (show Tryz.prog.funcs[224]? = some Tryz.f224 from Tryz.func224) (by kernel_rfl) (f224 t59)
def t61 : Tab := (129, s129) :: t60
theorem a61 : AllMeets Tryz.prog t61 := a60.add mixed kp129 (show Tryz.prog.funcs[129]? = some Tryz.f129 from Tryz.func129) (by kernel_rfl) (f129 t60)
def t62 : Tab := (128, s128) :: t61
theorem a62 : AllMeets Tryz.prog t62 := a61.add mixed kp128 (show Tryz.prog.funcs[128]? = some Tryz.f128 from Tryz.func128) (by kernel_rfl) (f128 t61)
def t63 : Tab := (225, s225) :: t62
theorem a63 : AllMeets Tryz.prog t63 := a62.add mixed kp225 (show Tryz.prog.funcs[225]? = some Tryz.f225 from Tryz.func225) (by kernel_rfl) (f225 t62 rfl rfl)
def t64 : Tab := (167, s167) :: t63
theorem a64 : AllMeets Tryz.prog t64 := a63.add mixed kp167 (show Tryz.prog.funcs[167]? = some Tryz.f167 from Tryz.func167) (by kernel_rfl) (f167 t63 rfl rfl rfl rfl rfl rfl)
def t65 : Tab := (151, s151) :: t64
theorem a65 : AllMeets Tryz.prog t65 := a64.add mixed kp151 (show Tryz.prog.funcs[151]? = some Tryz.f151 from Tryz.func151) (by kernel_rfl) (f151 t64)
def t66 : Tab := (261, s261) :: t65
theorem a66 : AllMeets Tryz.prog t66 := a65.add mixed kp261 (show Tryz.prog.funcs[261]? = some Tryz.f261 from Tryz.func261) (by kernel_rfl) (f261 t65 rfl rfl rfl)
def t67 : Tab := (260, s260) :: t66
theorem a67 : AllMeets Tryz.prog t67 := a66.add mixed kp260 (show Tryz.prog.funcs[260]? = some Tryz.f260 from Tryz.func260) (by kernel_rfl) (f260 t66 rfl rfl rfl)
def t68 : Tab := (226, s226) :: t67
theorem a68 : AllMeets Tryz.prog t68 := a67.add mixed kp226 (show Tryz.prog.funcs[226]? = some Tryz.f226 from Tryz.func226) (by kernel_rfl) (f226 t67 rfl rfl rfl rfl)
def t69 : Tab := (168, s168) :: t68
theorem a69 : AllMeets Tryz.prog t69 := a68.add mixed kp168 (show Tryz.prog.funcs[168]? = some Tryz.f168 from Tryz.func168) (by kernel_rfl) (f168 t68 rfl rfl rfl rfl)
def t70 : Tab := (170, s170) :: t69
theorem a70 : AllMeets Tryz.prog t70 := a69.add mixed kp170 (show Tryz.prog.funcs[170]? = some Tryz.f170 from Tryz.func170) (by kernel_rfl) (f170 t69 rfl rfl)
def t71 : Tab := (227, s227) :: t70
theorem a71 : AllMeets Tryz.prog t71 := a70.add mixed kp227 (show Tryz.prog.funcs[227]? = some Tryz.f227 from Tryz.func227) (by kernel_rfl) (f227 t70 rfl)
def t72 : Tab := (169, s169) :: t71
theorem a72 : AllMeets Tryz.prog t72 := a71.add mixed kp169 (show Tryz.prog.funcs[169]? = some Tryz.f169 from Tryz.func169) (by kernel_rfl) (f169 t71 rfl)
def t73 : Tab := (110, s110) :: t72
theorem a73 : AllMeets Tryz.prog t73 := a72.add mixed kp110 (show Tryz.prog.funcs[110]? = some Tryz.f110 from Tryz.func110) (by kernel_rfl) (f110 t72 rfl rfl rfl rfl)
def t74 : Tab := (39, s39) :: t73
theorem a74 : AllMeets Tryz.prog t74 := a73.add mixed kp39 (show Tryz.prog.funcs[39]? = some Tryz.f39 from Tryz.func39) (by kernel_rfl) (f39 t73 rfl rfl rfl rfl rfl rfl rfl)
def t75 : Tab := (58, s58) :: t74
theorem a75 : AllMeets Tryz.prog t75 := a74.add mixed kp58 (show Tryz.prog.funcs[58]? = some Tryz.f58 from Tryz.func58) (by kernel_rfl) (f58 t74 rfl)
def t76 : Tab := (125, s125) :: t75
theorem a76 : AllMeets Tryz.prog t76 := a75.add mixed kp125 (show Tryz.prog.funcs[125]? = some Tryz.f125 from Tryz.func125) (by kernel_rfl) (f125 t75 rfl rfl)
def t77 : Tab := (59, s59) :: t76
theorem a77 : AllMeets Tryz.prog t77 := a76.add mixed kp59 (show Tryz.prog.funcs[59]? = some Tryz.f59 from Tryz.func59) (by kernel_rfl) (f59 t76 rfl rfl rfl rfl)
def t78 : Tab := (61, s61) :: t77
theorem a78 : AllMeets Tryz.prog t78 := a77.cons m61
def t79 : Tab := (14, s14') :: t78
theorem a79 : AllMeets Tryz.prog t79 := a78.add mixed kp14 (show Tryz.prog.funcs[14]? = some Tryz.f14 from Tryz.func14) (by kernel_rfl) (fun args m Q h => f14 t78 rfl rfl rfl rfl rfl args m Q (to14 h))
def t80 : Tab := (15, s15) :: t79
theorem a80 : AllMeets Tryz.prog t80 := a79.add mixed kp15 (show Tryz.prog.funcs[15]? = some Tryz.f15 from Tryz.func15) (by kernel_rfl) (f15 t79)
def t81 : Tab := (62, s62) :: t80
theorem a81 : AllMeets Tryz.prog t81 := a80.add mixed kp62 (show Tryz.prog.funcs[62]? = some Tryz.f62 from Tryz.func62) (by kernel_rfl) (f62 t80)
def t82 : Tab := (76, s76) :: t81
theorem a82 : AllMeets Tryz.prog t82 := a81.add mixed kp76 (show Tryz.prog.funcs[76]? = some Tryz.f76 from Tryz.func76) (by kernel_rfl) (f76 t81)
def t83 : Tab := (63, s63) :: t82
theorem a83 : AllMeets Tryz.prog t83 := a82.add mixed kp63 (show Tryz.prog.funcs[63]? = some Tryz.f63 from Tryz.func63) (by kernel_rfl) (f63 t82 rfl)
def t84 : Tab := (16, s16) :: t83
theorem a84 : AllMeets Tryz.prog t84 := a83.add mixed kp16 (show Tryz.prog.funcs[16]? = some Tryz.f16 from Tryz.func16) (by kernel_rfl) (f16 t83 rfl rfl)
def t85 : Tab := (64, s64) :: t84
theorem a85 : AllMeets Tryz.prog t85 := a84.add mixed kp64 (show Tryz.prog.funcs[64]? = some Tryz.f64 from Tryz.func64) (by kernel_rfl) (f64 t84)
def t86 : Tab := (65, s65) :: t85
theorem a86 : AllMeets Tryz.prog t86 := a85.add mixed kp65 (show Tryz.prog.funcs[65]? = some Tryz.f65 from Tryz.func65) (by kernel_rfl) (f65 t85)
def t87 : Tab := (17, s17) :: t86
theorem a87 : AllMeets Tryz.prog t87 := a86.add mixed kp17 (show Tryz.prog.funcs[17]? = some Tryz.f17 from Tryz.func17) (by kernel_rfl) (f17 t86 rfl rfl)
def t88 : Tab := (18, s18) :: t87
theorem a88 : AllMeets Tryz.prog t88 := a87.add mixed kp18 (show Tryz.prog.funcs[18]? = some Tryz.f18 from Tryz.func18) (by kernel_rfl) (f18 t87)
def t89 : Tab := (19, s19) :: t88
theorem a89 : AllMeets Tryz.prog t89 := a88.add mixed kp19 (show Tryz.prog.funcs[19]? = some Tryz.f19 from Tryz.func19) (by kernel_rfl) (f19 t88)
def t90 : Tab := (3, s3) :: t89
theorem a90 : AllMeets Tryz.prog t90 := a89.add mixed kp3 (show Tryz.prog.funcs[3]? = some Tryz.f3 from Tryz.func3) (by kernel_rfl) (f3 t89 rfl rfl rfl rfl rfl rfl rfl rfl rfl)
end Go.Proofs.YtjdcndicaeodbaaGreat.Abs
