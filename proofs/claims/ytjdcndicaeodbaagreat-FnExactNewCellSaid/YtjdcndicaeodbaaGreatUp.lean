/- All contracts in one table, and that each is met. No condition. -/
import Derived.Test.YtjdcndicaeodbaaGreatUo
import Derived.Test.YtjdcndicaeodbaaGreatUn
namespace Go.Proofs.YtjdcndicaeodbaaGreat.Abs
open Go.RowKit
set_option maxRecDepth 20000

def t1 : Tab := (51, s51) :: []
theorem a1 : AllMeets Tryz.prog t1 := (allMeets_nil Tryz.prog).add mixed kp51 (show Tryz.prog.funcs[51]? = some Tryz.f51 from Tryz.func51) (by kernel_rfl) (f51 [])
def t2 : Tab := (52, s52) :: t1
theorem a2 : AllMeets Tryz.prog t2 := a1.add mixed kp52 (show Tryz.prog.funcs[52]? = some Tryz.f52 from Tryz.func52) (by kernel_rfl) (f52 t1)
def t3 : Tab := (11, s11) :: t2
theorem a3 : AllMeets Tryz.prog t3 := a2.add mixed kp11 (show Tryz.prog.funcs[11]? = some Tryz.f11 from Tryz.func11) (by kernel_rfl) (f11 t2 rfl rfl)
def t4 : Tab := (56, s56) :: t3
theorem a4 : AllMeets Tryz.prog t4 := a3.add mixed kp56 (show Tryz.prog.funcs[56]? = some Tryz.f56 from Tryz.func56) (by kernel_rfl) (f56 t3)
def t5 : Tab := (71, s71) :: t4
theorem a5 : AllMeets Tryz.prog t5 := a4.add mixed kp71 (show Tryz.prog.funcs[71]? = some Tryz.f71 from Tryz.func71) (by kernel_rfl) (f71 t4)
def t6 : Tab := (57, s57) :: t5
theorem a6 : AllMeets Tryz.prog t6 := a5.add mixed kp57 (show Tryz.prog.funcs[57]? = some Tryz.f57 from Tryz.func57) (by kernel_rfl) (f57 t5 rfl)
def t7 : Tab := (13, s13) :: t6
theorem a7 : AllMeets Tryz.prog t7 := a6.add mixed kp13 (show Tryz.prog.funcs[13]? = some Tryz.f13 from Tryz.func13) (by kernel_rfl) (f13 t6 rfl rfl)
def t8 : Tab := (62, s62) :: t7
theorem a8 : AllMeets Tryz.prog t8 := a7.add mixed kp62 (show Tryz.prog.funcs[62]? = some Tryz.f62 from Tryz.func62) (by kernel_rfl) (f62 t7)
def t9 : Tab := (76, s76) :: t8
theorem a9 : AllMeets Tryz.prog t9 := a8.add mixed kp76 (show Tryz.prog.funcs[76]? = some Tryz.f76 from Tryz.func76) (by kernel_rfl) (f76 t8)
def t10 : Tab := (63, s63) :: t9
theorem a10 : AllMeets Tryz.prog t10 := a9.add mixed kp63 (show Tryz.prog.funcs[63]? = some Tryz.f63 from Tryz.func63) (by kernel_rfl) (f63 t9 rfl)
def t11 : Tab := (16, s16) :: t10
theorem a11 : AllMeets Tryz.prog t11 := a10.add mixed kp16 (show Tryz.prog.funcs[16]? = some Tryz.f16 from Tryz.func16) (by kernel_rfl) (f16 t10 rfl rfl)
def t12 : Tab := (64, s64) :: t11
theorem a12 : AllMeets Tryz.prog t12 := a11.add mixed kp64 (show Tryz.prog.funcs[64]? = some Tryz.f64 from Tryz.func64) (by kernel_rfl) (f64 t11)
def t13 : Tab := (65, s65) :: t12
theorem a13 : AllMeets Tryz.prog t13 := a12.add mixed kp65 (show Tryz.prog.funcs[65]? = some Tryz.f65 from Tryz.func65) (by kernel_rfl) (f65 t12)
def t14 : Tab := (17, s17) :: t13
theorem a14 : AllMeets Tryz.prog t14 := a13.add mixed kp17 (show Tryz.prog.funcs[17]? = some Tryz.f17 from Tryz.func17) (by kernel_rfl) (f17 t13 rfl rfl)
def t15 : Tab := (176, s176) :: t14
theorem a15 : AllMeets Tryz.prog t15 := a14.add mixed kp176 (show Tryz.prog.funcs[176]? = some Tryz.f176 from Tryz.func176) (by kernel_rfl) (f176 t14)
def t16 : Tab := (113, s113) :: t15
theorem a16 : AllMeets Tryz.prog t16 := a15.add mixed kp113 (show Tryz.prog.funcs[113]? = some Tryz.f113 from Tryz.func113) (by kernel_rfl) (f113 t15 rfl)
def t17 : Tab := (78, s78) :: t16
theorem a17 : AllMeets Tryz.prog t17 := a16.add mixed kp78 (show Tryz.prog.funcs[78]? = some Tryz.f78 from Tryz.func78) (by kernel_rfl) (f78 t16)
def t18 : Tab := (68, s68) :: t17
theorem a18 : AllMeets Tryz.prog t18 := a17.add mixed kp68 (show Tryz.prog.funcs[68]? = some Tryz.f68 from Tryz.func68) (by kernel_rfl) (f68 t17)
def t19 : Tab := (157, s157) :: t18
theorem a19 : AllMeets Tryz.prog t19 := a18.add mixed kp157 (show Tryz.prog.funcs[157]? = some Tryz.f157 from Tryz.func157) (by kernel_rfl) (f157 t18)
def t20 : Tab := (99, s99) :: t19
theorem a20 : AllMeets Tryz.prog t20 := a19.add mixed kp99 (show Tryz.prog.funcs[99]? = some Tryz.f99 from Tryz.func99) (by kernel_rfl) (f99 t19 rfl rfl rfl)
def t21 : Tab := (41, s41) :: t20
theorem a21 : AllMeets Tryz.prog t21 := a20.add mixed kp41 (show Tryz.prog.funcs[41]? = some Tryz.f41 from Tryz.func41) (by kernel_rfl) (f41 t20 rfl)
def t22 : Tab := (182, s182) :: t21
theorem a22 : AllMeets Tryz.prog t22 := a21.add mixed kp182 (show Tryz.prog.funcs[182]? = some Tryz.f182 from Tryz.func182) (by kernel_rfl) (f182 t21 rfl)
def t23 : Tab := (124, s124) :: t22
theorem a23 : AllMeets Tryz.prog t23 := a22.add mixed kp124 (show Tryz.prog.funcs[124]? = some Tryz.f124 from Tryz.func124) (by kernel_rfl) (f124 t22 rfl)
def t24 : Tab := (158, s158) :: t23
theorem a24 : AllMeets Tryz.prog t24 := a23.add mixed kp158 (show Tryz.prog.funcs[158]? = some Tryz.f158 from Tryz.func158) (by kernel_rfl) (f158 t23)
def t25 : Tab := (55, s55) :: t24
theorem a25 : AllMeets Tryz.prog t25 := a24.add mixed kp55 (show Tryz.prog.funcs[55]? = some Tryz.f55 from Tryz.func55) (by kernel_rfl) (f55 t24 rfl)
def t26 : Tab := (100, s100) :: t25
theorem a26 : AllMeets Tryz.prog t26 := a25.add mixed kp100 (show Tryz.prog.funcs[100]? = some Tryz.f100 from Tryz.func100) (by kernel_rfl) (f100 t25 rfl rfl rfl rfl rfl)
def t27 : Tab := (101, s101) :: t26
theorem a27 : AllMeets Tryz.prog t27 := a26.add mixed kp101 (show Tryz.prog.funcs[101]? = some Tryz.f101 from Tryz.func101) (by kernel_rfl) (f101 t26 rfl)
def t28 : Tab := (165, s165) :: t27
theorem a28 : AllMeets Tryz.prog t28 := a27.add mixed kp165 (show Tryz.prog.funcs[165]? = some Tryz.f165 from Tryz.func165) (by kernel_rfl) (f165 t27)
def t29 : Tab := (120, s120) :: t28
theorem a29 : AllMeets Tryz.prog t29 := a28.add mixed kp120 (show Tryz.prog.funcs[120]? = some Tryz.f120 from Tryz.func120) (by kernel_rfl) (f120 t28 rfl)
def t30 : Tab := (104, s104) :: t29
theorem a30 : AllMeets Tryz.prog t30 := a29.add mixed kp104 (show Tryz.prog.funcs[104]? = some Tryz.f104 from Tryz.func104) (by kernel_rfl) (f104 t29 rfl rfl)
def t31 : Tab := (122, s122) :: t30
theorem a31 : AllMeets Tryz.prog t31 := a30.add mixed kp122 (show Tryz.prog.funcs[122]? = some Tryz.f122 from Tryz.func122) (by kernel_rfl) (f122 t30 rfl)
def t32 : Tab := (123, s123) :: t31
theorem a32 : AllMeets Tryz.prog t32 := a31.add mixed kp123 (show Tryz.prog.funcs[123]? = some Tryz.f123 from Tryz.func123) (by kernel_rfl) (f123 t31 rfl)
def t33 : Tab := (105, s105) :: t32
theorem a33 : AllMeets Tryz.prog t33 := a32.add mixed kp105 (show Tryz.prog.funcs[105]? = some Tryz.f105 from Tryz.func105) (by kernel_rfl) (f105 t32 rfl rfl rfl rfl)
def t34 : Tab := (160, s160) :: t33
theorem a34 : AllMeets Tryz.prog t34 := a33.add mixed kp160 (show Tryz.prog.funcs[160]? = some Tryz.f160 from Tryz.func160) (by kernel_rfl) (f160 t33)
def t35 : Tab := (159, s159) :: t34
theorem a35 : AllMeets Tryz.prog t35 := a34.add mixed kp159 (show Tryz.prog.funcs[159]? = some Tryz.f159 from Tryz.func159) (by kernel_rfl) (f159 t34 rfl rfl)
def t36 : Tab := (161, s161) :: t35
theorem a36 : AllMeets Tryz.prog t36 := a35.add mixed kp161 (show Tryz.prog.funcs[161]? = some Tryz.f161 from Tryz.func161) (by kernel_rfl) (f161 t35 rfl rfl rfl)
def t37 : Tab := (121, s121) :: t36
theorem a37 : AllMeets Tryz.prog t37 := a36.add mixed kp121 (show Tryz.prog.funcs[121]? = some Tryz.f121 from Tryz.func121) (by kernel_rfl) (f121 t36 rfl)
def t38 : Tab := (102, s102) :: t37
theorem a38 : AllMeets Tryz.prog t38 := a37.add mixed kp102 (show Tryz.prog.funcs[102]? = some Tryz.f102 from Tryz.func102) (by kernel_rfl) (f102 t37 rfl rfl rfl rfl rfl rfl rfl rfl)
def t39 : Tab := (163, s163) :: t38
theorem a39 : AllMeets Tryz.prog t39 := a38.add mixed kp163 (show Tryz.prog.funcs[163]? = some Tryz.f163 from Tryz.func163) (by kernel_rfl) (f163 t38 rfl)
def t40 : Tab := (146, s146) :: t39
theorem a40 : AllMeets Tryz.prog t40 := a39.add mixed kp146 (show Tryz.prog.funcs[146]? = some Tryz.f146 from Tryz.func146) (by kernel_rfl) (f146 t39 rfl)
def t41 : Tab := (222, s222) :: t40
theorem a41 : AllMeets Tryz.prog t41 := a40.add mixed kp222 (show Tryz.prog.funcs[222]? = some Tryz.f222 from Tryz.func222) (by kernel_rfl) (f222 t40 rfl rfl rfl)
def t42 : Tab := (221, s221) :: t41
theorem a42 : AllMeets Tryz.prog t42 := a41.add mixed kp221 (show Tryz.prog.funcs[221]? = some Tryz.f221 from Tryz.func221) (by kernel_rfl) (f221 t41 rfl rfl rfl)
def t43 : Tab := (164, s164) :: t42
theorem a43 : AllMeets Tryz.prog t43 := a42.add mixed kp164 (show Tryz.prog.funcs[164]? = some Tryz.f164 from Tryz.func164) (by kernel_rfl) (f164 t42 rfl rfl rfl)
def t44 : Tab := (162, s162) :: t43
theorem a44 : AllMeets Tryz.prog t44 := a43.add mixed kp162 (show Tryz.prog.funcs[162]? = some Tryz.f162 from Tryz.func162) (by kernel_rfl) (f162 t43 rfl)
def t45 : Tab := (103, s103) :: t44
theorem a45 : AllMeets Tryz.prog t45 := a44.add mixed kp103 (show Tryz.prog.funcs[103]? = some Tryz.f103 from Tryz.func103) (by kernel_rfl) (f103 t44 rfl rfl rfl rfl rfl rfl)
def t46 : Tab := (38, s38) :: t45
theorem a46 : AllMeets Tryz.prog t46 := a45.add mixed kp38 (show Tryz.prog.funcs[38]? = some Tryz.f38 from Tryz.func38) (by kernel_rfl) (f38 t45 rfl rfl rfl rfl rfl rfl rfl rfl)
def t47 : Tab := (53, s53) :: t46
theorem a47 : AllMeets Tryz.prog t47 := a46.add mixed kp53 (show Tryz.prog.funcs[53]? = some Tryz.f53 from Tryz.func53) (by kernel_rfl) (f53 t46 rfl)
def t48 : Tab := (180, s180) :: t47
theorem a48 : AllMeets Tryz.prog t48 := a47.add mixed kp180 (show Tryz.prog.funcs[180]? = some Tryz.f180 from Tryz.func180) (by kernel_rfl) (f180 t47 rfl rfl)
def t49 : Tab := (228, s228) :: t48
theorem a49 : AllMeets Tryz.prog t49 := a48.add mixed kp228 (show Tryz.prog.funcs[228]? = some Tryz.f228 from Tryz.func228) (by kernel_rfl) (f228 t48 rfl rfl rfl)
def t50 : Tab := (179, s179) :: t49
theorem a50 : AllMeets Tryz.prog t50 := a49.add mixed kp179 (show Tryz.prog.funcs[179]? = some Tryz.f179 from Tryz.func179) (by kernel_rfl) (f179 t49)
def t51 : Tab := (178, s178) :: t50
theorem a51 : AllMeets Tryz.prog t51 := a50.add mixed kp178 (show Tryz.prog.funcs[178]? = some Tryz.f178 from Tryz.func178) (by kernel_rfl) (f178 t50 rfl rfl rfl rfl rfl)
def t52 : Tab := (229, s229) :: t51
theorem a52 : AllMeets Tryz.prog t52 := a51.add mixed kp229 (show Tryz.prog.funcs[229]? = some Tryz.f229 from Tryz.func229) (by kernel_rfl) (f229 t51 rfl rfl)
def t53 : Tab := (177, s177) :: t52
theorem a53 : AllMeets Tryz.prog t53 := a52.add mixed kp177 (show Tryz.prog.funcs[177]? = some Tryz.f177 from Tryz.func177) (by kernel_rfl) (f177 t52 rfl rfl rfl)
def t54 : Tab := (181, s181) :: t53
theorem a54 : AllMeets Tryz.prog t54 := a53.add mixed kp181 (show Tryz.prog.funcs[181]? = some Tryz.f181 from Tryz.func181) (by kernel_rfl) (f181 t53 rfl rfl)
def t55 : Tab := (114, s114) :: t54
theorem a55 : AllMeets Tryz.prog t55 := a54.add mixed kp114 (show Tryz.prog.funcs[114]? = some Tryz.f114 from Tryz.func114) (by kernel_rfl) (f114 t54 rfl rfl rfl rfl rfl rfl rfl)
def t56 : Tab := (115, s115) :: t55
theorem a56 : AllMeets Tryz.prog t56 := a55.add mixed kp115 (show Tryz.prog.funcs[115]? = some Tryz.f115 from Tryz.func115) (by kernel_rfl) (f115 t55)
def t57 : Tab := (48, s48') :: t56
theorem a57 : AllMeets Tryz.prog t57 := a56.add mixed kp48 (show Tryz.prog.funcs[48]? = some Tryz.f48 from Tryz.func48) (by kernel_rfl) (fun args m Q h => f48 t56 rfl rfl rfl rfl rfl args m Q (to48 h))
def t58 : Tab := (183, s183) :: t57
theorem a58 : AllMeets Tryz.prog t58 := a57.add mixed kp183 (show Tryz.prog.funcs[183]? = some Tryz.f183 from Tryz.func183) (by kernel_rfl) (f183 t57)
def t59 : Tab := (116, s116) :: t58
theorem a59 : AllMeets Tryz.prog t59 := a58.add mixed kp116 (show Tryz.prog.funcs[116]? = some Tryz.f116 from Tryz.func116) (by kernel_rfl) (f116 t58 rfl)
def t60 : Tab := (80, s80) :: t59
theorem a60 : AllMeets Tryz.prog t60 := a59.add mixed kp80 (show Tryz.prog.funcs[80]? = some Tryz.f80 from Tryz.func80) (by kernel_rfl) (f80 t59)
def t61 : Tab := (73, s73) :: t60
theorem a61 : AllMeets Tryz.prog t61 := a60.add mixed kp73 (show Tryz.prog.funcs[73]? = some Tryz.f73 from Tryz.func73) (by kernel_rfl) (f73 t60)
def t62 : Tab := (106, s106) :: t61
theorem a62 : AllMeets Tryz.prog t62 := a61.add mixed kp106 (show Tryz.prog.funcs[106]? = some Tryz.f106 from Tryz.func106) (by kernel_rfl) (f106 t61)
def t63 : Tab := (108, s108) :: t62
theorem a63 : AllMeets Tryz.prog t63 := a62.add mixed kp108 (show Tryz.prog.funcs[108]? = some Tryz.f108 from Tryz.func108) (by kernel_rfl) (f108 t62)
def t64 : Tab := (109, s109) :: t63
theorem a64 : AllMeets Tryz.prog t64 := a63.add mixed kp109 (show Tryz.prog.funcs[109]? = some Tryz.f109 from Tryz.func109) (by kernel_rfl) (f109 t63 rfl rfl)
def t65 : Tab := (166, s166) :: t64
theorem a65 : AllMeets Tryz.prog t65 := a64.add mixed kp166 (show Tryz.prog.funcs[166]? = some Tryz.f166 from Tryz.func166) (by kernel_rfl) (f166 t64)
def t66 : Tab := (174, s174) :: t65
theorem a66 : AllMeets Tryz.prog t66 := a65.add mixed kp174 (show Tryz.prog.funcs[174]? = some Tryz.f174 from Tryz.func174) (by kernel_rfl) (f174 t65 rfl)
def t67 : Tab := (175, s175) :: t66
theorem a67 : AllMeets Tryz.prog t67 := a66.add mixed kp175 (show Tryz.prog.funcs[175]? = some Tryz.f175 from Tryz.func175) (by kernel_rfl) (f175 t66)
def t68 : Tab := (112, s112) :: t67
theorem a68 : AllMeets Tryz.prog t68 := a67.add mixed kp112 (show Tryz.prog.funcs[112]? = some Tryz.f112 from Tryz.func112) (by kernel_rfl) (f112 t67 rfl rfl rfl)
def t69 : Tab := (130, s130) :: t68
theorem a69 : AllMeets Tryz.prog t69 := a68.add mixed kp130 (show Tryz.prog.funcs[130]? = some Tryz.f130 from Tryz.func130) (by kernel_rfl) (f130 t68 rfl)
def t70 : Tab := (60, s60) :: t69
theorem a70 : AllMeets Tryz.prog t70 := a69.add mixed kp60 (show Tryz.prog.funcs[60]? = some Tryz.f60 from Tryz.func60) (by kernel_rfl) (f60 t69 rfl)
def t71 : Tab := (107, s107) :: t70
theorem a71 : AllMeets Tryz.prog t71 := a70.add mixed kp107 (show Tryz.prog.funcs[107]? = some Tryz.f107 from Tryz.func107) (by kernel_rfl) (f107 t70 rfl rfl rfl)
def t72 : Tab := (186, s186) :: t71
theorem a72 : AllMeets Tryz.prog t72 := a71.add mixed kp186 (show Tryz.prog.funcs[186]? = some Tryz.f186 from Tryz.func186) (by kernel_rfl) (f186 t71)
def t73 : Tab := (171, s171) :: t72
theorem a73 : AllMeets Tryz.prog t73 := a72.add mixed kp171 (show Tryz.prog.funcs[171]? = some Tryz.f171 from Tryz.func171) (by kernel_rfl) (f171 t72 rfl rfl)
def t74 : Tab := (223, s223) :: t73
theorem a74 : AllMeets Tryz.prog t74 := a73.add mixed kp223 (show Tryz.prog.funcs[223]? = some Tryz.f223 from Tryz.func223) (by kernel_rfl) (f223 t73 rfl rfl)
def t75 : Tab := (126, s126) :: t74
theorem a75 : AllMeets Tryz.prog t75 := a74.add mixed kp126 (show Tryz.prog.funcs[126]? = some Tryz.f126 from Tryz.func126) (by kernel_rfl) (f126 t74 rfl)
def t76 : Tab := (187, s187) :: t75
theorem a76 : AllMeets Tryz.prog t76 := a75.add mixed kp187 (show Tryz.prog.funcs[187]? = some Tryz.f187 from Tryz.func187) (by kernel_rfl) (f187 t75 rfl rfl rfl rfl)
def t77 : Tab := (127, s127) :: t76
theorem a77 : AllMeets Tryz.prog t77 := a76.add mixed kp127 (show Tryz.prog.funcs[127]? = some Tryz.f127 from Tryz.func127) (by kernel_rfl) (f127 t76 rfl rfl)
def t78 : Tab := (172, s172) :: t77
theorem a78 : AllMeets Tryz.prog t78 := a77.add mixed kp172 (show Tryz.prog.funcs[172]? = some Tryz.f172 from Tryz.func172) (by kernel_rfl) (f172 t77 rfl rfl rfl rfl)
def t79 : Tab := (224, s224) :: t78
theorem a79 : AllMeets Tryz.prog t79 := a78.add mixed kp224 (show Tryz.prog.funcs[224]? = some Tryz.f224 from Tryz.func224) (by kernel_rfl) (f224 t78)
def t80 : Tab := (129, s129) :: t79
theorem a80 : AllMeets Tryz.prog t80 := a79.add mixed kp129 (show Tryz.prog.funcs[129]? = some Tryz.f129 from Tryz.func129) (by kernel_rfl) (f129 t79)
def t81 : Tab := (128, s128) :: t80
theorem a81 : AllMeets Tryz.prog t81 := a80.add mixed kp128 (show Tryz.prog.funcs[128]? = some Tryz.f128 from Tryz.func128) (by kernel_rfl) (f128 t80)
def t82 : Tab := (225, s225) :: t81
theorem a82 : AllMeets Tryz.prog t82 := a81.add mixed kp225 (show Tryz.prog.funcs[225]? = some Tryz.f225 from Tryz.func225) (by kernel_rfl) (f225 t81 rfl rfl)
def t83 : Tab := (167, s167) :: t82
theorem a83 : AllMeets Tryz.prog t83 := a82.add mixed kp167 (show Tryz.prog.funcs[167]? = some Tryz.f167 from Tryz.func167) (by kernel_rfl) (f167 t82 rfl rfl rfl rfl rfl rfl)
def t84 : Tab := (151, s151) :: t83
theorem a84 : AllMeets Tryz.prog t84 := a83.add mixed kp151 (show Tryz.prog.funcs[151]? = some Tryz.f151 from Tryz.func151) (by kernel_rfl) (f151 t83)
def t85 : Tab := (261, s261) :: t84
theorem a85 : AllMeets Tryz.prog t85 := a84.add mixed kp261 (show Tryz.prog.funcs[261]? = some Tryz.f261 from Tryz.func261) (by kernel_rfl) (f261 t84 rfl rfl rfl)
def t86 : Tab := (260, s260) :: t85
theorem a86 : AllMeets Tryz.prog t86 := a85.add mixed kp260 (show Tryz.prog.funcs[260]? = some Tryz.f260 from Tryz.func260) (by kernel_rfl) (f260 t85 rfl rfl rfl)
def t87 : Tab := (226, s226) :: t86
theorem a87 : AllMeets Tryz.prog t87 := a86.add mixed kp226 (show Tryz.prog.funcs[226]? = some Tryz.f226 from Tryz.func226) (by kernel_rfl) (f226 t86 rfl rfl rfl rfl)
def t88 : Tab := (168, s168) :: t87
theorem a88 : AllMeets Tryz.prog t88 := a87.add mixed kp168 (show Tryz.prog.funcs[168]? = some Tryz.f168 from Tryz.func168) (by kernel_rfl) (f168 t87 rfl rfl rfl rfl)
def t89 : Tab := (170, s170) :: t88
theorem a89 : AllMeets Tryz.prog t89 := a88.add mixed kp170 (show Tryz.prog.funcs[170]? = some Tryz.f170 from Tryz.func170) (by kernel_rfl) (f170 t88 rfl rfl)
def t90 : Tab := (227, s227) :: t89
theorem a90 : AllMeets Tryz.prog t90 := a89.add mixed kp227 (show Tryz.prog.funcs[227]? = some Tryz.f227 from Tryz.func227) (by kernel_rfl) (f227 t89 rfl)
def t91 : Tab := (169, s169) :: t90
theorem a91 : AllMeets Tryz.prog t91 := a90.add mixed kp169 (show Tryz.prog.funcs[169]? = some Tryz.f169 from Tryz.func169) (by kernel_rfl) (f169 t90 rfl)
def t92 : Tab := (110, s110) :: t91
theorem a92 : AllMeets Tryz.prog t92 := a91.add mixed kp110 (show Tryz.prog.funcs[110]? = some Tryz.f110 from Tryz.func110) (by kernel_rfl) (f110 t91 rfl rfl rfl rfl)
def t93 : Tab := (39, s39) :: t92
theorem a93 : AllMeets Tryz.prog t93 := a92.add mixed kp39 (show Tryz.prog.funcs[39]? = some Tryz.f39 from Tryz.func39) (by kernel_rfl) (f39 t92 rfl rfl rfl rfl rfl rfl rfl)
def t94 : Tab := (58, s58) :: t93
theorem a94 : AllMeets Tryz.prog t94 := a93.add mixed kp58 (show Tryz.prog.funcs[58]? = some Tryz.f58 from Tryz.func58) (by kernel_rfl) (f58 t93 rfl)
def t95 : Tab := (42, s42) :: t94
theorem a95 : AllMeets Tryz.prog t95 := a94.add mixed kp42 (show Tryz.prog.funcs[42]? = some Tryz.f42 from Tryz.func42) (by kernel_rfl) (f42 t94 rfl)
def t96 : Tab := (232, s232) :: t95
theorem a96 : AllMeets Tryz.prog t96 := a95.add mixed kp232 (show Tryz.prog.funcs[232]? = some Tryz.f232 from Tryz.func232) (by kernel_rfl) (f232 t95 rfl rfl)
def t97 : Tab := (263, s263) :: t96
theorem a97 : AllMeets Tryz.prog t97 := a96.add mixed kp263 (show Tryz.prog.funcs[263]? = some Tryz.f263 from Tryz.func263) (by kernel_rfl) (f263 t96 rfl rfl rfl rfl)
def t98 : Tab := (185, s185) :: t97
theorem a98 : AllMeets Tryz.prog t98 := a97.add mixed kp185 (show Tryz.prog.funcs[185]? = some Tryz.f185 from Tryz.func185) (by kernel_rfl) (f185 t97)
def t99 : Tab := (262, s262) :: t98
theorem a99 : AllMeets Tryz.prog t99 := a98.add mixed kp262 (show Tryz.prog.funcs[262]? = some Tryz.f262 from Tryz.func262) (by kernel_rfl) (f262 t98)
def t100 : Tab := (230, s230) :: t99
theorem a100 : AllMeets Tryz.prog t100 := a99.add mixed kp230 (show Tryz.prog.funcs[230]? = some Tryz.f230 from Tryz.func230) (by kernel_rfl) (f230 t99 rfl rfl rfl rfl rfl rfl)
def t101 : Tab := (264, s264) :: t100
theorem a101 : AllMeets Tryz.prog t101 := a100.add mixed kp264 (show Tryz.prog.funcs[264]? = some Tryz.f264 from Tryz.func264) (by kernel_rfl) (f264 t100 rfl)
def t102 : Tab := (231, s231) :: t101
theorem a102 : AllMeets Tryz.prog t102 := a101.add mixed kp231 (show Tryz.prog.funcs[231]? = some Tryz.f231 from Tryz.func231) (by kernel_rfl) (f231 t101 rfl rfl rfl)
def t103 : Tab := (233, s233) :: t102
theorem a103 : AllMeets Tryz.prog t103 := a102.add mixed kp233 (show Tryz.prog.funcs[233]? = some Tryz.f233 from Tryz.func233) (by kernel_rfl) (f233 t102 rfl rfl)
def t104 : Tab := (184, s184) :: t103
theorem a104 : AllMeets Tryz.prog t104 := a103.add mixed kp184 (show Tryz.prog.funcs[184]? = some Tryz.f184 from Tryz.func184) (by kernel_rfl) (f184 t103 rfl rfl rfl rfl rfl rfl rfl)
def t105 : Tab := (117, s117) :: t104
theorem a105 : AllMeets Tryz.prog t105 := a104.add mixed kp117 (show Tryz.prog.funcs[117]? = some Tryz.f117 from Tryz.func117) (by kernel_rfl) (f117 t104 rfl rfl)
def t106 : Tab := (49, s49') :: t105
theorem a106 : AllMeets Tryz.prog t106 := a105.add mixed kp49 (show Tryz.prog.funcs[49]? = some Tryz.f49 from Tryz.func49) (by kernel_rfl) (fun args m Q h => f49 t105 rfl rfl rfl rfl args m Q (to49 h))
def t107 : Tab := (118, s118) :: t106
theorem a107 : AllMeets Tryz.prog t107 := a106.add mixed kp118 (show Tryz.prog.funcs[118]? = some Tryz.f118 from Tryz.func118) (by kernel_rfl) (f118 t106)
def t108 : Tab := (119, s119) :: t107
theorem a108 : AllMeets Tryz.prog t108 := a107.add mixed kp119 (show Tryz.prog.funcs[119]? = some Tryz.f119 from Tryz.func119) (by kernel_rfl) (f119 t107)
def t109 : Tab := (50, s50) :: t108
theorem a109 : AllMeets Tryz.prog t109 := a108.add mixed kp50 (show Tryz.prog.funcs[50]? = some Tryz.f50 from Tryz.func50) (by kernel_rfl) (f50 t108 rfl rfl)
def t110 : Tab := (10, s10) :: t109
theorem a110 : AllMeets Tryz.prog t110 := a109.add mixed kp10 (show Tryz.prog.funcs[10]? = some Tryz.f10 from Tryz.func10) (by kernel_rfl) (f10 t109 rfl rfl rfl rfl rfl rfl rfl)
end Go.Proofs.YtjdcndicaeodbaaGreat.Abs
