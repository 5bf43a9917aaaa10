import Derived.Test.YtajobphlclafdaaGreatDoorYTab
import Derived.Test.YtajobphlclafdaaGreatDoorProg
import Derived.KernelRfl
set_option linter.unusedVariables false
set_option linter.unusedSimpArgs false
/-! The quick functions are the program's (printed). -/
namespace Go.Abs
set_option maxRecDepth 100000
set_option maxHeartbeats 0
set_option linter.unusedVariables false
noncomputable section
open Go.Proofs
theorem w4 : YOk Tryz.prog 4 y4 := ⟨Tryz.f4, an4, Tryz.func4, by kernel_rfl, by kernel_rfl⟩
theorem w5 : YOk Tryz.prog 5 y5 := ⟨Tryz.f5, an5, Tryz.func5, by kernel_rfl, by kernel_rfl⟩
theorem w6 : YOk Tryz.prog 6 y6 := ⟨Tryz.f6, an6, Tryz.func6, by kernel_rfl, by kernel_rfl⟩
theorem w7 : YOk Tryz.prog 7 y7 := ⟨Tryz.f7, an7, Tryz.func7, by kernel_rfl, by kernel_rfl⟩
theorem w10 : YOk Tryz.prog 10 y10 := ⟨Tryz.f10, an10, Tryz.func10, by kernel_rfl, by kernel_rfl⟩
theorem w12 : YOk Tryz.prog 12 y12 := ⟨Tryz.f12, an12, Tryz.func12, by kernel_rfl, by kernel_rfl⟩
theorem w13 : YOk Tryz.prog 13 y13 := ⟨Tryz.f13, an13, Tryz.func13, by kernel_rfl, by kernel_rfl⟩
theorem w14 : YOk Tryz.prog 14 y14 := ⟨Tryz.f14, an14, Tryz.func14, by kernel_rfl, by kernel_rfl⟩
theorem w15 : YOk Tryz.prog 15 y15 := ⟨Tryz.f15, an15, Tryz.func15, by kernel_rfl, by kernel_rfl⟩
theorem w16 : YOk Tryz.prog 16 y16 := ⟨Tryz.f16, an16, Tryz.func16, by kernel_rfl, by kernel_rfl⟩
theorem w17 : YOk Tryz.prog 17 y17 := ⟨Tryz.f17, an17, Tryz.func17, by kernel_rfl, by kernel_rfl⟩
theorem w18 : YOk Tryz.prog 18 y18 := ⟨Tryz.f18, an18, Tryz.func18, by kernel_rfl, by kernel_rfl⟩
theorem w19 : YOk Tryz.prog 19 y19 := ⟨Tryz.f19, an19, Tryz.func19, by kernel_rfl, by kernel_rfl⟩
theorem w20 : YOk Tryz.prog 20 y20 := ⟨Tryz.f20, an20, Tryz.func20, by kernel_rfl, by kernel_rfl⟩
theorem w22 : YOk Tryz.prog 22 y22 := ⟨Tryz.f22, an22, Tryz.func22, by kernel_rfl, by kernel_rfl⟩
theorem w23 : YOk Tryz.prog 23 y23 := ⟨Tryz.f23, an23, Tryz.func23, by kernel_rfl, by kernel_rfl⟩
theorem w24 : YOk Tryz.prog 24 y24 := ⟨Tryz.f24, an24, Tryz.func24, by kernel_rfl, by kernel_rfl⟩
theorem w25 : YOk Tryz.prog 25 y25 := ⟨Tryz.f25, an25, Tryz.func25, by kernel_rfl, by kernel_rfl⟩
theorem w26 : YOk Tryz.prog 26 y26 := ⟨Tryz.f26, an26, Tryz.func26, by kernel_rfl, by kernel_rfl⟩
theorem w27 : YOk Tryz.prog 27 y27 := ⟨Tryz.f27, an27, Tryz.func27, by kernel_rfl, by kernel_rfl⟩
theorem w30 : YOk Tryz.prog 30 y30 := ⟨Tryz.f30, an30, Tryz.func30, by kernel_rfl, by kernel_rfl⟩
theorem w31 : YOk Tryz.prog 31 y31 := ⟨Tryz.f31, an31, Tryz.func31, by kernel_rfl, by kernel_rfl⟩
theorem w32 : YOk Tryz.prog 32 y32 := ⟨Tryz.f32, an32, Tryz.func32, by kernel_rfl, by kernel_rfl⟩
theorem w33 : YOk Tryz.prog 33 y33 := ⟨Tryz.f33, an33, Tryz.func33, by kernel_rfl, by kernel_rfl⟩
theorem w34 : YOk Tryz.prog 34 y34 := ⟨Tryz.f34, an34, Tryz.func34, by kernel_rfl, by kernel_rfl⟩
theorem w35 : YOk Tryz.prog 35 y35 := ⟨Tryz.f35, an35, Tryz.func35, by kernel_rfl, by kernel_rfl⟩
theorem w36 : YOk Tryz.prog 36 y36 := ⟨Tryz.f36, an36, Tryz.func36, by kernel_rfl, by kernel_rfl⟩
theorem w37 : YOk Tryz.prog 37 y37 := ⟨Tryz.f37, an37, Tryz.func37, by kernel_rfl, by kernel_rfl⟩
theorem w38 : YOk Tryz.prog 38 y38 := ⟨Tryz.f38, an38, Tryz.func38, by kernel_rfl, by kernel_rfl⟩
theorem w39 : YOk Tryz.prog 39 y39 := ⟨Tryz.f39, an39, Tryz.func39, by kernel_rfl, by kernel_rfl⟩
theorem w40 : YOk Tryz.prog 40 y40 := ⟨Tryz.f40, an40, Tryz.func40, by kernel_rfl, by kernel_rfl⟩
theorem w41 : YOk Tryz.prog 41 y41 := ⟨Tryz.f41, an41, Tryz.func41, by kernel_rfl, by kernel_rfl⟩
theorem w42 : YOk Tryz.prog 42 y42 := ⟨Tryz.f42, an42, Tryz.func42, by kernel_rfl, by kernel_rfl⟩
theorem w44 : YOk Tryz.prog 44 y44 := ⟨Tryz.f44, an44, Tryz.func44, by kernel_rfl, by kernel_rfl⟩
theorem w45 : YOk Tryz.prog 45 y45 := ⟨Tryz.f45, an45, Tryz.func45, by kernel_rfl, by kernel_rfl⟩
theorem w46 : YOk Tryz.prog 46 y46 := ⟨Tryz.f46, an46, Tryz.func46, by kernel_rfl, by kernel_rfl⟩
theorem w47 : YOk Tryz.prog 47 y47 := ⟨Tryz.f47, an47, Tryz.func47, by kernel_rfl, by kernel_rfl⟩
theorem w48 : YOk Tryz.prog 48 y48 := ⟨Tryz.f48, an48, Tryz.func48, by kernel_rfl, by kernel_rfl⟩
theorem w49 : YOk Tryz.prog 49 y49 := ⟨Tryz.f49, an49, Tryz.func49, by kernel_rfl, by kernel_rfl⟩
theorem w50 : YOk Tryz.prog 50 y50 := ⟨Tryz.f50, an50, Tryz.func50, by kernel_rfl, by kernel_rfl⟩
theorem w51 : YOk Tryz.prog 51 y51 := ⟨Tryz.f51, an51, Tryz.func51, by kernel_rfl, by kernel_rfl⟩
theorem w52 : YOk Tryz.prog 52 y52 := ⟨Tryz.f52, an52, Tryz.func52, by kernel_rfl, by kernel_rfl⟩
theorem w53 : YOk Tryz.prog 53 y53 := ⟨Tryz.f53, an53, Tryz.func53, by kernel_rfl, by kernel_rfl⟩
theorem w54 : YOk Tryz.prog 54 y54 := ⟨Tryz.f54, an54, Tryz.func54, by kernel_rfl, by kernel_rfl⟩
theorem w60 : YOk Tryz.prog 60 y60 := ⟨Tryz.f60, an60, Tryz.func60, by kernel_rfl, by kernel_rfl⟩
theorem w61 : YOk Tryz.prog 61 y61 := ⟨Tryz.f61, an61, Tryz.func61, by kernel_rfl, by kernel_rfl⟩
theorem w62 : YOk Tryz.prog 62 y62 := ⟨Tryz.f62, an62, Tryz.func62, by kernel_rfl, by kernel_rfl⟩
theorem w63 : YOk Tryz.prog 63 y63 := ⟨Tryz.f63, an63, Tryz.func63, by kernel_rfl, by kernel_rfl⟩
theorem w64 : YOk Tryz.prog 64 y64 := ⟨Tryz.f64, an64, Tryz.func64, by kernel_rfl, by kernel_rfl⟩
theorem w65 : YOk Tryz.prog 65 y65 := ⟨Tryz.f65, an65, Tryz.func65, by kernel_rfl, by kernel_rfl⟩
theorem w66 : YOk Tryz.prog 66 y66 := ⟨Tryz.f66, an66, Tryz.func66, by kernel_rfl, by kernel_rfl⟩
theorem w67 : YOk Tryz.prog 67 y67 := ⟨Tryz.f67, an67, Tryz.func67, by kernel_rfl, by kernel_rfl⟩
theorem w68 : YOk Tryz.prog 68 y68 := ⟨Tryz.f68, an68, Tryz.func68, by kernel_rfl, by kernel_rfl⟩
theorem w69 : YOk Tryz.prog 69 y69 := ⟨Tryz.f69, an69, Tryz.func69, by kernel_rfl, by kernel_rfl⟩
theorem w70 : YOk Tryz.prog 70 y70 := ⟨Tryz.f70, an70, Tryz.func70, by kernel_rfl, by kernel_rfl⟩
theorem w71 : YOk Tryz.prog 71 y71 := ⟨Tryz.f71, an71, Tryz.func71, by kernel_rfl, by kernel_rfl⟩
theorem w72 : YOk Tryz.prog 72 y72 := ⟨Tryz.f72, an72, Tryz.func72, by kernel_rfl, by kernel_rfl⟩
theorem w73 : YOk Tryz.prog 73 y73 := ⟨Tryz.f73, an73, Tryz.func73, by kernel_rfl, by kernel_rfl⟩
theorem w74 : YOk Tryz.prog 74 y74 := ⟨Tryz.f74, an74, Tryz.func74, by kernel_rfl, by kernel_rfl⟩
theorem w75 : YOk Tryz.prog 75 y75 := ⟨Tryz.f75, an75, Tryz.func75, by kernel_rfl, by kernel_rfl⟩
theorem w76 : YOk Tryz.prog 76 y76 := ⟨Tryz.f76, an76, Tryz.func76, by kernel_rfl, by kernel_rfl⟩
theorem w77 : YOk Tryz.prog 77 y77 := ⟨Tryz.f77, an77, Tryz.func77, by kernel_rfl, by kernel_rfl⟩
theorem w78 : YOk Tryz.prog 78 y78 := ⟨Tryz.f78, an78, Tryz.func78, by kernel_rfl, by kernel_rfl⟩
theorem w79 : YOk Tryz.prog 79 y79 := ⟨Tryz.f79, an79, Tryz.func79, by kernel_rfl, by kernel_rfl⟩
theorem w80 : YOk Tryz.prog 80 y80 := ⟨Tryz.f80, an80, Tryz.func80, by kernel_rfl, by kernel_rfl⟩
theorem w81 : YOk Tryz.prog 81 y81 := ⟨Tryz.f81, an81, Tryz.func81, by kernel_rfl, by kernel_rfl⟩
theorem w83 : YOk Tryz.prog 83 y83 := ⟨Tryz.f83, an83, Tryz.func83, by kernel_rfl, by kernel_rfl⟩
theorem w84 : YOk Tryz.prog 84 y84 := ⟨Tryz.f84, an84, Tryz.func84, by kernel_rfl, by kernel_rfl⟩
theorem w85 : YOk Tryz.prog 85 y85 := ⟨Tryz.f85, an85, Tryz.func85, by kernel_rfl, by kernel_rfl⟩
theorem w86 : YOk Tryz.prog 86 y86 := ⟨Tryz.f86, an86, Tryz.func86, by kernel_rfl, by kernel_rfl⟩
theorem w96 : YOk Tryz.prog 96 y96 := ⟨Tryz.f96, an96, Tryz.func96, by kernel_rfl, by kernel_rfl⟩
theorem w97 : YOk Tryz.prog 97 y97 := ⟨Tryz.f97, an97, Tryz.func97, by kernel_rfl, by kernel_rfl⟩
theorem w98 : YOk Tryz.prog 98 y98 := ⟨Tryz.f98, an98, Tryz.func98, by kernel_rfl, by kernel_rfl⟩
theorem w99 : YOk Tryz.prog 99 y99 := ⟨Tryz.f99, an99, Tryz.func99, by kernel_rfl, by kernel_rfl⟩
theorem w100 : YOk Tryz.prog 100 y100 := ⟨Tryz.f100, an100, Tryz.func100, by kernel_rfl, by kernel_rfl⟩
theorem w101 : YOk Tryz.prog 101 y101 := ⟨Tryz.f101, an101, Tryz.func101, by kernel_rfl, by kernel_rfl⟩
theorem w102 : YOk Tryz.prog 102 y102 := ⟨Tryz.f102, an102, Tryz.func102, by kernel_rfl, by kernel_rfl⟩
theorem w103 : YOk Tryz.prog 103 y103 := ⟨Tryz.f103, an103, Tryz.func103, by kernel_rfl, by kernel_rfl⟩
theorem w104 : YOk Tryz.prog 104 y104 := ⟨Tryz.f104, an104, Tryz.func104, by kernel_rfl, by kernel_rfl⟩
theorem w105 : YOk Tryz.prog 105 y105 := ⟨Tryz.f105, an105, Tryz.func105, by kernel_rfl, by kernel_rfl⟩
theorem w106 : YOk Tryz.prog 106 y106 := ⟨Tryz.f106, an106, Tryz.func106, by kernel_rfl, by kernel_rfl⟩
theorem w107 : YOk Tryz.prog 107 y107 := ⟨Tryz.f107, an107, Tryz.func107, by kernel_rfl, by kernel_rfl⟩
theorem w108 : YOk Tryz.prog 108 y108 := ⟨Tryz.f108, an108, Tryz.func108, by kernel_rfl, by kernel_rfl⟩
theorem w109 : YOk Tryz.prog 109 y109 := ⟨Tryz.f109, an109, Tryz.func109, by kernel_rfl, by kernel_rfl⟩
theorem w110 : YOk Tryz.prog 110 y110 := ⟨Tryz.f110, an110, Tryz.func110, by kernel_rfl, by kernel_rfl⟩
theorem w111 : YOk Tryz.prog 111 y111 := ⟨Tryz.f111, an111, Tryz.func111, by kernel_rfl, by kernel_rfl⟩
theorem w113 : YOk Tryz.prog 113 y113 := ⟨Tryz.f113, an113, Tryz.func113, by kernel_rfl, by kernel_rfl⟩
theorem w114 : YOk Tryz.prog 114 y114 := ⟨Tryz.f114, an114, Tryz.func114, by kernel_rfl, by kernel_rfl⟩
theorem w115 : YOk Tryz.prog 115 y115 := ⟨Tryz.f115, an115, Tryz.func115, by kernel_rfl, by kernel_rfl⟩
theorem w116 : YOk Tryz.prog 116 y116 := ⟨Tryz.f116, an116, Tryz.func116, by kernel_rfl, by kernel_rfl⟩
theorem w117 : YOk Tryz.prog 117 y117 := ⟨Tryz.f117, an117, Tryz.func117, by kernel_rfl, by kernel_rfl⟩
theorem w118 : YOk Tryz.prog 118 y118 := ⟨Tryz.f118, an118, Tryz.func118, by kernel_rfl, by kernel_rfl⟩
theorem w119 : YOk Tryz.prog 119 y119 := ⟨Tryz.f119, an119, Tryz.func119, by kernel_rfl, by kernel_rfl⟩
theorem w122 : YOk Tryz.prog 122 y122 := ⟨Tryz.f122, an122, Tryz.func122, by kernel_rfl, by kernel_rfl⟩
theorem w123 : YOk Tryz.prog 123 y123 := ⟨Tryz.f123, an123, Tryz.func123, by kernel_rfl, by kernel_rfl⟩
theorem w124 : YOk Tryz.prog 124 y124 := ⟨Tryz.f124, an124, Tryz.func124, by kernel_rfl, by kernel_rfl⟩
theorem w125 : YOk Tryz.prog 125 y125 := ⟨Tryz.f125, an125, Tryz.func125, by kernel_rfl, by kernel_rfl⟩
theorem w126 : YOk Tryz.prog 126 y126 := ⟨Tryz.f126, an126, Tryz.func126, by kernel_rfl, by kernel_rfl⟩
theorem w127 : YOk Tryz.prog 127 y127 := ⟨Tryz.f127, an127, Tryz.func127, by kernel_rfl, by kernel_rfl⟩
theorem w128 : YOk Tryz.prog 128 y128 := ⟨Tryz.f128, an128, Tryz.func128, by kernel_rfl, by kernel_rfl⟩
theorem w129 : YOk Tryz.prog 129 y129 := ⟨Tryz.f129, an129, Tryz.func129, by kernel_rfl, by kernel_rfl⟩
theorem w130 : YOk Tryz.prog 130 y130 := ⟨Tryz.f130, an130, Tryz.func130, by kernel_rfl, by kernel_rfl⟩
theorem w131 : YOk Tryz.prog 131 y131 := ⟨Tryz.f131, an131, Tryz.func131, by kernel_rfl, by kernel_rfl⟩
theorem w133 : YOk Tryz.prog 133 y133 := ⟨Tryz.f133, an133, Tryz.func133, by kernel_rfl, by kernel_rfl⟩
theorem w134 : YOk Tryz.prog 134 y134 := ⟨Tryz.f134, an134, Tryz.func134, by kernel_rfl, by kernel_rfl⟩
theorem w135 : YOk Tryz.prog 135 y135 := ⟨Tryz.f135, an135, Tryz.func135, by kernel_rfl, by kernel_rfl⟩
theorem w136 : YOk Tryz.prog 136 y136 := ⟨Tryz.f136, an136, Tryz.func136, by kernel_rfl, by kernel_rfl⟩
theorem w137 : YOk Tryz.prog 137 y137 := ⟨Tryz.f137, an137, Tryz.func137, by kernel_rfl, by kernel_rfl⟩
theorem w138 : YOk Tryz.prog 138 y138 := ⟨Tryz.f138, an138, Tryz.func138, by kernel_rfl, by kernel_rfl⟩
theorem w139 : YOk Tryz.prog 139 y139 := ⟨Tryz.f139, an139, Tryz.func139, by kernel_rfl, by kernel_rfl⟩
theorem w140 : YOk Tryz.prog 140 y140 := ⟨Tryz.f140, an140, Tryz.func140, by kernel_rfl, by kernel_rfl⟩
theorem w141 : YOk Tryz.prog 141 y141 := ⟨Tryz.f141, an141, Tryz.func141, by kernel_rfl, by kernel_rfl⟩
theorem w142 : YOk Tryz.prog 142 y142 := ⟨Tryz.f142, an142, Tryz.func142, by kernel_rfl, by kernel_rfl⟩
theorem w143 : YOk Tryz.prog 143 y143 := ⟨Tryz.f143, an143, Tryz.func143, by kernel_rfl, by kernel_rfl⟩
theorem w144 : YOk Tryz.prog 144 y144 := ⟨Tryz.f144, an144, Tryz.func144, by kernel_rfl, by kernel_rfl⟩
theorem w145 : YOk Tryz.prog 145 y145 := ⟨Tryz.f145, an145, Tryz.func145, by kernel_rfl, by kernel_rfl⟩
theorem w147 : YOk Tryz.prog 147 y147 := ⟨Tryz.f147, an147, Tryz.func147, by kernel_rfl, by kernel_rfl⟩
theorem w149 : YOk Tryz.prog 149 y149 := ⟨Tryz.f149, an149, Tryz.func149, by kernel_rfl, by kernel_rfl⟩
theorem w150 : YOk Tryz.prog 150 y150 := ⟨Tryz.f150, an150, Tryz.func150, by kernel_rfl, by kernel_rfl⟩
theorem w151 : YOk Tryz.prog 151 y151 := ⟨Tryz.f151, an151, Tryz.func151, by kernel_rfl, by kernel_rfl⟩
theorem w152 : YOk Tryz.prog 152 y152 := ⟨Tryz.f152, an152, Tryz.func152, by kernel_rfl, by kernel_rfl⟩
theorem w153 : YOk Tryz.prog 153 y153 := ⟨Tryz.f153, an153, Tryz.func153, by kernel_rfl, by kernel_rfl⟩
theorem w154 : YOk Tryz.prog 154 y154 := ⟨Tryz.f154, an154, Tryz.func154, by kernel_rfl, by kernel_rfl⟩
theorem w155 : YOk Tryz.prog 155 y155 := ⟨Tryz.f155, an155, Tryz.func155, by kernel_rfl, by kernel_rfl⟩
theorem w156 : YOk Tryz.prog 156 y156 := ⟨Tryz.f156, an156, Tryz.func156, by kernel_rfl, by kernel_rfl⟩
theorem w157 : YOk Tryz.prog 157 y157 := ⟨Tryz.f157, an157, Tryz.func157, by kernel_rfl, by kernel_rfl⟩
theorem w158 : YOk Tryz.prog 158 y158 := ⟨Tryz.f158, an158, Tryz.func158, by kernel_rfl, by kernel_rfl⟩
theorem w159 : YOk Tryz.prog 159 y159 := ⟨Tryz.f159, an159, Tryz.func159, by kernel_rfl, by kernel_rfl⟩
theorem w160 : YOk Tryz.prog 160 y160 := ⟨Tryz.f160, an160, Tryz.func160, by kernel_rfl, by kernel_rfl⟩
theorem w161 : YOk Tryz.prog 161 y161 := ⟨Tryz.f161, an161, Tryz.func161, by kernel_rfl, by kernel_rfl⟩
theorem w162 : YOk Tryz.prog 162 y162 := ⟨Tryz.f162, an162, Tryz.func162, by kernel_rfl, by kernel_rfl⟩
theorem w163 : YOk Tryz.prog 163 y163 := ⟨Tryz.f163, an163, Tryz.func163, by kernel_rfl, by kernel_rfl⟩
theorem w164 : YOk Tryz.prog 164 y164 := ⟨Tryz.f164, an164, Tryz.func164, by kernel_rfl, by kernel_rfl⟩
theorem w165 : YOk Tryz.prog 165 y165 := ⟨Tryz.f165, an165, Tryz.func165, by kernel_rfl, by kernel_rfl⟩
theorem w166 : YOk Tryz.prog 166 y166 := ⟨Tryz.f166, an166, Tryz.func166, by kernel_rfl, by kernel_rfl⟩
theorem all_ok : AllY (YOk Tryz.prog) ytab (fun n => n) :=
  ⟨AllY.non, ⟨AllY.non, ⟨AllY.non, ⟨(AllY.one w7), ⟨(AllY.one w15), ⟨(AllY.one w31), ⟨(AllY.one w63), ⟨(AllY.one w127), trivial, trivial⟩, trivial⟩, ⟨AllY.non, ⟨(AllY.one w159), trivial, trivial⟩, trivial⟩⟩, ⟨(AllY.one w47), ⟨(AllY.one w79), ⟨(AllY.one w143), trivial, trivial⟩, trivial⟩, ⟨(AllY.one w111), ⟨AllY.non, trivial, trivial⟩, trivial⟩⟩⟩, ⟨(AllY.one w23), ⟨(AllY.one w39), ⟨(AllY.one w71), ⟨(AllY.one w135), trivial, trivial⟩, trivial⟩, ⟨(AllY.one w103), ⟨AllY.non, trivial, trivial⟩, trivial⟩⟩, ⟨AllY.non, ⟨AllY.non, ⟨(AllY.one w151), trivial, trivial⟩, trivial⟩, ⟨(AllY.one w119), ⟨AllY.non, trivial, trivial⟩, trivial⟩⟩⟩⟩, ⟨AllY.non, ⟨(AllY.one w19), ⟨(AllY.one w35), ⟨(AllY.one w67), ⟨(AllY.one w131), trivial, trivial⟩, trivial⟩, ⟨(AllY.one w99), ⟨(AllY.one w163), trivial, trivial⟩, trivial⟩⟩, ⟨(AllY.one w51), ⟨(AllY.one w83), ⟨(AllY.one w147), trivial, trivial⟩, trivial⟩, ⟨(AllY.one w115), ⟨AllY.non, trivial, trivial⟩, trivial⟩⟩⟩, ⟨(AllY.one w27), ⟨AllY.non, ⟨(AllY.one w75), ⟨(AllY.one w139), trivial, trivial⟩, trivial⟩, ⟨(AllY.one w107), ⟨AllY.non, trivial, trivial⟩, trivial⟩⟩, ⟨AllY.non, ⟨AllY.non, ⟨(AllY.one w155), trivial, trivial⟩, trivial⟩, ⟨(AllY.one w123), ⟨AllY.non, trivial, trivial⟩, trivial⟩⟩⟩⟩⟩, ⟨(AllY.one w5), ⟨AllY.non, ⟨(AllY.one w17), ⟨(AllY.one w33), ⟨(AllY.one w65), ⟨(AllY.one w129), trivial, trivial⟩, trivial⟩, ⟨(AllY.one w97), ⟨(AllY.one w161), trivial, trivial⟩, trivial⟩⟩, ⟨(AllY.one w49), ⟨(AllY.one w81), ⟨(AllY.one w145), trivial, trivial⟩, trivial⟩, ⟨(AllY.one w113), ⟨AllY.non, trivial, trivial⟩, trivial⟩⟩⟩, ⟨(AllY.one w25), ⟨(AllY.one w41), ⟨(AllY.one w73), ⟨(AllY.one w137), trivial, trivial⟩, trivial⟩, ⟨(AllY.one w105), ⟨AllY.non, trivial, trivial⟩, trivial⟩⟩, ⟨AllY.non, ⟨AllY.non, ⟨(AllY.one w153), trivial, trivial⟩, trivial⟩, ⟨AllY.non, ⟨AllY.non, trivial, trivial⟩, trivial⟩⟩⟩⟩, ⟨(AllY.one w13), ⟨AllY.non, ⟨(AllY.one w37), ⟨(AllY.one w69), ⟨(AllY.one w133), trivial, trivial⟩, trivial⟩, ⟨(AllY.one w101), ⟨(AllY.one w165), trivial, trivial⟩, trivial⟩⟩, ⟨(AllY.one w53), ⟨(AllY.one w85), ⟨(AllY.one w149), trivial, trivial⟩, trivial⟩, ⟨(AllY.one w117), ⟨AllY.non, trivial, trivial⟩, trivial⟩⟩⟩, ⟨AllY.non, ⟨(AllY.one w45), ⟨(AllY.one w77), ⟨(AllY.one w141), trivial, trivial⟩, trivial⟩, ⟨(AllY.one w109), ⟨AllY.non, trivial, trivial⟩, trivial⟩⟩, ⟨(AllY.one w61), ⟨AllY.non, ⟨(AllY.one w157), trivial, trivial⟩, trivial⟩, ⟨(AllY.one w125), trivial, trivial⟩⟩⟩⟩⟩⟩, ⟨AllY.non, ⟨(AllY.one w4), ⟨AllY.non, ⟨(AllY.one w16), ⟨(AllY.one w32), ⟨(AllY.one w64), ⟨(AllY.one w128), trivial, trivial⟩, trivial⟩, ⟨(AllY.one w96), ⟨(AllY.one w160), trivial, trivial⟩, trivial⟩⟩, ⟨(AllY.one w48), ⟨(AllY.one w80), ⟨(AllY.one w144), trivial, trivial⟩, trivial⟩, ⟨AllY.non, ⟨AllY.non, trivial, trivial⟩, trivial⟩⟩⟩, ⟨(AllY.one w24), ⟨(AllY.one w40), ⟨(AllY.one w72), ⟨(AllY.one w136), trivial, trivial⟩, trivial⟩, ⟨(AllY.one w104), ⟨AllY.non, trivial, trivial⟩, trivial⟩⟩, ⟨AllY.non, ⟨AllY.non, ⟨(AllY.one w152), trivial, trivial⟩, trivial⟩, ⟨AllY.non, ⟨AllY.non, trivial, trivial⟩, trivial⟩⟩⟩⟩, ⟨(AllY.one w12), ⟨(AllY.one w20), ⟨(AllY.one w36), ⟨(AllY.one w68), ⟨AllY.non, trivial, trivial⟩, trivial⟩, ⟨(AllY.one w100), ⟨(AllY.one w164), trivial, trivial⟩, trivial⟩⟩, ⟨(AllY.one w52), ⟨(AllY.one w84), ⟨AllY.non, trivial, trivial⟩, trivial⟩, ⟨(AllY.one w116), ⟨AllY.non, trivial, trivial⟩, trivial⟩⟩⟩, ⟨AllY.non, ⟨(AllY.one w44), ⟨(AllY.one w76), ⟨(AllY.one w140), trivial, trivial⟩, trivial⟩, ⟨(AllY.one w108), ⟨AllY.non, trivial, trivial⟩, trivial⟩⟩, ⟨(AllY.one w60), ⟨AllY.non, ⟨(AllY.one w156), trivial, trivial⟩, trivial⟩, ⟨(AllY.one w124), ⟨AllY.non, trivial, trivial⟩, trivial⟩⟩⟩⟩⟩, ⟨(AllY.one w6), ⟨(AllY.one w10), ⟨(AllY.one w18), ⟨(AllY.one w34), ⟨(AllY.one w66), ⟨(AllY.one w130), trivial, trivial⟩, trivial⟩, ⟨(AllY.one w98), ⟨(AllY.one w162), trivial, trivial⟩, trivial⟩⟩, ⟨(AllY.one w50), ⟨AllY.non, ⟨AllY.non, trivial, trivial⟩, trivial⟩, ⟨(AllY.one w114), ⟨AllY.non, trivial, trivial⟩, trivial⟩⟩⟩, ⟨(AllY.one w26), ⟨(AllY.one w42), ⟨(AllY.one w74), ⟨(AllY.one w138), trivial, trivial⟩, trivial⟩, ⟨(AllY.one w106), ⟨AllY.non, trivial, trivial⟩, trivial⟩⟩, ⟨AllY.non, ⟨AllY.non, ⟨(AllY.one w154), trivial, trivial⟩, trivial⟩, ⟨(AllY.one w122), ⟨AllY.non, trivial, trivial⟩, trivial⟩⟩⟩⟩, ⟨(AllY.one w14), ⟨(AllY.one w22), ⟨(AllY.one w38), ⟨(AllY.one w70), ⟨(AllY.one w134), trivial, trivial⟩, trivial⟩, ⟨(AllY.one w102), ⟨(AllY.one w166), trivial, trivial⟩, trivial⟩⟩, ⟨(AllY.one w54), ⟨(AllY.one w86), ⟨(AllY.one w150), trivial, trivial⟩, trivial⟩, ⟨(AllY.one w118), ⟨AllY.non, trivial, trivial⟩, trivial⟩⟩⟩, ⟨(AllY.one w30), ⟨(AllY.one w46), ⟨(AllY.one w78), ⟨(AllY.one w142), trivial, trivial⟩, trivial⟩, ⟨(AllY.one w110), ⟨AllY.non, trivial, trivial⟩, trivial⟩⟩, ⟨(AllY.one w62), ⟨AllY.non, ⟨(AllY.one w158), trivial, trivial⟩, trivial⟩, ⟨(AllY.one w126), trivial, trivial⟩⟩⟩⟩⟩⟩⟩
theorem all_okL : AllY (YOk Tryz.prog) ytabL (fun n => n) :=
  ⟨AllY.non, ⟨AllY.non, ⟨AllY.non, ⟨(AllY.one w7), ⟨(AllY.one w15), ⟨(AllY.one w31), ⟨(AllY.one w63), ⟨(AllY.one w127), trivial, trivial⟩, trivial⟩, ⟨AllY.non, ⟨(AllY.one w159), trivial, trivial⟩, trivial⟩⟩, ⟨(AllY.one w47), ⟨(AllY.one w79), ⟨(AllY.one w143), trivial, trivial⟩, trivial⟩, ⟨(AllY.one w111), ⟨AllY.non, trivial, trivial⟩, trivial⟩⟩⟩, ⟨(AllY.one w23), ⟨(AllY.one w39), ⟨(AllY.one w71), ⟨(AllY.one w135), trivial, trivial⟩, trivial⟩, ⟨(AllY.one w103), ⟨AllY.non, trivial, trivial⟩, trivial⟩⟩, ⟨AllY.non, ⟨AllY.non, ⟨(AllY.one w151), trivial, trivial⟩, trivial⟩, ⟨(AllY.one w119), ⟨AllY.non, trivial, trivial⟩, trivial⟩⟩⟩⟩, ⟨AllY.non, ⟨(AllY.one w19), ⟨(AllY.one w35), ⟨(AllY.one w67), ⟨(AllY.one w131), trivial, trivial⟩, trivial⟩, ⟨(AllY.one w99), ⟨(AllY.one w163), trivial, trivial⟩, trivial⟩⟩, ⟨(AllY.one w51), ⟨(AllY.one w83), ⟨(AllY.one w147), trivial, trivial⟩, trivial⟩, ⟨(AllY.one w115), ⟨AllY.non, trivial, trivial⟩, trivial⟩⟩⟩, ⟨(AllY.one w27), ⟨AllY.non, ⟨(AllY.one w75), ⟨(AllY.one w139), trivial, trivial⟩, trivial⟩, ⟨(AllY.one w107), ⟨AllY.non, trivial, trivial⟩, trivial⟩⟩, ⟨AllY.non, ⟨AllY.non, ⟨(AllY.one w155), trivial, trivial⟩, trivial⟩, ⟨(AllY.one w123), ⟨AllY.non, trivial, trivial⟩, trivial⟩⟩⟩⟩⟩, ⟨(AllY.one w5), ⟨AllY.non, ⟨(AllY.one w17), ⟨(AllY.one w33), ⟨(AllY.one w65), ⟨(AllY.one w129), trivial, trivial⟩, trivial⟩, ⟨(AllY.one w97), ⟨(AllY.one w161), trivial, trivial⟩, trivial⟩⟩, ⟨(AllY.one w49), ⟨(AllY.one w81), ⟨(AllY.one w145), trivial, trivial⟩, trivial⟩, ⟨(AllY.one w113), ⟨AllY.non, trivial, trivial⟩, trivial⟩⟩⟩, ⟨(AllY.one w25), ⟨(AllY.one w41), ⟨(AllY.one w73), ⟨(AllY.one w137), trivial, trivial⟩, trivial⟩, ⟨(AllY.one w105), ⟨AllY.non, trivial, trivial⟩, trivial⟩⟩, ⟨AllY.non, ⟨AllY.non, ⟨(AllY.one w153), trivial, trivial⟩, trivial⟩, ⟨AllY.non, ⟨AllY.non, trivial, trivial⟩, trivial⟩⟩⟩⟩, ⟨(AllY.one w13), ⟨AllY.non, ⟨(AllY.one w37), ⟨(AllY.one w69), ⟨(AllY.one w133), trivial, trivial⟩, trivial⟩, ⟨(AllY.one w101), ⟨(AllY.one w165), trivial, trivial⟩, trivial⟩⟩, ⟨(AllY.one w53), ⟨(AllY.one w85), ⟨(AllY.one w149), trivial, trivial⟩, trivial⟩, ⟨(AllY.one w117), ⟨AllY.non, trivial, trivial⟩, trivial⟩⟩⟩, ⟨AllY.non, ⟨(AllY.one w45), ⟨(AllY.one w77), ⟨(AllY.one w141), trivial, trivial⟩, trivial⟩, ⟨(AllY.one w109), ⟨AllY.non, trivial, trivial⟩, trivial⟩⟩, ⟨(AllY.one w61), ⟨AllY.non, ⟨(AllY.one w157), trivial, trivial⟩, trivial⟩, ⟨(AllY.one w125), trivial, trivial⟩⟩⟩⟩⟩⟩, ⟨AllY.non, ⟨(AllY.one w4), ⟨AllY.non, ⟨(AllY.one w16), ⟨(AllY.one w32), ⟨(AllY.one w64), ⟨(AllY.one w128), trivial, trivial⟩, trivial⟩, ⟨(AllY.one w96), ⟨(AllY.one w160), trivial, trivial⟩, trivial⟩⟩, ⟨(AllY.one w48), ⟨(AllY.one w80), ⟨(AllY.one w144), trivial, trivial⟩, trivial⟩, ⟨AllY.non, ⟨AllY.non, trivial, trivial⟩, trivial⟩⟩⟩, ⟨(AllY.one w24), ⟨(AllY.one w40), ⟨(AllY.one w72), ⟨(AllY.one w136), trivial, trivial⟩, trivial⟩, ⟨(AllY.one w104), ⟨AllY.non, trivial, trivial⟩, trivial⟩⟩, ⟨AllY.non, ⟨AllY.non, ⟨(AllY.one w152), trivial, trivial⟩, trivial⟩, ⟨AllY.non, ⟨AllY.non, trivial, trivial⟩, trivial⟩⟩⟩⟩, ⟨(AllY.one w12), ⟨(AllY.one w20), ⟨(AllY.one w36), ⟨(AllY.one w68), ⟨AllY.non, trivial, trivial⟩, trivial⟩, ⟨(AllY.one w100), ⟨(AllY.one w164), trivial, trivial⟩, trivial⟩⟩, ⟨(AllY.one w52), ⟨(AllY.one w84), ⟨AllY.non, trivial, trivial⟩, trivial⟩, ⟨(AllY.one w116), ⟨AllY.non, trivial, trivial⟩, trivial⟩⟩⟩, ⟨AllY.non, ⟨(AllY.one w44), ⟨(AllY.one w76), ⟨(AllY.one w140), trivial, trivial⟩, trivial⟩, ⟨(AllY.one w108), ⟨AllY.non, trivial, trivial⟩, trivial⟩⟩, ⟨(AllY.one w60), ⟨AllY.non, ⟨(AllY.one w156), trivial, trivial⟩, trivial⟩, ⟨(AllY.one w124), ⟨AllY.non, trivial, trivial⟩, trivial⟩⟩⟩⟩⟩, ⟨AllY.non, ⟨(AllY.one w10), ⟨(AllY.one w18), ⟨(AllY.one w34), ⟨(AllY.one w66), ⟨(AllY.one w130), trivial, trivial⟩, trivial⟩, ⟨(AllY.one w98), ⟨(AllY.one w162), trivial, trivial⟩, trivial⟩⟩, ⟨(AllY.one w50), ⟨AllY.non, ⟨AllY.non, trivial, trivial⟩, trivial⟩, ⟨(AllY.one w114), ⟨AllY.non, trivial, trivial⟩, trivial⟩⟩⟩, ⟨(AllY.one w26), ⟨(AllY.one w42), ⟨(AllY.one w74), ⟨(AllY.one w138), trivial, trivial⟩, trivial⟩, ⟨(AllY.one w106), ⟨AllY.non, trivial, trivial⟩, trivial⟩⟩, ⟨AllY.non, ⟨AllY.non, ⟨(AllY.one w154), trivial, trivial⟩, trivial⟩, ⟨(AllY.one w122), ⟨AllY.non, trivial, trivial⟩, trivial⟩⟩⟩⟩, ⟨(AllY.one w14), ⟨(AllY.one w22), ⟨(AllY.one w38), ⟨(AllY.one w70), ⟨(AllY.one w134), trivial, trivial⟩, trivial⟩, ⟨(AllY.one w102), ⟨(AllY.one w166), trivial, trivial⟩, trivial⟩⟩, ⟨(AllY.one w54), ⟨(AllY.one w86), ⟨(AllY.one w150), trivial, trivial⟩, trivial⟩, ⟨(AllY.one w118), ⟨AllY.non, trivial, trivial⟩, trivial⟩⟩⟩, ⟨(AllY.one w30), ⟨(AllY.one w46), ⟨(AllY.one w78), ⟨(AllY.one w142), trivial, trivial⟩, trivial⟩, ⟨(AllY.one w110), ⟨AllY.non, trivial, trivial⟩, trivial⟩⟩, ⟨(AllY.one w62), ⟨AllY.non, ⟨(AllY.one w158), trivial, trivial⟩, trivial⟩, ⟨(AllY.one w126), trivial, trivial⟩⟩⟩⟩⟩⟩⟩
end
end Go.Abs
