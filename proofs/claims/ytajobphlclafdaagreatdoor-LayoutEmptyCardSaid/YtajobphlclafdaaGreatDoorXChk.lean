import Derived.Test.YtajobphlclafdaaGreatDoorXTab
import Derived.Test.YtajobphlclafdaaGreatDoorEngZi
import Derived.Test.YtajobphlclafdaaGreatDoorProg
import Derived.KernelRfl
set_option linter.unusedVariables false
set_option linter.unusedSimpArgs false
/-! The quick functions are the program's (printed). -/
namespace Go.Abs
set_option maxRecDepth 100000
set_option maxHeartbeats 0
set_option linter.unusedVariables false
noncomputable section
open Go.Proofs
theorem w4 : FnOk Tryz.prog 4 x4 := ⟨Tryz.f4, an4, Tryz.func4, by kernel_rfl⟩
theorem w5 : FnOk Tryz.prog 5 x5 := ⟨Tryz.f5, an5, Tryz.func5, by kernel_rfl⟩
theorem w6 : FnOk Tryz.prog 6 x6 := ⟨Tryz.f6, an6, Tryz.func6, by kernel_rfl⟩
theorem w7 : FnOk Tryz.prog 7 x7 := ⟨Tryz.f7, an7, Tryz.func7, by kernel_rfl⟩
theorem w10 : FnOk Tryz.prog 10 x10 := ⟨Tryz.f10, an10, Tryz.func10, by kernel_rfl⟩
theorem w12 : FnOk Tryz.prog 12 x12 := ⟨Tryz.f12, an12, Tryz.func12, by kernel_rfl⟩
theorem w13 : FnOk Tryz.prog 13 x13 := ⟨Tryz.f13, an13, Tryz.func13, by kernel_rfl⟩
theorem w14 : FnOk Tryz.prog 14 x14 := ⟨Tryz.f14, an14, Tryz.func14, by kernel_rfl⟩
theorem w15 : FnOk Tryz.prog 15 x15 := ⟨Tryz.f15, an15, Tryz.func15, by kernel_rfl⟩
theorem w16 : FnOk Tryz.prog 16 x16 := ⟨Tryz.f16, an16, Tryz.func16, by kernel_rfl⟩
theorem w17 : FnOk Tryz.prog 17 x17 := ⟨Tryz.f17, an17, Tryz.func17, by kernel_rfl⟩
theorem w18 : FnOk Tryz.prog 18 x18 := ⟨Tryz.f18, an18, Tryz.func18, by kernel_rfl⟩
theorem w19 : FnOk Tryz.prog 19 x19 := ⟨Tryz.f19, an19, Tryz.func19, by kernel_rfl⟩
theorem w20 : FnOk Tryz.prog 20 x20 := ⟨Tryz.f20, an20, Tryz.func20, by kernel_rfl⟩
theorem w22 : FnOk Tryz.prog 22 x22 := ⟨Tryz.f22, an22, Tryz.func22, by kernel_rfl⟩
theorem w23 : FnOk Tryz.prog 23 x23 := ⟨Tryz.f23, an23, Tryz.func23, by kernel_rfl⟩
theorem w24 : FnOk Tryz.prog 24 x24 := ⟨Tryz.f24, an24, Tryz.func24, by kernel_rfl⟩
theorem w25 : FnOk Tryz.prog 25 x25 := ⟨Tryz.f25, an25, Tryz.func25, by kernel_rfl⟩
theorem w26 : FnOk Tryz.prog 26 x26 := ⟨Tryz.f26, an26, Tryz.func26, by kernel_rfl⟩
theorem w27 : FnOk Tryz.prog 27 x27 := ⟨Tryz.f27, an27, Tryz.func27, by kernel_rfl⟩
theorem w30 : FnOk Tryz.prog 30 x30 := ⟨Tryz.f30, an30, Tryz.func30, by kernel_rfl⟩
theorem w31 : FnOk Tryz.prog 31 x31 := ⟨Tryz.f31, an31, Tryz.func31, by kernel_rfl⟩
theorem w32 : FnOk Tryz.prog 32 x32 := ⟨Tryz.f32, an32, Tryz.func32, by kernel_rfl⟩
theorem w33 : FnOk Tryz.prog 33 x33 := ⟨Tryz.f33, an33, Tryz.func33, by kernel_rfl⟩
theorem w34 : FnOk Tryz.prog 34 x34 := ⟨Tryz.f34, an34, Tryz.func34, by kernel_rfl⟩
theorem w35 : FnOk Tryz.prog 35 x35 := ⟨Tryz.f35, an35, Tryz.func35, by kernel_rfl⟩
theorem w36 : FnOk Tryz.prog 36 x36 := ⟨Tryz.f36, an36, Tryz.func36, by kernel_rfl⟩
theorem w37 : FnOk Tryz.prog 37 x37 := ⟨Tryz.f37, an37, Tryz.func37, by kernel_rfl⟩
theorem w38 : FnOk Tryz.prog 38 x38 := ⟨Tryz.f38, an38, Tryz.func38, by kernel_rfl⟩
theorem w39 : FnOk Tryz.prog 39 x39 := ⟨Tryz.f39, an39, Tryz.func39, by kernel_rfl⟩
theorem w40 : FnOk Tryz.prog 40 x40 := ⟨Tryz.f40, an40, Tryz.func40, by kernel_rfl⟩
theorem w41 : FnOk Tryz.prog 41 x41 := ⟨Tryz.f41, an41, Tryz.func41, by kernel_rfl⟩
theorem w42 : FnOk Tryz.prog 42 x42 := ⟨Tryz.f42, an42, Tryz.func42, by kernel_rfl⟩
theorem w44 : FnOk Tryz.prog 44 x44 := ⟨Tryz.f44, an44, Tryz.func44, by kernel_rfl⟩
theorem w45 : FnOk Tryz.prog 45 x45 := ⟨Tryz.f45, an45, Tryz.func45, by kernel_rfl⟩
theorem w46 : FnOk Tryz.prog 46 x46 := ⟨Tryz.f46, an46, Tryz.func46, by kernel_rfl⟩
theorem w47 : FnOk Tryz.prog 47 x47 := ⟨Tryz.f47, an47, Tryz.func47, by kernel_rfl⟩
theorem w48 : FnOk Tryz.prog 48 x48 := ⟨Tryz.f48, an48, Tryz.func48, by kernel_rfl⟩
theorem w49 : FnOk Tryz.prog 49 x49 := ⟨Tryz.f49, an49, Tryz.func49, by kernel_rfl⟩
theorem w50 : FnOk Tryz.prog 50 x50 := ⟨Tryz.f50, an50, Tryz.func50, by kernel_rfl⟩
theorem w51 : FnOk Tryz.prog 51 x51 := ⟨Tryz.f51, an51, Tryz.func51, by kernel_rfl⟩
theorem w52 : FnOk Tryz.prog 52 x52 := ⟨Tryz.f52, an52, Tryz.func52, by kernel_rfl⟩
theorem w53 : FnOk Tryz.prog 53 x53 := ⟨Tryz.f53, an53, Tryz.func53, by kernel_rfl⟩
theorem w54 : FnOk Tryz.prog 54 x54 := ⟨Tryz.f54, an54, Tryz.func54, by kernel_rfl⟩
theorem w60 : FnOk Tryz.prog 60 x60 := ⟨Tryz.f60, an60, Tryz.func60, by kernel_rfl⟩
theorem w61 : FnOk Tryz.prog 61 x61 := ⟨Tryz.f61, an61, Tryz.func61, by kernel_rfl⟩
theorem w62 : FnOk Tryz.prog 62 x62 := ⟨Tryz.f62, an62, Tryz.func62, by kernel_rfl⟩
theorem w63 : FnOk Tryz.prog 63 x63 := ⟨Tryz.f63, an63, Tryz.func63, by kernel_rfl⟩
theorem w64 : FnOk Tryz.prog 64 x64 := ⟨Tryz.f64, an64, Tryz.func64, by kernel_rfl⟩
theorem w65 : FnOk Tryz.prog 65 x65 := ⟨Tryz.f65, an65, Tryz.func65, by kernel_rfl⟩
theorem w66 : FnOk Tryz.prog 66 x66 := ⟨Tryz.f66, an66, Tryz.func66, by kernel_rfl⟩
theorem w67 : FnOk Tryz.prog 67 x67 := ⟨Tryz.f67, an67, Tryz.func67, by kernel_rfl⟩
theorem w68 : FnOk Tryz.prog 68 x68 := ⟨Tryz.f68, an68, Tryz.func68, by kernel_rfl⟩
theorem w69 : FnOk Tryz.prog 69 x69 := ⟨Tryz.f69, an69, Tryz.func69, by kernel_rfl⟩
theorem w70 : FnOk Tryz.prog 70 x70 := ⟨Tryz.f70, an70, Tryz.func70, by kernel_rfl⟩
theorem w71 : FnOk Tryz.prog 71 x71 := ⟨Tryz.f71, an71, Tryz.func71, by kernel_rfl⟩
theorem w72 : FnOk Tryz.prog 72 x72 := ⟨Tryz.f72, an72, Tryz.func72, by kernel_rfl⟩
theorem w73 : FnOk Tryz.prog 73 x73 := ⟨Tryz.f73, an73, Tryz.func73, by kernel_rfl⟩
theorem w74 : FnOk Tryz.prog 74 x74 := ⟨Tryz.f74, an74, Tryz.func74, by kernel_rfl⟩
theorem w75 : FnOk Tryz.prog 75 x75 := ⟨Tryz.f75, an75, Tryz.func75, by kernel_rfl⟩
theorem w76 : FnOk Tryz.prog 76 x76 := ⟨Tryz.f76, an76, Tryz.func76, by kernel_rfl⟩
theorem w77 : FnOk Tryz.prog 77 x77 := ⟨Tryz.f77, an77, Tryz.func77, by kernel_rfl⟩
theorem w78 : FnOk Tryz.prog 78 x78 := ⟨Tryz.f78, an78, Tryz.func78, by kernel_rfl⟩
theorem w79 : FnOk Tryz.prog 79 x79 := ⟨Tryz.f79, an79, Tryz.func79, by kernel_rfl⟩
theorem w80 : FnOk Tryz.prog 80 x80 := ⟨Tryz.f80, an80, Tryz.func80, by kernel_rfl⟩
theorem w81 : FnOk Tryz.prog 81 x81 := ⟨Tryz.f81, an81, Tryz.func81, by kernel_rfl⟩
theorem w83 : FnOk Tryz.prog 83 x83 := ⟨Tryz.f83, an83, Tryz.func83, by kernel_rfl⟩
theorem w84 : FnOk Tryz.prog 84 x84 := ⟨Tryz.f84, an84, Tryz.func84, by kernel_rfl⟩
theorem w85 : FnOk Tryz.prog 85 x85 := ⟨Tryz.f85, an85, Tryz.func85, by kernel_rfl⟩
theorem w86 : FnOk Tryz.prog 86 x86 := ⟨Tryz.f86, an86, Tryz.func86, by kernel_rfl⟩
theorem w96 : FnOk Tryz.prog 96 x96 := ⟨Tryz.f96, an96, Tryz.func96, by kernel_rfl⟩
theorem w97 : FnOk Tryz.prog 97 x97 := ⟨Tryz.f97, an97, Tryz.func97, by kernel_rfl⟩
theorem w98 : FnOk Tryz.prog 98 x98 := ⟨Tryz.f98, an98, Tryz.func98, by kernel_rfl⟩
theorem w99 : FnOk Tryz.prog 99 x99 := ⟨Tryz.f99, an99, Tryz.func99, by kernel_rfl⟩
theorem w100 : FnOk Tryz.prog 100 x100 := ⟨Tryz.f100, an100, Tryz.func100, by kernel_rfl⟩
theorem w101 : FnOk Tryz.prog 101 x101 := ⟨Tryz.f101, an101, Tryz.func101, by kernel_rfl⟩
theorem w102 : FnOk Tryz.prog 102 x102 := ⟨Tryz.f102, an102, Tryz.func102, by kernel_rfl⟩
theorem w103 : FnOk Tryz.prog 103 x103 := ⟨Tryz.f103, an103, Tryz.func103, by kernel_rfl⟩
theorem w104 : FnOk Tryz.prog 104 x104 := ⟨Tryz.f104, an104, Tryz.func104, by kernel_rfl⟩
theorem w105 : FnOk Tryz.prog 105 x105 := ⟨Tryz.f105, an105, Tryz.func105, by kernel_rfl⟩
theorem w106 : FnOk Tryz.prog 106 x106 := ⟨Tryz.f106, an106, Tryz.func106, by kernel_rfl⟩
theorem w107 : FnOk Tryz.prog 107 x107 := ⟨Tryz.f107, an107, Tryz.func107, by kernel_rfl⟩
theorem w108 : FnOk Tryz.prog 108 x108 := ⟨Tryz.f108, an108, Tryz.func108, by kernel_rfl⟩
theorem w109 : FnOk Tryz.prog 109 x109 := ⟨Tryz.f109, an109, Tryz.func109, by kernel_rfl⟩
theorem w110 : FnOk Tryz.prog 110 x110 := ⟨Tryz.f110, an110, Tryz.func110, by kernel_rfl⟩
theorem w111 : FnOk Tryz.prog 111 x111 := ⟨Tryz.f111, an111, Tryz.func111, by kernel_rfl⟩
theorem w113 : FnOk Tryz.prog 113 x113 := ⟨Tryz.f113, an113, Tryz.func113, by kernel_rfl⟩
theorem w114 : FnOk Tryz.prog 114 x114 := ⟨Tryz.f114, an114, Tryz.func114, by kernel_rfl⟩
theorem w115 : FnOk Tryz.prog 115 x115 := ⟨Tryz.f115, an115, Tryz.func115, by kernel_rfl⟩
theorem w116 : FnOk Tryz.prog 116 x116 := ⟨Tryz.f116, an116, Tryz.func116, by kernel_rfl⟩
theorem w117 : FnOk Tryz.prog 117 x117 := ⟨Tryz.f117, an117, Tryz.func117, by kernel_rfl⟩
theorem w118 : FnOk Tryz.prog 118 x118 := ⟨Tryz.f118, an118, Tryz.func118, by kernel_rfl⟩
theorem w119 : FnOk Tryz.prog 119 x119 := ⟨Tryz.f119, an119, Tryz.func119, by kernel_rfl⟩
theorem w122 : FnOk Tryz.prog 122 x122 := ⟨Tryz.f122, an122, Tryz.func122, by kernel_rfl⟩
theorem w123 : FnOk Tryz.prog 123 x123 := ⟨Tryz.f123, an123, Tryz.func123, by kernel_rfl⟩
theorem w124 : FnOk Tryz.prog 124 x124 := ⟨Tryz.f124, an124, Tryz.func124, by kernel_rfl⟩
theorem w125 : FnOk Tryz.prog 125 x125 := ⟨Tryz.f125, an125, Tryz.func125, by kernel_rfl⟩
theorem w126 : FnOk Tryz.prog 126 x126 := ⟨Tryz.f126, an126, Tryz.func126, by kernel_rfl⟩
theorem w127 : FnOk Tryz.prog 127 x127 := ⟨Tryz.f127, an127, Tryz.func127, by kernel_rfl⟩
theorem w128 : FnOk Tryz.prog 128 x128 := ⟨Tryz.f128, an128, Tryz.func128, by kernel_rfl⟩
theorem w129 : FnOk Tryz.prog 129 x129 := ⟨Tryz.f129, an129, Tryz.func129, by kernel_rfl⟩
theorem w130 : FnOk Tryz.prog 130 x130 := ⟨Tryz.f130, an130, Tryz.func130, by kernel_rfl⟩
theorem w131 : FnOk Tryz.prog 131 x131 := ⟨Tryz.f131, an131, Tryz.func131, by kernel_rfl⟩
theorem w133 : FnOk Tryz.prog 133 x133 := ⟨Tryz.f133, an133, Tryz.func133, by kernel_rfl⟩
theorem w134 : FnOk Tryz.prog 134 x134 := ⟨Tryz.f134, an134, Tryz.func134, by kernel_rfl⟩
theorem w135 : FnOk Tryz.prog 135 x135 := ⟨Tryz.f135, an135, Tryz.func135, by kernel_rfl⟩
theorem w136 : FnOk Tryz.prog 136 x136 := ⟨Tryz.f136, an136, Tryz.func136, by kernel_rfl⟩
theorem w137 : FnOk Tryz.prog 137 x137 := ⟨Tryz.f137, an137, Tryz.func137, by kernel_rfl⟩
theorem w138 : FnOk Tryz.prog 138 x138 := ⟨Tryz.f138, an138, Tryz.func138, by kernel_rfl⟩
theorem w139 : FnOk Tryz.prog 139 x139 := ⟨Tryz.f139, an139, Tryz.func139, by kernel_rfl⟩
theorem w140 : FnOk Tryz.prog 140 x140 := ⟨Tryz.f140, an140, Tryz.func140, by kernel_rfl⟩
theorem w141 : FnOk Tryz.prog 141 x141 := ⟨Tryz.f141, an141, Tryz.func141, by kernel_rfl⟩
theorem w142 : FnOk Tryz.prog 142 x142 := ⟨Tryz.f142, an142, Tryz.func142, by kernel_rfl⟩
theorem w143 : FnOk Tryz.prog 143 x143 := ⟨Tryz.f143, an143, Tryz.func143, by kernel_rfl⟩
theorem w144 : FnOk Tryz.prog 144 x144 := ⟨Tryz.f144, an144, Tryz.func144, by kernel_rfl⟩
theorem w145 : FnOk Tryz.prog 145 x145 := ⟨Tryz.f145, an145, Tryz.func145, by kernel_rfl⟩
theorem w147 : FnOk Tryz.prog 147 x147 := ⟨Tryz.f147, an147, Tryz.func147, by kernel_rfl⟩
theorem w149 : FnOk Tryz.prog 149 x149 := ⟨Tryz.f149, an149, Tryz.func149, by kernel_rfl⟩
theorem w150 : FnOk Tryz.prog 150 x150 := ⟨Tryz.f150, an150, Tryz.func150, by kernel_rfl⟩
theorem w151 : FnOk Tryz.prog 151 x151 := ⟨Tryz.f151, an151, Tryz.func151, by kernel_rfl⟩
theorem w152 : FnOk Tryz.prog 152 x152 := ⟨Tryz.f152, an152, Tryz.func152, by kernel_rfl⟩
theorem w153 : FnOk Tryz.prog 153 x153 := ⟨Tryz.f153, an153, Tryz.func153, by kernel_rfl⟩
theorem w154 : FnOk Tryz.prog 154 x154 := ⟨Tryz.f154, an154, Tryz.func154, by kernel_rfl⟩
theorem w155 : FnOk Tryz.prog 155 x155 := ⟨Tryz.f155, an155, Tryz.func155, by kernel_rfl⟩
theorem w156 : FnOk Tryz.prog 156 x156 := ⟨Tryz.f156, an156, Tryz.func156, by kernel_rfl⟩
theorem w157 : FnOk Tryz.prog 157 x157 := ⟨Tryz.f157, an157, Tryz.func157, by kernel_rfl⟩
theorem w158 : FnOk Tryz.prog 158 x158 := ⟨Tryz.f158, an158, Tryz.func158, by kernel_rfl⟩
theorem w159 : FnOk Tryz.prog 159 x159 := ⟨Tryz.f159, an159, Tryz.func159, by kernel_rfl⟩
theorem w160 : FnOk Tryz.prog 160 x160 := ⟨Tryz.f160, an160, Tryz.func160, by kernel_rfl⟩
theorem w161 : FnOk Tryz.prog 161 x161 := ⟨Tryz.f161, an161, Tryz.func161, by kernel_rfl⟩
theorem w162 : FnOk Tryz.prog 162 x162 := ⟨Tryz.f162, an162, Tryz.func162, by kernel_rfl⟩
theorem w163 : FnOk Tryz.prog 163 x163 := ⟨Tryz.f163, an163, Tryz.func163, by kernel_rfl⟩
theorem w164 : FnOk Tryz.prog 164 x164 := ⟨Tryz.f164, an164, Tryz.func164, by kernel_rfl⟩
theorem w165 : FnOk Tryz.prog 165 x165 := ⟨Tryz.f165, an165, Tryz.func165, by kernel_rfl⟩
theorem w166 : FnOk Tryz.prog 166 x166 := ⟨Tryz.f166, an166, Tryz.func166, by kernel_rfl⟩
theorem all_ok : AllT (FnOk Tryz.prog) xtab (fun n => n) :=
  ⟨AllT.non, ⟨AllT.non, ⟨AllT.non, ⟨(AllT.one w7), ⟨(AllT.one w15), ⟨(AllT.one w31), ⟨(AllT.one w63), ⟨(AllT.one w127), trivial, trivial⟩, trivial⟩, ⟨AllT.non, ⟨(AllT.one w159), trivial, trivial⟩, trivial⟩⟩, ⟨(AllT.one w47), ⟨(AllT.one w79), ⟨(AllT.one w143), trivial, trivial⟩, trivial⟩, ⟨(AllT.one w111), ⟨AllT.non, trivial, trivial⟩, trivial⟩⟩⟩, ⟨(AllT.one w23), ⟨(AllT.one w39), ⟨(AllT.one w71), ⟨(AllT.one w135), trivial, trivial⟩, trivial⟩, ⟨(AllT.one w103), ⟨AllT.non, trivial, trivial⟩, trivial⟩⟩, ⟨AllT.non, ⟨AllT.non, ⟨(AllT.one w151), trivial, trivial⟩, trivial⟩, ⟨(AllT.one w119), ⟨AllT.non, trivial, trivial⟩, trivial⟩⟩⟩⟩, ⟨AllT.non, ⟨(AllT.one w19), ⟨(AllT.one w35), ⟨(AllT.one w67), ⟨(AllT.one w131), trivial, trivial⟩, trivial⟩, ⟨(AllT.one w99), ⟨(AllT.one w163), trivial, trivial⟩, trivial⟩⟩, ⟨(AllT.one w51), ⟨(AllT.one w83), ⟨(AllT.one w147), trivial, trivial⟩, trivial⟩, ⟨(AllT.one w115), ⟨AllT.non, trivial, trivial⟩, trivial⟩⟩⟩, ⟨(AllT.one w27), ⟨AllT.non, ⟨(AllT.one w75), ⟨(AllT.one w139), trivial, trivial⟩, trivial⟩, ⟨(AllT.one w107), ⟨AllT.non, trivial, trivial⟩, trivial⟩⟩, ⟨AllT.non, ⟨AllT.non, ⟨(AllT.one w155), trivial, trivial⟩, trivial⟩, ⟨(AllT.one w123), ⟨AllT.non, trivial, trivial⟩, trivial⟩⟩⟩⟩⟩, ⟨(AllT.one w5), ⟨AllT.non, ⟨(AllT.one w17), ⟨(AllT.one w33), ⟨(AllT.one w65), ⟨(AllT.one w129), trivial, trivial⟩, trivial⟩, ⟨(AllT.one w97), ⟨(AllT.one w161), trivial, trivial⟩, trivial⟩⟩, ⟨(AllT.one w49), ⟨(AllT.one w81), ⟨(AllT.one w145), trivial, trivial⟩, trivial⟩, ⟨(AllT.one w113), ⟨AllT.non, trivial, trivial⟩, trivial⟩⟩⟩, ⟨(AllT.one w25), ⟨(AllT.one w41), ⟨(AllT.one w73), ⟨(AllT.one w137), trivial, trivial⟩, trivial⟩, ⟨(AllT.one w105), ⟨AllT.non, trivial, trivial⟩, trivial⟩⟩, ⟨AllT.non, ⟨AllT.non, ⟨(AllT.one w153), trivial, trivial⟩, trivial⟩, ⟨AllT.non, ⟨AllT.non, trivial, trivial⟩, trivial⟩⟩⟩⟩, ⟨(AllT.one w13), ⟨AllT.non, ⟨(AllT.one w37), ⟨(AllT.one w69), ⟨(AllT.one w133), trivial, trivial⟩, trivial⟩, ⟨(AllT.one w101), ⟨(AllT.one w165), trivial, trivial⟩, trivial⟩⟩, ⟨(AllT.one w53), ⟨(AllT.one w85), ⟨(AllT.one w149), trivial, trivial⟩, trivial⟩, ⟨(AllT.one w117), ⟨AllT.non, trivial, trivial⟩, trivial⟩⟩⟩, ⟨AllT.non, ⟨(AllT.one w45), ⟨(AllT.one w77), ⟨(AllT.one w141), trivial, trivial⟩, trivial⟩, ⟨(AllT.one w109), ⟨AllT.non, trivial, trivial⟩, trivial⟩⟩, ⟨(AllT.one w61), ⟨AllT.non, ⟨(AllT.one w157), trivial, trivial⟩, trivial⟩, ⟨(AllT.one w125), trivial, trivial⟩⟩⟩⟩⟩⟩, ⟨AllT.non, ⟨(AllT.one w4), ⟨AllT.non, ⟨(AllT.one w16), ⟨(AllT.one w32), ⟨(AllT.one w64), ⟨(AllT.one w128), trivial, trivial⟩, trivial⟩, ⟨(AllT.one w96), ⟨(AllT.one w160), trivial, trivial⟩, trivial⟩⟩, ⟨(AllT.one w48), ⟨(AllT.one w80), ⟨(AllT.one w144), trivial, trivial⟩, trivial⟩, ⟨AllT.non, ⟨AllT.non, trivial, trivial⟩, trivial⟩⟩⟩, ⟨(AllT.one w24), ⟨(AllT.one w40), ⟨(AllT.one w72), ⟨(AllT.one w136), trivial, trivial⟩, trivial⟩, ⟨(AllT.one w104), ⟨AllT.non, trivial, trivial⟩, trivial⟩⟩, ⟨AllT.non, ⟨AllT.non, ⟨(AllT.one w152), trivial, trivial⟩, trivial⟩, ⟨AllT.non, ⟨AllT.non, trivial, trivial⟩, trivial⟩⟩⟩⟩, ⟨(AllT.one w12), ⟨(AllT.one w20), ⟨(AllT.one w36), ⟨(AllT.one w68), ⟨AllT.non, trivial, trivial⟩, trivial⟩, ⟨(AllT.one w100), ⟨(AllT.one w164), trivial, trivial⟩, trivial⟩⟩, ⟨(AllT.one w52), ⟨(AllT.one w84), ⟨AllT.non, trivial, trivial⟩, trivial⟩, ⟨(AllT.one w116), ⟨AllT.non, trivial, trivial⟩, trivial⟩⟩⟩, ⟨AllT.non, ⟨(AllT.one w44), ⟨(AllT.one w76), ⟨(AllT.one w140), trivial, trivial⟩, trivial⟩, ⟨(AllT.one w108), ⟨AllT.non, trivial, trivial⟩, trivial⟩⟩, ⟨(AllT.one w60), ⟨AllT.non, ⟨(AllT.one w156), trivial, trivial⟩, trivial⟩, ⟨(AllT.one w124), ⟨AllT.non, trivial, trivial⟩, trivial⟩⟩⟩⟩⟩, ⟨(AllT.one w6), ⟨(AllT.one w10), ⟨(AllT.one w18), ⟨(AllT.one w34), ⟨(AllT.one w66), ⟨(AllT.one w130), trivial, trivial⟩, trivial⟩, ⟨(AllT.one w98), ⟨(AllT.one w162), trivial, trivial⟩, trivial⟩⟩, ⟨(AllT.one w50), ⟨AllT.non, ⟨AllT.non, trivial, trivial⟩, trivial⟩, ⟨(AllT.one w114), ⟨AllT.non, trivial, trivial⟩, trivial⟩⟩⟩, ⟨(AllT.one w26), ⟨(AllT.one w42), ⟨(AllT.one w74), ⟨(AllT.one w138), trivial, trivial⟩, trivial⟩, ⟨(AllT.one w106), ⟨AllT.non, trivial, trivial⟩, trivial⟩⟩, ⟨AllT.non, ⟨AllT.non, ⟨(AllT.one w154), trivial, trivial⟩, trivial⟩, ⟨(AllT.one w122), ⟨AllT.non, trivial, trivial⟩, trivial⟩⟩⟩⟩, ⟨(AllT.one w14), ⟨(AllT.one w22), ⟨(AllT.one w38), ⟨(AllT.one w70), ⟨(AllT.one w134), trivial, trivial⟩, trivial⟩, ⟨(AllT.one w102), ⟨(AllT.one w166), trivial, trivial⟩, trivial⟩⟩, ⟨(AllT.one w54), ⟨(AllT.one w86), ⟨(AllT.one w150), trivial, trivial⟩, trivial⟩, ⟨(AllT.one w118), ⟨AllT.non, trivial, trivial⟩, trivial⟩⟩⟩, ⟨(AllT.one w30), ⟨(AllT.one w46), ⟨(AllT.one w78), ⟨(AllT.one w142), trivial, trivial⟩, trivial⟩, ⟨(AllT.one w110), ⟨AllT.non, trivial, trivial⟩, trivial⟩⟩, ⟨(AllT.one w62), ⟨AllT.non, ⟨(AllT.one w158), trivial, trivial⟩, trivial⟩, ⟨(AllT.one w126), trivial, trivial⟩⟩⟩⟩⟩⟩⟩
theorem all_okL : AllT (FnOk Tryz.prog) xtabL (fun n => n) :=
  ⟨AllT.non, ⟨AllT.non, ⟨AllT.non, ⟨(AllT.one w7), ⟨(AllT.one w15), ⟨(AllT.one w31), ⟨(AllT.one w63), ⟨(AllT.one w127), trivial, trivial⟩, trivial⟩, ⟨AllT.non, ⟨(AllT.one w159), trivial, trivial⟩, trivial⟩⟩, ⟨(AllT.one w47), ⟨(AllT.one w79), ⟨(AllT.one w143), trivial, trivial⟩, trivial⟩, ⟨(AllT.one w111), ⟨AllT.non, trivial, trivial⟩, trivial⟩⟩⟩, ⟨(AllT.one w23), ⟨(AllT.one w39), ⟨(AllT.one w71), ⟨(AllT.one w135), trivial, trivial⟩, trivial⟩, ⟨(AllT.one w103), ⟨AllT.non, trivial, trivial⟩, trivial⟩⟩, ⟨AllT.non, ⟨AllT.non, ⟨(AllT.one w151), trivial, trivial⟩, trivial⟩, ⟨(AllT.one w119), ⟨AllT.non, trivial, trivial⟩, trivial⟩⟩⟩⟩, ⟨AllT.non, ⟨(AllT.one w19), ⟨(AllT.one w35), ⟨(AllT.one w67), ⟨(AllT.one w131), trivial, trivial⟩, trivial⟩, ⟨(AllT.one w99), ⟨(AllT.one w163), trivial, trivial⟩, trivial⟩⟩, ⟨(AllT.one w51), ⟨(AllT.one w83), ⟨(AllT.one w147), trivial, trivial⟩, trivial⟩, ⟨(AllT.one w115), ⟨AllT.non, trivial, trivial⟩, trivial⟩⟩⟩, ⟨(AllT.one w27), ⟨AllT.non, ⟨(AllT.one w75), ⟨(AllT.one w139), trivial, trivial⟩, trivial⟩, ⟨(AllT.one w107), ⟨AllT.non, trivial, trivial⟩, trivial⟩⟩, ⟨AllT.non, ⟨AllT.non, ⟨(AllT.one w155), trivial, trivial⟩, trivial⟩, ⟨(AllT.one w123), ⟨AllT.non, trivial, trivial⟩, trivial⟩⟩⟩⟩⟩, ⟨(AllT.one w5), ⟨AllT.non, ⟨(AllT.one w17), ⟨(AllT.one w33), ⟨(AllT.one w65), ⟨(AllT.one w129), trivial, trivial⟩, trivial⟩, ⟨(AllT.one w97), ⟨(AllT.one w161), trivial, trivial⟩, trivial⟩⟩, ⟨(AllT.one w49), ⟨(AllT.one w81), ⟨(AllT.one w145), trivial, trivial⟩, trivial⟩, ⟨(AllT.one w113), ⟨AllT.non, trivial, trivial⟩, trivial⟩⟩⟩, ⟨(AllT.one w25), ⟨(AllT.one w41), ⟨(AllT.one w73), ⟨(AllT.one w137), trivial, trivial⟩, trivial⟩, ⟨(AllT.one w105), ⟨AllT.non, trivial, trivial⟩, trivial⟩⟩, ⟨AllT.non, ⟨AllT.non, ⟨(AllT.one w153), trivial, trivial⟩, trivial⟩, ⟨AllT.non, ⟨AllT.non, trivial, trivial⟩, trivial⟩⟩⟩⟩, ⟨(AllT.one w13), ⟨AllT.non, ⟨(AllT.one w37), ⟨(AllT.one w69), ⟨(AllT.one w133), trivial, trivial⟩, trivial⟩, ⟨(AllT.one w101), ⟨(AllT.one w165), trivial, trivial⟩, trivial⟩⟩, ⟨(AllT.one w53), ⟨(AllT.one w85), ⟨(AllT.one w149), trivial, trivial⟩, trivial⟩, ⟨(AllT.one w117), ⟨AllT.non, trivial, trivial⟩, trivial⟩⟩⟩, ⟨AllT.non, ⟨(AllT.one w45), ⟨(AllT.one w77), ⟨(AllT.one w141), trivial, trivial⟩, trivial⟩, ⟨(AllT.one w109), ⟨AllT.non, trivial, trivial⟩, trivial⟩⟩, ⟨(AllT.one w61), ⟨AllT.non, ⟨(AllT.one w157), trivial, trivial⟩, trivial⟩, ⟨(AllT.one w125), trivial, trivial⟩⟩⟩⟩⟩⟩, ⟨AllT.non, ⟨(AllT.one w4), ⟨AllT.non, ⟨(AllT.one w16), ⟨(AllT.one w32), ⟨(AllT.one w64), ⟨(AllT.one w128), trivial, trivial⟩, trivial⟩, ⟨(AllT.one w96), ⟨(AllT.one w160), trivial, trivial⟩, trivial⟩⟩, ⟨(AllT.one w48), ⟨(AllT.one w80), ⟨(AllT.one w144), trivial, trivial⟩, trivial⟩, ⟨AllT.non, ⟨AllT.non, trivial, trivial⟩, trivial⟩⟩⟩, ⟨(AllT.one w24), ⟨(AllT.one w40), ⟨(AllT.one w72), ⟨(AllT.one w136), trivial, trivial⟩, trivial⟩, ⟨(AllT.one w104), ⟨AllT.non, trivial, trivial⟩, trivial⟩⟩, ⟨AllT.non, ⟨AllT.non, ⟨(AllT.one w152), trivial, trivial⟩, trivial⟩, ⟨AllT.non, ⟨AllT.non, trivial, trivial⟩, trivial⟩⟩⟩⟩, ⟨(AllT.one w12), ⟨(AllT.one w20), ⟨(AllT.one w36), ⟨(AllT.one w68), ⟨AllT.non, trivial, trivial⟩, trivial⟩, ⟨(AllT.one w100), ⟨(AllT.one w164), trivial, trivial⟩, trivial⟩⟩, ⟨(AllT.one w52), ⟨(AllT.one w84), ⟨AllT.non, trivial, trivial⟩, trivial⟩, ⟨(AllT.one w116), ⟨AllT.non, trivial, trivial⟩, trivial⟩⟩⟩, ⟨AllT.non, ⟨(AllT.one w44), ⟨(AllT.one w76), ⟨(AllT.one w140), trivial, trivial⟩, trivial⟩, ⟨(AllT.one w108), ⟨AllT.non, trivial, trivial⟩, trivial⟩⟩, ⟨(AllT.one w60), ⟨AllT.non, ⟨(AllT.one w156), trivial, trivial⟩, trivial⟩, ⟨(AllT.one w124), ⟨AllT.non, trivial, trivial⟩, trivial⟩⟩⟩⟩⟩, ⟨AllT.non, ⟨(AllT.one w10), ⟨(AllT.one w18), ⟨(AllT.one w34), ⟨(AllT.one w66), ⟨(AllT.one w130), trivial, trivial⟩, trivial⟩, ⟨(AllT.one w98), ⟨(AllT.one w162), trivial, trivial⟩, trivial⟩⟩, ⟨(AllT.one w50), ⟨AllT.non, ⟨AllT.non, trivial, trivial⟩, trivial⟩, ⟨(AllT.one w114), ⟨AllT.non, trivial, trivial⟩, trivial⟩⟩⟩, ⟨(AllT.one w26), ⟨(AllT.one w42), ⟨(AllT.one w74), ⟨(AllT.one w138), trivial, trivial⟩, trivial⟩, ⟨(AllT.one w106), ⟨AllT.non, trivial, trivial⟩, trivial⟩⟩, ⟨AllT.non, ⟨AllT.non, ⟨(AllT.one w154), trivial, trivial⟩, trivial⟩, ⟨(AllT.one w122), ⟨AllT.non, trivial, trivial⟩, trivial⟩⟩⟩⟩, ⟨(AllT.one w14), ⟨(AllT.one w22), ⟨(AllT.one w38), ⟨(AllT.one w70), ⟨(AllT.one w134), trivial, trivial⟩, trivial⟩, ⟨(AllT.one w102), ⟨(AllT.one w166), trivial, trivial⟩, trivial⟩⟩, ⟨(AllT.one w54), ⟨(AllT.one w86), ⟨(AllT.one w150), trivial, trivial⟩, trivial⟩, ⟨(AllT.one w118), ⟨AllT.non, trivial, trivial⟩, trivial⟩⟩⟩, ⟨(AllT.one w30), ⟨(AllT.one w46), ⟨(AllT.one w78), ⟨(AllT.one w142), trivial, trivial⟩, trivial⟩, ⟨(AllT.one w110), ⟨AllT.non, trivial, trivial⟩, trivial⟩⟩, ⟨(AllT.one w62), ⟨AllT.non, ⟨(AllT.one w158), trivial, trivial⟩, trivial⟩, ⟨(AllT.one w126), trivial, trivial⟩⟩⟩⟩⟩⟩⟩
end
end Go.Abs
