import Derived.Test.YtihgdplbehempaaGreatMS6
set_option linter.unusedSimpArgs false
set_option linter.unusedVariables false
section
set_option maxRecDepth 10000
namespace Go.Vm
open Go Go.Proofs
namespace YtihgdplbehempaaGreat
open Go.Proofs.Tryz
noncomputable def alive25_d_c30 : Fn := ⟨65, Tryz.f65, (Tryz.f65.body).getD .skip, noMu, false⟩
theorem alive25_d_k30 : alive25_d_c30.Ok Tryz.prog := ⟨Tryz.func65, by kernel_rfl, by kernel_rfl, by kernel_rfl⟩
noncomputable def alive25_d_c31 : Fn := ⟨19, Tryz.f19, (Tryz.f19.body).getD .skip, (fun d => d == 6), false⟩
theorem alive25_d_k31 : alive25_d_c31.Ok Tryz.prog := ⟨Tryz.func19, by kernel_rfl, by kernel_rfl, by kernel_rfl⟩
noncomputable def alive25_d_c32 : Fn := ⟨20, Tryz.f20, (Tryz.f20.body).getD .skip, (fun d => d == 10 || d == 2000090), false⟩
theorem alive25_d_k32 : alive25_d_c32.Ok Tryz.prog := ⟨Tryz.func20, by kernel_rfl, by kernel_rfl, by kernel_rfl⟩
noncomputable def alive25_d_c33 : Fn := ⟨72, Tryz.f72, (Tryz.f72.body).getD .skip, noMu, false⟩
theorem alive25_d_k33 : alive25_d_c33.Ok Tryz.prog := ⟨Tryz.func72, by kernel_rfl, by kernel_rfl, by kernel_rfl⟩
noncomputable def alive25_d_c34 : Fn := ⟨24, Tryz.f24, (Tryz.f24.body).getD .skip, noMu, false⟩
theorem alive25_d_k34 : alive25_d_c34.Ok Tryz.prog := ⟨Tryz.func24, by kernel_rfl, by kernel_rfl, by kernel_rfl⟩
noncomputable def alive25_d_c35 : Fn := ⟨25, Tryz.f25, (Tryz.f25.body).getD .skip, (fun d => d == 8 || d == 10), false⟩
theorem alive25_d_k35 : alive25_d_c35.Ok Tryz.prog := ⟨Tryz.func25, by kernel_rfl, by kernel_rfl, by kernel_rfl⟩
noncomputable def alive25_d_c36 : Fn := ⟨73, Tryz.f73, (Tryz.f73.body).getD .skip, (fun d => d == 12 || d == 13 || d == 33 || d == 38), false⟩
theorem alive25_d_k36 : alive25_d_c36.Ok Tryz.prog := ⟨Tryz.func73, by kernel_rfl, by kernel_rfl, by kernel_rfl⟩
noncomputable def alive25_d_c38 : Fn := ⟨82, Tryz.f82, (Tryz.f82.body).getD .skip, (fun d => d == 10 || d == 13 || d == 14), false⟩
theorem alive25_d_k38 : alive25_d_c38.Ok Tryz.prog := ⟨Tryz.func82, by kernel_rfl, by kernel_rfl, by kernel_rfl⟩
noncomputable def alive25_d_c40 : Fn := ⟨131, Tryz.f131, (Tryz.f131.body).getD .skip, noMu, false⟩
theorem alive25_d_k40 : alive25_d_c40.Ok Tryz.prog := ⟨Tryz.func131, by kernel_rfl, by kernel_rfl, by kernel_rfl⟩
noncomputable def alive25_d_c49 : Fn := ⟨135, Tryz.f135, (Tryz.f135.body).getD .skip, noMu, false⟩
theorem alive25_d_k49 : alive25_d_c49.Ok Tryz.prog := ⟨Tryz.func135, by kernel_rfl, by kernel_rfl, by kernel_rfl⟩
noncomputable def alive25_d_c51 : Fn := ⟨71, Tryz.f71, (Tryz.f71.body).getD .skip, noMu, false⟩
theorem alive25_d_k51 : alive25_d_c51.Ok Tryz.prog := ⟨Tryz.func71, by kernel_rfl, by kernel_rfl, by kernel_rfl⟩
noncomputable def alive25_d_c57 : Fn := ⟨133, Tryz.f133, (Tryz.f133.body).getD .skip, noMu, false⟩
theorem alive25_d_k57 : alive25_d_c57.Ok Tryz.prog := ⟨Tryz.func133, by kernel_rfl, by kernel_rfl, by kernel_rfl⟩
noncomputable def alive25_d_c58 : Fn := ⟨134, Tryz.f134, (Tryz.f134.body).getD .skip, noMu, false⟩
theorem alive25_d_k58 : alive25_d_c58.Ok Tryz.prog := ⟨Tryz.func134, by kernel_rfl, by kernel_rfl, by kernel_rfl⟩
noncomputable def alive25_d_c59 : Fn := ⟨18, Tryz.f18, (Tryz.f18.body).getD .skip, noMu, false⟩
theorem alive25_d_k59 : alive25_d_c59.Ok Tryz.prog := ⟨Tryz.func18, by kernel_rfl, by kernel_rfl, by kernel_rfl⟩
noncomputable def alive25_d_c60 : Fn := ⟨26, Tryz.f26, (Tryz.f26.body).getD .skip, (fun d => d == 6 || d == 33 || d == 39 || d == 47), false⟩
theorem alive25_d_k60 : alive25_d_c60.Ok Tryz.prog := ⟨Tryz.func26, by kernel_rfl, by kernel_rfl, by kernel_rfl⟩
noncomputable def alive25_d_c61 : Fn := ⟨30, Tryz.f30, (Tryz.f30.body).getD .skip, (fun d => d == 12), false⟩
theorem alive25_d_k61 : alive25_d_c61.Ok Tryz.prog := ⟨Tryz.func30, by kernel_rfl, by kernel_rfl, by kernel_rfl⟩
noncomputable def alive25_d_c62 : Fn := ⟨150, Tryz.f150, (Tryz.f150.body).getD .skip, noMu, false⟩
theorem alive25_d_k62 : alive25_d_c62.Ok Tryz.prog := ⟨Tryz.func150, by kernel_rfl, by kernel_rfl, by kernel_rfl⟩
noncomputable def alive25_d_c63 : Fn := ⟨151, Tryz.f151, (Tryz.f151.body).getD .skip, noMu, false⟩
theorem alive25_d_k63 : alive25_d_c63.Ok Tryz.prog := ⟨Tryz.func151, by kernel_rfl, by kernel_rfl, by kernel_rfl⟩
noncomputable def alive25_d_c64 : Fn := ⟨152, Tryz.f152, (Tryz.f152.body).getD .skip, (fun d => d == 7 || d == 9 || d == 11 || d == 12 || d == 16 || d == 43 || d == 45 || d == 47 || d == 54 || d == 58), false⟩
theorem alive25_d_k64 : alive25_d_c64.Ok Tryz.prog := ⟨Tryz.func152, by kernel_rfl, by kernel_rfl, by kernel_rfl⟩
noncomputable def alive25_d_c65 : Fn := ⟨76, Tryz.f76, (Tryz.f76.body).getD .skip, (fun d => d == 7 || d == 9 || d == 11 || d == 16), false⟩
theorem alive25_d_k65 : alive25_d_c65.Ok Tryz.prog := ⟨Tryz.func76, by kernel_rfl, by kernel_rfl, by kernel_rfl⟩
noncomputable def alive25_d_c66 : Fn := ⟨77, Tryz.f77, (Tryz.f77.body).getD .skip, noMu, false⟩
theorem alive25_d_k66 : alive25_d_c66.Ok Tryz.prog := ⟨Tryz.func77, by kernel_rfl, by kernel_rfl, by kernel_rfl⟩
noncomputable def alive25_d_c67 : Fn := ⟨31, Tryz.f31, (Tryz.f31.body).getD .skip, noMu, false⟩
theorem alive25_d_k67 : alive25_d_c67.Ok Tryz.prog := ⟨Tryz.func31, by kernel_rfl, by kernel_rfl, by kernel_rfl⟩
noncomputable def alive25_d_c68 : Fn := ⟨78, Tryz.f78, (Tryz.f78.body).getD .skip, (fun d => d == 9 || d == 13), false⟩
theorem alive25_d_k68 : alive25_d_c68.Ok Tryz.prog := ⟨Tryz.func78, by kernel_rfl, by kernel_rfl, by kernel_rfl⟩
noncomputable def alive25_d_c69 : Fn := ⟨153, Tryz.f153, (Tryz.f153.body).getD .skip, (fun d => d == 5 || d == 7), true⟩
theorem alive25_d_k69 : alive25_d_c69.Ok Tryz.prog := ⟨Tryz.func153, by kernel_rfl, by kernel_rfl, by kernel_rfl⟩
noncomputable def alive25_d_c70 : Fn := ⟨154, Tryz.f154, (Tryz.f154.body).getD .skip, (fun d => d == 2), false⟩
theorem alive25_d_k70 : alive25_d_c70.Ok Tryz.prog := ⟨Tryz.func154, by kernel_rfl, by kernel_rfl, by kernel_rfl⟩
noncomputable def alive25_d_c71 : Fn := ⟨155, Tryz.f155, (Tryz.f155.body).getD .skip, noMu, false⟩
theorem alive25_d_k71 : alive25_d_c71.Ok Tryz.prog := ⟨Tryz.func155, by kernel_rfl, by kernel_rfl, by kernel_rfl⟩
noncomputable def alive25_d_c72 : Fn := ⟨156, Tryz.f156, (Tryz.f156.body).getD .skip, (fun d => d == 4 || d == 18), false⟩
theorem alive25_d_k72 : alive25_d_c72.Ok Tryz.prog := ⟨Tryz.func156, by kernel_rfl, by kernel_rfl, by kernel_rfl⟩
noncomputable def alive25_d_c73 : Fn := ⟨157, Tryz.f157, (Tryz.f157.body).getD .skip, (fun d => d == 2 || d == 3), false⟩
theorem alive25_d_k73 : alive25_d_c73.Ok Tryz.prog := ⟨Tryz.func157, by kernel_rfl, by kernel_rfl, by kernel_rfl⟩
noncomputable def alive25_d_c74 : Fn := ⟨29, Tryz.f29, (Tryz.f29.body).getD .skip, (fun d => d == 5 || d == 7 || d == 10), false⟩
theorem alive25_d_k74 : alive25_d_c74.Ok Tryz.prog := ⟨Tryz.func29, by kernel_rfl, by kernel_rfl, by kernel_rfl⟩
noncomputable def alive25_d_c75 : Fn := ⟨84, Tryz.f84, (Tryz.f84.body).getD .skip, noMu, false⟩
theorem alive25_d_k75 : alive25_d_c75.Ok Tryz.prog := ⟨Tryz.func84, by kernel_rfl, by kernel_rfl, by kernel_rfl⟩
noncomputable def alive25_d_c76 : Fn := ⟨85, Tryz.f85, (Tryz.f85.body).getD .skip, (fun d => d == 3 || d == 6 || d == 9 || d == 17), false⟩
theorem alive25_d_k76 : alive25_d_c76.Ok Tryz.prog := ⟨Tryz.func85, by kernel_rfl, by kernel_rfl, by kernel_rfl⟩
noncomputable def alive25_d_c77 : Fn := ⟨162, Tryz.f162, (Tryz.f162.body).getD .skip, noMu, false⟩
theorem alive25_d_k77 : alive25_d_c77.Ok Tryz.prog := ⟨Tryz.func162, by kernel_rfl, by kernel_rfl, by kernel_rfl⟩
noncomputable def alive25_d_c79 : Fn := ⟨205, Tryz.f205, (Tryz.f205.body).getD .skip, noMu, false⟩
theorem alive25_d_k79 : alive25_d_c79.Ok Tryz.prog := ⟨Tryz.func205, by kernel_rfl, by kernel_rfl, by kernel_rfl⟩
noncomputable def alive25_d_c83 : Fn := ⟨207, Tryz.f207, (Tryz.f207.body).getD .skip, noMu, false⟩
theorem alive25_d_k83 : alive25_d_c83.Ok Tryz.prog := ⟨Tryz.func207, by kernel_rfl, by kernel_rfl, by kernel_rfl⟩
noncomputable def alive25_d_c84 : Fn := ⟨149, Tryz.f149, (Tryz.f149.body).getD .skip, noMu, false⟩
theorem alive25_d_k84 : alive25_d_c84.Ok Tryz.prog := ⟨Tryz.func149, by kernel_rfl, by kernel_rfl, by kernel_rfl⟩
noncomputable def alive25_d_c86 : Fn := ⟨206, Tryz.f206, (Tryz.f206.body).getD .skip, noMu, false⟩
theorem alive25_d_k86 : alive25_d_c86.Ok Tryz.prog := ⟨Tryz.func206, by kernel_rfl, by kernel_rfl, by kernel_rfl⟩
noncomputable def alive25_d_c87 : Fn := ⟨66, Tryz.f66, (Tryz.f66.body).getD .skip, (fun d => d == 17 || d == 20 || d == 24 || d == 30 || d == 32 || d == 52 || d == 58 || d == 61 || d == 79 || d == 91 || d == 96 || d == 102 || d == 104 || d == 105 || d == 106 || d == 107 || d == 108 || d == 109 || d == 110 || d == 114 || d == 118 || d == 123 || d == 125 || d == 127 || d == 130), false⟩
theorem alive25_d_k87 : alive25_d_c87.Ok Tryz.prog := ⟨Tryz.func66, by kernel_rfl, by kernel_rfl, by kernel_rfl⟩
noncomputable def alive25_d_c88 : Fn := ⟨67, Tryz.f67, (Tryz.f67.body).getD .skip, (fun d => d == 16 || d == 10 || d == 38 || d == 40 || d == 42 || d == 47 || d == 48 || d == 56 || d == 58 || d == 60 || d == 67 || d == 68), false⟩
theorem alive25_d_k88 : alive25_d_c88.Ok Tryz.prog := ⟨Tryz.func67, by kernel_rfl, by kernel_rfl, by kernel_rfl⟩
noncomputable def alive25_d_c89 : Fn := ⟨68, Tryz.f68, (Tryz.f68.body).getD .skip, (fun d => d == 9), false⟩
theorem alive25_d_k89 : alive25_d_c89.Ok Tryz.prog := ⟨Tryz.func68, by kernel_rfl, by kernel_rfl, by kernel_rfl⟩
noncomputable def alive25_d_c90 : Fn := ⟨69, Tryz.f69, (Tryz.f69.body).getD .skip, (fun d => d == 5 || d == 8 || d == 33), false⟩
theorem alive25_d_k90 : alive25_d_c90.Ok Tryz.prog := ⟨Tryz.func69, by kernel_rfl, by kernel_rfl, by kernel_rfl⟩
noncomputable def alive25_d_c91 : Fn := ⟨70, Tryz.f70, (Tryz.f70.body).getD .skip, (fun d => d == 8 || d == 15), false⟩
theorem alive25_d_k91 : alive25_d_c91.Ok Tryz.prog := ⟨Tryz.func70, by kernel_rfl, by kernel_rfl, by kernel_rfl⟩
noncomputable def alive25_d_c92 : Fn := ⟨79, Tryz.f79, (Tryz.f79.body).getD .skip, (fun d => d == 2 || d == 10 || d == 13), false⟩
theorem alive25_d_k92 : alive25_d_c92.Ok Tryz.prog := ⟨Tryz.func79, by kernel_rfl, by kernel_rfl, by kernel_rfl⟩
noncomputable def alive25_d_c93 : Fn := ⟨80, Tryz.f80, (Tryz.f80.body).getD .skip, noMu, false⟩
theorem alive25_d_k93 : alive25_d_c93.Ok Tryz.prog := ⟨Tryz.func80, by kernel_rfl, by kernel_rfl, by kernel_rfl⟩
noncomputable def alive25_d_c95 : Fn := ⟨218, Tryz.f218, (Tryz.f218.body).getD .skip, noMu, false⟩
theorem alive25_d_k95 : alive25_d_c95.Ok Tryz.prog := ⟨Tryz.func218, by kernel_rfl, by kernel_rfl, by kernel_rfl⟩
noncomputable def alive25_d_c96 : Fn := ⟨219, Tryz.f219, (Tryz.f219.body).getD .skip, noMu, false⟩
theorem alive25_d_k96 : alive25_d_c96.Ok Tryz.prog := ⟨Tryz.func219, by kernel_rfl, by kernel_rfl, by kernel_rfl⟩
noncomputable def alive25_d_c97 : Fn := ⟨161, Tryz.f161, (Tryz.f161.body).getD .skip, noMu, false⟩
theorem alive25_d_k97 : alive25_d_c97.Ok Tryz.prog := ⟨Tryz.func161, by kernel_rfl, by kernel_rfl, by kernel_rfl⟩
noncomputable def alive25_d_c98 : Fn := ⟨220, Tryz.f220, (Tryz.f220.body).getD .skip, noMu, false⟩
theorem alive25_d_k98 : alive25_d_c98.Ok Tryz.prog := ⟨Tryz.func220, by kernel_rfl, by kernel_rfl, by kernel_rfl⟩
noncomputable def alive25_d_c99 : Fn := ⟨221, Tryz.f221, (Tryz.f221.body).getD .skip, noMu, false⟩
theorem alive25_d_k99 : alive25_d_c99.Ok Tryz.prog := ⟨Tryz.func221, by kernel_rfl, by kernel_rfl, by kernel_rfl⟩
noncomputable def alive25_d_c100 : Fn := ⟨222, Tryz.f222, (Tryz.f222.body).getD .skip, (fun d => d == 4), false⟩
theorem alive25_d_k100 : alive25_d_c100.Ok Tryz.prog := ⟨Tryz.func222, by kernel_rfl, by kernel_rfl, by kernel_rfl⟩
noncomputable def alive25_d_c101 : Fn := ⟨158, Tryz.f158, (Tryz.f158.body).getD .skip, noMu, false⟩
theorem alive25_d_k101 : alive25_d_c101.Ok Tryz.prog := ⟨Tryz.func158, by kernel_rfl, by kernel_rfl, by kernel_rfl⟩
noncomputable def alive25_d_c102 : Fn := ⟨83, Tryz.f83, (Tryz.f83.body).getD .skip, noMu, false⟩
theorem alive25_d_k102 : alive25_d_c102.Ok Tryz.prog := ⟨Tryz.func83, by kernel_rfl, by kernel_rfl, by kernel_rfl⟩
noncomputable def alive25_d_c103 : Fn := ⟨159, Tryz.f159, (Tryz.f159.body).getD .skip, (fun d => d == 5 || d == 7), true⟩
theorem alive25_d_k103 : alive25_d_c103.Ok Tryz.prog := ⟨Tryz.func159, by kernel_rfl, by kernel_rfl, by kernel_rfl⟩
noncomputable def alive25_d_c104 : Fn := ⟨223, Tryz.f223, (Tryz.f223.body).getD .skip, (fun d => d == 4), false⟩
theorem alive25_d_k104 : alive25_d_c104.Ok Tryz.prog := ⟨Tryz.func223, by kernel_rfl, by kernel_rfl, by kernel_rfl⟩
noncomputable def alive25_d_c105 : Fn := ⟨224, Tryz.f224, (Tryz.f224.body).getD .skip, (fun d => d == 4), false⟩
theorem alive25_d_k105 : alive25_d_c105.Ok Tryz.prog := ⟨Tryz.func224, by kernel_rfl, by kernel_rfl, by kernel_rfl⟩
noncomputable def alive25_d_c106 : Fn := ⟨163, Tryz.f163, (Tryz.f163.body).getD .skip, noMu, false⟩
theorem alive25_d_k106 : alive25_d_c106.Ok Tryz.prog := ⟨Tryz.func163, by kernel_rfl, by kernel_rfl, by kernel_rfl⟩
noncomputable def alive25_d_c107 : Fn := ⟨88, Tryz.f88, (Tryz.f88.body).getD .skip, (fun d => d == 37), false⟩
theorem alive25_d_k107 : alive25_d_c107.Ok Tryz.prog := ⟨Tryz.func88, by kernel_rfl, by kernel_rfl, by kernel_rfl⟩
noncomputable def alive25_d_c108 : Fn := ⟨87, Tryz.f87, (Tryz.f87.body).getD .skip, noMu, false⟩
theorem alive25_d_k108 : alive25_d_c108.Ok Tryz.prog := ⟨Tryz.func87, by kernel_rfl, by kernel_rfl, by kernel_rfl⟩
noncomputable def alive25_d_c109 : Fn := ⟨75, Tryz.f75, (Tryz.f75.body).getD .skip, noMu, false⟩
theorem alive25_d_k109 : alive25_d_c109.Ok Tryz.prog := ⟨Tryz.func75, by kernel_rfl, by kernel_rfl, by kernel_rfl⟩
noncomputable def alive25_d_c114 : Fn := ⟨136, Tryz.f136, (Tryz.f136.body).getD .skip, (fun d => d == 16 || d == 18 || d == 31 || d == 41 || d == 52 || d == 53 || d == 54 || d == 55 || d == 58 || d == 81 || d == 13 || d == 141 || d == 142 || d == 143 || d == 144 || d == 146 || d == 147 || d == 148 || d == 149 || d == 151 || d == 155 || d == 163 || d == 164 || d == 167 || d == 168 || d == 169 || d == 170 || d == 172 || d == 173 || d == 174 || d == 178), true⟩
theorem alive25_d_k114 : alive25_d_c114.Ok Tryz.prog := ⟨Tryz.func136, by kernel_rfl, by kernel_rfl, by kernel_rfl⟩
noncomputable def alive25_d_c115 : Fn := ⟨137, Tryz.f137, (Tryz.f137.body).getD .skip, noMu, true⟩
theorem alive25_d_k115 : alive25_d_c115.Ok Tryz.prog := ⟨Tryz.func137, by kernel_rfl, by kernel_rfl, by kernel_rfl⟩
noncomputable def alive25_d_c116 : Fn := ⟨138, Tryz.f138, (Tryz.f138.body).getD .skip, (fun d => d == 7 || d == 34 || d == 36 || d == 38 || d == 42 || d == 60 || d == 68), true⟩
theorem alive25_d_k116 : alive25_d_c116.Ok Tryz.prog := ⟨Tryz.func138, by kernel_rfl, by kernel_rfl, by kernel_rfl⟩
noncomputable def alive25_d_c117 : Fn := ⟨139, Tryz.f139, (Tryz.f139.body).getD .skip, (fun d => d == 6 || d == 9 || d == 27 || d == 28 || d == 31 || d == 33 || d == 35 || d == 50 || d == 51 || d == 52 || d == 53 || d == 55 || d == 57 || d == 58 || d == 59 || d == 60 || d == 62 || d == 1000006 || d == 1000009), true⟩
theorem alive25_d_k117 : alive25_d_c117.Ok Tryz.prog := ⟨Tryz.func139, by kernel_rfl, by kernel_rfl, by kernel_rfl⟩
noncomputable def alive25_d_c118 : Fn := ⟨140, Tryz.f140, (Tryz.f140.body).getD .skip, (fun d => d == 2), false⟩
theorem alive25_d_k118 : alive25_d_c118.Ok Tryz.prog := ⟨Tryz.func140, by kernel_rfl, by kernel_rfl, by kernel_rfl⟩
noncomputable def alive25_d_c119 : Fn := ⟨141, Tryz.f141, (Tryz.f141.body).getD .skip, (fun d => d == 4), false⟩
theorem alive25_d_k119 : alive25_d_c119.Ok Tryz.prog := ⟨Tryz.func141, by kernel_rfl, by kernel_rfl, by kernel_rfl⟩
noncomputable def alive25_d_c120 : Fn := ⟨142, Tryz.f142, (Tryz.f142.body).getD .skip, (fun d => d == 2), false⟩
theorem alive25_d_k120 : alive25_d_c120.Ok Tryz.prog := ⟨Tryz.func142, by kernel_rfl, by kernel_rfl, by kernel_rfl⟩
noncomputable def alive25_d_c121 : Fn := ⟨143, Tryz.f143, (Tryz.f143.body).getD .skip, (fun d => d == 3 || d == 6 || d == 7 || d == 10 || d == 11 || d == 12 || d == 23 || d == 46 || d == 40), false⟩
theorem alive25_d_k121 : alive25_d_c121.Ok Tryz.prog := ⟨Tryz.func143, by kernel_rfl, by kernel_rfl, by kernel_rfl⟩
noncomputable def alive25_d_c122 : Fn := ⟨144, Tryz.f144, (Tryz.f144.body).getD .skip, noMu, false⟩
theorem alive25_d_k122 : alive25_d_c122.Ok Tryz.prog := ⟨Tryz.func144, by kernel_rfl, by kernel_rfl, by kernel_rfl⟩
noncomputable def alive25_d_c123 : Fn := ⟨145, Tryz.f145, (Tryz.f145.body).getD .skip, (fun d => d == 4), false⟩
theorem alive25_d_k123 : alive25_d_c123.Ok Tryz.prog := ⟨Tryz.func145, by kernel_rfl, by kernel_rfl, by kernel_rfl⟩
noncomputable def alive25_d_c124 : Fn := ⟨146, Tryz.f146, (Tryz.f146.body).getD .skip, (fun d => d == 2), false⟩
theorem alive25_d_k124 : alive25_d_c124.Ok Tryz.prog := ⟨Tryz.func146, by kernel_rfl, by kernel_rfl, by kernel_rfl⟩
noncomputable def alive25_d_c125 : Fn := ⟨147, Tryz.f147, (Tryz.f147.body).getD .skip, (fun d => d == 2), false⟩
theorem alive25_d_k125 : alive25_d_c125.Ok Tryz.prog := ⟨Tryz.func147, by kernel_rfl, by kernel_rfl, by kernel_rfl⟩
noncomputable def alive25_d_c126 : Fn := ⟨148, Tryz.f148, (Tryz.f148.body).getD .skip, (fun d => d == 2), false⟩
theorem alive25_d_k126 : alive25_d_c126.Ok Tryz.prog := ⟨Tryz.func148, by kernel_rfl, by kernel_rfl, by kernel_rfl⟩
noncomputable def alive25_d_c127 : Fn := ⟨160, Tryz.f160, (Tryz.f160.body).getD .skip, (fun d => d == 5 || d == 7), true⟩
theorem alive25_d_k127 : alive25_d_c127.Ok Tryz.prog := ⟨Tryz.func160, by kernel_rfl, by kernel_rfl, by kernel_rfl⟩
noncomputable def alive25_d_c128 : Fn := ⟨257, Tryz.f257, (Tryz.f257.body).getD .skip, noMu, false⟩
theorem alive25_d_k128 : alive25_d_c128.Ok Tryz.prog := ⟨Tryz.func257, by kernel_rfl, by kernel_rfl, by kernel_rfl⟩
noncomputable def alive25_d_c129 : Fn := ⟨258, Tryz.f258, (Tryz.f258.body).getD .skip, noMu, false⟩
theorem alive25_d_k129 : alive25_d_c129.Ok Tryz.prog := ⟨Tryz.func258, by kernel_rfl, by kernel_rfl, by kernel_rfl⟩
noncomputable def alive25_d_c130 : Fn := ⟨259, Tryz.f259, (Tryz.f259.body).getD .skip, (fun d => d == 19), false⟩
theorem alive25_d_k130 : alive25_d_c130.Ok Tryz.prog := ⟨Tryz.func259, by kernel_rfl, by kernel_rfl, by kernel_rfl⟩
noncomputable def alive25_d_c131 : Fn := ⟨252, Tryz.f252, (Tryz.f252.body).getD .skip, noMu, false⟩
theorem alive25_d_k131 : alive25_d_c131.Ok Tryz.prog := ⟨Tryz.func252, by kernel_rfl, by kernel_rfl, by kernel_rfl⟩
noncomputable def alive25_d_c132 : Fn := ⟨253, Tryz.f253, (Tryz.f253.body).getD .skip, (fun d => d == 11), false⟩
theorem alive25_d_k132 : alive25_d_c132.Ok Tryz.prog := ⟨Tryz.func253, by kernel_rfl, by kernel_rfl, by kernel_rfl⟩
noncomputable def alive25_d_c133 : Fn := ⟨212, Tryz.f212, (Tryz.f212.body).getD .skip, (fun d => d == 2), false⟩
theorem alive25_d_k133 : alive25_d_c133.Ok Tryz.prog := ⟨Tryz.func212, by kernel_rfl, by kernel_rfl, by kernel_rfl⟩
noncomputable def alive25_d_c134 : Fn := ⟨165, Tryz.f165, (Tryz.f165.body).getD .skip, noMu, false⟩
theorem alive25_d_k134 : alive25_d_c134.Ok Tryz.prog := ⟨Tryz.func165, by kernel_rfl, by kernel_rfl, by kernel_rfl⟩
noncomputable def alive25_d_c135 : Fn := ⟨164, Tryz.f164, (Tryz.f164.body).getD .skip, (fun d => d == 11 || d == 33), false⟩
theorem alive25_d_k135 : alive25_d_c135.Ok Tryz.prog := ⟨Tryz.func164, by kernel_rfl, by kernel_rfl, by kernel_rfl⟩
noncomputable def alive25_d_c136 : Fn := ⟨208, Tryz.f208, (Tryz.f208.body).getD .skip, (fun d => d == 6 || d == 8 || d == 26 || d == 28 || d == 30 || d == 36), true⟩
theorem alive25_d_k136 : alive25_d_c136.Ok Tryz.prog := ⟨Tryz.func208, by kernel_rfl, by kernel_rfl, by kernel_rfl⟩
noncomputable def alive25_d_c137 : Fn := ⟨209, Tryz.f209, (Tryz.f209.body).getD .skip, noMu, false⟩
theorem alive25_d_k137 : alive25_d_c137.Ok Tryz.prog := ⟨Tryz.func209, by kernel_rfl, by kernel_rfl, by kernel_rfl⟩
noncomputable def alive25_d_c138 : Fn := ⟨210, Tryz.f210, (Tryz.f210.body).getD .skip, (fun d => d == 2 || d == 3 || d == 4 || d == 5), false⟩
theorem alive25_d_k138 : alive25_d_c138.Ok Tryz.prog := ⟨Tryz.func210, by kernel_rfl, by kernel_rfl, by kernel_rfl⟩
noncomputable def alive25_d_c139 : Fn := ⟨211, Tryz.f211, (Tryz.f211.body).getD .skip, (fun d => d == 4), false⟩
theorem alive25_d_k139 : alive25_d_c139.Ok Tryz.prog := ⟨Tryz.func211, by kernel_rfl, by kernel_rfl, by kernel_rfl⟩
noncomputable def alive25_d_c140 : Fn := ⟨213, Tryz.f213, (Tryz.f213.body).getD .skip, (fun d => d == 2 || d == 3 || d == 5 || d == 6 || d == 7), false⟩
theorem alive25_d_k140 : alive25_d_c140.Ok Tryz.prog := ⟨Tryz.func213, by kernel_rfl, by kernel_rfl, by kernel_rfl⟩
noncomputable def alive25_d_c141 : Fn := ⟨214, Tryz.f214, (Tryz.f214.body).getD .skip, (fun d => d == 4 || d == 5 || d == 8 || d == 9 || d == 35 || d == 43 || d == 51 || d == 78 || d == 81 || d == 87 || d == 94), false⟩
theorem alive25_d_k141 : alive25_d_c141.Ok Tryz.prog := ⟨Tryz.func214, by kernel_rfl, by kernel_rfl, by kernel_rfl⟩
noncomputable def alive25_d_c142 : Fn := ⟨215, Tryz.f215, (Tryz.f215.body).getD .skip, noMu, false⟩
theorem alive25_d_k142 : alive25_d_c142.Ok Tryz.prog := ⟨Tryz.func215, by kernel_rfl, by kernel_rfl, by kernel_rfl⟩
noncomputable def alive25_d_c143 : Fn := ⟨216, Tryz.f216, (Tryz.f216.body).getD .skip, noMu, false⟩
theorem alive25_d_k143 : alive25_d_c143.Ok Tryz.prog := ⟨Tryz.func216, by kernel_rfl, by kernel_rfl, by kernel_rfl⟩
noncomputable def alive25_d_c144 : Fn := ⟨217, Tryz.f217, (Tryz.f217.body).getD .skip, (fun d => d == 4), false⟩
theorem alive25_d_k144 : alive25_d_c144.Ok Tryz.prog := ⟨Tryz.func217, by kernel_rfl, by kernel_rfl, by kernel_rfl⟩
noncomputable def alive25_d_c145 : Fn := ⟨268, Tryz.f268, (Tryz.f268.body).getD .skip, noMu, false⟩
theorem alive25_d_k145 : alive25_d_c145.Ok Tryz.prog := ⟨Tryz.func268, by kernel_rfl, by kernel_rfl, by kernel_rfl⟩
noncomputable def alive25_d_c146 : Fn := ⟨267, Tryz.f267, (Tryz.f267.body).getD .skip, noMu, false⟩
theorem alive25_d_k146 : alive25_d_c146.Ok Tryz.prog := ⟨Tryz.func267, by kernel_rfl, by kernel_rfl, by kernel_rfl⟩
noncomputable def alive25_d_c147 : Fn := ⟨249, Tryz.f249, (Tryz.f249.body).getD .skip, (fun d => d == 2 || d == 3 || d == 4 || d == 5 || d == 6 || d == 1000002 || d == 1000006), false⟩
theorem alive25_d_k147 : alive25_d_c147.Ok Tryz.prog := ⟨Tryz.func249, by kernel_rfl, by kernel_rfl, by kernel_rfl⟩
noncomputable def alive25_d_c148 : Fn := ⟨250, Tryz.f250, (Tryz.f250.body).getD .skip, (fun d => d == 11), false⟩
theorem alive25_d_k148 : alive25_d_c148.Ok Tryz.prog := ⟨Tryz.func250, by kernel_rfl, by kernel_rfl, by kernel_rfl⟩
noncomputable def alive25_d_c149 : Fn := ⟨251, Tryz.f251, (Tryz.f251.body).getD .skip, noMu, false⟩
theorem alive25_d_k149 : alive25_d_c149.Ok Tryz.prog := ⟨Tryz.func251, by kernel_rfl, by kernel_rfl, by kernel_rfl⟩
noncomputable def alive25_d_c150 : Fn := ⟨254, Tryz.f254, (Tryz.f254.body).getD .skip, noMu, false⟩
theorem alive25_d_k150 : alive25_d_c150.Ok Tryz.prog := ⟨Tryz.func254, by kernel_rfl, by kernel_rfl, by kernel_rfl⟩
noncomputable def alive25_d_c151 : Fn := ⟨255, Tryz.f255, (Tryz.f255.body).getD .skip, noMu, false⟩
theorem alive25_d_k151 : alive25_d_c151.Ok Tryz.prog := ⟨Tryz.func255, by kernel_rfl, by kernel_rfl, by kernel_rfl⟩
noncomputable def alive25_d_c152 : Fn := ⟨256, Tryz.f256, (Tryz.f256.body).getD .skip, noMu, false⟩
theorem alive25_d_k152 : alive25_d_c152.Ok Tryz.prog := ⟨Tryz.func256, by kernel_rfl, by kernel_rfl, by kernel_rfl⟩
noncomputable def alive25_d_c153 : Fn := ⟨266, Tryz.f266, (Tryz.f266.body).getD .skip, (fun d => d == 2), false⟩
theorem alive25_d_k153 : alive25_d_c153.Ok Tryz.prog := ⟨Tryz.func266, by kernel_rfl, by kernel_rfl, by kernel_rfl⟩
noncomputable def alive25_d_fs : List Fn := [alive25_d_c30, alive25_d_c31, alive25_d_c32, alive25_d_c33, alive25_d_c34, alive25_d_c35, alive25_d_c36, alive25_d_c38, alive25_d_c40, alive25_d_c49, alive25_d_c51, alive25_d_c57, alive25_d_c58, alive25_d_c59, alive25_d_c60, alive25_d_c61, alive25_d_c62, alive25_d_c63, alive25_d_c64, alive25_d_c65, alive25_d_c66, alive25_d_c67, alive25_d_c68, alive25_d_c69, alive25_d_c70, alive25_d_c71, alive25_d_c72, alive25_d_c73, alive25_d_c74, alive25_d_c75, alive25_d_c76, alive25_d_c77, alive25_d_c79, alive25_d_c83, alive25_d_c84, alive25_d_c86, alive25_d_c87, alive25_d_c88, alive25_d_c89, alive25_d_c90, alive25_d_c91, alive25_d_c92, alive25_d_c93, alive25_d_c95, alive25_d_c96, alive25_d_c97, alive25_d_c98, alive25_d_c99, alive25_d_c100, alive25_d_c101, alive25_d_c102, alive25_d_c103, alive25_d_c104, alive25_d_c105, alive25_d_c106, alive25_d_c107, alive25_d_c108, alive25_d_c109, alive25_d_c114, alive25_d_c115, alive25_d_c116, alive25_d_c117, alive25_d_c118, alive25_d_c119, alive25_d_c120, alive25_d_c121, alive25_d_c122, alive25_d_c123, alive25_d_c124, alive25_d_c125, alive25_d_c126, alive25_d_c127, alive25_d_c128, alive25_d_c129, alive25_d_c130, alive25_d_c131, alive25_d_c132, alive25_d_c133, alive25_d_c134, alive25_d_c135, alive25_d_c136, alive25_d_c137, alive25_d_c138, alive25_d_c139, alive25_d_c140, alive25_d_c141, alive25_d_c142, alive25_d_c143, alive25_d_c144, alive25_d_c145, alive25_d_c146, alive25_d_c147, alive25_d_c148, alive25_d_c149, alive25_d_c150, alive25_d_c151, alive25_d_c152, alive25_d_c153]
theorem alive25_d_ok : ∀ f ∈ alive25_d_fs, f.Ok Tryz.prog := List.forall_mem_cons.2 ⟨alive25_d_k30, List.forall_mem_cons.2 ⟨alive25_d_k31, List.forall_mem_cons.2 ⟨alive25_d_k32, List.forall_mem_cons.2 ⟨alive25_d_k33, List.forall_mem_cons.2 ⟨alive25_d_k34, List.forall_mem_cons.2 ⟨alive25_d_k35, List.forall_mem_cons.2 ⟨alive25_d_k36, List.forall_mem_cons.2 ⟨alive25_d_k38, List.forall_mem_cons.2 ⟨alive25_d_k40, List.forall_mem_cons.2 ⟨alive25_d_k49, List.forall_mem_cons.2 ⟨alive25_d_k51, List.forall_mem_cons.2 ⟨alive25_d_k57, List.forall_mem_cons.2 ⟨alive25_d_k58, List.forall_mem_cons.2 ⟨alive25_d_k59, List.forall_mem_cons.2 ⟨alive25_d_k60, List.forall_mem_cons.2 ⟨alive25_d_k61, List.forall_mem_cons.2 ⟨alive25_d_k62, List.forall_mem_cons.2 ⟨alive25_d_k63, List.forall_mem_cons.2 ⟨alive25_d_k64, List.forall_mem_cons.2 ⟨alive25_d_k65, List.forall_mem_cons.2 ⟨alive25_d_k66, List.forall_mem_cons.2 ⟨alive25_d_k67, List.forall_mem_cons.2 ⟨alive25_d_k68, List.forall_mem_cons.2 ⟨alive25_d_k69, List.forall_mem_cons.2 ⟨alive25_d_k70, List.forall_mem_cons.2 ⟨alive25_d_k71, List.forall_mem_cons.2 ⟨alive25_d_k72, List.forall_mem_cons.2 ⟨alive25_d_k73, List.forall_mem_cons.2 ⟨alive25_d_k74, List.forall_mem_cons.2 ⟨alive25_d_k75, List.forall_mem_cons.2 ⟨alive25_d_k76, List.forall_mem_cons.2 ⟨alive25_d_k77, List.forall_mem_cons.2 ⟨alive25_d_k79, List.forall_mem_cons.2 ⟨alive25_d_k83, List.forall_mem_cons.2 ⟨alive25_d_k84, List.forall_mem_cons.2 ⟨alive25_d_k86, List.forall_mem_cons.2 ⟨alive25_d_k87, List.forall_mem_cons.2 ⟨alive25_d_k88, List.forall_mem_cons.2 ⟨alive25_d_k89, List.forall_mem_cons.2 ⟨alive25_d_k90, List.forall_mem_cons.2 ⟨alive25_d_k91, List.forall_mem_cons.2 ⟨alive25_d_k92, List.forall_mem_cons.2 ⟨alive25_d_k93, List.forall_mem_cons.2 ⟨alive25_d_k95, List.forall_mem_cons.2 ⟨alive25_d_k96, List.forall_mem_cons.2 ⟨alive25_d_k97, List.forall_mem_cons.2 ⟨alive25_d_k98, List.forall_mem_cons.2 ⟨alive25_d_k99, List.forall_mem_cons.2 ⟨alive25_d_k100, List.forall_mem_cons.2 ⟨alive25_d_k101, List.forall_mem_cons.2 ⟨alive25_d_k102, List.forall_mem_cons.2 ⟨alive25_d_k103, List.forall_mem_cons.2 ⟨alive25_d_k104, List.forall_mem_cons.2 ⟨alive25_d_k105, List.forall_mem_cons.2 ⟨alive25_d_k106, List.forall_mem_cons.2 ⟨alive25_d_k107, List.forall_mem_cons.2 ⟨alive25_d_k108, List.forall_mem_cons.2 ⟨alive25_d_k109, List.forall_mem_cons.2 ⟨alive25_d_k114, List.forall_mem_cons.2 ⟨alive25_d_k115, List.forall_mem_cons.2 ⟨alive25_d_k116, List.forall_mem_cons.2 ⟨alive25_d_k117, List.forall_mem_cons.2 ⟨alive25_d_k118, List.forall_mem_cons.2 ⟨alive25_d_k119, List.forall_mem_cons.2 ⟨alive25_d_k120, List.forall_mem_cons.2 ⟨alive25_d_k121, List.forall_mem_cons.2 ⟨alive25_d_k122, List.forall_mem_cons.2 ⟨alive25_d_k123, List.forall_mem_cons.2 ⟨alive25_d_k124, List.forall_mem_cons.2 ⟨alive25_d_k125, List.forall_mem_cons.2 ⟨alive25_d_k126, List.forall_mem_cons.2 ⟨alive25_d_k127, List.forall_mem_cons.2 ⟨alive25_d_k128, List.forall_mem_cons.2 ⟨alive25_d_k129, List.forall_mem_cons.2 ⟨alive25_d_k130, List.forall_mem_cons.2 ⟨alive25_d_k131, List.forall_mem_cons.2 ⟨alive25_d_k132, List.forall_mem_cons.2 ⟨alive25_d_k133, List.forall_mem_cons.2 ⟨alive25_d_k134, List.forall_mem_cons.2 ⟨alive25_d_k135, List.forall_mem_cons.2 ⟨alive25_d_k136, List.forall_mem_cons.2 ⟨alive25_d_k137, List.forall_mem_cons.2 ⟨alive25_d_k138, List.forall_mem_cons.2 ⟨alive25_d_k139, List.forall_mem_cons.2 ⟨alive25_d_k140, List.forall_mem_cons.2 ⟨alive25_d_k141, List.forall_mem_cons.2 ⟨alive25_d_k142, List.forall_mem_cons.2 ⟨alive25_d_k143, List.forall_mem_cons.2 ⟨alive25_d_k144, List.forall_mem_cons.2 ⟨alive25_d_k145, List.forall_mem_cons.2 ⟨alive25_d_k146, List.forall_mem_cons.2 ⟨alive25_d_k147, List.forall_mem_cons.2 ⟨alive25_d_k148, List.forall_mem_cons.2 ⟨alive25_d_k149, List.forall_mem_cons.2 ⟨alive25_d_k150, List.forall_mem_cons.2 ⟨alive25_d_k151, List.forall_mem_cons.2 ⟨alive25_d_k152, List.forall_mem_cons.2 ⟨alive25_d_k153, (fun _ h => nomatch h)⟩⟩⟩⟩⟩⟩⟩⟩⟩⟩⟩⟩⟩⟩⟩⟩⟩⟩⟩⟩⟩⟩⟩⟩⟩⟩⟩⟩⟩⟩⟩⟩⟩⟩⟩⟩⟩⟩⟩⟩⟩⟩⟩⟩⟩⟩⟩⟩⟩⟩⟩⟩⟩⟩⟩⟩⟩⟩⟩⟩⟩⟩⟩⟩⟩⟩⟩⟩⟩⟩⟩⟩⟩⟩⟩⟩⟩⟩⟩⟩⟩⟩⟩⟩⟩⟩⟩⟩⟩⟩⟩⟩⟩⟩⟩⟩⟩⟩
theorem alive25_d : DCall Tryz.prog 20 [] (.bool true) := (xAll_sound (orc := fun _ _ => none) orders (fun _ _ _ h => nomatch h) alive25_d_ok 30).1 _ _ _ (by kernel_rfl)
end YtihgdplbehempaaGreat
end Go.Vm
end
section
set_option linter.unusedSimpArgs false
namespace Go.Vm
open Go Go.Proofs
namespace YtihgdplbehempaaGreat
open Go.Proofs.Tryz
inductive Reach (f : Flow) (keep : List Int) (a : Int) : Int → Prop where
  | refl : Reach f keep a a
  | step {i : Int} {t : Trans} (hi : i ∈ keep) (ht : f.trans[i.toNat]? = some t) (h : Reach f keep a t.from_) : Reach f keep a t.to_
noncomputable def reachB (f : Flow) (keep : List Int) (a b : Int) : Bool := @decide (Reach f keep a b) (Classical.propDecidable _)
theorem reachB_iff {f : Flow} {keep : List Int} {a b : Int} : reachB f keep a b = true ↔ Reach f keep a b := by
  unfold reachB
  exact @decide_eq_true_iff _ (Classical.propDecidable _)
theorem Reach.trans {f : Flow} {keep : List Int} {a b c : Int} (h : Reach f keep a b) (h2 : Reach f keep b c) : Reach f keep a c := by
  induction h2 with
  | refl => exact h
  | step hi ht _ ih => exact .step hi ht ih
theorem Reach.mono {f : Flow} {keep keep' : List Int} (hk : ∀ i ∈ keep, i ∈ keep') {a b : Int} (h : Reach f keep a b) : Reach f keep' a b := by
  induction h with
  | refl => exact .refl
  | step hi ht _ ih => exact .step (hk _ hi) ht ih
noncomputable def onCyc (f : Flow) (keep : List Int) (i : Int) : Bool := match f.trans[i.toNat]? with
  | some t => reachB f keep t.to_ t.from_
  | none => false
noncomputable def cyc (f : Flow) (keep : List Int) : List Int := keep.filter (onCyc f keep)
def start (n a : Nat) : List Bool := (List.replicate n false).set a true
def Le (a b : List Bool) : Prop := a.length = b.length ∧ ∀ k : Nat, a.getD k false = true → b.getD k false = true
theorem Le.refl (a : List Bool) : Le a a := ⟨rfl, fun _ h => h⟩
theorem Le.trans {a b c : List Bool} (h : Le a b) (h2 : Le b c) : Le a c := ⟨h.1.trans h2.1, fun k hk => h2.2 k (h.2 k hk)⟩
theorem Le.set {a : List Bool} (i : Nat) : Le a (a.set i true) := ⟨by simp, fun k hk => by
  simp only [List.getD, List.getElem?_set] at hk ⊢
  by_cases e : i = k
  · subst e
    by_cases hi : i < a.length
    · simp [hi]
    · rw [List.getElem?_eq_none (by omega)] at hk; simp at hk
  · rw [if_neg e]; exact hk⟩
end YtihgdplbehempaaGreat
end Go.Vm
end
section
set_option linter.unusedSimpArgs false
set_option maxRecDepth 10000
namespace Go.Vm
open Go Go.Proofs
namespace YtihgdplbehempaaGreat
open Go.Proofs.Tryz
attribute [go_sem] Tryz.results174 Tryz.results104 Tryz.results188 Tryz.results203 Tryz.results102 Tryz.results204
abbrev tI64 : TypeId := 2
def zeroS : State := ⟨0, false, []⟩
theorem enters (g : FuncId) (h : (match Tryz.prog.funcs[g]? with | some fn => !(fn.name == "runtime.NumGoroutine") && !fn.body.isNone | none => false) = true) : Enters Tryz.prog g := by
  cases hf : Tryz.prog.funcs[g]? with
  | none => rw [hf] at h; cases h
  | some fn => rw [hf] at h; simp only [Bool.and_eq_true, Bool.not_eq_true'] at h; exact ⟨fn, hf, h.1, h.2⟩
def do1 (draws : List Int) : List Upd → Nat → List Int → Option (List Int × Nat)
  | [], n, acc => some (acc, n)
  | u :: r, n, acc => if u.any then (if wordB (draws.getD n 0) then do1 draws r (n + 1) (acc ++ [draws.getD n 0]) else none) else do1 draws r n (acc ++ [0])
def do2 (s : State) : List Upd → List Int → List Int
  | u :: r, v :: q => (if u.any then v else evalR u.expr s.vals) :: do2 s r q
  | _, _ => []
def doR (s : State) (draws : List Int) (y : Trans) : State × Nat × Int := match do1 draws y.next 0 [] with
  | none => (zeroS, 0, 2)
  | some q => if (do2 s y.next q.1).all wordB then (⟨y.to_, true, do2 s y.next q.1⟩, q.2, 0) else (zeroS, 0, 3)
def stepX (f : Flow) (s : State) (t : Int) (draws : List Int) : State × Nat × Int :=
  if t < 0 then (zeroS, 0, 8) else match f.trans[t.toNat]? with
  | none => (zeroS, 0, 8)
  | some x => if openB s x then doR s draws x else (zeroS, 0, 9)
end YtihgdplbehempaaGreat
end Go.Vm
end
section
set_option linter.unusedSimpArgs false
set_option maxRecDepth 10000
namespace Go.Vm
open Go Go.Proofs
namespace YtihgdplbehempaaGreat
open Go.Proofs.Tryz
attribute [go_sem] Tryz.results129 Tryz.results130 Tryz.results225 Tryz.results62 Tryz.results166 Tryz.results110 Tryz.results94
def walkGo (f : Flow) (c : Nat → State → Int × Bool) : Nat → Nat → State → List Int → List State → List Int → List State × List Int × Int
  | 0, _, _, _, _, _ => ([], [], 0)
  | n + 1, i, s, draws, S, T => if (c i s).2 then (if (stepX f s (c i s).1 draws).2.2 != 0 then ([], [], (stepX f s (c i s).1 draws).2.2)
      else walkGo f c n (i + 1) (stepX f s (c i s).1 draws).1 (draws.drop (stepX f s (c i s).1 draws).2.1) (S ++ [(stepX f s (c i s).1 draws).1]) (T ++ [(c i s).1])) else (S, T, 0)
def chooseT (trans : List Int) (i : Nat) (_ : State) : Int × Bool := if i = trans.length then (0, false) else (trans.getD i 0, true)
def traceR (f : Flow) (s : State) (trans draws : List Int) : List State × Int :=
  if stateErr f s != 0 then ([], stateErr f s) else if decide ((trans.length : Int) > 4096) then ([], 3) else ((walkGo f (chooseT trans) (trans.length + 1) 0 s draws [s] []).1, (walkGo f (chooseT trans) (trans.length + 1) 0 s draws [s] []).2.2)
end YtihgdplbehempaaGreat
end Go.Vm
end
section
set_option linter.unusedSimpArgs false
namespace Go.Vm
open Go Go.Proofs Go.Whole
namespace YtihgdplbehempaaGreat
open Go.Proofs.Tryz
def dotI : List Int → List Int → Int
  | c :: cs, v :: vs => c * v + dotI cs vs
  | _, _ => 0
def rowI (r : Row) (vals : List Int) : Int := dotI r.coefs vals + r.const
theorem dotI_nil (l : List Int) : dotI l [] = 0 := by cases l <;> rfl
theorem dotI_nil' (l : List Int) : dotI [] l = 0 := by cases l <;> rfl
theorem dotI_append : ∀ (a x b y : List Int), a.length = x.length → dotI (a ++ b) (x ++ y) = dotI a x + dotI b y
  | [], [], b, y, _ => by simp [dotI]
  | [], _ :: _, _, _, h => by simp at h
  | _ :: _, [], _, _, h => by simp at h
  | a :: ar, x :: xs, b, y, h => by
    have := dotI_append ar xs b y (by simpa using h)
    simp only [List.cons_append, dotI, this]; omega
theorem dotI_zip (k : Int) : ∀ (cs ds x : List Int), cs.length = ds.length → dotI (List.zipWith (fun c a => c - k * a) cs ds) x = dotI cs x - k * dotI ds x
  | [], [], x, _ => by cases x <;> simp [dotI]
  | [], _ :: _, _, h => by simp at h
  | _ :: _, [], _, h => by simp at h
  | c :: cs, d :: ds, [], _ => by simp [dotI_nil]
  | c :: cs, d :: ds, v :: x, h => by
    have := dotI_zip k cs ds x (by simpa using h)
    simp only [List.zipWith_cons_cons, dotI, this, Int.sub_mul, Int.mul_add, Int.mul_assoc]; omega
def dropGo : List Upd → List Int → List Int × Int × List Int → List Int × Int × List Int
  | u :: us, b :: bs, q => if u.any then dropGo us bs (q.1, q.2.1, q.2.2 ++ [-b]) else dropGo us bs (List.zipWith (fun x a => x - b * a) q.1 u.expr.coefs, q.2.1 - b * u.expr.const, q.2.2)
  | _, _, q => q
def dropRow (nn : Bool) (next : List Upd) (a b : Row) (d : Int) : Row :=
  ⟨nn, (dropGo next b.coefs (a.coefs, a.const - b.const - d, [])).1 ++ (dropGo next b.coefs (a.coefs, a.const - b.const - d, [])).2.2, (dropGo next b.coefs (a.coefs, a.const - b.const - d, [])).2.1⟩
def newVals : List Upd → List Int → List Int → Prop
  | u :: us, vals, n :: ns => (u.any = false → n = rowI u.expr vals) ∧ newVals us vals ns
  | [], _, [] => True
  | _, _, _ => False
def anyVals : List Upd → List Int → List Int
  | u :: us, n :: ns => if u.any then n :: anyVals us ns else anyVals us ns
  | _, _ => []
theorem dropGo_len : ∀ (us : List Upd) (bs : List Int) (q : List Int × Int × List Int), (∀ u ∈ us, u.any = false → u.expr.coefs.length = q.1.length) → (dropGo us bs q).1.length = q.1.length
  | [], bs, q, _ => by cases bs <;> rfl
  | u :: us, [], q, _ => rfl
  | u :: us, b :: bs, q, h => by
    simp only [dropGo]
    split
    · exact dropGo_len us bs _ (fun x hx => h x (by simp [hx]))
    · rename_i hu
      have hl : (List.zipWith (fun x a => x - b * a) q.1 u.expr.coefs).length = q.1.length := by
        rw [List.length_zipWith, h u (by simp) (by simpa using hu), Nat.min_self]
      rw [dropGo_len us bs _ (fun x hx => by simp only [hl]; exact h x (by simp [hx])), hl]
theorem dropGo_val : ∀ (us : List Upd) (bs ns vals : List Int) (q : List Int × Int × List Int) (e : List Int), us.length = bs.length → newVals us vals ns → (∀ u ∈ us, u.any = false → u.expr.coefs.length = q.1.length) → q.2.2.length = e.length →
    dotI (dropGo us bs q).1 vals + dotI (dropGo us bs q).2.2 (e ++ anyVals us ns) + (dropGo us bs q).2.1 = dotI q.1 vals + dotI q.2.2 e + q.2.1 - dotI bs ns
  | [], [], ns, vals, q, e, _, _, _, _ => by simp only [dropGo, anyVals, List.append_nil, dotI_nil']; omega
  | [], _ :: _, _, _, _, _, h, _, _, _ => by simp at h
  | _ :: _, [], _, _, _, _, h, _, _, _ => by simp at h
  | u :: us, b :: bs, [], vals, q, e, _, hn, _, _ => by simp [newVals] at hn
  | u :: us, b :: bs, n :: ns, vals, q, e, hl, hn, hc, he => by
    obtain ⟨h1, h2⟩ := hn
    simp only [dropGo, anyVals, dotI]
    by_cases hu : u.any = true
    · rw [if_pos hu, if_pos hu]
      have ih := dropGo_val us bs ns vals (q.1, q.2.1, q.2.2 ++ [-b]) (e ++ [n]) (by simpa using hl) h2 (fun x hx => hc x (by simp [hx])) (by simp [he])
      rw [List.append_assoc, List.singleton_append] at ih
      rw [ih]
      simp only
      rw [dotI_append _ _ _ _ he]
      simp only [dotI, Int.neg_mul]; omega
    · rw [if_neg hu, if_neg hu]
      have hu : u.any = false := by simpa using hu
      have hcl := hc u (by simp) hu
      have hzl : (List.zipWith (fun x a => x - b * a) q.1 u.expr.coefs).length = q.1.length := by rw [List.length_zipWith, hcl, Nat.min_self]
      have ih := dropGo_val us bs ns vals (List.zipWith (fun x a => x - b * a) q.1 u.expr.coefs, q.2.1 - b * u.expr.const, q.2.2) e (by simpa using hl) h2 (fun x hx => by simp only [hzl]; exact hc x (by simp [hx])) he
      rw [ih]
      simp only
      rw [dotI_zip b _ _ _ hcl.symm, h1 hu]
      simp only [rowI, Int.mul_add]; omega
theorem drop_val {nn : Bool} {next : List Upd} {a b : Row} {d : Int} {vals ns : List Int} (hb : b.coefs.length = next.length) (hn : newVals next vals ns) (hc : ∀ u ∈ next, u.any = false → u.expr.coefs.length = a.coefs.length) (hv : vals.length = a.coefs.length) :
    rowI (dropRow nn next a b d) (vals ++ anyVals next ns) = rowI a vals - rowI b ns - d := by
  have h1 := dropGo_val next b.coefs ns vals (a.coefs, a.const - b.const - d, []) [] hb.symm hn hc rfl
  have h2 : (dropGo next b.coefs (a.coefs, a.const - b.const - d, [])).1.length = a.coefs.length := dropGo_len next b.coefs (a.coefs, a.const - b.const - d, []) hc
  simp only [List.nil_append, dotI_nil'] at h1
  show dotI ((dropGo next b.coefs (a.coefs, a.const - b.const - d, [])).1 ++ (dropGo next b.coefs (a.coefs, a.const - b.const - d, [])).2.2) (vals ++ anyVals next ns) + (dropGo next b.coefs (a.coefs, a.const - b.const - d, [])).2.1 = (dotI a.coefs vals + a.const) - (dotI b.coefs ns + b.const) - d
  rw [dotI_append _ _ _ _ (by omega)]
  omega
theorem dotQ_int : ∀ (cs vs : List Int), dotQ cs (vs.map fun v => ((v : Int) : Rat)) = ((dotI cs vs : Int) : Rat)
  | [], vs => by cases vs <;> rfl
  | c :: cs, [] => by simp only [List.map_nil, dotQ, dotI]; rfl
  | c :: cs, v :: vs => by simp only [List.map_cons, dotQ, dotI, dotQ_int cs vs, Rat.intCast_add, Rat.intCast_mul]
theorem rowQ_int (r : Row) (vs : List Int) : rowQ r (vs.map fun v => ((v : Int) : Rat)) = ((rowI r vs : Int) : Rat) := by
  unfold rowQ rowI
  rw [dotQ_int, Rat.intCast_add]
theorem rowQ_nonneg {r : Row} {vs : List Int} : 0 ≤ rowQ r (vs.map fun v => ((v : Int) : Rat)) ↔ 0 ≤ rowI r vs := by
  rw [rowQ_int]
  have : ((0 : Int) : Rat) = 0 := rfl
  rw [← this]
  exact Rat.intCast_le_intCast
theorem proves_int {V : Nat} {rows : List Row} {ms : List Nat} {sc : Nat} {row : Row} {vs : List Int} (hr : ∀ r ∈ rows, r.coefs.length = V) (hrow : row.coefs.length = V) (hp : ∀ r ∈ rows, 0 ≤ rowI r vs)
    (hc : lprovW (lsumR (List.replicate V zW) ⟨true, 0⟩ rows ms) row sc = true) : 0 ≤ rowI row vs :=
  rowQ_nonneg.1 (proves_sound hr hrow (fun r h => rowQ_nonneg.2 (hp r h)) hc)
end YtihgdplbehempaaGreat
end Go.Vm
end
section
set_option linter.unusedSimpArgs false
namespace Go.Vm
open Go Go.Proofs Go.Whole
namespace YtihgdplbehempaaGreat
open Go.Proofs.Tryz
structure Stage where
  fnn : Bool
  funcs : List Row
  snn : Bool
  strict : List Int
  bnn : Bool
  bounds : List Cert
  dnn : Bool
  drops : List Cert
def Stage.tr (s : Stage) : Tr := .agg [.sl s.fnn (s.funcs.map Row.tr), .sl s.snn (ints s.strict), .sl s.bnn (s.bounds.map Cert.tr), .sl s.dnn (s.drops.map Cert.tr)]
structure Ranking where
  nn : Bool
  stages : List Stage
def Ranking.tr (r : Ranking) : Tr := .agg [.sl r.nn (r.stages.map Stage.tr)]
attribute [go_sem] Stage.tr Ranking.tr
def acceptB (V : Int) (rows : List Row) (row : Row) (f : Cert) : Bool :=
  decide (sysErr V (rows ++ [row]) = 0) && okCert rows f && lprovW (lsumR (List.replicate V.toNat zW) ⟨true, 0⟩ rows f.ms) row f.scale
def strip (r : Row) : Row := { r with nn := true }
theorem accept_sound {V : Int} {rows : List Row} {row : Row} {f : Cert} {vs : List Int} (h : acceptB V rows row f = true) (hp : ∀ r ∈ rows, 0 ≤ rowI r vs) : 0 ≤ rowI row vs := by
  simp only [acceptB, Bool.and_eq_true, decide_eq_true_eq] at h
  obtain ⟨⟨h1, h2⟩, h3⟩ := h
  obtain ⟨W, rfl, hS⟩ := sys_of h1
  obtain ⟨hsl, hr1, _, _⟩ := hS.left
  rw [Int.toNat_natCast] at h3
  exact proves_int (fun r hr => (hsl.r r hr).1) hr1 hp h3
def zeroRow : Row := ⟨false, [], 0⟩
def rowAt (l : List Row) (i : Int) : Row := l.getD i.toNat zeroRow
def anysN (l : List Upd) : Nat := (l.filter (fun u => u.any)).length
def wide (n : Nat) (r : Row) : Row := ⟨true, r.coefs ++ List.replicate n 0, r.const⟩
def hasB (l : List Int) (t : Int) : Bool := l.any (fun y => t == y)
def byOf (strict : List Int) (t : Int) : Int := if hasB strict t then 1 else 0
def transAt (f : Flow) (t : Int) : Trans := f.trans.getD t.toNat ⟨0, 0, false, [], false, []⟩
def dropOf (f : Flow) (funcs : List Row) (t : Int) (d : Int) : Row := dropRow true (transAt f t).next (rowAt funcs (transAt f t).from_) (rowAt funcs (transAt f t).to_) d
def rowSmall (r : Row) : Bool := smallB r.const && r.coefs.all smallB
def isListGo (n : Int) : Int → List Int → Bool
  | _, [] => true
  | last, x :: r => if x ≤ last ∨ x ≥ n then false else isListGo n x r
def formErr (f : Flow) (s : Stage) (left : List Int) : Int :=
  if ((s.funcs.length : Int) != f.locs) || !(s.funcs.all (rightB f.vars)) then 4
  else if s.strict.isEmpty || !isListGo f.trans.length (-1) s.strict || !(s.strict.all (hasB left)) then 4
  else if ((s.bounds.length : Int) != s.strict.length) || ((s.drops.length : Int) != left.length) then 4
  else if left.all (fun t => rowSmall (dropOf f s.funcs t (byOf s.strict t))) then 0 else 3
def boundsOk (f : Flow) (s : Stage) : List Int → List Cert → Bool
  | t :: l, c :: cs => acceptB f.vars (transAt f t).guard (rowAt s.funcs (transAt f t).from_) c && boundsOk f s l cs
  | _, _ => true
def dropsOk (f : Flow) (s : Stage) : List Int → List Cert → Bool
  | t :: l, c :: cs => acceptB (f.vars + anysN (transAt f t).next) ((transAt f t).guard.map (wide (anysN (transAt f t).next))) (dropOf f s.funcs t (byOf s.strict t)) c && dropsOk f s l cs
  | _, _ => true
def provedB (f : Flow) (s : Stage) (left : List Int) : Bool := boundsOk f s s.strict s.bounds && dropsOk f s left s.drops
def without (left strict : List Int) : List Int := left.filter (fun t => !hasB strict t)
def allT (f : Flow) : List Int := (List.range f.trans.length).map (fun (n : Nat) => (n : Int))
noncomputable def rankGo (f : Flow) (all : Bool) : List Stage → List Int → List Int × Int
  | [], left => (left, 0)
  | s :: r, left => if formErr f s left ≠ 0 then ([], formErr f s left) else if (all && !provedB f s left) = true then ([], 11) else rankGo f all r (cyc f (without left s.strict))
noncomputable def remGo (f : Flow) : List Stage → List Int → List Int
  | [], left => left
  | s :: r, left => remGo f r (cyc f (without left s.strict))
noncomputable def remaining (f : Flow) (l : List Stage) : List Int := remGo f l (cyc f (allT f))
theorem rankGo_stage {f : Flow} {all : Bool} : ∀ {l : List Stage} {left : List Int}, (rankGo f all l left).2 = 0 → ∀ (i : Nat) s, l[i]? = some s → formErr f s (remGo f (l.take i) left) = 0 ∧ (all = true → provedB f s (remGo f (l.take i) left) = true)
  | [], _, _, i, s, hs => by simp at hs
  | x :: r, left, h, i, s, hs => by
    unfold rankGo at h
    split at h
    · rename_i hne; exact absurd h hne
    · rename_i h1
      split at h
      · cases h
      · rename_i h2
        cases i with
        | zero =>
          simp at hs; subst hs
          exact ⟨Decidable.not_not.1 h1, fun ha => by simp [ha] at h2; exact h2⟩
        | succ i => exact rankGo_stage h i s (by simpa using hs)
theorem hasB_iff {l : List Int} {t : Int} : hasB l t = true ↔ t ∈ l := by simp [hasB]
structure FormOk (f : Flow) (s : Stage) (left : List Int) : Prop where
  locs : (s.funcs.length : Int) = f.locs
  right : ∀ r ∈ s.funcs, rightB f.vars r = true
  ne : s.strict ≠ []
  incr : isListGo f.trans.length (-1) s.strict = true
  sub : ∀ t ∈ s.strict, t ∈ left
  bl : s.bounds.length = s.strict.length
  dl : s.drops.length = left.length
  small : ∀ t ∈ left, rowSmall (dropOf f s.funcs t (byOf s.strict t)) = true
theorem formOk {f : Flow} {s : Stage} {left : List Int} (h : formErr f s left = 0) : FormOk f s left := by
  unfold formErr at h
  split at h; · cases h
  rename_i h1
  split at h; · cases h
  rename_i h2
  split at h; · cases h
  rename_i h3
  split at h
  · rename_i h4
    simp only [Bool.or_eq_true, Bool.not_eq_true', not_or, Bool.not_eq_true, Bool.not_eq_false, bne_eq_false_iff_eq, List.all_eq_true] at h1 h2 h3 h4
    exact ⟨h1.1, h1.2, by simpa using h2.1.1, h2.1.2, fun t ht => hasB_iff.1 (h2.2 t ht), by omega, by omega, h4⟩
  · cases h
theorem boundsOk_get {f : Flow} {s : Stage} : ∀ {l : List Int} {cs : List Cert}, boundsOk f s l cs = true → l.length ≤ cs.length → ∀ t ∈ l, ∃ c, acceptB f.vars (transAt f t).guard (rowAt s.funcs (transAt f t).from_) c = true
  | [], _, _, _, t, ht => by simp at ht
  | _ :: _, [], _, hl, _, _ => by simp at hl
  | x :: l, c :: cs, h, hl, t, ht => by
    simp only [boundsOk, Bool.and_eq_true] at h
    rcases List.mem_cons.1 ht with rfl | ht
    · exact ⟨c, h.1⟩
    · exact boundsOk_get h.2 (by simpa using hl) t ht
theorem dropsOk_get {f : Flow} {s : Stage} : ∀ {l : List Int} {cs : List Cert}, dropsOk f s l cs = true → l.length ≤ cs.length → ∀ t ∈ l, ∃ c, acceptB (f.vars + anysN (transAt f t).next) ((transAt f t).guard.map (wide (anysN (transAt f t).next))) (dropOf f s.funcs t (byOf s.strict t)) c = true
  | [], _, _, _, t, ht => by simp at ht
  | _ :: _, [], _, hl, _, _ => by simp at hl
  | x :: l, c :: cs, h, hl, t, ht => by
    simp only [dropsOk, Bool.and_eq_true] at h
    rcases List.mem_cons.1 ht with rfl | ht
    · exact ⟨c, h.1⟩
    · exact dropsOk_get h.2 (by simpa using hl) t ht
structure GoodZ (f : Flow) (s : State) : Prop where
  flow : GoodF f
  loc1 : 0 ≤ s.loc
  loc2 : s.loc < f.locs
  vals : (s.vals.length : Int) = f.vars
theorem Good.z {f : Flow} {s : State} (h : Good f s) : GoodZ f s := ⟨h.flow, h.loc1, h.loc2, h.vals⟩
def StepOk (f : Flow) (s : State) (t : Int) (s' : State) : Prop := ∃ (n : Nat) (x : Trans), t = n ∧ f.trans[n]? = some x ∧ x.from_ = s.loc ∧ (∀ r ∈ x.guard, 0 ≤ rowI r s.vals) ∧ s'.loc = x.to_ ∧ newVals x.next s.vals s'.vals ∧ GoodZ f s ∧ GoodZ f s'
theorem rowI_wide {r : Row} {vals e : List Int} {n : Nat} (h : vals.length = r.coefs.length) : rowI (wide n r) (vals ++ e) = rowI r vals := by
  unfold rowI wide
  simp only
  rw [dotI_append _ _ _ _ h.symm]
  have : ∀ (m : Nat) (l : List Int), dotI (List.replicate m 0) l = 0 := by
    intro m
    induction m with
    | zero => intro l; exact dotI_nil' l
    | succ m ih =>
      intro l
      cases l with
      | nil => exact dotI_nil _
      | cons x l => simp only [List.replicate_succ, dotI, ih]; omega
  rw [this]; omega
theorem rowAt_mem {l : List Row} {i : Int} (h0 : 0 ≤ i) (h1 : i < l.length) : rowAt l i ∈ l := by
  unfold rowAt
  rw [List.getD_eq_getElem?_getD, List.getElem?_eq_getElem (by omega)]
  exact List.getElem_mem _
theorem transAt_of {f : Flow} {n : Nat} {x : Trans} (h : f.trans[n]? = some x) : transAt f (n : Int) = x := by
  unfold transAt; simp [List.getD, h]
def stageVal (s : Stage) (a : State) : Int := rowI (rowAt s.funcs a.loc) a.vals
theorem stage_step {f : Flow} {s : Stage} {left : List Int} (hf : FormOk f s left) (hp : provedB f s left = true) {a b : State} {t : Int} (h : StepOk f a t b) (ht : t ∈ left) :
    stageVal s b ≤ stageVal s a ∧ (t ∈ s.strict → 0 ≤ stageVal s a ∧ stageVal s b ≤ stageVal s a - 1) := by
  simp only [provedB, Bool.and_eq_true] at hp
  obtain ⟨n, x, rfl, hx, hfrom, hguard, hloc, hvals, hg, hg'⟩ := h
  have hxm := List.mem_of_getElem? hx
  have hT := hg.flow.all x hxm
  have htr := transAt_of hx
  have hva := hg.vals
  have hvb := hg'.vals
  have hR : ∀ l : Int, 0 ≤ l → l < f.locs → rightB f.vars (rowAt s.funcs l) = true := fun l h0 h1 => hf.right _ (rowAt_mem h0 (by rw [hf.locs]; exact h1))
  have ha := right_len (hR a.loc hg.loc1 hg.loc2)
  have hb := right_len (hR b.loc hg'.loc1 hg'.loc2)
  have hnext := hT.next
  have hup : ∀ u ∈ x.next, u.any = false → u.expr.coefs.length = (rowAt s.funcs a.loc).coefs.length := fun u hu hany => by
    have := hT.upd u hu
    simp only [updB, hany, Bool.false_eq_true, if_false] at this
    have := right_len this
    omega
  have hval := drop_val (nn := true) (next := x.next) (a := rowAt s.funcs a.loc) (b := rowAt s.funcs b.loc) (d := byOf s.strict n) (vals := a.vals) (ns := b.vals) (by omega) hvals hup (by omega)
  obtain ⟨c, hc⟩ := dropsOk_get hp.2 (by rw [hf.dl]; exact Nat.le_refl _) _ ht
  rw [htr] at hc
  have hdrop : dropOf f s.funcs n (byOf s.strict n) = dropRow true x.next (rowAt s.funcs a.loc) (rowAt s.funcs b.loc) (byOf s.strict n) := by
    unfold dropOf; rw [htr, hfrom, hloc]
  have h0 := accept_sound (vs := a.vals ++ anyVals x.next b.vals) hc (fun r hr => by
    obtain ⟨g, hgm, rfl⟩ := List.mem_map.1 hr
    have := right_len (hT.right g hgm)
    rw [rowI_wide (by omega)]
    exact hguard g hgm)
  rw [hdrop, hval] at h0
  have hby : 0 ≤ byOf s.strict n := by unfold byOf; split <;> omega
  refine ⟨by unfold stageVal; omega, fun hs => ?_⟩
  have hby1 : byOf s.strict n = 1 := if_pos (hasB_iff.2 hs)
  obtain ⟨c2, hc2⟩ := boundsOk_get hp.1 (by rw [hf.bl]; exact Nat.le_refl _) _ hs
  rw [htr, hfrom] at hc2
  have h1 := accept_sound (vs := a.vals) hc2 hguard
  unfold stageVal
  exact ⟨h1, by omega⟩
end YtihgdplbehempaaGreat
end Go.Vm
end
section
set_option linter.unusedSimpArgs false
set_option maxRecDepth 10000
namespace Go.Vm
open Go Go.Proofs Go.Whole
namespace YtihgdplbehempaaGreat
open Go.Proofs.Tryz
attribute [go_sem] Tryz.results121 Tryz.results197 Tryz.results120 Tryz.results231 Tryz.results201 Tryz.results125 Tryz.results126 Tryz.results200 Tryz.results247 Tryz.results123 Tryz.results57
theorem GoodF.tr {f : Flow} (hf : GoodF f) {n : Nat} (hn : f.locs = n) {i : Nat} {t : Trans} (ht : f.trans[i]? = some t) : ∃ a b : Nat, t.from_ = a ∧ a < n ∧ t.to_ = b ∧ b < n := by
  have h := hf.all t (List.mem_of_getElem? ht)
  have h1 := h.from1; have h2 := h.from2; have h3 := h.to1; have h4 := h.to2
  exact ⟨t.from_.toNat, t.to_.toNat, by omega, by omega, by omega, by omega⟩
def InF (f : Flow) (keep : List Int) : Prop := ∀ i ∈ keep, 0 ≤ i ∧ i < f.trans.length
theorem InF.get {f : Flow} {keep : List Int} (h : InF f keep) {i : Int} (hi : i ∈ keep) : ∃ (j : Nat) (t : Trans), i = j ∧ f.trans[j]? = some t := by
  obtain ⟨h1, h2⟩ := h i hi
  have h3 : i.toNat < f.trans.length := by omega
  exact ⟨i.toNat, _, by omega, List.getElem?_eq_getElem h3⟩
end YtihgdplbehempaaGreat
end Go.Vm
end
section
set_option linter.unusedSimpArgs false
set_option maxRecDepth 10000
namespace Go.Vm
open Go Go.Proofs Go.Whole
namespace YtihgdplbehempaaGreat
open Go.Proofs.Tryz
attribute [go_sem] Tryz.results168 Tryz.results261 Tryz.results237 Tryz.results234 Tryz.results235 Tryz.results236 Tryz.results175 Tryz.results193 Tryz.results194 Tryz.results195
end YtihgdplbehempaaGreat
end Go.Vm
end
section
set_option linter.unusedSimpArgs false
set_option maxRecDepth 10000
namespace Go.Vm
open Go Go.Proofs Go.Whole
namespace YtihgdplbehempaaGreat
open Go.Proofs.Tryz
theorem hnext_fst (h : Hp) (d : Nat) : (hnext h d).1 = d := rfl
def HeldAt (h : Hp) (d : Nat) : Nat → List Row → Prop
  | _, [] => True
  | j, r :: l => hget h (d, j) = some ⟨(ints r.coefs).map .t, 1, r.coefs.length, tI64, false, true⟩ ∧ HeldAt h d (j + 1) l
theorem HeldAt.keep {h h' : Hp} {d : Nat} : ∀ {l : List Row} {j : Nat}, HeldAt h d j l → (∀ i, j ≤ i → i < j + l.length → hget h' (d, i) = hget h (d, i)) → HeldAt h' d j l
  | [], _, _, _ => trivial
  | x :: l, j, h1, h2 => ⟨by rw [h2 j (by omega) (by simp)]; exact h1.1, h1.2.keep fun i hi1 hi2 => h2 i (by omega) (by simp only [List.length_cons]; omega)⟩
theorem hset_self {h : Hp} {id : Id} {o : Obj} (ho : hget h id = some o) : hset h id o = h := by
  unfold hset
  funext c
  unfold upd
  split
  · rename_i e
    subst e
    unfold hget at ho
    apply List.ext_getElem?
    intro j
    rw [List.getElem?_set]
    split
    · rename_i e2
      subst e2
      rw [ho, if_pos (List.getElem?_eq_some_iff.1 ho).1]
    · rfl
  · rfl
section
variable {P : Program} {mu : Nat → Bool} {h : Hp} {t e : TypeId} {esz by_ : Nat} {ag ag' : Bool} {cs cs' : List PV} {id id' : Id} {n m : Nat}
theorem append_rfA {d : Option Tmp} {nn' : Bool} {xs : List Tr} (hel : elemB P t = some e) (hsz : P.cellsOf e = esz) (hz : (zeroB P e).map List.length = some esz) (h1 : Nat.blt 0 esz = true) (hby : P.bytesOf e = by_)
    (hx : ∀ x ∈ xs, x.cells.length = esz) (hg : hget h id = some ⟨cs, esz, n, e, ag, true⟩) (hb : (n + xs.length) * by_ ≤ 140737488355328 ∧ n + xs.length ≤ 4611686018427387904) :
    appendPV P mu d t (.rf id n) (.t (.sl nn' xs)) h = some (.rf id (n + xs.length), hset h id ⟨cs ++ (flat xs).map .t, esz, n + xs.length, e, ag, true⟩) := by
  by_cases hne : xs = []
  · subst hne
    have hpos : 0 < esz := by simp [Nat.blt] at h1; omega
    have hzz : ∃ z, zeroB P e = some z ∧ z.length = esz := by
      cases hzz : zeroB P e with
      | none => rw [hzz] at hz; cases hz
      | some z => rw [hzz] at hz; exact ⟨z, rfl, by simpa using hz⟩
    obtain ⟨z, hz1, hz2⟩ := hzz
    unfold appendPV
    simp only [hel, hz1, srcPV, flat, List.flatMap_nil, List.length_nil, Nat.zero_mul, hsz, if_true, hz2, true_and, hg, hby, Nat.add_zero, List.map_nil, List.append_nil] at hb ⊢
    rw [if_pos hpos, if_pos hb, hset_self hg]
  · exact append_rf2 hel hsz hz h1 hby hx hg hb hne
theorem append_rr {d : Option Tmp} (hel : elemB P t = some e) (hsz : P.cellsOf e = esz) (hz : (zeroB P e).map List.length = some esz) (h1 : Nat.blt 0 esz = true) (hby : P.bytesOf e = by_)
    (hg : hget h id = some ⟨cs, esz, n, e, ag, true⟩) (hg' : hget h id' = some ⟨cs', esz, m, e, ag', true⟩) (hm : Nat.blt 0 m = true) (hb : (n + m) * by_ ≤ 140737488355328 ∧ n + m ≤ 4611686018427387904) :
    appendPV P mu d t (.rf id n) (.rf id' m) h = some (.rf id (n + m), hset h id ⟨cs ++ cs', esz, n + m, e, ag, true⟩) := by
  have hpos : 0 < esz := by simp [Nat.blt] at h1; omega
  have hm0 : m ≠ 0 := by simp [Nat.blt] at hm; omega
  have hzz : ∃ z, zeroB P e = some z ∧ z.length = esz := by
    cases hzz : zeroB P e with
    | none => rw [hzz] at hz; cases hz
    | some z => rw [hzz] at hz; exact ⟨z, rfl, by simpa using hz⟩
  obtain ⟨z, hz1, hz2⟩ := hzz
  unfold appendPV
  simp only [hel, hz1, srcPV, hg', hsz, and_self, if_true, hz2, true_and, hg, hby]
  rw [if_pos hpos, if_pos hb, if_neg hm0]
end
end YtihgdplbehempaaGreat
end Go.Vm
end
section
set_option linter.unusedSimpArgs false
set_option maxRecDepth 10000
namespace Go.Vm
open Go Go.Proofs Go.Whole
namespace YtihgdplbehempaaGreat
open Go.Proofs.Tryz
def RowAt (h : Hp) (v : PV) (l : List Int) : Prop := (v = .t (.sl false []) ∧ l = []) ∨ (∃ id : Id, (id.1 = 5 ∨ id.1 = 9) ∧ v = .rf id l.length ∧ hget h id = some ⟨(ints l).map .t, 1, l.length, tI64, false, true⟩)
theorem RowAt.keep {h h' : Hp} {v : PV} {l : List Int} (hr : RowAt h v l) (h5 : h' 5 = h 5) (h9 : h' 9 = h 9) : RowAt h' v l := by
  rcases hr with hr | ⟨id, hid, h1, h2⟩
  · exact .inl hr
  · refine .inr ⟨id, hid, h1, ?_⟩
    rw [hget_site (h' := h') (h := h) (by rcases hid with e | e <;> rw [e] <;> assumption)]
    exact h2
end YtihgdplbehempaaGreat
end Go.Vm
end
section
set_option linter.unusedSimpArgs false
set_option maxRecDepth 10000
namespace Go.Vm
open Go Go.Proofs Go.Whole
namespace YtihgdplbehempaaGreat
open Go.Proofs.Tryz
theorem append_own {mu : Nat → Bool} {d : Option Tmp} {h : Hp} {id : Id} {n : Nat} {C M : List Int} {v : PV} {site : Nat} (hg : hget h id = some ⟨(ints C).map .t, 1, n, tI64, false, true⟩) (ho : Own h site tI64 1 false v (!M.isEmpty) (ints M)) (hb : n + M.length ≤ 1000000) :
    appendPV Tryz.prog mu d 35 (.rf id n) v h = some (.rf id (n + M.length), hset h id ⟨(ints (C ++ M)).map .t, 1, n + M.length, tI64, false, true⟩) := by
  have e : (ints (C ++ M)).map PV.t = (ints C).map .t ++ (flat (ints M)).map .t := by rw [flat_ints]; simp
  rw [e]
  rcases ho.is with ⟨h0, h1, rfl⟩ | ⟨h0, id2, h1, rfl, h3⟩
  · have hM : M = [] := by simpa using h1
    subst hM
    have := append_rfA (P := Tryz.prog) (mu := mu) (d := d) (t := 35) (nn' := false) (xs := []) (esz := 1) (e := tI64) (ag := false) (by_ := 8) (by kernel_rfl) (by kernel_rfl) (by kernel_rfl) rfl (by kernel_rfl) (fun y hy => by simp at hy) hg (by simp at hb ⊢; omega)
    simpa using this
  · have hl : (ints M).length = M.length := by simp
    rw [hl] at h3 ⊢
    have hM : 0 < M.length := by cases M with | nil => simp at h0 | cons => simp
    exact append_rr (esz := 1) (e := tI64) (by_ := 8) (by kernel_rfl) (by kernel_rfl) (by kernel_rfl) rfl (by kernel_rfl) hg h3 (by simp [Nat.blt]; omega) (by omega)
end YtihgdplbehempaaGreat
end Go.Vm
end
section
set_option linter.unusedSimpArgs false
set_option maxRecDepth 10000
namespace Go.Vm
open Go Go.Proofs Go.Whole
namespace YtihgdplbehempaaGreat
open Go.Proofs.Tryz
attribute [go_sem] Tryz.results191 Tryz.results229 Tryz.results230 Tryz.results233 Tryz.results232 Tryz.results260 Tryz.results170 Tryz.results192 Tryz.results114 Tryz.results45 Tryz.results58 Tryz.results48 Tryz.results49
end YtihgdplbehempaaGreat
end Go.Vm
end
section
set_option linter.unusedSimpArgs false
namespace Go.Vm
open Go Go.Proofs Go.Whole
namespace YtihgdplbehempaaGreat
open Go.Proofs.Tryz
def Exec (f : Flow) (S : List State) (T : List Int) : Prop := S.length = T.length + 1 ∧ (∀ s ∈ S, Good f s) ∧ ∀ (k : Nat) t, T[k]? = some t → ∃ a b, S[k]? = some a ∧ S[k + 1]? = some b ∧ StepOk f a t b
def CycPath (f : Flow) (p : List Int) : Prop := p ≠ [] ∧ (∀ t ∈ p, 0 ≤ t ∧ t < f.trans.length) ∧ ∀ (i : Nat) a b, p[i]? = some a → p[(i + 1) % p.length]? = some b → (transAt f a).to_ = (transAt f b).from_
theorem transAt_get {f : Flow} {t : Int} (h0 : 0 ≤ t) (h1 : t < f.trans.length) : f.trans[t.toNat]? = some (transAt f t) := by
  unfold transAt
  rw [List.getD_eq_getElem?_getD, List.getElem?_eq_getElem (by omega)]; rfl
theorem cycPath_reach {f : Flow} {p keep : List Int} (h : CycPath f p) (hk : ∀ t ∈ p, t ∈ keep) {i : Nat} {a : Int} (ha : p[i]? = some a) : ∀ (k : Nat) b, p[(i + k + 1) % p.length]? = some b → Reach f keep (transAt f a).to_ (transAt f b).from_
  | 0, b, hb => by rw [h.2.2 i a b ha hb]; exact .refl
  | k + 1, b, hb => by
    have hpos : 0 < p.length := List.length_pos_iff.2 h.1
    have hlt : (i + k + 1) % p.length < p.length := Nat.mod_lt _ hpos
    obtain ⟨c, hc⟩ : ∃ c, p[(i + k + 1) % p.length]? = some c := ⟨_, List.getElem?_eq_getElem hlt⟩
    have ih := cycPath_reach h hk ha k c hc
    have hcm := List.mem_of_getElem? hc
    obtain ⟨g0, g1⟩ := h.2.1 c hcm
    have hst := Reach.step (hk c hcm) (transAt_get g0 g1) ih
    rw [h.2.2 _ c b hc (by rw [← hb]; congr 1; rw [Nat.mod_add_mod, show i + k + 1 + 1 = i + (k + 1) + 1 by omega])] at hst
    exact hst
theorem cycPath_cyc {f : Flow} {p keep : List Int} (h : CycPath f p) (hk : ∀ t ∈ p, t ∈ keep) : ∀ t ∈ p, t ∈ cyc f keep := by
  intro t ht
  obtain ⟨i, hi⟩ := List.mem_iff_getElem?.1 ht
  have hil : i < p.length := (List.getElem?_eq_some_iff.1 hi).1
  obtain ⟨g0, g1⟩ := h.2.1 t ht
  refine List.mem_filter.2 ⟨hk t ht, ?_⟩
  unfold onCyc
  rw [transAt_get g0 g1]
  simp only
  refine reachB_iff.2 (cycPath_reach h hk hi (p.length - 1) t ?_)
  rw [show i + (p.length - 1) + 1 = i + p.length by omega, Nat.add_mod_right, Nat.mod_eq_of_lt hil]
  exact hi
structure RankOk (f : Flow) (r : Ranking) : Prop where
  flow : GoodF f
  stages : r.stages.length ≤ 32
  go : (rankGo f true r.stages (cyc f (allT f))).2 = 0
  done : remaining f r.stages = []
noncomputable def leftAt (f : Flow) (r : Ranking) (i : Nat) : List Int := remaining f (r.stages.take i)
theorem RankOk.stage {f : Flow} {r : Ranking} (h : RankOk f r) {i : Nat} {s : Stage} (hs : r.stages[i]? = some s) : FormOk f s (leftAt f r i) ∧ provedB f s (leftAt f r i) = true := by
  obtain ⟨h1, h2⟩ := rankGo_stage h.go i s hs
  exact ⟨formOk h1, h2 rfl⟩
theorem mem_allT {f : Flow} {t : Int} : t ∈ allT f ↔ 0 ≤ t ∧ t < f.trans.length := by
  unfold allT
  rw [List.mem_map]
  constructor
  · rintro ⟨n, hn, rfl⟩
    rw [List.mem_range] at hn; omega
  · rintro ⟨h0, h1⟩
    exact ⟨t.toNat, by rw [List.mem_range]; omega, by omega⟩
theorem cyc_zero {f : Flow} {r : Ranking} {p : List Int} (hp : CycPath f p) : ∀ t ∈ p, t ∈ leftAt f r 0 :=
  cycPath_cyc hp fun t ht => mem_allT.2 (hp.2.1 t ht)
theorem RankOk.last {f : Flow} {r : Ranking} (h : RankOk f r) {p : List Int} (hp : CycPath f p) : ∃ i, i < r.stages.length ∧ (∀ t ∈ p, t ∈ leftAt f r i) ∧ ∀ j, i < j → j < r.stages.length → ¬ ∀ t ∈ p, t ∈ leftAt f r j := by
  have key : ∀ d i, i + d = r.stages.length → (∀ j, i ≤ j → j < r.stages.length → ¬ ∀ t ∈ p, t ∈ leftAt f r j) ∨ ∃ i', i ≤ i' ∧ i' < r.stages.length ∧ (∀ t ∈ p, t ∈ leftAt f r i') ∧ ∀ j, i' < j → j < r.stages.length → ¬ ∀ t ∈ p, t ∈ leftAt f r j := by
    intro d
    induction d with
    | zero => intro i hi; exact .inl fun j h1 h2 => by omega
    | succ d ih =>
      intro i hi
      rcases ih (i + 1) (by omega) with h1 | ⟨i', h1, h2, h3, h4⟩
      · by_cases hc : ∀ t ∈ p, t ∈ leftAt f r i
        · exact .inr ⟨i, Nat.le_refl _, by omega, hc, fun j h2 h3 => h1 j (by omega) h3⟩
        · refine .inl fun j h2 h3 => ?_
          by_cases e : j = i
          · subst e; exact hc
          · exact h1 j (by omega) h3
      · exact .inr ⟨i', by omega, h2, h3, h4⟩
  rcases key r.stages.length 0 (by omega) with h1 | ⟨i', _, h2, h3, h4⟩
  · exfalso
    by_cases h0 : 0 < r.stages.length
    · exact h1 0 (Nat.le_refl _) h0 (cyc_zero hp)
    · have he : r.stages = [] := List.eq_nil_of_length_eq_zero (by omega)
      obtain ⟨t, ht⟩ := List.exists_mem_of_ne_nil _ hp.1
      have h2 := cyc_zero (r := r) hp t ht
      have h3 := h.done
      unfold leftAt at h2
      rw [he] at h2 h3
      simp only [List.take_nil] at h2
      rw [h3] at h2; cases h2
  · exact ⟨i', h2, h3, h4⟩
theorem isList_room {n : Int} : ∀ {l : List Int} {a : Int}, isListGo n a l = true → a < n → (l.length : Int) ≤ n - 1 - a
  | [], _, _, h => by simp; omega
  | y :: r, a, h, ha => by
    unfold isListGo at h
    split at h
    · cases h
    · rename_i hc
      have := isList_room h (by omega)
      simp only [List.length_cons]; omega
theorem isList_all {n : Int} : ∀ {l : List Int} {a : Int}, isListGo n a l = true → (l.length : Int) = n - 1 - a → ∀ x, a < x → x < n → x ∈ l
  | [], a, _, hl, x, h1, h2 => by simp at hl; omega
  | y :: r, a, h, hl, x, h1, h2 => by
    unfold isListGo at h
    split at h
    · cases h
    · rename_i hc
      have hr := isList_room h (by omega)
      simp only [List.length_cons] at hl
      have hy : y = a + 1 := by omega
      by_cases hx : x = y
      · simp [hx]
      · exact List.mem_cons_of_mem _ (isList_all h (by omega) x (by omega) h2)
theorem exec_short {f : Flow} {s : Stage} {left : List Int} (hf : FormOk f s left) (hp : provedB f s left = true) {S : List State} {T : List Int} (h : Exec f S T) (hT : ∀ t ∈ T, t ∈ s.strict) {a : State} (ha : S[0]? = some a) :
    ∀ k, k ≤ T.length → ∀ b, S[k]? = some b → stageVal s b ≤ stageVal s a - k ∧ (k < T.length → 0 ≤ stageVal s b) := by
  intro k
  induction k with
  | zero =>
    intro _ b hb
    rw [ha] at hb; cases hb
    refine ⟨by omega, fun hk => ?_⟩
    obtain ⟨x, y, h1, h2, h3⟩ := h.2.2 0 T[0] (List.getElem?_eq_getElem hk)
    rw [ha] at h1; cases h1
    have hm := hT _ (List.getElem_mem hk)
    exact ((stage_step hf hp h3 (hf.sub _ hm)).2 hm).1
  | succ k ih =>
    intro hk b hb
    obtain ⟨x, y, h1, h2, h3⟩ := h.2.2 k T[k] (List.getElem?_eq_getElem (by omega))
    rw [hb] at h2; cases h2
    have hm := hT _ (List.getElem_mem (by omega : k < T.length))
    obtain ⟨g1, g2⟩ := ih (by omega) x h1
    have g3 := ((stage_step hf hp h3 (hf.sub _ hm)).2 hm).2
    refine ⟨by omega, fun hk2 => ?_⟩
    obtain ⟨x', y', h1', h2', h3'⟩ := h.2.2 (k + 1) T[k + 1] (List.getElem?_eq_getElem hk2)
    rw [hb] at h1'; cases h1'
    have hm' := hT _ (List.getElem_mem hk2)
    exact ((stage_step hf hp h3' (hf.sub _ hm')).2 hm').1
theorem step_trans {f : Flow} {a b : State} {t : Int} (h : StepOk f a t b) : 0 ≤ t ∧ t < f.trans.length ∧ (transAt f t).from_ = a.loc ∧ (transAt f t).to_ = b.loc := by
  obtain ⟨n, x, rfl, hx, h1, _, h2, _⟩ := h
  have := (List.getElem?_eq_some_iff.1 hx).1
  rw [transAt_of hx]
  exact ⟨by omega, by omega, h1, h2.symm⟩
theorem RankOk.bound {f : Flow} {r : Ranking} (h : RankOk f r) {s : Stage} (hs : r.stages = [s]) (hl : s.strict.length = f.trans.length) {S : List State} {T : List Int} (hE : Exec f S T) {a : State} (ha : S[0]? = some a) :
    (T.length : Int) ≤ max (stageVal s a + 1) 0 := by
  obtain ⟨hf, hp⟩ := h.stage (i := 0) (s := s) (by rw [hs]; rfl)
  have hT : ∀ t ∈ T, t ∈ s.strict := by
    intro t ht
    obtain ⟨k, hk⟩ := List.mem_iff_getElem?.1 ht
    obtain ⟨x, y, _, _, h3⟩ := hE.2.2 k t hk
    obtain ⟨g0, g1, _⟩ := step_trans h3
    exact isList_all hf.incr (by omega) t (by omega) g1
  by_cases h0 : T.length = 0
  · omega
  · have hlen := hE.1
    obtain ⟨b, hb⟩ : ∃ b, S[T.length - 1]? = some b := ⟨_, List.getElem?_eq_getElem (by omega)⟩
    obtain ⟨g1, g2⟩ := exec_short hf hp hE hT ha (T.length - 1) (by omega) b hb
    have := g2 (by omega)
    omega
end YtihgdplbehempaaGreat
end Go.Vm
end
section
set_option linter.unusedSimpArgs false
namespace Go.Vm
open Go Go.Proofs Go.Whole
namespace YtihgdplbehempaaGreat
open Go.Proofs.Tryz
structure Spot where
  loc : Int
  rnn : Bool
  rows : List Row
  trans : Int
  nnn : Bool
  next : List Row
  goto : Int
  enn : Bool
  enter : List Cert
  ynn : Bool
  stay : List Cert
def Spot.tr (s : Spot) : Tr := .agg [i64 s.loc, .sl s.rnn (s.rows.map Row.tr), i64 s.trans, .sl s.nnn (s.next.map Row.tr), i64 s.goto, .sl s.enn (s.enter.map Cert.tr), .sl s.ynn (s.stay.map Cert.tr)]
structure Recur where
  start : State
  tnn : Bool
  trans : List Int
  dnn : Bool
  draws : List Int
  snn : Bool
  spots : List Spot
def Recur.cs (r : Recur) : List Tr := [i64 r.start.loc, .sl r.start.vnn (ints r.start.vals), .sl r.tnn (ints r.trans), .sl r.dnn (ints r.draws), .sl r.snn (r.spots.map Spot.tr)]
def Recur.tr (r : Recur) : Tr := .agg r.cs
attribute [go_sem] Spot.tr Recur.tr Recur.cs
def zeroSpot : Spot := ⟨0, false, [], 0, false, [], 0, false, [], false, []⟩
def spotAt (r : Recur) (i : Int) : Spot := r.spots.getD i.toNat zeroSpot
def updRows : List Upd → List Row → List Row
  | u :: us, ns => if u.any then (ns.headD zeroRow) :: updRows us ns.tail else u.expr :: updRows us ns
  | [], _ => []
def afterGo : List Row → List Int → List Int × Int → List Int × Int
  | x :: xs, b :: bs, q => afterGo xs bs (List.zipWith (fun y a => y + b * a) q.1 x.coefs, q.2 + b * x.const)
  | _, _, q => q
def afterRow (V : Nat) (r : Row) (next : List Row) : Row := ⟨true, (afterGo next r.coefs (List.replicate V 0, r.const)).1, (afterGo next r.coefs (List.replicate V 0, r.const)).2⟩
def spotErr (f : Flow) (r : Recur) (s : Spot) : Int :=
  if s.loc < 0 ∨ s.loc ≥ f.locs ∨ s.trans < 0 ∨ s.trans ≥ f.trans.length ∨ s.goto < 0 ∨ s.goto ≥ r.spots.length then 8
  else if (transAt f s.trans).from_ ≠ s.loc ∨ (transAt f s.trans).to_ ≠ (spotAt r s.goto).loc then 4
  else if s.rows.length > 16 then 3
  else if (s.rows.all (rightB f.vars) && s.next.all (rightB f.vars)) = true ∧ s.next.length = anysN (transAt f s.trans).next ∧ s.enter.length = (transAt f s.trans).guard.length ∧ s.stay.length = (spotAt r s.goto).rows.length then 0 else 4
def acceptAll (V : Int) (rows : List Row) : List Row → List Cert → Bool
  | g :: gs, c :: cs => acceptB V rows g c && acceptAll V rows gs cs
  | _, _ => true
def afterRows (f : Flow) (r : Recur) (s : Spot) : List Row := (spotAt r s.goto).rows.map (fun x => afterRow f.vars.toNat x (updRows (transAt f s.trans).next s.next))
def proofErr (f : Flow) (r : Recur) (s : Spot) : Int :=
  if acceptAll f.vars s.rows (transAt f s.trans).guard s.enter = false then 11
  else if (afterRows f r s).all (rightB f.vars) = false then 3
  else if acceptAll f.vars s.rows (afterRows f r s) s.stay = false then 11 else 0
def inSpot (s : Spot) (x : State) : Bool := (s.loc == x.loc) && s.rows.all (holdB x.vals)
def startR (f : Flow) (r : Recur) : List State × Int :=
  if stateErr f r.start ≠ 0 then ([], stateErr f r.start) else if r.start.loc ≠ f.start then ([], 4) else traceR f r.start r.trans r.draws
def lastS (l : List State) : State := l.getD (l.length - 1) zeroS
theorem dotI_zipA (k : Int) : ∀ (cs ds x : List Int), cs.length = ds.length → dotI (List.zipWith (fun c a => c + k * a) cs ds) x = dotI cs x + k * dotI ds x
  | [], [], x, _ => by cases x <;> simp [dotI]
  | [], _ :: _, _, h => by simp at h
  | _ :: _, [], _, h => by simp at h
  | c :: cs, d :: ds, [], _ => by simp [dotI_nil]
  | c :: cs, d :: ds, v :: x, h => by
    have := dotI_zipA k cs ds x (by simpa using h)
    simp only [List.zipWith_cons_cons, dotI, this, Int.add_mul, Int.mul_add, Int.mul_assoc]; omega
theorem afterGo_val (V : Nat) (vals : List Int) : ∀ (xs : List Row) (bs : List Int) (q : List Int × Int), q.1.length = V → (∀ x ∈ xs, x.coefs.length = V) →
    dotI (afterGo xs bs q).1 vals + (afterGo xs bs q).2 = dotI q.1 vals + q.2 + dotI bs (xs.map fun x => rowI x vals)
  | [], bs, q, _, _ => by cases bs <;> simp [afterGo, dotI]
  | x :: xs, [], q, _, _ => by simp [afterGo, dotI]
  | x :: xs, b :: bs, q, h, hx => by
    have hxl := hx x (by simp)
    have ih := afterGo_val V vals xs bs (List.zipWith (fun y a => y + b * a) q.1 x.coefs, q.2 + b * x.const) (by simp only [List.length_zipWith, h, hxl, Nat.min_self]) (fun y hy => hx y (by simp [hy]))
    simp only [afterGo, List.map_cons, dotI] at ih ⊢
    rw [ih, dotI_zipA b _ _ _ (by omega)]
    simp only [rowI, Int.mul_add]; omega
theorem dotI_zeros : ∀ (m : Nat) (l : List Int), dotI (List.replicate m 0) l = 0
  | 0, l => dotI_nil' l
  | m + 1, [] => dotI_nil _
  | m + 1, x :: l => by simp only [List.replicate_succ, dotI, dotI_zeros m l]; omega
theorem after_val {V : Nat} {r : Row} {next : List Row} {vals : List Int} (hx : ∀ x ∈ next, x.coefs.length = V) : rowI (afterRow V r next) vals = rowI r (next.map fun x => rowI x vals) := by
  have := afterGo_val V vals next r.coefs (List.replicate V 0, r.const) (by simp) hx
  simp only [dotI_zeros] at this
  show dotI (afterGo next r.coefs (List.replicate V 0, r.const)).1 vals + (afterGo next r.coefs (List.replicate V 0, r.const)).2 = dotI r.coefs (next.map fun x => rowI x vals) + r.const
  omega
structure StuckOk (f : Flow) (r : Recur) : Prop where
  good : Good f r.start
  start : r.start.loc = f.start
  trace : (startR f r).2 = 0
  few : r.spots.length ≤ 16
  ne : r.spots ≠ []
  spot : ∀ s ∈ r.spots, spotErr f r s = 0
  inn : inSpot (spotAt r 0) (lastS (startR f r).1) = true
  proof : ∀ s ∈ r.spots, proofErr f r s = 0
structure SpotOk (f : Flow) (r : Recur) (s : Spot) : Prop where
  loc1 : 0 ≤ s.loc
  loc2 : s.loc < f.locs
  tr1 : 0 ≤ s.trans
  tr2 : s.trans < f.trans.length
  go1 : 0 ≤ s.goto
  go2 : s.goto < r.spots.length
  from_ : (transAt f s.trans).from_ = s.loc
  to_ : (transAt f s.trans).to_ = (spotAt r s.goto).loc
  few : s.rows.length ≤ 16
  rows : ∀ x ∈ s.rows, rightB f.vars x = true
  next : ∀ x ∈ s.next, rightB f.vars x = true
  nl : s.next.length = anysN (transAt f s.trans).next
  el : s.enter.length = (transAt f s.trans).guard.length
  sl : s.stay.length = (spotAt r s.goto).rows.length
theorem spotOk {f : Flow} {r : Recur} {s : Spot} (h : spotErr f r s = 0) : SpotOk f r s := by
  unfold spotErr at h
  split at h; · cases h
  rename_i h1
  split at h; · cases h
  rename_i h2
  split at h; · cases h
  rename_i h3
  split at h
  · rename_i h4
    obtain ⟨h4, h5, h6, h7⟩ := h4
    simp only [Bool.and_eq_true, List.all_eq_true] at h4
    simp only [not_or, Decidable.not_not] at h1 h2
    exact ⟨by omega, by omega, by omega, by omega, by omega, by omega, h2.1, h2.2, by omega, h4.1, h4.2, h5, h6, h7⟩
  · cases h
theorem acceptAll_get {V : Int} {rows : List Row} : ∀ {l : List Row} {cs : List Cert}, acceptAll V rows l cs = true → l.length ≤ cs.length → ∀ g ∈ l, ∃ c, acceptB V rows g c = true
  | [], _, _, _, g, hg => by simp at hg
  | _ :: _, [], _, hl, _, _ => by simp at hl
  | x :: l, c :: cs, h, hl, g, hg => by
    simp only [acceptAll, Bool.and_eq_true] at h
    rcases List.mem_cons.1 hg with rfl | hg
    · exact ⟨c, h.1⟩
    · exact acceptAll_get h.2 (by simpa using hl) g hg
structure ProofOk (f : Flow) (r : Recur) (s : Spot) : Prop where
  enter : acceptAll f.vars s.rows (transAt f s.trans).guard s.enter = true
  small : ∀ x ∈ afterRows f r s, rightB f.vars x = true
  stay : acceptAll f.vars s.rows (afterRows f r s) s.stay = true
theorem proofOk {f : Flow} {r : Recur} {s : Spot} (h : proofErr f r s = 0) : ProofOk f r s := by
  unfold proofErr at h
  split at h; · cases h
  rename_i h1
  split at h; · cases h
  rename_i h2
  split at h; · cases h
  rename_i h3
  simp only [Bool.not_eq_false, List.all_eq_true] at h1 h2 h3
  exact ⟨h1, h2, h3⟩
theorem updRows_len : ∀ (us : List Upd) (ns : List Row), (updRows us ns).length = us.length
  | [], _ => rfl
  | u :: us, ns => by simp only [updRows]; split <;> simp [updRows_len]
theorem updRows_right {v : Int} : ∀ (us : List Upd) (ns : List Row), ns.length = anysN us → (∀ x ∈ ns, rightB v x = true) → (∀ u ∈ us, u.any = false → rightB v u.expr = true) → ∀ x ∈ updRows us ns, rightB v x = true
  | [], _, _, _, _, x, hx => by simp [updRows] at hx
  | u :: us, ns, hl, hn, hu, x, hx => by
    unfold updRows at hx
    split at hx
    · rename_i ha
      have hl2 : ns.length = anysN us + 1 := by rw [hl]; simp [anysN, List.filter_cons, ha]
      cases ns with
      | nil => simp at hl2
      | cons y ns =>
        rcases List.mem_cons.1 hx with rfl | hx
        · exact hn _ (by simp)
        · exact updRows_right us ns (by simpa using hl2) (fun z hz => hn z (by simp [hz])) (fun z hz => hu z (by simp [hz])) x hx
    · rename_i ha
      have hl2 : ns.length = anysN us := by rw [hl]; simp [anysN, List.filter_cons, ha]
      rcases List.mem_cons.1 hx with rfl | hx
      · exact hu u (by simp) (by simpa using ha)
      · exact updRows_right us ns hl2 hn (fun z hz => hu z (by simp [hz])) x hx
theorem newVals_upd {vals : List Int} : ∀ (us : List Upd) (ns : List Row), newVals us vals ((updRows us ns).map fun x => rowI x vals)
  | [], _ => trivial
  | u :: us, ns => by
    unfold updRows
    split
    · rename_i ha
      exact ⟨fun h => (by rw [ha] at h; cases h), newVals_upd us _⟩
    · exact ⟨fun _ => rfl, newVals_upd us ns⟩
def nextS (f : Flow) (s : Spot) (x : State) : State := ⟨(transAt f s.trans).to_, true, (updRows (transAt f s.trans).next s.next).map fun u => rowI u x.vals⟩
def InZ (s : Spot) (x : State) : Prop := s.loc = x.loc ∧ ∀ r ∈ s.rows, 0 ≤ rowI r x.vals
theorem spotAt_mem {r : Recur} {i : Int} (h0 : 0 ≤ i) (h1 : i < r.spots.length) : spotAt r i ∈ r.spots := by
  unfold spotAt
  rw [List.getD_eq_getElem?_getD, List.getElem?_eq_getElem (by omega)]
  exact List.getElem_mem _
theorem spot_step {f : Flow} {r : Recur} {s : Spot} (hs : SpotOk f r s) (hp : ProofOk f r s) {x : State} (hg : GoodZ f x) (hin : InZ s x) :
    StepOk f x s.trans (nextS f s x) ∧ InZ (spotAt r s.goto) (nextS f s x) ∧ GoodZ f (nextS f s x) := by
  have hx := transAt_get hs.tr1 hs.tr2
  have hT := hg.flow.all _ (List.mem_of_getElem? hx)
  have hv := hg.vals
  have hup : ∀ y ∈ updRows (transAt f s.trans).next s.next, rightB f.vars y = true := updRows_right _ _ hs.nl hs.next (fun u hu ha => by
    have := hT.upd u hu
    simpa only [updB, ha, Bool.false_eq_true, if_false] using this)
  have hg' : GoodZ f (nextS f s x) := ⟨hg.flow, hT.to1, hT.to2, by
    show ((List.map _ (updRows (transAt f s.trans).next s.next)).length : Int) = f.vars
    rw [List.length_map, updRows_len]; exact hT.next⟩
  refine ⟨⟨s.trans.toNat, transAt f s.trans, by have := hs.tr1; omega, hx, by rw [hs.from_]; exact hin.1, fun g hgm => ?_, rfl, newVals_upd _ _, hg, hg'⟩, ⟨hs.to_.symm, fun g hgm => ?_⟩, hg'⟩
  · obtain ⟨c, hc⟩ := acceptAll_get hp.enter (by rw [hs.el]; exact Nat.le_refl _) g hgm
    exact accept_sound hc hin.2
  · have hgm' : afterRow f.vars.toNat g (updRows (transAt f s.trans).next s.next) ∈ afterRows f r s := List.mem_map.2 ⟨g, hgm, rfl⟩
    obtain ⟨c, hc⟩ := acceptAll_get hp.stay (by rw [hs.sl]; simp [afterRows]) _ hgm'
    have := accept_sound hc hin.2
    rw [after_val (fun y hy => by have := right_len (hup y hy); omega)] at this
    exact this
def atN (r : Recur) : Nat → Int
  | 0 => 0
  | k + 1 => (spotAt r (atN r k)).goto
def stN (f : Flow) (r : Recur) (x : State) : Nat → State
  | 0 => x
  | k + 1 => nextS f (spotAt r (atN r k)) (stN f r x k)
theorem StuckOk.at_ {f : Flow} {r : Recur} (h : StuckOk f r) : ∀ k, 0 ≤ atN r k ∧ atN r k < r.spots.length
  | 0 => ⟨Int.le_refl _, by have := List.length_pos_iff.2 h.ne; simp only [atN]; omega⟩
  | k + 1 => by
    obtain ⟨h0, h1⟩ := h.at_ k
    have := spotOk (h.spot _ (spotAt_mem h0 h1))
    exact ⟨this.go1, this.go2⟩
theorem StuckOk.run {f : Flow} {r : Recur} (h : StuckOk f r) {x : State} (hg : GoodZ f x) (hin : InZ (spotAt r 0) x) : ∀ k, GoodZ f (stN f r x k) ∧ InZ (spotAt r (atN r k)) (stN f r x k)
  | 0 => ⟨hg, hin⟩
  | k + 1 => by
    obtain ⟨h1, h2⟩ := h.run hg hin k
    obtain ⟨g0, g1⟩ := h.at_ k
    have hm := spotAt_mem g0 g1
    obtain ⟨_, h4, h5⟩ := spot_step (spotOk (h.spot _ hm)) (proofOk (h.proof _ hm)) h1 h2
    exact ⟨h5, h4⟩
theorem StuckOk.steps {f : Flow} {r : Recur} (h : StuckOk f r) {x : State} (hg : GoodZ f x) (hin : InZ (spotAt r 0) x) (k : Nat) : StepOk f (stN f r x k) (spotAt r (atN r k)).trans (stN f r x (k + 1)) := by
  obtain ⟨h1, h2⟩ := h.run hg hin k
  obtain ⟨g0, g1⟩ := h.at_ k
  have hm := spotAt_mem g0 g1
  exact (spot_step (spotOk (h.spot _ hm)) (proofOk (h.proof _ hm)) h1 h2).1
theorem pigeon : ∀ (m : Nat) (g : Nat → Nat), (∀ k, k ≤ m → g k < m) → ∃ i j, i < j ∧ j ≤ m ∧ g i = g j
  | 0, g, h => absurd (h 0 (Nat.le_refl _)) (by omega)
  | m + 1, g, h => by
    by_cases hx : ∃ i, i ≤ m ∧ g i = g (m + 1)
    · obtain ⟨i, h1, h2⟩ := hx
      exact ⟨i, m + 1, by omega, Nat.le_refl _, h2⟩
    · have hne : ∀ i, i ≤ m → g i ≠ g (m + 1) := fun i hi e => hx ⟨i, hi, e⟩
      obtain ⟨i, j, h1, h2, h3⟩ := pigeon m (fun k => if g k = m then g (m + 1) else g k) (fun k hk => by
        have h4 := h k (by omega)
        have h5 := h (m + 1) (Nat.le_refl _)
        have h6 := hne k hk
        split <;> omega)
      refine ⟨i, j, h1, by omega, ?_⟩
      have h7 := hne i (by omega)
      have h8 := hne j h2
      split at h3 <;> split at h3 <;> omega
theorem StuckOk.loop {f : Flow} {r : Recur} (h : StuckOk f r) : ∃ i j, i < j ∧ atN r i = atN r j := by
  obtain ⟨i, j, h1, _, h3⟩ := pigeon r.spots.length (fun k => (atN r k).toNat) (fun k _ => by have := h.at_ k; omega)
  have := h.at_ i
  have := h.at_ j
  exact ⟨i, j, h1, by have h3 : (atN r i).toNat = (atN r j).toNat := h3; omega⟩
end YtihgdplbehempaaGreat
end Go.Vm
end
section
set_option linter.unusedSimpArgs false
namespace Go.Vm
open Go Go.Proofs
namespace YtihgdplbehempaaGreat
open Go.Proofs.Tryz
theorem len1 {xs : List Tr} (h : xs.length = 1) : ∃ a, xs = [a] := by
  match xs, h with
  | [a], _ => exact ⟨a, rfl⟩
end YtihgdplbehempaaGreat
end Go.Vm
end
section
set_option linter.unusedSimpArgs false
set_option maxRecDepth 10000
namespace Go.Vm
open Go Go.Proofs Go.Whole
namespace YtihgdplbehempaaGreat
open Go.Proofs.Tryz
attribute [go_sem] Tryz.results30
end YtihgdplbehempaaGreat
end Go.Vm
end
section
set_option linter.unusedSimpArgs false
set_option maxRecDepth 10000
namespace Go.Vm
open Go Go.Proofs Go.Whole Go.Simplex
namespace YtihgdplbehempaaGreat
open Go.Proofs.Tryz
attribute [go_sem] Tryz.results21 Tryz.results28 Tryz.results3 Tryz.results4
def modB (c : Int) : Bool := decide (-1000 ≤ c) && decide (c ≤ 1000)
theorem modest_d (V : Nat) (rnn : Bool) (rows : List Row) (hl : ∀ r ∈ rows, r.coefs.length ≤ 1000) (hlen : rows.length ≤ 1000000) : DCall Tryz.prog 21 [i64 (V : Nat), .sl rnn (rows.map Row.tr)] (.bool (modestB V rows)) := by
  have hm : modestB V rows = (rows.all (fun r => (r.const :: r.coefs).all modB) && decide (V ≤ 4)) := rfl
  rw [hm]
  clear hm
  refine dcall_mk orders Tryz.func21 rfl (by kernel_rfl) (fun d => d == 6 || d == 15 || d == 18 || d == 17 || d == 20) (by kernel_rfl) rfl (fun hs => ?_)
  clear hs
  repeat' (first
    | (with_reducible first | refine sA ?_ ?_ | refine sB ?_ ?_ | refine sC ?_ ?_ | refine sD ?_ ?_ | refine sE ?_ ?_ | refine sF ?_ ?_) <;> intro h
    | simp only [go_sem, *])
  refine loop_range rows (fun k s' => rows.all (fun r => (r.const :: r.coefs).all modB) = (rows.drop k).all (fun r => (r.const :: r.coefs).all modB)) rfl rfl (by first | assumption | omega) (by kernel_rfl) (fun _ _ _ _ hj => hj) (fun _ _ _ hj => hj) ?_ (fun k x s' hx hd hk hJ hix hfr G hG => ?_) (fun s' hJ hfr => ?_)
  · rfl
  · have c0 := hfr 0 (by kernel_rfl)
    have c9 := hfr 9 (by kernel_rfl)
    clear hfr
    simp only [go_sem] at c0 c9
    rw [hd, List.all_cons] at hJ
    have hlx := hl x (List.mem_of_getElem? hx)
    clear hd
    have happ : ∀ (mu : Nat → Bool) (d : Option Tmp) (h : Hp), appendPV Tryz.prog mu d 35 (.rf (hnext h 17) 1) (.t (.sl x.nn (x.coefs.map (Tr.int .i64)))) (hnew h 17 ⟨[.t (.int .i64 x.const)], 1, 1, 2, false, true⟩) = some (.rf (hnext h 17) (x.const :: x.coefs).length, hnew h 17 ⟨((x.const :: x.coefs).map (Tr.int .i64)).map .t, 1, (x.const :: x.coefs).length, 2, false, true⟩) := by
      intro mu d h
      by_cases he : x.coefs = []
      · rw [he]
        exact append_rf0 (esz := 1) (e := 2) (ag := false) (by kernel_rfl) (by kernel_rfl) (by kernel_rfl) rfl (by kernel_rfl) (hget_new _ _) (by decide)
      · rw [append_rf2 (esz := 1) (e := 2) (ag := false) (by_ := 8) (by kernel_rfl) (by kernel_rfl) (by kernel_rfl) rfl (by kernel_rfl) (fun y hy => by obtain ⟨z, _, rfl⟩ := List.mem_map.1 hy; rfl) (hget_new _ _) (by simp; omega) (by simpa using he), hset_new]
        have hfl : ∀ l : List Int, flat (l.map (Tr.int .i64)) = l.map (Tr.int .i64) := by
          intro l
          induction l with
          | nil => rfl
          | cons a l ih =>
            rw [List.map_cons]
            show [Tr.int .i64 a] ++ flat _ = _
            rw [ih]; rfl
        rw [hfl]
        simp only [List.length_map, List.length_cons, List.map_cons, List.singleton_append]
        rw [Nat.add_comm]
    repeat' (first
      | (with_reducible first | refine sA ?_ ?_ | refine sB ?_ ?_ | refine sC ?_ ?_ | refine sD ?_ ?_ | refine sE ?_ ?_ | refine sF ?_ ?_) <;> intro h
      | simp only [go_sem, *, beq_self_eq_true])
    generalize hnew s'.hp 6 _ = h6 at *
    refine loop_range (List.range (x.coefs.length + 1)) (fun k s' => hget s'.hp (hnext h6 17) = some ⟨((x.const :: x.coefs).map (Tr.int .i64)).map .t, 1, x.coefs.length + 1, tI64x, false, true⟩ ∧ (x.const :: x.coefs).all modB = ((x.const :: x.coefs).drop k).all modB) rfl (by rw [List.length_range]; rfl) (by rw [List.length_range]; first | assumption | omega) (by kernel_rfl) (fun _ _ _ _ hj => hj) (fun _ _ _ hj => hj) ?_ (fun j y u hy hyd hj hJ hjx hfr H hH => ?_) (fun u hJ hfr => ?_)
    · exact ⟨hget_new _ _, rfl⟩
    · have e0 := hfr 0 (by kernel_rfl)
      have e20 := hfr 20 (by kernel_rfl)
      clear hfr
      simp only [go_sem, c0] at e0 e20
      obtain ⟨g, hJ2⟩ := hJ
      rw [List.length_range] at hj
      have hyj : y = j := by rw [List.getElem?_range hj] at hy; injection hy with hy; exact hy.symm
      subst hyj
      clear hy hyd happ
      generalize hlq : x.const :: x.coefs = l at *
      have hll : x.coefs.length + 1 = l.length := by rw [← hlq]; rfl
      rw [hll] at hj
      obtain ⟨c, hc, hcd⟩ := get_of_lt l y hj
      have hce : ((l.map (Tr.int .i64)).map PV.t)[y]? = some (.t (.int .i64 c)) := by rw [List.getElem?_map, List.getElem?_map, hc]; rfl
      have hyl : y < x.coefs.length + 1 := by omega
      rw [hcd, List.all_cons] at hJ2
      by_cases hm : modB c = true
      · have m1 : decide (c < -1000) = false := by
          simp only [modB, Bool.and_eq_true, decide_eq_true_eq] at hm
          exact decide_eq_false (by omega)
        have m2 : decide (c > 1000) = false := by
          simp only [modB, Bool.and_eq_true, decide_eq_true_eq] at hm
          exact decide_eq_false (by omega)
        rw [hm, Bool.true_and] at hJ2
        clear hlq hll hm hJ hcd hc
        repeat' (first
          | (with_reducible first | refine sA ?_ ?_ | refine sB ?_ ?_ | refine sC ?_ ?_ | refine sD ?_ ?_ | refine sE ?_ ?_ | refine sF ?_ ?_) <;> intro h
          | simp only [go_sem, *])
        all_goals exact hH _ ⟨g, hJ2⟩
      · have hm : modB c = false := by simpa using hm
        rw [hm, Bool.false_and] at hJ2
        rw [hJ2, Bool.false_and] at hJ
        have hpick : (if decide (c < -1000) = true then true else decide (c > 1000)) = true := by
          simp only [modB, Bool.and_eq_false_iff, decide_eq_false_iff_not] at hm
          by_cases h1 : c < -1000
          · simp [h1]
          · simp [h1]; omega
        simp only [List.all_cons] at hJ
        clear hlq hll hJ2 hcd hc
        by_cases m1 : c < -1000
        · have m1 : decide (c < -1000) = true := decide_eq_true m1
          repeat' (first
            | (with_reducible first | refine sA ?_ ?_ | refine sB ?_ ?_ | refine sC ?_ ?_ | refine sD ?_ ?_ | refine sE ?_ ?_ | refine sF ?_ ?_) <;> intro h
            | simp only [go_sem, *])
        · have m2 : decide (c > 1000) = true := by simpa [m1] using hpick
          have m1 : decide (c < -1000) = false := decide_eq_false m1
          repeat' (first
            | (with_reducible first | refine sA ?_ ?_ | refine sB ?_ ?_ | refine sC ?_ ?_ | refine sD ?_ ?_ | refine sE ?_ ?_ | refine sF ?_ ?_) <;> intro h
            | simp only [go_sem, *])
    · have e0 := hfr 0 (by kernel_rfl)
      clear hfr
      simp only [go_sem, c0] at e0
      obtain ⟨g, hJ2⟩ := hJ
      rw [List.length_range, List.drop_of_length_le (by simp), List.all_nil] at hJ2
      rw [hJ2, Bool.true_and] at hJ
      clear happ hJ2
      repeat' (first
        | (with_reducible first | refine sA ?_ ?_ | refine sB ?_ ?_ | refine sC ?_ ?_ | refine sD ?_ ?_ | refine sE ?_ ?_ | refine sF ?_ ?_) <;> intro h
        | simp only [go_sem, *])
      exact hG _ hJ
  · have c0 := hfr 0 (by kernel_rfl)
    clear hfr
    simp only [go_sem] at c0
    rw [List.drop_length, List.all_nil] at hJ
    simp only [List.all_cons] at hJ
    have hV4 : decide ((V : Int) ≤ 4) = decide (V ≤ 4) := by rw [Bool.eq_iff_iff]; simp; omega
    rw [hJ, Bool.true_and, ← hV4]
    clear hJ hV4
    repeat' (first
      | (with_reducible first | refine sA ?_ ?_ | refine sB ?_ ?_ | refine sC ?_ ?_ | refine sD ?_ ?_ | refine sE ?_ ?_ | refine sF ?_ ?_) <;> intro h
      | simp only [go_sem, *])
def toRV (q : Rat) : RV := ⟨q.num, ((q.den : Nat) : Int)⟩
theorem rvT_map (p : List Rat) : p.map rvT = (p.map toRV).map RV.tr := by rw [List.map_map]; rfl
theorem toRV_q (p : List Rat) : (p.map toRV).map RV.q = p := by
  rw [List.map_map]
  have : (RV.q ∘ toRV) = id := by
    funext q
    exact Rat.num_divInt_den q
  rw [this, List.map_id]
theorem toRV_ok {p : List Rat} (h : p.all withinQ = true) : ∀ x ∈ p.map toRV, ratB x = true := by
  intro x hx
  obtain ⟨q, hq, rfl⟩ := List.mem_map.1 hx
  have := List.all_eq_true.1 h q hq
  simp only [withinQ, maxV, Bool.and_eq_true, decide_eq_true_eq] at this
  have hd := q.den_pos
  have hr := q.reduced
  have e1 : decide (((q.den : Nat) : Int) ≥ 1) = true := decide_eq_true (by omega)
  have e2 : winB ((q.den : Nat) : Int) = true := by simp only [winB, Bool.and_eq_true, decide_eq_true_eq]; omega
  have e3 : winB q.num = true := by simp only [winB, Bool.and_eq_true, decide_eq_true_eq]; omega
  have e4 : decide (Nat.gcd q.num.natAbs ((q.den : Nat) : Int).natAbs = 1) = true := decide_eq_true (by rw [Int.natAbs_natCast]; exact hr)
  show (decide (((q.den : Nat) : Int) ≥ 1) && winB ((q.den : Nat) : Int) && winB q.num && decide (Nat.gcd q.num.natAbs ((q.den : Nat) : Int).natAbs = 1)) = true
  rw [e1, e2, e3, e4]; rfl
theorem pointB_of {V : Nat} {p : List Rat} (h1 : p.length = V) (h : p.all withinQ = true) : pointB V (p.map toRV) = true := by
  simp only [pointB, List.length_map, h1, Bool.and_eq_true, List.all_eq_true]
  exact ⟨by simp, toRV_ok h⟩
theorem holds_of {rows : List Row} {p : List Rat} (h : ∀ r ∈ rows, 0 ≤ rowQ r p) : rows.all (fun r => !decide (rowQ r ((p.map toRV).map RV.q) < 0)) = true := by
  rw [toRV_q, List.all_eq_true]
  intro r hr
  rw [decide_eq_false (Rat.not_lt.2 (h r hr))]; rfl
theorem lsolve_bad (vars : Int) (rnn : Bool) (rows : List Row) (he : sysErr vars rows ≠ 0) : DCall Tryz.prog 18 [i64 vars, .sl rnn (rows.map Row.tr)] (.tup [.sl false [], .sl false [], .bool false, i64 (sysErr vars rows)]) := by
  have w1 := lcheck_d vars rnn rows
  have g : (sysErr vars rows != 0) = true := by simpa using he
  generalize sysErr vars rows = e at *
  clear he
  refine dcall_mk orders Tryz.func18 rfl (by kernel_rfl) noMu (by kernel_rfl) rfl (fun hs => ?_)
  clear hs
  repeat' (first
    | (with_reducible first | refine sA ?_ ?_ | refine sB ?_ ?_ | refine sC ?_ ?_ | refine sD ?_ ?_ | refine sE ?_ ?_ | refine sF ?_ ?_) <;> intro h
    | refine clK_mk (w1) rfl ?_
    | simp only [go_sem, *])
theorem LinearSolves_d (vars : Int) (rnn : Bool) (rows : List Row) : DCall Tryz.prog 3 [i64 vars, .sl rnn (rows.map Row.tr)] (.bool true) := by
  have h2 := refSys_d vars rnn rows
  have h3 := alive25_d
  by_cases he : sysErr vars rows = 0
  · obtain ⟨V, rfl, hS⟩ := sys_of he
    rw [he] at h2
    have hV := hS.v
    have hn := hS.n
    obtain ⟨so, hso, h1⟩ := solve_d (V := V) rnn he
    have hm := modest_d V rnn rows (fun r hr => by have := (hS.r r hr).1; omega) (by omega)
    have z0 : (IntKind.i64.wrap (((0 : Nat) : Int) + ((0 : Nat) : Int)) == 0) = true := by decide
    have z1 : (((0 : Nat) : Int) == 0) = true := rfl
    have b3 : ((3 : Int) != 0) = true := rfl
    have b4 : ((3 : Int) == 3) = true := rfl
    have b5 : ((0 : Int) != 0) = false := rfl
    have b6 : ((0 : Int) == 0) = true := rfl
    cases so with
    | lim =>
      have hso : modestB V rows = false := hso
      rw [hso] at hm
      unfold SOut.tr at h1
      simp only at h1
      clear hS he h3 hso
      refine dcall_mk orders Tryz.func3 rfl (by kernel_rfl) noMu (by kernel_rfl) rfl (fun hs => ?_)
      clear hs
      repeat' (first
        | (with_reducible first | refine sA ?_ ?_ | refine sB ?_ ?_ | refine sC ?_ ?_ | refine sD ?_ ?_ | refine sE ?_ ?_ | refine sF ?_ ?_) <;> intro h
        | refine clK_mk (h1) rfl ?_
        | refine clK_mk (h2) rfl ?_
        | refine clK_mk (hm) rfl ?_
        | simp only [go_sem, *, beq_self_eq_true])
    | ml ms =>
      obtain ⟨m1, m2, m3, m4⟩ := hso
      have h4 := mults_d rnn rows true ms
      have e4 : (decide (ms.length = rows.length) && ms.all (fun m => decide (m ≤ 4611686018427387904))) = true := by
        rw [m1]; simp only [decide_true, Bool.true_and, List.all_eq_true, decide_eq_true_eq]; exact m3
      rw [e4] at h4
      have h5 := refRefutes_d V rnn rows true ms hS (by omega) (fun m hm => by have := m3 m hm; simp only [maxV] at this; omega)
      obtain ⟨k1, k2⟩ := sums_start V rows ms (fun r hr => (hS.r r hr).1)
      rw [contra_same k1 k2, m4] at h5
      unfold SOut.tr at h1
      simp only at h1
      clear hS he hm k1 k2 m4 e4 m1 m2 m3
      refine dcall_mk orders Tryz.func3 rfl (by kernel_rfl) noMu (by kernel_rfl) rfl (fun hs => ?_)
      clear hs
      repeat' (first
        | (with_reducible first | refine sA ?_ ?_ | refine sB ?_ ?_ | refine sC ?_ ?_ | refine sD ?_ ?_ | refine sE ?_ ?_ | refine sF ?_ ?_) <;> intro h
        | refine clK_mk (h1) rfl ?_
        | refine clK_mk (h2) rfl ?_
        | refine clK_mk (h4) rfl ?_
        | refine clK_mk (h5) rfl ?_
        | refine clK_mk (h3) rfl ?_
        | simp only [go_sem, *, beq_self_eq_true])
    | pt p =>
      obtain ⟨p1, p2, p3⟩ := hso
      unfold SOut.tr at h1
      simp only [rvT_map] at h1
      have h4 := point_d V true (p.map toRV)
      rw [pointB_of p1 p2] at h4
      have h5 := refHolds_d rnn rows true (p.map toRV) (fun r hr => by
        obtain ⟨a1, a2, a3⟩ := hS.r r hr
        exact ⟨by rw [List.length_map, p1, a1], a2, a3⟩) (by rw [List.length_map, p1]; exact hV) (by omega) (toRV_ok p2)
      rw [holds_of p3] at h5
      clear hS he hm p1 p2 p3
      generalize p.map toRV = qs at *
      refine dcall_mk orders Tryz.func3 rfl (by kernel_rfl) noMu (by kernel_rfl) rfl (fun hs => ?_)
      clear hs
      repeat' (first
        | (with_reducible first | refine sA ?_ ?_ | refine sB ?_ ?_ | refine sC ?_ ?_ | refine sD ?_ ?_ | refine sE ?_ ?_ | refine sF ?_ ?_) <;> intro h
        | refine clK_mk (h1) rfl ?_
        | refine clK_mk (h2) rfl ?_
        | refine clK_mk (h4) rfl ?_
        | refine clK_mk (h5) rfl ?_
        | refine clK_mk (h3) rfl ?_
        | simp only [go_sem, *, beq_self_eq_true])
  · have h1 := lsolve_bad vars rnn rows he
    have hb2 : (sysErr vars rows != 0) = true := by simpa using he
    generalize sysErr vars rows = e at *
    clear he
    have b6 : ((0 : Int) == 0) = true := rfl
    have z0 : (IntKind.i64.wrap (((0 : Nat) : Int) + ((0 : Nat) : Int)) == 0) = true := by decide
    refine dcall_mk orders Tryz.func3 rfl (by kernel_rfl) noMu (by kernel_rfl) rfl (fun hs => ?_)
    clear hs
    repeat' (first
      | (with_reducible first | refine sA ?_ ?_ | refine sB ?_ ?_ | refine sC ?_ ?_ | refine sD ?_ ?_ | refine sE ?_ ?_ | refine sF ?_ ?_) <;> intro h
      | refine clK_mk (h1) rfl ?_
      | refine clK_mk (h2) rfl ?_
      | refine clK_mk (h3) rfl ?_
      | simp only [go_sem, *, beq_self_eq_true])
end YtihgdplbehempaaGreat
end Go.Vm
end
section
namespace Go.Proofs.YtihgdplbehempaaGreat.lb
open Go.ChangeShapes Go.WideShapes Go.ChangeAt Go.RowKit
theorem and_t {a b : Bool} (h1 : a = true) (h2 : b = true) : (a && b) = true := by rw [h1, h2]; rfl
theorem own : ownKnob Tryz.prog.godebug = none := by kernel_rfl
theorem laidOut : laidOutB Tryz.prog = true := by kernel_rfl
theorem rowed : mapsRowed Tryz.prog = true := by kernel_rfl
theorem enters : Tryz.prog.mayEnter = true := by kernel_rfl
theorem lifts : (Rows.linearSolvesRow.lifted == Tryz.prog.liftsFinal) = true := by kernel_rfl
theorem made : (Tryz.prog.make == some Rows.linearSolvesRow.make) = true := by kernel_rfl
theorem keys : (Rows.linearSolvesRow.plainKeys == Tryz.prog.plainKeys) = true := by kernel_rfl
theorem heard : Tryz.prog.stopsHeard = true := by kernel_rfl
end Go.Proofs.YtihgdplbehempaaGreat.lb
end
