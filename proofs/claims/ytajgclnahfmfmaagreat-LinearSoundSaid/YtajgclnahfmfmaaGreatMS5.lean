import Derived.Test.YtajgclnahfmfmaaGreatMS4
set_option linter.unusedSimpArgs false
set_option linter.unusedVariables false
section
set_option maxRecDepth 10000
namespace Go.Vm
open Go Go.Proofs
namespace YtajgclnahfmfmaaGreat
open Go.Proofs.Tryz
noncomputable def alive25_d_c30 : Fn := ⟨70, Tryz.f70, (Tryz.f70.body).getD .skip, noMu, false⟩
theorem alive25_d_k30 : alive25_d_c30.Ok Tryz.prog := ⟨Tryz.func70, by kernel_rfl, by kernel_rfl, by kernel_rfl⟩
noncomputable def alive25_d_c31 : Fn := ⟨21, Tryz.f21, (Tryz.f21.body).getD .skip, (fun d => d == 6), false⟩
theorem alive25_d_k31 : alive25_d_c31.Ok Tryz.prog := ⟨Tryz.func21, by kernel_rfl, by kernel_rfl, by kernel_rfl⟩
noncomputable def alive25_d_c32 : Fn := ⟨22, Tryz.f22, (Tryz.f22.body).getD .skip, (fun d => d == 10 || d == 2000090), false⟩
theorem alive25_d_k32 : alive25_d_c32.Ok Tryz.prog := ⟨Tryz.func22, by kernel_rfl, by kernel_rfl, by kernel_rfl⟩
noncomputable def alive25_d_c33 : Fn := ⟨36, Tryz.f36, (Tryz.f36.body).getD .skip, noMu, false⟩
theorem alive25_d_k33 : alive25_d_c33.Ok Tryz.prog := ⟨Tryz.func36, by kernel_rfl, by kernel_rfl, by kernel_rfl⟩
noncomputable def alive25_d_c34 : Fn := ⟨26, Tryz.f26, (Tryz.f26.body).getD .skip, noMu, false⟩
theorem alive25_d_k34 : alive25_d_c34.Ok Tryz.prog := ⟨Tryz.func26, by kernel_rfl, by kernel_rfl, by kernel_rfl⟩
noncomputable def alive25_d_c35 : Fn := ⟨27, Tryz.f27, (Tryz.f27.body).getD .skip, (fun d => d == 8 || d == 10), false⟩
theorem alive25_d_k35 : alive25_d_c35.Ok Tryz.prog := ⟨Tryz.func27, by kernel_rfl, by kernel_rfl, by kernel_rfl⟩
noncomputable def alive25_d_c36 : Fn := ⟨37, Tryz.f37, (Tryz.f37.body).getD .skip, (fun d => d == 12 || d == 13 || d == 33 || d == 38), false⟩
theorem alive25_d_k36 : alive25_d_c36.Ok Tryz.prog := ⟨Tryz.func37, by kernel_rfl, by kernel_rfl, by kernel_rfl⟩
noncomputable def alive25_d_c38 : Fn := ⟨85, Tryz.f85, (Tryz.f85.body).getD .skip, (fun d => d == 10 || d == 13 || d == 14), false⟩
theorem alive25_d_k38 : alive25_d_c38.Ok Tryz.prog := ⟨Tryz.func85, by kernel_rfl, by kernel_rfl, by kernel_rfl⟩
noncomputable def alive25_d_c40 : Fn := ⟨149, Tryz.f149, (Tryz.f149.body).getD .skip, noMu, false⟩
theorem alive25_d_k40 : alive25_d_c40.Ok Tryz.prog := ⟨Tryz.func149, by kernel_rfl, by kernel_rfl, by kernel_rfl⟩
noncomputable def alive25_d_c49 : Fn := ⟨152, Tryz.f152, (Tryz.f152.body).getD .skip, noMu, false⟩
theorem alive25_d_k49 : alive25_d_c49.Ok Tryz.prog := ⟨Tryz.func152, by kernel_rfl, by kernel_rfl, by kernel_rfl⟩
noncomputable def alive25_d_c51 : Fn := ⟨76, Tryz.f76, (Tryz.f76.body).getD .skip, noMu, false⟩
theorem alive25_d_k51 : alive25_d_c51.Ok Tryz.prog := ⟨Tryz.func76, by kernel_rfl, by kernel_rfl, by kernel_rfl⟩
noncomputable def alive25_d_c57 : Fn := ⟨97, Tryz.f97, (Tryz.f97.body).getD .skip, noMu, false⟩
theorem alive25_d_k57 : alive25_d_c57.Ok Tryz.prog := ⟨Tryz.func97, by kernel_rfl, by kernel_rfl, by kernel_rfl⟩
noncomputable def alive25_d_c58 : Fn := ⟨151, Tryz.f151, (Tryz.f151.body).getD .skip, noMu, false⟩
theorem alive25_d_k58 : alive25_d_c58.Ok Tryz.prog := ⟨Tryz.func151, by kernel_rfl, by kernel_rfl, by kernel_rfl⟩
noncomputable def alive25_d_c59 : Fn := ⟨20, Tryz.f20, (Tryz.f20.body).getD .skip, noMu, false⟩
theorem alive25_d_k59 : alive25_d_c59.Ok Tryz.prog := ⟨Tryz.func20, by kernel_rfl, by kernel_rfl, by kernel_rfl⟩
noncomputable def alive25_d_c60 : Fn := ⟨28, Tryz.f28, (Tryz.f28.body).getD .skip, (fun d => d == 6 || d == 33 || d == 39 || d == 47), false⟩
theorem alive25_d_k60 : alive25_d_c60.Ok Tryz.prog := ⟨Tryz.func28, by kernel_rfl, by kernel_rfl, by kernel_rfl⟩
noncomputable def alive25_d_c61 : Fn := ⟨32, Tryz.f32, (Tryz.f32.body).getD .skip, (fun d => d == 12), false⟩
theorem alive25_d_k61 : alive25_d_c61.Ok Tryz.prog := ⟨Tryz.func32, by kernel_rfl, by kernel_rfl, by kernel_rfl⟩
noncomputable def alive25_d_c62 : Fn := ⟨100, Tryz.f100, (Tryz.f100.body).getD .skip, noMu, false⟩
theorem alive25_d_k62 : alive25_d_c62.Ok Tryz.prog := ⟨Tryz.func100, by kernel_rfl, by kernel_rfl, by kernel_rfl⟩
noncomputable def alive25_d_c63 : Fn := ⟨101, Tryz.f101, (Tryz.f101.body).getD .skip, noMu, false⟩
theorem alive25_d_k63 : alive25_d_c63.Ok Tryz.prog := ⟨Tryz.func101, by kernel_rfl, by kernel_rfl, by kernel_rfl⟩
noncomputable def alive25_d_c64 : Fn := ⟨102, Tryz.f102, (Tryz.f102.body).getD .skip, (fun d => d == 7 || d == 9 || d == 11 || d == 12 || d == 16 || d == 43 || d == 45 || d == 47 || d == 54 || d == 58), false⟩
theorem alive25_d_k64 : alive25_d_c64.Ok Tryz.prog := ⟨Tryz.func102, by kernel_rfl, by kernel_rfl, by kernel_rfl⟩
noncomputable def alive25_d_c65 : Fn := ⟨79, Tryz.f79, (Tryz.f79.body).getD .skip, (fun d => d == 7 || d == 9 || d == 11 || d == 16), false⟩
theorem alive25_d_k65 : alive25_d_c65.Ok Tryz.prog := ⟨Tryz.func79, by kernel_rfl, by kernel_rfl, by kernel_rfl⟩
noncomputable def alive25_d_c66 : Fn := ⟨80, Tryz.f80, (Tryz.f80.body).getD .skip, noMu, false⟩
theorem alive25_d_k66 : alive25_d_c66.Ok Tryz.prog := ⟨Tryz.func80, by kernel_rfl, by kernel_rfl, by kernel_rfl⟩
noncomputable def alive25_d_c67 : Fn := ⟨33, Tryz.f33, (Tryz.f33.body).getD .skip, noMu, false⟩
theorem alive25_d_k67 : alive25_d_c67.Ok Tryz.prog := ⟨Tryz.func33, by kernel_rfl, by kernel_rfl, by kernel_rfl⟩
noncomputable def alive25_d_c68 : Fn := ⟨81, Tryz.f81, (Tryz.f81.body).getD .skip, (fun d => d == 9 || d == 13), false⟩
theorem alive25_d_k68 : alive25_d_c68.Ok Tryz.prog := ⟨Tryz.func81, by kernel_rfl, by kernel_rfl, by kernel_rfl⟩
noncomputable def alive25_d_c69 : Fn := ⟨103, Tryz.f103, (Tryz.f103.body).getD .skip, (fun d => d == 5 || d == 7), true⟩
theorem alive25_d_k69 : alive25_d_c69.Ok Tryz.prog := ⟨Tryz.func103, by kernel_rfl, by kernel_rfl, by kernel_rfl⟩
noncomputable def alive25_d_c70 : Fn := ⟨104, Tryz.f104, (Tryz.f104.body).getD .skip, (fun d => d == 2), false⟩
theorem alive25_d_k70 : alive25_d_c70.Ok Tryz.prog := ⟨Tryz.func104, by kernel_rfl, by kernel_rfl, by kernel_rfl⟩
noncomputable def alive25_d_c71 : Fn := ⟨105, Tryz.f105, (Tryz.f105.body).getD .skip, noMu, false⟩
theorem alive25_d_k71 : alive25_d_c71.Ok Tryz.prog := ⟨Tryz.func105, by kernel_rfl, by kernel_rfl, by kernel_rfl⟩
noncomputable def alive25_d_c72 : Fn := ⟨106, Tryz.f106, (Tryz.f106.body).getD .skip, (fun d => d == 4 || d == 18), false⟩
theorem alive25_d_k72 : alive25_d_c72.Ok Tryz.prog := ⟨Tryz.func106, by kernel_rfl, by kernel_rfl, by kernel_rfl⟩
noncomputable def alive25_d_c73 : Fn := ⟨96, Tryz.f96, (Tryz.f96.body).getD .skip, (fun d => d == 2 || d == 3), false⟩
theorem alive25_d_k73 : alive25_d_c73.Ok Tryz.prog := ⟨Tryz.func96, by kernel_rfl, by kernel_rfl, by kernel_rfl⟩
noncomputable def alive25_d_c74 : Fn := ⟨31, Tryz.f31, (Tryz.f31.body).getD .skip, (fun d => d == 5 || d == 7 || d == 10), false⟩
theorem alive25_d_k74 : alive25_d_c74.Ok Tryz.prog := ⟨Tryz.func31, by kernel_rfl, by kernel_rfl, by kernel_rfl⟩
noncomputable def alive25_d_c75 : Fn := ⟨87, Tryz.f87, (Tryz.f87.body).getD .skip, noMu, false⟩
theorem alive25_d_k75 : alive25_d_c75.Ok Tryz.prog := ⟨Tryz.func87, by kernel_rfl, by kernel_rfl, by kernel_rfl⟩
noncomputable def alive25_d_c76 : Fn := ⟨88, Tryz.f88, (Tryz.f88.body).getD .skip, (fun d => d == 3 || d == 6 || d == 9 || d == 17), false⟩
theorem alive25_d_k76 : alive25_d_c76.Ok Tryz.prog := ⟨Tryz.func88, by kernel_rfl, by kernel_rfl, by kernel_rfl⟩
noncomputable def alive25_d_c77 : Fn := ⟨171, Tryz.f171, (Tryz.f171.body).getD .skip, noMu, false⟩
theorem alive25_d_k77 : alive25_d_c77.Ok Tryz.prog := ⟨Tryz.func171, by kernel_rfl, by kernel_rfl, by kernel_rfl⟩
noncomputable def alive25_d_c79 : Fn := ⟨228, Tryz.f228, (Tryz.f228.body).getD .skip, noMu, false⟩
theorem alive25_d_k79 : alive25_d_c79.Ok Tryz.prog := ⟨Tryz.func228, by kernel_rfl, by kernel_rfl, by kernel_rfl⟩
noncomputable def alive25_d_c83 : Fn := ⟨229, Tryz.f229, (Tryz.f229.body).getD .skip, noMu, false⟩
theorem alive25_d_k83 : alive25_d_c83.Ok Tryz.prog := ⟨Tryz.func229, by kernel_rfl, by kernel_rfl, by kernel_rfl⟩
noncomputable def alive25_d_c84 : Fn := ⟨166, Tryz.f166, (Tryz.f166.body).getD .skip, noMu, false⟩
theorem alive25_d_k84 : alive25_d_c84.Ok Tryz.prog := ⟨Tryz.func166, by kernel_rfl, by kernel_rfl, by kernel_rfl⟩
noncomputable def alive25_d_c86 : Fn := ⟨180, Tryz.f180, (Tryz.f180.body).getD .skip, noMu, false⟩
theorem alive25_d_k86 : alive25_d_c86.Ok Tryz.prog := ⟨Tryz.func180, by kernel_rfl, by kernel_rfl, by kernel_rfl⟩
noncomputable def alive25_d_c87 : Fn := ⟨71, Tryz.f71, (Tryz.f71.body).getD .skip, (fun d => d == 17 || d == 20 || d == 24 || d == 30 || d == 32 || d == 52 || d == 58 || d == 61 || d == 79 || d == 91 || d == 96 || d == 102 || d == 104 || d == 105 || d == 106 || d == 107 || d == 108 || d == 109 || d == 110 || d == 114 || d == 118 || d == 123 || d == 125 || d == 127 || d == 130), false⟩
theorem alive25_d_k87 : alive25_d_c87.Ok Tryz.prog := ⟨Tryz.func71, by kernel_rfl, by kernel_rfl, by kernel_rfl⟩
noncomputable def alive25_d_c88 : Fn := ⟨72, Tryz.f72, (Tryz.f72.body).getD .skip, (fun d => d == 16 || d == 10 || d == 38 || d == 40 || d == 42 || d == 47 || d == 48 || d == 56 || d == 58 || d == 60 || d == 67 || d == 68), false⟩
theorem alive25_d_k88 : alive25_d_c88.Ok Tryz.prog := ⟨Tryz.func72, by kernel_rfl, by kernel_rfl, by kernel_rfl⟩
noncomputable def alive25_d_c89 : Fn := ⟨73, Tryz.f73, (Tryz.f73.body).getD .skip, (fun d => d == 9), false⟩
theorem alive25_d_k89 : alive25_d_c89.Ok Tryz.prog := ⟨Tryz.func73, by kernel_rfl, by kernel_rfl, by kernel_rfl⟩
noncomputable def alive25_d_c90 : Fn := ⟨74, Tryz.f74, (Tryz.f74.body).getD .skip, (fun d => d == 5 || d == 8 || d == 33), false⟩
theorem alive25_d_k90 : alive25_d_c90.Ok Tryz.prog := ⟨Tryz.func74, by kernel_rfl, by kernel_rfl, by kernel_rfl⟩
noncomputable def alive25_d_c91 : Fn := ⟨75, Tryz.f75, (Tryz.f75.body).getD .skip, (fun d => d == 8 || d == 15), false⟩
theorem alive25_d_k91 : alive25_d_c91.Ok Tryz.prog := ⟨Tryz.func75, by kernel_rfl, by kernel_rfl, by kernel_rfl⟩
noncomputable def alive25_d_c92 : Fn := ⟨82, Tryz.f82, (Tryz.f82.body).getD .skip, (fun d => d == 2 || d == 10 || d == 13), false⟩
theorem alive25_d_k92 : alive25_d_c92.Ok Tryz.prog := ⟨Tryz.func82, by kernel_rfl, by kernel_rfl, by kernel_rfl⟩
noncomputable def alive25_d_c93 : Fn := ⟨83, Tryz.f83, (Tryz.f83.body).getD .skip, noMu, false⟩
theorem alive25_d_k93 : alive25_d_c93.Ok Tryz.prog := ⟨Tryz.func83, by kernel_rfl, by kernel_rfl, by kernel_rfl⟩
noncomputable def alive25_d_c95 : Fn := ⟨182, Tryz.f182, (Tryz.f182.body).getD .skip, noMu, false⟩
theorem alive25_d_k95 : alive25_d_c95.Ok Tryz.prog := ⟨Tryz.func182, by kernel_rfl, by kernel_rfl, by kernel_rfl⟩
noncomputable def alive25_d_c96 : Fn := ⟨183, Tryz.f183, (Tryz.f183.body).getD .skip, noMu, false⟩
theorem alive25_d_k96 : alive25_d_c96.Ok Tryz.prog := ⟨Tryz.func183, by kernel_rfl, by kernel_rfl, by kernel_rfl⟩
noncomputable def alive25_d_c97 : Fn := ⟨170, Tryz.f170, (Tryz.f170.body).getD .skip, noMu, false⟩
theorem alive25_d_k97 : alive25_d_c97.Ok Tryz.prog := ⟨Tryz.func170, by kernel_rfl, by kernel_rfl, by kernel_rfl⟩
noncomputable def alive25_d_c98 : Fn := ⟨184, Tryz.f184, (Tryz.f184.body).getD .skip, noMu, false⟩
theorem alive25_d_k98 : alive25_d_c98.Ok Tryz.prog := ⟨Tryz.func184, by kernel_rfl, by kernel_rfl, by kernel_rfl⟩
noncomputable def alive25_d_c99 : Fn := ⟨185, Tryz.f185, (Tryz.f185.body).getD .skip, noMu, false⟩
theorem alive25_d_k99 : alive25_d_c99.Ok Tryz.prog := ⟨Tryz.func185, by kernel_rfl, by kernel_rfl, by kernel_rfl⟩
noncomputable def alive25_d_c100 : Fn := ⟨186, Tryz.f186, (Tryz.f186.body).getD .skip, (fun d => d == 4), false⟩
theorem alive25_d_k100 : alive25_d_c100.Ok Tryz.prog := ⟨Tryz.func186, by kernel_rfl, by kernel_rfl, by kernel_rfl⟩
noncomputable def alive25_d_c101 : Fn := ⟨167, Tryz.f167, (Tryz.f167.body).getD .skip, noMu, false⟩
theorem alive25_d_k101 : alive25_d_c101.Ok Tryz.prog := ⟨Tryz.func167, by kernel_rfl, by kernel_rfl, by kernel_rfl⟩
noncomputable def alive25_d_c102 : Fn := ⟨86, Tryz.f86, (Tryz.f86.body).getD .skip, noMu, false⟩
theorem alive25_d_k102 : alive25_d_c102.Ok Tryz.prog := ⟨Tryz.func86, by kernel_rfl, by kernel_rfl, by kernel_rfl⟩
noncomputable def alive25_d_c103 : Fn := ⟨168, Tryz.f168, (Tryz.f168.body).getD .skip, (fun d => d == 5 || d == 7), true⟩
theorem alive25_d_k103 : alive25_d_c103.Ok Tryz.prog := ⟨Tryz.func168, by kernel_rfl, by kernel_rfl, by kernel_rfl⟩
noncomputable def alive25_d_c104 : Fn := ⟨187, Tryz.f187, (Tryz.f187.body).getD .skip, (fun d => d == 4), false⟩
theorem alive25_d_k104 : alive25_d_c104.Ok Tryz.prog := ⟨Tryz.func187, by kernel_rfl, by kernel_rfl, by kernel_rfl⟩
noncomputable def alive25_d_c105 : Fn := ⟨188, Tryz.f188, (Tryz.f188.body).getD .skip, (fun d => d == 4), false⟩
theorem alive25_d_k105 : alive25_d_c105.Ok Tryz.prog := ⟨Tryz.func188, by kernel_rfl, by kernel_rfl, by kernel_rfl⟩
noncomputable def alive25_d_c106 : Fn := ⟨172, Tryz.f172, (Tryz.f172.body).getD .skip, noMu, false⟩
theorem alive25_d_k106 : alive25_d_c106.Ok Tryz.prog := ⟨Tryz.func172, by kernel_rfl, by kernel_rfl, by kernel_rfl⟩
noncomputable def alive25_d_c107 : Fn := ⟨91, Tryz.f91, (Tryz.f91.body).getD .skip, (fun d => d == 37), false⟩
theorem alive25_d_k107 : alive25_d_c107.Ok Tryz.prog := ⟨Tryz.func91, by kernel_rfl, by kernel_rfl, by kernel_rfl⟩
noncomputable def alive25_d_c108 : Fn := ⟨90, Tryz.f90, (Tryz.f90.body).getD .skip, noMu, false⟩
theorem alive25_d_k108 : alive25_d_c108.Ok Tryz.prog := ⟨Tryz.func90, by kernel_rfl, by kernel_rfl, by kernel_rfl⟩
noncomputable def alive25_d_c109 : Fn := ⟨78, Tryz.f78, (Tryz.f78.body).getD .skip, noMu, false⟩
theorem alive25_d_k109 : alive25_d_c109.Ok Tryz.prog := ⟨Tryz.func78, by kernel_rfl, by kernel_rfl, by kernel_rfl⟩
noncomputable def alive25_d_c114 : Fn := ⟨153, Tryz.f153, (Tryz.f153.body).getD .skip, (fun d => d == 16 || d == 18 || d == 31 || d == 41 || d == 52 || d == 53 || d == 54 || d == 55 || d == 58 || d == 81 || d == 13 || d == 141 || d == 142 || d == 143 || d == 144 || d == 146 || d == 147 || d == 148 || d == 149 || d == 151 || d == 155 || d == 163 || d == 164 || d == 167 || d == 168 || d == 169 || d == 170 || d == 172 || d == 173 || d == 174 || d == 178), true⟩
theorem alive25_d_k114 : alive25_d_c114.Ok Tryz.prog := ⟨Tryz.func153, by kernel_rfl, by kernel_rfl, by kernel_rfl⟩
noncomputable def alive25_d_c115 : Fn := ⟨154, Tryz.f154, (Tryz.f154.body).getD .skip, noMu, true⟩
theorem alive25_d_k115 : alive25_d_c115.Ok Tryz.prog := ⟨Tryz.func154, by kernel_rfl, by kernel_rfl, by kernel_rfl⟩
noncomputable def alive25_d_c116 : Fn := ⟨155, Tryz.f155, (Tryz.f155.body).getD .skip, (fun d => d == 7 || d == 34 || d == 36 || d == 38 || d == 42 || d == 60 || d == 68), true⟩
theorem alive25_d_k116 : alive25_d_c116.Ok Tryz.prog := ⟨Tryz.func155, by kernel_rfl, by kernel_rfl, by kernel_rfl⟩
noncomputable def alive25_d_c117 : Fn := ⟨156, Tryz.f156, (Tryz.f156.body).getD .skip, (fun d => d == 6 || d == 9 || d == 27 || d == 28 || d == 31 || d == 33 || d == 35 || d == 50 || d == 51 || d == 52 || d == 53 || d == 55 || d == 57 || d == 58 || d == 59 || d == 60 || d == 62 || d == 1000006 || d == 1000009), true⟩
theorem alive25_d_k117 : alive25_d_c117.Ok Tryz.prog := ⟨Tryz.func156, by kernel_rfl, by kernel_rfl, by kernel_rfl⟩
noncomputable def alive25_d_c118 : Fn := ⟨157, Tryz.f157, (Tryz.f157.body).getD .skip, (fun d => d == 2), false⟩
theorem alive25_d_k118 : alive25_d_c118.Ok Tryz.prog := ⟨Tryz.func157, by kernel_rfl, by kernel_rfl, by kernel_rfl⟩
noncomputable def alive25_d_c119 : Fn := ⟨158, Tryz.f158, (Tryz.f158.body).getD .skip, (fun d => d == 4), false⟩
theorem alive25_d_k119 : alive25_d_c119.Ok Tryz.prog := ⟨Tryz.func158, by kernel_rfl, by kernel_rfl, by kernel_rfl⟩
noncomputable def alive25_d_c120 : Fn := ⟨159, Tryz.f159, (Tryz.f159.body).getD .skip, (fun d => d == 2), false⟩
theorem alive25_d_k120 : alive25_d_c120.Ok Tryz.prog := ⟨Tryz.func159, by kernel_rfl, by kernel_rfl, by kernel_rfl⟩
noncomputable def alive25_d_c121 : Fn := ⟨160, Tryz.f160, (Tryz.f160.body).getD .skip, (fun d => d == 3 || d == 6 || d == 7 || d == 10 || d == 11 || d == 12 || d == 23 || d == 46 || d == 40), false⟩
theorem alive25_d_k121 : alive25_d_c121.Ok Tryz.prog := ⟨Tryz.func160, by kernel_rfl, by kernel_rfl, by kernel_rfl⟩
noncomputable def alive25_d_c122 : Fn := ⟨161, Tryz.f161, (Tryz.f161.body).getD .skip, noMu, false⟩
theorem alive25_d_k122 : alive25_d_c122.Ok Tryz.prog := ⟨Tryz.func161, by kernel_rfl, by kernel_rfl, by kernel_rfl⟩
noncomputable def alive25_d_c123 : Fn := ⟨162, Tryz.f162, (Tryz.f162.body).getD .skip, (fun d => d == 4), false⟩
theorem alive25_d_k123 : alive25_d_c123.Ok Tryz.prog := ⟨Tryz.func162, by kernel_rfl, by kernel_rfl, by kernel_rfl⟩
noncomputable def alive25_d_c124 : Fn := ⟨163, Tryz.f163, (Tryz.f163.body).getD .skip, (fun d => d == 2), false⟩
theorem alive25_d_k124 : alive25_d_c124.Ok Tryz.prog := ⟨Tryz.func163, by kernel_rfl, by kernel_rfl, by kernel_rfl⟩
noncomputable def alive25_d_c125 : Fn := ⟨164, Tryz.f164, (Tryz.f164.body).getD .skip, (fun d => d == 2), false⟩
theorem alive25_d_k125 : alive25_d_c125.Ok Tryz.prog := ⟨Tryz.func164, by kernel_rfl, by kernel_rfl, by kernel_rfl⟩
noncomputable def alive25_d_c126 : Fn := ⟨165, Tryz.f165, (Tryz.f165.body).getD .skip, (fun d => d == 2), false⟩
theorem alive25_d_k126 : alive25_d_c126.Ok Tryz.prog := ⟨Tryz.func165, by kernel_rfl, by kernel_rfl, by kernel_rfl⟩
noncomputable def alive25_d_c127 : Fn := ⟨169, Tryz.f169, (Tryz.f169.body).getD .skip, (fun d => d == 5 || d == 7), true⟩
theorem alive25_d_k127 : alive25_d_c127.Ok Tryz.prog := ⟨Tryz.func169, by kernel_rfl, by kernel_rfl, by kernel_rfl⟩
noncomputable def alive25_d_c128 : Fn := ⟨241, Tryz.f241, (Tryz.f241.body).getD .skip, noMu, false⟩
theorem alive25_d_k128 : alive25_d_c128.Ok Tryz.prog := ⟨Tryz.func241, by kernel_rfl, by kernel_rfl, by kernel_rfl⟩
noncomputable def alive25_d_c129 : Fn := ⟨242, Tryz.f242, (Tryz.f242.body).getD .skip, noMu, false⟩
theorem alive25_d_k129 : alive25_d_c129.Ok Tryz.prog := ⟨Tryz.func242, by kernel_rfl, by kernel_rfl, by kernel_rfl⟩
noncomputable def alive25_d_c130 : Fn := ⟨243, Tryz.f243, (Tryz.f243.body).getD .skip, (fun d => d == 19), false⟩
theorem alive25_d_k130 : alive25_d_c130.Ok Tryz.prog := ⟨Tryz.func243, by kernel_rfl, by kernel_rfl, by kernel_rfl⟩
noncomputable def alive25_d_c131 : Fn := ⟨239, Tryz.f239, (Tryz.f239.body).getD .skip, noMu, false⟩
theorem alive25_d_k131 : alive25_d_c131.Ok Tryz.prog := ⟨Tryz.func239, by kernel_rfl, by kernel_rfl, by kernel_rfl⟩
noncomputable def alive25_d_c132 : Fn := ⟨240, Tryz.f240, (Tryz.f240.body).getD .skip, (fun d => d == 11), false⟩
theorem alive25_d_k132 : alive25_d_c132.Ok Tryz.prog := ⟨Tryz.func240, by kernel_rfl, by kernel_rfl, by kernel_rfl⟩
noncomputable def alive25_d_c133 : Fn := ⟨178, Tryz.f178, (Tryz.f178.body).getD .skip, (fun d => d == 2), false⟩
theorem alive25_d_k133 : alive25_d_c133.Ok Tryz.prog := ⟨Tryz.func178, by kernel_rfl, by kernel_rfl, by kernel_rfl⟩
noncomputable def alive25_d_c134 : Fn := ⟨174, Tryz.f174, (Tryz.f174.body).getD .skip, noMu, false⟩
theorem alive25_d_k134 : alive25_d_c134.Ok Tryz.prog := ⟨Tryz.func174, by kernel_rfl, by kernel_rfl, by kernel_rfl⟩
noncomputable def alive25_d_c135 : Fn := ⟨173, Tryz.f173, (Tryz.f173.body).getD .skip, (fun d => d == 11 || d == 33), false⟩
theorem alive25_d_k135 : alive25_d_c135.Ok Tryz.prog := ⟨Tryz.func173, by kernel_rfl, by kernel_rfl, by kernel_rfl⟩
noncomputable def alive25_d_c136 : Fn := ⟨230, Tryz.f230, (Tryz.f230.body).getD .skip, (fun d => d == 6 || d == 8 || d == 26 || d == 28 || d == 30 || d == 36), true⟩
theorem alive25_d_k136 : alive25_d_c136.Ok Tryz.prog := ⟨Tryz.func230, by kernel_rfl, by kernel_rfl, by kernel_rfl⟩
noncomputable def alive25_d_c137 : Fn := ⟨231, Tryz.f231, (Tryz.f231.body).getD .skip, noMu, false⟩
theorem alive25_d_k137 : alive25_d_c137.Ok Tryz.prog := ⟨Tryz.func231, by kernel_rfl, by kernel_rfl, by kernel_rfl⟩
noncomputable def alive25_d_c138 : Fn := ⟨95, Tryz.f95, (Tryz.f95.body).getD .skip, (fun d => d == 2 || d == 3 || d == 4 || d == 5), false⟩
theorem alive25_d_k138 : alive25_d_c138.Ok Tryz.prog := ⟨Tryz.func95, by kernel_rfl, by kernel_rfl, by kernel_rfl⟩
noncomputable def alive25_d_c139 : Fn := ⟨181, Tryz.f181, (Tryz.f181.body).getD .skip, (fun d => d == 4), false⟩
theorem alive25_d_k139 : alive25_d_c139.Ok Tryz.prog := ⟨Tryz.func181, by kernel_rfl, by kernel_rfl, by kernel_rfl⟩
noncomputable def alive25_d_c140 : Fn := ⟨232, Tryz.f232, (Tryz.f232.body).getD .skip, (fun d => d == 2 || d == 3 || d == 5 || d == 6 || d == 7), false⟩
theorem alive25_d_k140 : alive25_d_c140.Ok Tryz.prog := ⟨Tryz.func232, by kernel_rfl, by kernel_rfl, by kernel_rfl⟩
noncomputable def alive25_d_c141 : Fn := ⟨179, Tryz.f179, (Tryz.f179.body).getD .skip, (fun d => d == 4 || d == 5 || d == 8 || d == 9 || d == 35 || d == 43 || d == 51 || d == 78 || d == 81 || d == 87 || d == 94), false⟩
theorem alive25_d_k141 : alive25_d_c141.Ok Tryz.prog := ⟨Tryz.func179, by kernel_rfl, by kernel_rfl, by kernel_rfl⟩
noncomputable def alive25_d_c142 : Fn := ⟨233, Tryz.f233, (Tryz.f233.body).getD .skip, noMu, false⟩
theorem alive25_d_k142 : alive25_d_c142.Ok Tryz.prog := ⟨Tryz.func233, by kernel_rfl, by kernel_rfl, by kernel_rfl⟩
noncomputable def alive25_d_c143 : Fn := ⟨234, Tryz.f234, (Tryz.f234.body).getD .skip, noMu, false⟩
theorem alive25_d_k143 : alive25_d_c143.Ok Tryz.prog := ⟨Tryz.func234, by kernel_rfl, by kernel_rfl, by kernel_rfl⟩
noncomputable def alive25_d_c144 : Fn := ⟨235, Tryz.f235, (Tryz.f235.body).getD .skip, (fun d => d == 4), false⟩
theorem alive25_d_k144 : alive25_d_c144.Ok Tryz.prog := ⟨Tryz.func235, by kernel_rfl, by kernel_rfl, by kernel_rfl⟩
noncomputable def alive25_d_c145 : Fn := ⟨272, Tryz.f272, (Tryz.f272.body).getD .skip, noMu, false⟩
theorem alive25_d_k145 : alive25_d_c145.Ok Tryz.prog := ⟨Tryz.func272, by kernel_rfl, by kernel_rfl, by kernel_rfl⟩
noncomputable def alive25_d_c146 : Fn := ⟨271, Tryz.f271, (Tryz.f271.body).getD .skip, noMu, false⟩
theorem alive25_d_k146 : alive25_d_c146.Ok Tryz.prog := ⟨Tryz.func271, by kernel_rfl, by kernel_rfl, by kernel_rfl⟩
noncomputable def alive25_d_c147 : Fn := ⟨177, Tryz.f177, (Tryz.f177.body).getD .skip, (fun d => d == 2 || d == 3 || d == 4 || d == 5 || d == 6 || d == 1000002 || d == 1000006), false⟩
theorem alive25_d_k147 : alive25_d_c147.Ok Tryz.prog := ⟨Tryz.func177, by kernel_rfl, by kernel_rfl, by kernel_rfl⟩
noncomputable def alive25_d_c148 : Fn := ⟨237, Tryz.f237, (Tryz.f237.body).getD .skip, (fun d => d == 11), false⟩
theorem alive25_d_k148 : alive25_d_c148.Ok Tryz.prog := ⟨Tryz.func237, by kernel_rfl, by kernel_rfl, by kernel_rfl⟩
noncomputable def alive25_d_c149 : Fn := ⟨238, Tryz.f238, (Tryz.f238.body).getD .skip, noMu, false⟩
theorem alive25_d_k149 : alive25_d_c149.Ok Tryz.prog := ⟨Tryz.func238, by kernel_rfl, by kernel_rfl, by kernel_rfl⟩
noncomputable def alive25_d_c150 : Fn := ⟨268, Tryz.f268, (Tryz.f268.body).getD .skip, noMu, false⟩
theorem alive25_d_k150 : alive25_d_c150.Ok Tryz.prog := ⟨Tryz.func268, by kernel_rfl, by kernel_rfl, by kernel_rfl⟩
noncomputable def alive25_d_c151 : Fn := ⟨269, Tryz.f269, (Tryz.f269.body).getD .skip, noMu, false⟩
theorem alive25_d_k151 : alive25_d_c151.Ok Tryz.prog := ⟨Tryz.func269, by kernel_rfl, by kernel_rfl, by kernel_rfl⟩
noncomputable def alive25_d_c152 : Fn := ⟨270, Tryz.f270, (Tryz.f270.body).getD .skip, noMu, false⟩
theorem alive25_d_k152 : alive25_d_c152.Ok Tryz.prog := ⟨Tryz.func270, by kernel_rfl, by kernel_rfl, by kernel_rfl⟩
noncomputable def alive25_d_c153 : Fn := ⟨236, Tryz.f236, (Tryz.f236.body).getD .skip, (fun d => d == 2), false⟩
theorem alive25_d_k153 : alive25_d_c153.Ok Tryz.prog := ⟨Tryz.func236, by kernel_rfl, by kernel_rfl, by kernel_rfl⟩
noncomputable def alive25_d_fs : List Fn := [alive25_d_c30, alive25_d_c31, alive25_d_c32, alive25_d_c33, alive25_d_c34, alive25_d_c35, alive25_d_c36, alive25_d_c38, alive25_d_c40, alive25_d_c49, alive25_d_c51, alive25_d_c57, alive25_d_c58, alive25_d_c59, alive25_d_c60, alive25_d_c61, alive25_d_c62, alive25_d_c63, alive25_d_c64, alive25_d_c65, alive25_d_c66, alive25_d_c67, alive25_d_c68, alive25_d_c69, alive25_d_c70, alive25_d_c71, alive25_d_c72, alive25_d_c73, alive25_d_c74, alive25_d_c75, alive25_d_c76, alive25_d_c77, alive25_d_c79, alive25_d_c83, alive25_d_c84, alive25_d_c86, alive25_d_c87, alive25_d_c88, alive25_d_c89, alive25_d_c90, alive25_d_c91, alive25_d_c92, alive25_d_c93, alive25_d_c95, alive25_d_c96, alive25_d_c97, alive25_d_c98, alive25_d_c99, alive25_d_c100, alive25_d_c101, alive25_d_c102, alive25_d_c103, alive25_d_c104, alive25_d_c105, alive25_d_c106, alive25_d_c107, alive25_d_c108, alive25_d_c109, alive25_d_c114, alive25_d_c115, alive25_d_c116, alive25_d_c117, alive25_d_c118, alive25_d_c119, alive25_d_c120, alive25_d_c121, alive25_d_c122, alive25_d_c123, alive25_d_c124, alive25_d_c125, alive25_d_c126, alive25_d_c127, alive25_d_c128, alive25_d_c129, alive25_d_c130, alive25_d_c131, alive25_d_c132, alive25_d_c133, alive25_d_c134, alive25_d_c135, alive25_d_c136, alive25_d_c137, alive25_d_c138, alive25_d_c139, alive25_d_c140, alive25_d_c141, alive25_d_c142, alive25_d_c143, alive25_d_c144, alive25_d_c145, alive25_d_c146, alive25_d_c147, alive25_d_c148, alive25_d_c149, alive25_d_c150, alive25_d_c151, alive25_d_c152, alive25_d_c153]
theorem alive25_d_ok : ∀ f ∈ alive25_d_fs, f.Ok Tryz.prog := List.forall_mem_cons.2 ⟨alive25_d_k30, List.forall_mem_cons.2 ⟨alive25_d_k31, List.forall_mem_cons.2 ⟨alive25_d_k32, List.forall_mem_cons.2 ⟨alive25_d_k33, List.forall_mem_cons.2 ⟨alive25_d_k34, List.forall_mem_cons.2 ⟨alive25_d_k35, List.forall_mem_cons.2 ⟨alive25_d_k36, List.forall_mem_cons.2 ⟨alive25_d_k38, List.forall_mem_cons.2 ⟨alive25_d_k40, List.forall_mem_cons.2 ⟨alive25_d_k49, List.forall_mem_cons.2 ⟨alive25_d_k51, List.forall_mem_cons.2 ⟨alive25_d_k57, List.forall_mem_cons.2 ⟨alive25_d_k58, List.forall_mem_cons.2 ⟨alive25_d_k59, List.forall_mem_cons.2 ⟨alive25_d_k60, List.forall_mem_cons.2 ⟨alive25_d_k61, List.forall_mem_cons.2 ⟨alive25_d_k62, List.forall_mem_cons.2 ⟨alive25_d_k63, List.forall_mem_cons.2 ⟨alive25_d_k64, List.forall_mem_cons.2 ⟨alive25_d_k65, List.forall_mem_cons.2 ⟨alive25_d_k66, List.forall_mem_cons.2 ⟨alive25_d_k67, List.forall_mem_cons.2 ⟨alive25_d_k68, List.forall_mem_cons.2 ⟨alive25_d_k69, List.forall_mem_cons.2 ⟨alive25_d_k70, List.forall_mem_cons.2 ⟨alive25_d_k71, List.forall_mem_cons.2 ⟨alive25_d_k72, List.forall_mem_cons.2 ⟨alive25_d_k73, List.forall_mem_cons.2 ⟨alive25_d_k74, List.forall_mem_cons.2 ⟨alive25_d_k75, List.forall_mem_cons.2 ⟨alive25_d_k76, List.forall_mem_cons.2 ⟨alive25_d_k77, List.forall_mem_cons.2 ⟨alive25_d_k79, List.forall_mem_cons.2 ⟨alive25_d_k83, List.forall_mem_cons.2 ⟨alive25_d_k84, List.forall_mem_cons.2 ⟨alive25_d_k86, List.forall_mem_cons.2 ⟨alive25_d_k87, List.forall_mem_cons.2 ⟨alive25_d_k88, List.forall_mem_cons.2 ⟨alive25_d_k89, List.forall_mem_cons.2 ⟨alive25_d_k90, List.forall_mem_cons.2 ⟨alive25_d_k91, List.forall_mem_cons.2 ⟨alive25_d_k92, List.forall_mem_cons.2 ⟨alive25_d_k93, List.forall_mem_cons.2 ⟨alive25_d_k95, List.forall_mem_cons.2 ⟨alive25_d_k96, List.forall_mem_cons.2 ⟨alive25_d_k97, List.forall_mem_cons.2 ⟨alive25_d_k98, List.forall_mem_cons.2 ⟨alive25_d_k99, List.forall_mem_cons.2 ⟨alive25_d_k100, List.forall_mem_cons.2 ⟨alive25_d_k101, List.forall_mem_cons.2 ⟨alive25_d_k102, List.forall_mem_cons.2 ⟨alive25_d_k103, List.forall_mem_cons.2 ⟨alive25_d_k104, List.forall_mem_cons.2 ⟨alive25_d_k105, List.forall_mem_cons.2 ⟨alive25_d_k106, List.forall_mem_cons.2 ⟨alive25_d_k107, List.forall_mem_cons.2 ⟨alive25_d_k108, List.forall_mem_cons.2 ⟨alive25_d_k109, List.forall_mem_cons.2 ⟨alive25_d_k114, List.forall_mem_cons.2 ⟨alive25_d_k115, List.forall_mem_cons.2 ⟨alive25_d_k116, List.forall_mem_cons.2 ⟨alive25_d_k117, List.forall_mem_cons.2 ⟨alive25_d_k118, List.forall_mem_cons.2 ⟨alive25_d_k119, List.forall_mem_cons.2 ⟨alive25_d_k120, List.forall_mem_cons.2 ⟨alive25_d_k121, List.forall_mem_cons.2 ⟨alive25_d_k122, List.forall_mem_cons.2 ⟨alive25_d_k123, List.forall_mem_cons.2 ⟨alive25_d_k124, List.forall_mem_cons.2 ⟨alive25_d_k125, List.forall_mem_cons.2 ⟨alive25_d_k126, List.forall_mem_cons.2 ⟨alive25_d_k127, List.forall_mem_cons.2 ⟨alive25_d_k128, List.forall_mem_cons.2 ⟨alive25_d_k129, List.forall_mem_cons.2 ⟨alive25_d_k130, List.forall_mem_cons.2 ⟨alive25_d_k131, List.forall_mem_cons.2 ⟨alive25_d_k132, List.forall_mem_cons.2 ⟨alive25_d_k133, List.forall_mem_cons.2 ⟨alive25_d_k134, List.forall_mem_cons.2 ⟨alive25_d_k135, List.forall_mem_cons.2 ⟨alive25_d_k136, List.forall_mem_cons.2 ⟨alive25_d_k137, List.forall_mem_cons.2 ⟨alive25_d_k138, List.forall_mem_cons.2 ⟨alive25_d_k139, List.forall_mem_cons.2 ⟨alive25_d_k140, List.forall_mem_cons.2 ⟨alive25_d_k141, List.forall_mem_cons.2 ⟨alive25_d_k142, List.forall_mem_cons.2 ⟨alive25_d_k143, List.forall_mem_cons.2 ⟨alive25_d_k144, List.forall_mem_cons.2 ⟨alive25_d_k145, List.forall_mem_cons.2 ⟨alive25_d_k146, List.forall_mem_cons.2 ⟨alive25_d_k147, List.forall_mem_cons.2 ⟨alive25_d_k148, List.forall_mem_cons.2 ⟨alive25_d_k149, List.forall_mem_cons.2 ⟨alive25_d_k150, List.forall_mem_cons.2 ⟨alive25_d_k151, List.forall_mem_cons.2 ⟨alive25_d_k152, List.forall_mem_cons.2 ⟨alive25_d_k153, (fun _ h => nomatch h)⟩⟩⟩⟩⟩⟩⟩⟩⟩⟩⟩⟩⟩⟩⟩⟩⟩⟩⟩⟩⟩⟩⟩⟩⟩⟩⟩⟩⟩⟩⟩⟩⟩⟩⟩⟩⟩⟩⟩⟩⟩⟩⟩⟩⟩⟩⟩⟩⟩⟩⟩⟩⟩⟩⟩⟩⟩⟩⟩⟩⟩⟩⟩⟩⟩⟩⟩⟩⟩⟩⟩⟩⟩⟩⟩⟩⟩⟩⟩⟩⟩⟩⟩⟩⟩⟩⟩⟩⟩⟩⟩⟩⟩⟩⟩⟩⟩⟩
theorem alive25_d : DCall Tryz.prog 22 [] (.bool true) := (xAll_sound (orc := fun _ _ => none) orders (fun _ _ _ h => nomatch h) alive25_d_ok 30).1 _ _ _ (by kernel_rfl)
end YtajgclnahfmfmaaGreat
end Go.Vm
end
section
set_option linter.unusedSimpArgs false
set_option maxRecDepth 10000
namespace Go.Vm
open Go Go.Proofs Go.Whole
namespace YtajgclnahfmfmaaGreat
open Go.Proofs.Tryz
attribute [go_sem] Tryz.results29
def RInt.v (x : RInt) : Int := (x.p : Int) - x.n
theorem addW_v : ∀ (out : List WI) (cs : List Int) (m : Nat), (addW out cs m).map WI.z = List.zipWith (fun (v c : Int) => v + m * c) (out.map WI.z) cs
  | [], _, _ => by simp [addW]
  | x :: out, [], _ => by simp [addW]
  | x :: out, c :: cs, m => by
    have ih := addW_v out cs m
    simp only [addW] at ih
    simp only [addW, List.zipWith_cons_cons, List.map_cons, ih]
end YtajgclnahfmfmaaGreat
end Go.Vm
end
section
namespace Go.Simplex
structure Tab where
  rows : List (List Rat)
  cost : List Rat
  basis : List Nat
  cols : Nat
  deriving DecidableEq
def Tab.row (T : Tab) (i : Nat) : List Rat := T.rows.getD i []
structure Tab.Ok (T : Tab) (n W : Nat) : Prop where
  rn : T.rows.length = n
  bn : T.basis.length = n
  cw : T.cost.length = W
  rw' : ∀ r ∈ T.rows, r.length = W
  wide : W = T.cols + n + 1
end Go.Simplex
end
section
namespace Go.Simplex
def flipB (b : Rat) : Bool := decide (b < 0)
def flipR (f : Bool) (x : Rat) : Rat := if f then -x else x
def entry (cols W i : Nat) (r : List Rat) (b : Rat) (j : Nat) : Rat :=
  if j = cols + i then 1 else flipR (flipB b) (if j < cols then r.getD j 0 else if j = W - 1 then b else 0)
end Go.Simplex
end
section
set_option linter.unusedSimpArgs false
namespace Go.Vm
open Go Go.Proofs Go.Whole
namespace YtajgclnahfmfmaaGreat
open Go.Proofs.Tryz
def dotQ : List Int → List Rat → Rat
  | c :: cs, x :: xs => (c : Rat) * x + dotQ cs xs
  | _, _ => 0
def rowQ (r : Row) (p : List Rat) : Rat := dotQ r.coefs p + (r.const : Rat)
def sumM : List Row → List Nat → List Rat → Rat
  | r :: rows, m :: ms, p => (m : Rat) * rowQ r p + sumM rows ms p
  | _, _, _ => 0
theorem dotQ_nil (l : List Int) : dotQ l [] = 0 := by cases l <;> rfl
theorem dotQ_add (m : Nat) : ∀ (l cs : List Int) (p : List Rat), l.length = cs.length → dotQ (List.zipWith (fun (v c : Int) => v + m * c) l cs) p = dotQ l p + (m : Rat) * dotQ cs p
  | [], [], p, _ => by cases p <;> simp only [List.zipWith, dotQ] <;> grind
  | [], c :: cs, _, h => by simp at h
  | v :: l, [], _, h => by simp at h
  | v :: l, c :: cs, [], _ => by rw [dotQ_nil, dotQ_nil, dotQ_nil]; grind
  | v :: l, c :: cs, x :: p, h => by
    have ih := dotQ_add m l cs p (by simpa using h)
    simp only [List.zipWith_cons_cons, dotQ, ih, Rat.intCast_add, Rat.intCast_mul]
    have : ((m : Int) : Rat) = (m : Rat) := rfl
    rw [this]; grind
theorem lsumR_rowQ (V : Nat) (p : List Rat) : ∀ (rows : List Row) (ms : List Nat) (out : List WI) (last : WI), out.length = V → (∀ r ∈ rows, r.coefs.length = V) →
    dotQ ((lsumR out last rows ms).1.map WI.z) p + ((lsumR out last rows ms).2.z : Rat) = dotQ (out.map WI.z) p + (last.z : Rat) + sumM rows ms p
  | [], ms, out, last, _, _ => by cases ms <;> simp only [lsumR, sumM] <;> grind
  | r :: rows, [], out, last, _, _ => by simp only [lsumR, sumM]; grind
  | r :: rows, m :: ms, out, last, hl, hr => by
    have hrl := hr r (by simp)
    simp only [lsumR, sumM]
    split
    · rename_i h0
      subst h0
      rw [lsumR_rowQ V p rows ms out last hl (fun x hx => hr x (by simp [hx]))]
      have : ((0 : Nat) : Rat) = 0 := rfl
      rw [this]; grind
    · rw [lsumR_rowQ V p rows ms _ _ (by simp [addW, hl, hrl]) (fun x hx => hr x (by simp [hx])), addW_v, dotQ_add m _ _ p (by simp [hl, hrl])]
      simp only [rowQ, Rat.intCast_add, Rat.intCast_mul]
      have : ((m : Int) : Rat) = (m : Rat) := rfl
      rw [this]; grind
theorem natQ (m : Nat) : (0 : Rat) ≤ (m : Rat) := by
  have : ((0 : Int) : Rat) ≤ ((m : Int) : Rat) := Rat.intCast_le_intCast.2 (by omega)
  exact this
theorem sumM_nonneg {p : List Rat} : ∀ (rows : List Row) (ms : List Nat), (∀ r ∈ rows, 0 ≤ rowQ r p) → 0 ≤ sumM rows ms p
  | [], ms, _ => by cases ms <;> exact Rat.le_refl
  | r :: rows, [], _ => Rat.le_refl
  | r :: rows, m :: ms, h => by
    have h1 := Rat.mul_nonneg (natQ m) (h r (by simp))
    have h2 := sumM_nonneg rows ms (fun x hx => h x (by simp [hx]))
    simp only [sumM]; grind
theorem dotQ_zero : ∀ (l : List Int) (p : List Rat), (∀ z ∈ l, z = 0) → dotQ l p = 0
  | [], p, _ => by cases p <;> rfl
  | z :: l, [], _ => rfl
  | z :: l, x :: p, h => by
    simp only [dotQ, h z (by simp), dotQ_zero l p (fun y hy => h y (by simp [hy]))]
    have : ((0 : Int) : Rat) = 0 := rfl
    rw [this]; grind
theorem eqW_dot (sc : Nat) (p : List Rat) : ∀ (out : List WI) (l : List Int), out.length = l.length → eqW out l sc = true → dotQ (out.map WI.z) p = (sc : Rat) * dotQ l p
  | [], [], _, _ => by cases p <;> simp only [List.map_nil, dotQ] <;> grind
  | [], c :: l, h, _ => by simp at h
  | x :: out, [], h, _ => by simp at h
  | x :: out, c :: l, hl, h => by
    simp only [eqW, Bool.and_eq_true, decide_eq_true_eq] at h
    cases p with
    | nil => rw [dotQ_nil, dotQ_nil]; grind
    | cons y p =>
      have ih := eqW_dot sc p out l (by simpa using hl) h.2
      simp only [List.map_cons, dotQ, ih, h.1, Rat.intCast_mul]
      have : ((sc : Int) : Rat) = (sc : Rat) := rfl
      rw [this]; grind
theorem dotQ_start (V : Nat) (p : List Rat) : dotQ ((List.replicate V zW).map WI.z) p = 0 := dotQ_zero _ _ fun z hz => by
  rw [List.map_replicate] at hz
  exact (List.mem_replicate.1 hz).2
theorem lsum_start (V : Nat) (rows : List Row) (ms : List Nat) (p : List Rat) (hr : ∀ r ∈ rows, r.coefs.length = V) :
    dotQ ((lsumR (List.replicate V zW) ⟨true, 0⟩ rows ms).1.map WI.z) p + ((lsumR (List.replicate V zW) ⟨true, 0⟩ rows ms).2.z : Rat) = sumM rows ms p := by
  rw [lsumR_rowQ V p rows ms _ _ (by simp) hr, dotQ_start]
  have : ((0 : Int) : Rat) = 0 := rfl
  simp only
  rw [this]; grind
theorem contra_sound {V : Nat} {rows : List Row} {ms : List Nat} {p : List Rat} (hr : ∀ r ∈ rows, r.coefs.length = V) (hp : ∀ r ∈ rows, 0 ≤ rowQ r p) :
    contraW (lsumR (List.replicate V zW) ⟨true, 0⟩ rows ms).1 (lsumR (List.replicate V zW) ⟨true, 0⟩ rows ms).2 = false := by
  rw [Bool.eq_false_iff]
  intro hc
  have h1 := lsum_start V rows ms p hr
  have h2 := sumM_nonneg rows ms hp
  generalize lsumR (List.replicate V zW) ⟨true, 0⟩ rows ms = q at *
  simp only [contraW, Bool.and_eq_true, decide_eq_true_eq, List.all_eq_true] at hc
  rw [dotQ_zero _ _ (fun z hz => by obtain ⟨x, hx, rfl⟩ := List.mem_map.1 hz; exact hc.2 x hx)] at h1
  have h3 : (q.2.z : Rat) < ((0 : Int) : Rat) := Rat.intCast_lt_intCast.2 hc.1
  have : ((0 : Int) : Rat) = 0 := rfl
  rw [this] at h3
  grind
theorem proves_sound {V : Nat} {rows : List Row} {ms : List Nat} {sc : Nat} {row : Row} {p : List Rat} (hr : ∀ r ∈ rows, r.coefs.length = V) (hrow : row.coefs.length = V) (hp : ∀ r ∈ rows, 0 ≤ rowQ r p)
    (hc : lprovW (lsumR (List.replicate V zW) ⟨true, 0⟩ rows ms) row sc = true) : 0 ≤ rowQ row p := by
  unfold lprovW at hc
  split at hc
  · rw [contra_sound hr hp] at hc; cases hc
  · rename_i h0
    have h1 := lsum_start V rows ms p hr
    have h2 := sumM_nonneg rows ms hp
    have h3 := lsumR_len rows ms (List.replicate V zW) ⟨true, 0⟩ (by simp) hr
    generalize lsumR (List.replicate V zW) ⟨true, 0⟩ rows ms = q at *
    simp only [Bool.and_eq_true, decide_eq_true_eq] at hc
    rw [eqW_dot sc p q.1 row.coefs (by omega) hc.1] at h1
    have h4 : (q.2.z : Rat) ≤ (((sc : Int) * row.const : Int) : Rat) := Rat.intCast_le_intCast.2 hc.2
    rw [Rat.intCast_mul] at h4
    have h5 : ((sc : Int) : Rat) = (sc : Rat) := rfl
    rw [h5] at h4
    have h6 : 0 ≤ (sc : Rat) * rowQ row p := by unfold rowQ; grind
    have h7 : (0 : Rat) < (sc : Rat) := by
      have : ((0 : Int) : Rat) < ((sc : Int) : Rat) := Rat.intCast_lt_intCast.2 (by omega)
      exact this
    refine Rat.not_lt.1 fun hn => ?_
    have := Rat.mul_pos h7 (show 0 < - rowQ row p by grind)
    grind
end YtajgclnahfmfmaaGreat
end Go.Vm
end
section
set_option linter.unusedSimpArgs false
set_option maxRecDepth 10000
namespace Go.Vm
open Go Go.Proofs Go.Whole
namespace YtajgclnahfmfmaaGreat
open Go.Proofs.Tryz
attribute [go_sem] Tryz.results77 Tryz.results24 Tryz.results94 Tryz.results176 Tryz.results93 Tryz.results92 Tryz.results175
structure RV where
  num : Int
  den : Int
def RV.tr (q : RV) : Tr := .agg [i64 q.num, i64 q.den]
attribute [go_sem] RV.tr
def winB (k : Int) : Bool := decide (k ≥ -4611686018427387904) && decide (k ≤ 4611686018427387904)
def ratB (q : RV) : Bool := decide (q.den ≥ 1) && winB q.den && winB q.num && decide (Nat.gcd q.num.natAbs q.den.natAbs = 1)
def pointB (vars : Int) (l : List RV) : Bool := !((l.length : Int) != vars) && l.all ratB
theorem within_d (k : Int) : DCall Tryz.prog 176 [i64 k] (.bool (winB k)) := by
  refine dcall_mk orders Tryz.func176 rfl (by kernel_rfl) noMu (by kernel_rfl) rfl (fun hs => ?_)
  repeat' (first
    | (with_reducible first | refine sA ?_ ?_ | refine sB ?_ ?_ | refine sC ?_ ?_ | refine sD ?_ ?_ | refine sE ?_ ?_ | refine sF ?_ ?_) <;> intro h
    | simp only [go_sem, *, winB])
theorem isRatio_d (q : RV) : DCall Tryz.prog 94 [q.tr] (.bool (ratB q)) := by
  by_cases hin : 1 ≤ q.den ∧ winB q.den = true ∧ winB q.num = true
  · obtain ⟨i1, i2, i3⟩ := hin
    have hn : inI64 q.num := by simp only [winB, Bool.and_eq_true, decide_eq_true_eq] at i3; exact ⟨by omega, by omega⟩
    have hd : inI64 q.den := by simp only [winB, Bool.and_eq_true, decide_eq_true_eq] at i2; exact ⟨by omega, by omega⟩
    have o1 := of_d q.num hn
    have o2 := of_d q.den hd
    have g1 := gcd_d q.num q.den (fits_i64 hn) (fits_i64 hd)
    have hgd : Int.gcd q.num q.den ≤ q.den.natAbs := Nat.le_of_dvd (by omega) (Nat.gcd_dvd_right _ _)
    have c1 := cmp_d true true ((Int.gcd q.num q.den : Nat) : Int) 1 (fits_i64 ⟨by omega, by obtain ⟨_, h⟩ := hd; omega⟩) (fits_i64 ⟨by omega, by omega⟩)
    have o3 := of_d 1 ⟨by omega, by omega⟩
    have w1 := within_d q.den
    have w2 := within_d q.num
    rw [i2] at w1
    rw [i3] at w2
    have e1 : decide (q.den < 1) = false := decide_eq_false (by omega)
    have e5 : ratB q = ((((Int.gcd q.num q.den : Nat) : Int) - 1).sign == 0) := by
      simp only [ratB, i2, i3]
      rw [Bool.eq_iff_iff]
      simp only [Bool.and_eq_true, decide_eq_true_eq, beq_iff_eq, Int.sign_eq_zero_iff_zero, Bool.and_true]
      show _ ∧ Nat.gcd q.num.natAbs q.den.natAbs = 1 ↔ _
      have : Int.gcd q.num q.den = Nat.gcd q.num.natAbs q.den.natAbs := rfl
      omega
    rw [e5]
    clear e5 hgd hn hd i1 i2 i3
    refine dcall_mk orders Tryz.func94 rfl (by kernel_rfl) noMu (by kernel_rfl) rfl (fun hs => ?_)
    clear hs
    repeat' (first
      | (with_reducible first | refine sA ?_ ?_ | refine sB ?_ ?_ | refine sC ?_ ?_ | refine sD ?_ ?_ | refine sE ?_ ?_ | refine sF ?_ ?_) <;> intro h
      | refine clK_mk (w1) rfl ?_
      | refine clK_mk (w2) rfl ?_
      | refine clK_mk (o1) rfl ?_
      | refine clK_mk (o2) rfl ?_
      | refine clK_mk (g1) rfl ?_
      | refine clK_mk (o3) rfl ?_
      | refine clK_mk (c1) rfl ?_
      | simp only [go_sem, *])
  · have e5 : ratB q = false := by
      rw [Bool.eq_false_iff]
      simp only [ratB]
      intro hh
      simp only [Bool.and_eq_true, decide_eq_true_eq] at hh
      exact hin ⟨hh.1.1.1, hh.1.1.2, hh.1.2⟩
    rw [e5]
    have w1 := within_d q.den
    have w2 := within_d q.num
    refine dcall_mk orders Tryz.func94 rfl (by kernel_rfl) noMu (by kernel_rfl) rfl (fun hs => ?_)
    clear hs
    repeat' (first
      | (with_reducible first | refine sA ?_ ?_ | refine sB ?_ ?_ | refine sC ?_ ?_ | refine sD ?_ ?_ | refine sE ?_ ?_ | refine sF ?_ ?_) <;> intro h
      | refine clK_mk (w1) rfl ?_
      | refine clK_mk (w2) rfl ?_
      | simp only [go_sem, *])
    all_goals (exfalso; apply hin; simp_all; try omega)
theorem notRatio_d (q : RV) : DCall Tryz.prog 93 [q.tr] (.bool (!ratB q)) := by
  refine dcall_mk orders Tryz.func93 rfl (by kernel_rfl) noMu (by kernel_rfl) rfl (fun hs => ?_)
  repeat' (first
    | (with_reducible first | refine sA ?_ ?_ | refine sB ?_ ?_ | refine sC ?_ ?_ | refine sD ?_ ?_ | refine sE ?_ ?_ | refine sF ?_ ?_) <;> intro h
    | refine clK_mk (isRatio_d q) rfl ?_
    | simp only [go_sem, *])
theorem indexRV_d (nn : Bool) (l : List RV) (g : FuncId) (p : RV → Bool) (hp : ∀ x ∈ l, DCall Tryz.prog g [x.tr] (.bool (p x))) : DCall Tryz.prog 175 [.sl nn (l.map RV.tr), .fn g []] (i64 (idxFrom p 0 l)) := by
  refine dcall_mk orders Tryz.func175 rfl (by kernel_rfl) noMu (by kernel_rfl) rfl (fun hs => ?_)
  simp [sizedL, Tr.sized] at hs
  obtain ⟨hs1, _⟩ := hs
  repeat' (first
    | (with_reducible first | refine sA ?_ ?_ | refine sB ?_ ?_ | refine sC ?_ ?_ | refine sD ?_ ?_ | refine sE ?_ ?_ | refine sF ?_ ?_) <;> intro h
    | simp only [go_sem, *])
  refine loop_range l (fun k s' => idxFrom p 0 l = idxFrom p k (l.drop k)) rfl rfl (by first | assumption | omega) (by kernel_rfl) (fun _ _ _ _ hj => hj) (fun _ _ _ hj => hj) ?_ (fun k x s' hx hd hk hJ hix hfr G hG => ?_) (fun s' hJ hfr => ?_)
  · rfl
  · have c0 := hfr 0 (by kernel_rfl)
    have c1 := hfr 1 (by kernel_rfl)
    clear hfr
    simp only [go_sem] at c0 c1
    rw [hd, idxFrom] at hJ
    repeat' (first
      | (with_reducible first | refine sA ?_ ?_ | refine sB ?_ ?_ | refine sC ?_ ?_ | refine sD ?_ ?_ | refine sE ?_ ?_ | refine sF ?_ ?_) <;> intro h
      | refine clK_mk (hp x (List.mem_of_getElem? hx)) rfl ?_
      | simp only [go_sem, *])
    try any_goals (refine congrArg some ?_; first | rfl | (simp only [go_sem, idxFrom, *]; done) | (simp only [go_sem, idxFrom, *]; rfl) | (simp_all [idxFrom]; done))
    try any_goals (refine hG _ ?_; simp only [go_sem, idxFrom, *]; done)
  · simp only [List.drop_length, idxFrom] at hJ
    repeat' (first
      | (with_reducible first | refine sA ?_ ?_ | refine sB ?_ ?_ | refine sC ?_ ?_ | refine sD ?_ ?_ | refine sE ?_ ?_ | refine sF ?_ ?_) <;> intro h
      | simp only [go_sem, *])
theorem containsRV_d (nn : Bool) (l : List RV) (g : FuncId) (p : RV → Bool) (hp : ∀ x ∈ l, DCall Tryz.prog g [x.tr] (.bool (p x))) : DCall Tryz.prog 92 [.sl nn (l.map RV.tr), .fn g []] (.bool (l.any p)) := by
  rw [← idxFrom_any p l 0]
  refine dcall_mk orders Tryz.func92 rfl (by kernel_rfl) noMu (by kernel_rfl) rfl (fun hs => ?_)
  repeat' (first
    | (with_reducible first | refine sA ?_ ?_ | refine sB ?_ ?_ | refine sC ?_ ?_ | refine sD ?_ ?_ | refine sE ?_ ?_ | refine sF ?_ ?_) <;> intro h
    | refine clK_mk (indexRV_d nn l g p hp) rfl ?_
    | simp only [go_sem, *])
end YtajgclnahfmfmaaGreat
end Go.Vm
end
section
set_option linter.unusedSimpArgs false
set_option maxRecDepth 10000
namespace Go.Vm
open Go Go.Proofs Go.Whole
namespace YtajgclnahfmfmaaGreat
open Go.Proofs.Tryz
attribute [go_sem] Tryz.results99 Tryz.results35 Tryz.results98
abbrev tRats : TypeId := 124
theorem B2 : B ^ 2 = 18446744073709551616 := by decide
theorem B4 : B ^ 4 = 340282366920938463463374607431768211456 := by decide
def FB (q : Rat) (n d : Nat) : Prop := q.num.natAbs ≤ n ∧ q.den ≤ d
theorem FB.mono {q : Rat} {n d n' d' : Nat} (h : FB q n d) (h1 : n ≤ n') (h2 : d ≤ d') : FB q n' d' := ⟨Nat.le_trans h.1 h1, Nat.le_trans h.2 h2⟩
theorem FB.divInt {a b : Int} (hb : 0 < b) {n d : Nat} (h1 : a.natAbs ≤ n) (h2 : b.natAbs ≤ d) : FB (Rat.divInt a b) n d := by
  obtain ⟨e1, e2⟩ := divInt_num (a := a) hb
  refine ⟨?_, ?_⟩
  · rw [e1, Int.natAbs_tdiv]; exact Nat.le_trans (Nat.div_le_self _ _) h1
  · have h3 : ((Rat.divInt a b).den : Int).natAbs ≤ b.natAbs := by rw [e2, Int.natAbs_tdiv]; exact Nat.div_le_self _ _
    rw [Int.natAbs_natCast] at h3
    omega
theorem den_mul_pos (p q : Rat) : 0 < (p.den : Int) * q.den := by
  have := Nat.mul_pos p.den_pos q.den_pos
  rw [← Int.natCast_mul]; omega
theorem FB.add {p q : Rat} {n d n' d' : Nat} (h : FB p n d) (h' : FB q n' d') : FB (p + q) (n * d' + n' * d) (d * d') := by
  rw [add_eq]
  refine FB.divInt (den_mul_pos p q) ?_ ?_
  · have a1 : (p.num * q.den).natAbs ≤ n * d' := by rw [Int.natAbs_mul, Int.natAbs_natCast]; exact Nat.mul_le_mul h.1 h'.2
    have a2 : (q.num * p.den).natAbs ≤ n' * d := by rw [Int.natAbs_mul, Int.natAbs_natCast]; exact Nat.mul_le_mul h'.1 h.2
    omega
  · rw [Int.natAbs_mul, Int.natAbs_natCast, Int.natAbs_natCast]; exact Nat.mul_le_mul h.2 h'.2
theorem FB.mul {p q : Rat} {n d n' d' : Nat} (h : FB p n d) (h' : FB q n' d') : FB (p * q) (n * n') (d * d') := by
  rw [mul_eq]
  refine FB.divInt (den_mul_pos p q) ?_ ?_
  · rw [Int.natAbs_mul]; exact Nat.mul_le_mul h.1 h'.1
  · rw [Int.natAbs_mul, Int.natAbs_natCast, Int.natAbs_natCast]; exact Nat.mul_le_mul h.2 h'.2
theorem FB.int (z : Int) : FB (z : Rat) z.natAbs 1 := ⟨Nat.le_refl _, Nat.le_refl _⟩
theorem FB.fits {q : Rat} {n d k : Nat} (h : FB q n d) (hn : n < B ^ k) (hd : d < B ^ k) (hk : k ≤ 100000) : qfits q :=
  ⟨Nat.le_trans (digs_length_le (Nat.lt_of_le_of_lt h.1 hn)) hk, Nat.le_trans (digs_length_le (Nat.lt_of_le_of_lt h.2 hd)) hk⟩
theorem B_pow2 (k : Nat) : B ^ (2 * (k + 1)) = B ^ (2 * k) * 18446744073709551616 := by
  rw [Nat.mul_add, Nat.pow_add, show B ^ (2 * 1) = 18446744073709551616 by decide]
theorem B_pow_pos (k : Nat) : 0 < B ^ k := Nat.pow_pos B_pos
def partB (k : Nat) (q : Rat) : Prop := FB q (B ^ (2 * (k + 1))) (B ^ (2 * k))
theorem partB.fits {k : Nat} {q : Rat} (h : partB k q) (hk : k ≤ 1000) : qfits q := by
  have h1 : B ^ (2 * (k + 1)) < B ^ (2 * (k + 1) + 1) := Nat.pow_lt_pow_right (by rw [B_eq]; decide) (Nat.lt_succ_self _)
  have h2 : B ^ (2 * k) ≤ B ^ (2 * (k + 1)) := Nat.pow_le_pow_right B_pos (by omega)
  exact FB.fits (k := 2 * (k + 1) + 1) h h1 (by omega) (by omega)
theorem partB.step {k : Nat} {q p : Rat} {a : Int} (h : partB k q) (ha : a.natAbs ≤ 1048576) (hp : FB p 4611686018427387904 4611686018427387904) : partB (k + 1) (q + (a : Rat) * p) := by
  have h1 := (FB.int a).mul hp
  have h2 := FB.add h h1
  have hB := B_pow_pos (2 * k)
  refine h2.mono ?_ ?_
  · rw [B_pow2 (k + 1), B_pow2 k]
    have e2 : a.natAbs * 4611686018427387904 * B ^ (2 * k) ≤ B ^ (2 * k) * 4835703278458516698824704 := by
      rw [Nat.mul_comm]
      exact Nat.mul_le_mul_left _ (by omega)
    have e3 : B ^ (2 * k) * 18446744073709551616 * 4611686018427387904 = B ^ (2 * k) * 85070591730234615865843651857942052864 := by rw [Nat.mul_assoc]
    have e4 : B ^ (2 * k) * 18446744073709551616 * 18446744073709551616 = B ^ (2 * k) * 340282366920938463463374607431768211456 := by rw [Nat.mul_assoc]
    rw [e3, e4]
    clear e3 e4
    generalize B ^ (2 * k) = b at *
    generalize a.natAbs * 4611686018427387904 * b = y at *
    omega
  · rw [B_pow2 k, Nat.one_mul]; exact Nat.mul_le_mul_left _ (by omega)
theorem partB.skip {k : Nat} {q : Rat} (h : partB k q) : partB (k + 1) q := by
  have hB := B_pow_pos (2 * k)
  refine FB.mono h ?_ ?_
  · exact Nat.pow_le_pow_right B_pos (by omega)
  · exact Nat.pow_le_pow_right B_pos (by omega)
theorem rat_nonneg_iff (q : Rat) : decide (q.num.sign < 0) = decide (q < 0) := by
  rw [Bool.eq_iff_iff, decide_eq_true_iff, decide_eq_true_iff, Int.sign_neg_iff]
  have := Rat.num_nonneg (q := q)
  constructor
  · intro h
    refine Rat.not_le.1 fun hh => ?_
    have := this.2 hh; omega
  · intro h
    refine Int.not_le.1 fun hh => ?_
    exact Rat.not_le.2 h (this.1 hh)
theorem lvalue_d (r : Row) (pnn : Bool) (pts : List Rat) (hl : pts.length = r.coefs.length) (hlen : r.coefs.length ≤ 128) (hc : smallB r.const = true) (hcs : ∀ c ∈ r.coefs, smallB c = true) (hp : ∀ p ∈ pts, FB p 4611686018427387904 4611686018427387904) :
    DCall Tryz.prog 99 [r.tr, .sl pnn (pts.map encQ)] (encQ (rowQ r pts)) := by
  refine dcall_mk orders Tryz.func99 rfl (by kernel_rfl) (fun d => d == 4 || d == 5) (by kernel_rfl) rfl (fun hs => ?_)
  clear hs
  have hc1 := smallB_abs hc
  have w0 := whole_d r.const ⟨by omega, by omega⟩
  repeat' (first
    | (with_reducible first | refine sA ?_ ?_ | refine sB ?_ ?_ | refine sC ?_ ?_ | refine sD ?_ ?_ | refine sE ?_ ?_ | refine sF ?_ ?_) <;> intro h
    | refine clK_mk (w0) rfl ?_
    | simp only [go_sem, *])
  refine loop_range r.coefs (fun k s' => ∃ acc : Rat, hget s'.hp (5, 0) = some ⟨(ratC acc).map .t, 6, 1, tRat, true, true⟩ ∧ hget s'.hp (4, 0) = some ⟨[i64 0, i64 0, .sl false [], .bool false, .sl false [], .bool false].map .t, 6, 1, tRat, true, true⟩ ∧ partB k acc ∧ rowQ r pts = acc + dotQ (r.coefs.drop k) (pts.drop k)) rfl rfl (by first | assumption | omega) (by kernel_rfl) (fun _ _ _ _ hj => hj) (fun _ _ _ hj => hj) ?_ (fun k x s' hx hd hk hJ hix hfr G hG => ?_) (fun s' hJ hfr => ?_)
  · refine ⟨(r.const : Rat), ?_, ?_, ?_, ?_⟩
    · rfl
    · rfl
    · exact ⟨by show r.const.natAbs ≤ B ^ 2; rw [B2]; omega, by show 1 ≤ B ^ (2 * 0); decide⟩
    · unfold rowQ; simp only [List.drop_zero]; grind
  · have c1 := hfr 1 (by kernel_rfl)
    have c5 := hfr 5 (by kernel_rfl)
    have c12 := hfr 12 (by kernel_rfl)
    clear hfr
    simp only [go_sem] at c1 c5 c12
    change _ = PV.ad (5, 0) 1 0 at c5
    obtain ⟨acc, h5, h4, hpb, hJ⟩ := hJ
    obtain ⟨p, hp1, hp2⟩ := get_of_lt pts k (by omega)
    rw [hd, hp2, dotQ] at hJ
    have hxs := smallB_abs (hcs x (List.mem_of_getElem? hx))
    have hpp := hp p (List.mem_of_getElem? hp1)
    by_cases h0 : x = 0
    · subst h0
      have g0 : ((0 : Int) != 0) = false := rfl
      repeat' (first
        | (with_reducible first | refine sA ?_ ?_ | refine sB ?_ ?_ | refine sC ?_ ?_ | refine sD ?_ ?_ | refine sE ?_ ?_ | refine sF ?_ ?_) <;> intro h
        | simp only [go_sem, *])
      refine hG _ ⟨acc, h5, h4, hpb.skip, ?_⟩
      rw [hJ]
      have : ((0 : Int) : Rat) = 0 := rfl
      rw [this]; grind
    · have g0 : (x != 0) = true := by simpa using h0
      have pf : qfits p := FB.fits (k := 3) hpp (by decide) (by decide) (by decide)
      have xf : qfits (x : Rat) := FB.fits (k := 2) (FB.int x) (by rw [B2]; omega) (by rw [B2]; decide) (by decide)
      have mf : qfits ((x : Rat) * p) := FB.fits (k := 4) ((FB.int x).mul hpp) (by rw [B4]; omega) (by rw [B4]; decide) (by decide)
      have w1 := whole_d x ⟨by omega, by omega⟩
      have w2 := qmul_d (x : Rat) p xf pf
      have w3 := qadd_d acc ((x : Rat) * p) (hpb.fits (by omega)) mf
      have hst := hpb.step hxs hpp
      have hsz : (ratC acc).length = 6 := ratC_length _
      have hsz2 : (ratC (acc + (x : Rat) * p)).length = 6 := ratC_length _
      have hld : List.take 6 (List.map PV.t (ratC acc)) = List.map PV.t (ratC acc) := List.take_of_length_le (by rw [List.length_map, hsz]; exact Nat.le_refl _)
      have hdp : List.drop 6 (List.map PV.t (ratC acc)) = [] := List.drop_of_length_le (by rw [List.length_map, hsz]; exact Nat.le_refl _)
      clear mf xf pf hpb h0 hpp
      repeat' (first
        | (with_reducible first | refine sA ?_ ?_ | refine sB ?_ ?_ | refine sC ?_ ?_ | refine sD ?_ ?_ | refine sE ?_ ?_ | refine sF ?_ ?_) <;> intro h
        | refine clK_mk (w1) rfl ?_
        | refine clK_mk (w2) rfl ?_
        | refine clK_mk (w3) rfl ?_
        | simp only [go_sem, *])
      refine hG _ ⟨acc + (x : Rat) * p, ?_, ?_, hst, ?_⟩
      · simp only [go_sem, h5, hdp, List.append_nil]
      · simp only [go_sem, h4]
      · rw [hJ]; grind
  · have c4 := hfr 4 (by kernel_rfl)
    have c5 := hfr 5 (by kernel_rfl)
    clear hfr
    simp only [go_sem] at c4 c5
    change _ = PV.ad (5, 0) 1 0 at c5
    change _ = PV.ad (4, 0) 1 0 at c4
    obtain ⟨acc, h5, h4, hpb, hJ⟩ := hJ
    have hz : dotQ (r.coefs.drop r.coefs.length) (pts.drop r.coefs.length) = 0 := by rw [List.drop_length]; cases pts.drop r.coefs.length <;> rfl
    rw [hz] at hJ
    have hJ' : rowQ r pts = acc := by rw [hJ]; grind
    rw [hJ']
    have hsz : (ratC acc).length = 6 := ratC_length _
    have hld : List.take 6 (List.map PV.t (ratC acc)) = List.map PV.t (ratC acc) := List.take_of_length_le (by rw [List.length_map, hsz]; exact Nat.le_refl _)
    clear hJ hJ' hz
    repeat' (first
      | (with_reducible first | refine sA ?_ ?_ | refine sB ?_ ?_ | refine sC ?_ ?_ | refine sD ?_ ?_ | refine sE ?_ ?_ | refine sF ?_ ?_) <;> intro h
      | simp only [go_sem, *])
theorem holds2_d (r : Row) (pnn : Bool) (pts : List Rat) (hl : pts.length = r.coefs.length) (hlen : r.coefs.length ≤ 128) (hc : smallB r.const = true) (hcs : ∀ c ∈ r.coefs, smallB c = true) (hp : ∀ p ∈ pts, FB p 4611686018427387904 4611686018427387904) :
    DCall Tryz.prog 98 [r.tr, .ptr [.sl pnn (pts.map encQ)]] (.bool (decide (rowQ r pts < 0))) := by
  have h1 := lvalue_d r pnn pts hl hlen hc hcs hp
  have h2 := qsign_d (rowQ r pts)
  rw [← rat_nonneg_iff]
  generalize rowQ r pts = q at *
  clear hl hp hc hcs
  refine dcall_mk orders Tryz.func98 rfl (by kernel_rfl) noMu (by kernel_rfl) rfl (fun hs => ?_)
  clear hs
  repeat' (first
    | (with_reducible first | refine sA ?_ ?_ | refine sB ?_ ?_ | refine sC ?_ ?_ | refine sD ?_ ?_ | refine sE ?_ ?_ | refine sF ?_ ?_) <;> intro h
    | refine clK_mk (h1) rfl ?_
    | refine clK_mk (h2) rfl ?_
    | simp only [go_sem, *])
def RV.q (x : RV) : Rat := Rat.divInt x.num x.den
theorem ratB_spec {x : RV} (h : ratB x = true) : 1 ≤ x.den ∧ x.den ≤ 4611686018427387904 ∧ -4611686018427387904 ≤ x.num ∧ x.num ≤ 4611686018427387904 := by
  simp only [ratB, winB, Bool.and_eq_true, decide_eq_true_eq] at h
  omega
theorem ratB_FB {x : RV} (h : ratB x = true) : FB x.q 4611686018427387904 4611686018427387904 := by
  have := ratB_spec h
  exact FB.divInt (by omega) (by omega) (by omega)
def holdsR (vars : Int) (rows : List Row) (pts : List RV) : Bool × Int :=
  if sysErr vars rows ≠ 0 then (false, sysErr vars rows) else if pointB vars pts then (rows.all (fun r => !decide (rowQ r (pts.map RV.q) < 0)), 0) else (false, 2)
theorem toTr_fn_ad {h : Hp} {k : Nat} {g : FuncId} {id : Id} {n : Nat} {o : Obj} {ts : List Tr} (hg : hget h id = some o) (hl : o.len = n) (hm : mapO (toTr h k) o.cs = some ts) : toTr h (k + 2) (.fn g [.ad id n 0]) = some (.fn g [.ptr ts]) := by
  have h1 : toTr h (k + 1) (.ad id n 0) = some (.ptr ts) := by
    show (match hget h id with | some o => if o.len = n then (match mapO (toTr h k) o.cs with | some ts => some (Tr.ptr (ts.drop 0)) | none => none) else none | none => none) = _
    rw [hg]; simp only [hl, if_true, hm, List.drop_zero]
  show (match mapO (toTr h (k + 1)) [PV.ad id n 0] with | some ts => some (Tr.fn g ts) | none => none) = _
  simp only [mapO, h1]
def qz : List Tr := [i64 0, i64 0, .sl false [], .bool false, .sl false [], .bool false]
theorem lholds_d (vars : Int) (rnn : Bool) (rows : List Row) (pnn : Bool) (pts : List RV) :
    DCall Tryz.prog 35 [i64 vars, .sl rnn (rows.map Row.tr), .sl pnn (pts.map RV.tr)] (.tup [.bool (holdsR vars rows pts).1, i64 (holdsR vars rows pts).2]) := by
  have h1 := lcheck_d vars rnn rows
  have h2 := containsRV_d pnn pts 93 (fun x => !ratB x) (fun x _ => notRatio_d x)
  rw [any_not] at h2
  unfold holdsR
  by_cases he : sysErr vars rows = 0
  · obtain ⟨V, rfl, hS⟩ := sys_of he
    rw [he] at h1 ⊢
    by_cases hpt : pointB V pts = true
    · rw [if_pos hpt]
      simp only [pointB, Bool.and_eq_true, Bool.not_eq_true', bne_eq_false_iff_eq] at hpt
      obtain ⟨hpl, hpa⟩ := hpt
      have hl1 : pts.length ≤ V := by omega
      have hl2 : V ≤ pts.length := by omega
      have g1 : ((pts.length : Int) != (V : Int)) = false := by rw [hpl]; simp
      rw [hpa] at h2
      have hV := hS.v
      have hall : ∀ p ∈ pts, ratB p = true := List.all_eq_true.1 hpa
      have h3 := containsRows_d rnn rows 98 [.ptr [.sl true ((pts.map RV.q).map encQ)]] (fun r => decide (rowQ r (pts.map RV.q) < 0)) (fun r hr => holds2_d r true (pts.map RV.q) (by have := (hS.r r hr).1; simp only [List.length_map]; omega) (by have := (hS.r r hr).1; omega) (hS.r r hr).2.1 (hS.r r hr).2.2 (fun p hp => by
        obtain ⟨x, hx, rfl⟩ := List.mem_map.1 hp
        exact ratB_FB (hall x hx)))
      have e3 : rows.all (fun r => !decide (rowQ r (pts.map RV.q) < 0)) = !rows.any (fun r => decide (rowQ r (pts.map RV.q) < 0)) := by
        rw [List.all_eq_not_any_not]; simp
      rw [e3]
      generalize rows.any (fun r => decide (rowQ r (pts.map RV.q) < 0)) = b at *
      clear e3 hpa he hpl
      simp only [ne_eq, not_true_eq_false, if_false]
      refine dcall_mk orders Tryz.func35 rfl (by kernel_rfl) (fun d => d == 9 || d == 11 || d == 37 || d == 40 || d == 27 || d == 35) (by kernel_rfl) rfl (fun hs => ?_)
      clear hs hS
      repeat' (first
        | (with_reducible first | refine sA ?_ ?_ | refine sB ?_ ?_ | refine sC ?_ ?_ | refine sD ?_ ?_ | refine sE ?_ ?_ | refine sF ?_ ?_) <;> intro h
        | refine clK_mk (h1) rfl ?_
        | refine clK_mk (h2) rfl ?_
        | simp only [go_sem, *])
      refine hpK_if ⟨by omega, by omega⟩ ?_
      repeat' (first
        | (with_reducible first | refine sA ?_ ?_ | refine sB ?_ ?_ | refine sC ?_ ?_ | refine sD ?_ ?_ | refine sE ?_ ?_ | refine sF ?_ ?_) <;> intro h
        | simp only [go_sem, *])
      refine loop_range pts (fun k s' => ∃ cur : List Tr, hget s'.hp (27, 0) = some ⟨(flat cur).map .t, 6, V, tRat, true, true⟩ ∧ hget s'.hp (9, 0) = some ⟨[.rf (27, 0) V], 1, 1, tRats, false, true⟩ ∧ cur.length = V ∧ (∀ x ∈ cur, elemOK true 6 x) ∧ cur.take k = (pts.take k).map (fun x => encQ x.q)) rfl rfl (by first | assumption | omega) (by kernel_rfl) (fun _ _ _ _ hj => hj) (fun _ _ _ hj => hj) ?_ (fun k x s' hx hd hk hJ hix hfr G hG => ?_) (fun s' hJ hfr => ?_)
      · refine ⟨List.replicate V (.agg qz), ?_, ?_, by simp, fun x hx => by rw [(List.mem_replicate.1 hx).2]; exact ⟨fun _ => rfl, (fun h => nomatch h), rfl⟩, rfl⟩
        · rw [← zrow_flat]; rfl
        · rfl
      · have c1 := hfr 1 (by kernel_rfl)
        have c9 := hfr 9 (by kernel_rfl)
        have c28 := hfr 28 (by kernel_rfl)
        clear hfr
        simp only [go_sem] at c1 c9 c28
        change _ = PV.ad (9, 0) 1 0 at c9
        obtain ⟨cur, h27, h9, hcl, hok, htk⟩ := hJ
        have hsp := ratB_spec (hall x (List.mem_of_getElem? hx))
        have hn : inI64 x.num := ⟨by omega, by omega⟩
        have hdn : inI64 x.den := ⟨by omega, by omega⟩
        have o1 := of_d x.num hn
        have o2 := of_d x.den hdn
        have q1 := quo_d x.num x.den (by omega) (fits_i64 hn) (fits_i64 hdn)
        rw [show Rat.divInt x.num x.den = x.q from rfl] at q1
        obtain ⟨y, hy, _⟩ := get_of_lt cur k (by omega)
        have he6 : ∀ z ∈ cur, z.cells.length = 6 := fun z hz => (hok z hz).2.2
        have hsz : (ratC x.q).length = 6 := ratC_length _
        have hspl : splice (List.map PV.t (flat cur)) (k * 6) ((ratC x.q).map PV.t) = List.map PV.t (flat (cur.set k (encQ x.q))) := flat_splice he6 (x := y) (y := encQ x.q) hy (ratC_length _)
        have hfl : (flat cur).length = V * 6 := by rw [flat_length _ 6 he6, hcl]
        have hkV : k < V := by omega
        have hkV1 : k + 1 ≤ V := hkV
        have hkV2 : k * 6 + 6 ≤ V * 6 := by omega
        have hset : (cur.set k (encQ x.q)).take (k + 1) = (pts.take (k + 1)).map (fun z => encQ z.q) := by
          rw [take_set_succ _ _ _ (by omega), htk, List.take_add_one, hx, List.map_append]; rfl
        have hok2 : ∀ z ∈ cur.set k (encQ x.q), elemOK true 6 z := fun z hz => by
          rcases List.mem_or_eq_of_mem_set hz with hz | rfl
          · exact hok z hz
          · exact ok_encQ _
        clear htk hok he6 hy hsp hn hdn hall
        repeat' (first
          | (with_reducible first | refine sA ?_ ?_ | refine sB ?_ ?_ | refine sC ?_ ?_ | refine sD ?_ ?_ | refine sE ?_ ?_ | refine sF ?_ ?_) <;> intro h
          | refine clK_mk (o1) rfl ?_
          | refine clK_mk (o2) rfl ?_
          | refine clK_mk (q1) rfl ?_
          | simp only [go_sem, *])
        refine hG _ ⟨cur.set k (encQ x.q), ?_, ?_, by simp [hcl], hok2, hset⟩
        · simp only [go_sem, h27]
        · simp only [go_sem, h9]
      · have c1 := hfr 1 (by kernel_rfl)
        have c9 := hfr 9 (by kernel_rfl)
        clear hfr
        simp only [go_sem] at c1 c9
        change _ = PV.ad (9, 0) 1 0 at c9
        obtain ⟨cur, h27, h9, hcl, hok, htk⟩ := hJ
        rw [List.take_of_length_le (by omega), List.take_of_length_le (Nat.le_refl _)] at htk
        have hcur : cur = (pts.map RV.q).map encQ := by rw [htk, List.map_map]; rfl
        have e1 : toTr s'.hp 4 (.rf (27, 0) V) = some (.sl true ((pts.map RV.q).map encQ)) := by
          rw [← hcur]; exact toTr_flat 3 hok hcl h27
        have hdep : toTr s'.hp dep (mkFn 98 [.ad (9, 0) 1 0]) = some (.fn 98 [.ptr [.sl true ((pts.map RV.q).map encQ)]]) := by
          refine toTr_fn_ad (k := 4) h9 rfl ?_
          show mapO (toTr s'.hp 4) [_] = _
          simp only [mapO, e1]
        clear e1 hcur htk hok
        repeat' (first
          | (with_reducible first | refine sA ?_ ?_ | refine sB ?_ ?_ | refine sC ?_ ?_ | refine sD ?_ ?_ | refine sE ?_ ?_ | refine sF ?_ ?_) <;> intro h
          | refine clK_sc (h3) (by simp only [go_sem, *]) rfl ?_
          | simp only [go_sem, *])
    · rw [if_neg hpt]
      simp only [ne_eq, not_true_eq_false, if_false]
      by_cases hl : (pts.length : Int) = (V : Int)
      · have g1 : ((pts.length : Int) != (V : Int)) = false := by rw [hl]; simp
        have g2 : pts.all ratB = false := by
          rw [Bool.eq_false_iff]
          intro h; exact hpt (by simp [pointB, hl, h])
        rw [g2] at h2
        clear hl hpt he
        refine dcall_mk orders Tryz.func35 rfl (by kernel_rfl) (fun d => d == 9 || d == 11 || d == 37 || d == 40 || d == 27 || d == 35) (by kernel_rfl) rfl (fun hs => ?_)
        clear hs hS
        repeat' (first
          | (with_reducible first | refine sA ?_ ?_ | refine sB ?_ ?_ | refine sC ?_ ?_ | refine sD ?_ ?_ | refine sE ?_ ?_ | refine sF ?_ ?_) <;> intro h
          | refine clK_mk (h1) rfl ?_
          | refine clK_mk (h2) rfl ?_
          | simp only [go_sem, *])
      · have g1 : ((pts.length : Int) != (V : Int)) = true := by simpa using hl
        clear hl hpt he
        refine dcall_mk orders Tryz.func35 rfl (by kernel_rfl) (fun d => d == 9 || d == 11 || d == 37 || d == 40 || d == 27 || d == 35) (by kernel_rfl) rfl (fun hs => ?_)
        clear hs hS
        repeat' (first
          | (with_reducible first | refine sA ?_ ?_ | refine sB ?_ ?_ | refine sC ?_ ?_ | refine sD ?_ ?_ | refine sE ?_ ?_ | refine sF ?_ ?_) <;> intro h
          | refine clK_mk (h1) rfl ?_
          | simp only [go_sem, *])
  · rw [if_pos he]
    have hb : (sysErr vars rows != 0) = true := by simpa using he
    generalize sysErr vars rows = e at *
    clear he
    refine dcall_mk orders Tryz.func35 rfl (by kernel_rfl) (fun d => d == 9 || d == 11 || d == 37 || d == 40 || d == 27 || d == 35) (by kernel_rfl) rfl (fun hs => ?_)
    clear hs
    repeat' (first
      | (with_reducible first | refine sA ?_ ?_ | refine sB ?_ ?_ | refine sC ?_ ?_ | refine sD ?_ ?_ | refine sE ?_ ?_ | refine sF ?_ ?_) <;> intro h
      | refine clK_mk (h1) rfl ?_
      | simp only [go_sem, *])
end YtajgclnahfmfmaaGreat
end Go.Vm
end
section
set_option linter.unusedSimpArgs false
set_option maxRecDepth 10000
namespace Go.Vm
open Go Go.Proofs Go.Whole
namespace YtajgclnahfmfmaaGreat
open Go.Proofs.Tryz
attribute [go_sem] Tryz.results89 Tryz.results34 Tryz.results25
def scaledR (x : RInt) (k : Nat) : RInt := ⟨decide (x.p * k ≠ 0), x.p * k, decide (x.n * k ≠ 0), x.n * k⟩
def stepR (x : RInt) (b : Nat) (c : Int) (q : RV) : RInt :=
  if (decide (c < 0) != decide (q.num < 0)) = true then { scaledR x q.den.natAbs with nn := decide (x.n * q.den.natAbs + b * q.num.natAbs * c.natAbs ≠ 0), n := x.n * q.den.natAbs + b * q.num.natAbs * c.natAbs }
  else { scaledR x q.den.natAbs with pn := decide (x.p * q.den.natAbs + b * q.num.natAbs * c.natAbs ≠ 0), p := x.p * q.den.natAbs + b * q.num.natAbs * c.natAbs }
def atB (k : Nat) (x : RInt) (b : Nat) : Prop := x.p ≤ B ^ (2 * (k + 1)) ∧ x.n ≤ B ^ (2 * (k + 1)) ∧ b ≤ B ^ (2 * k)
theorem len_pow {n k : Nat} (h : n ≤ B ^ (2 * k)) : (digs n).length ≤ 2 * k + 1 := digs_length_le (Nat.lt_of_le_of_lt h (Nat.pow_lt_pow_right (by rw [B_eq]; decide) (Nat.lt_succ_self _)))
theorem big_sum {Y y z : Nat} (hy : y ≤ Y * 85070591730234615865843651857942052864) (hz : z ≤ Y * 4835703278458516698824704) : y + z ≤ Y * 340282366920938463463374607431768211456 ∧ y ≤ Y * 340282366920938463463374607431768211456 := by omega
theorem atB.step {k : Nat} {x : RInt} {b : Nat} {c : Int} {q : RV} (h : atB k x b) (hq : ratB q = true) (hc : c.natAbs ≤ 1048576) : atB (k + 1) (stepR x b c q) (b * q.den.natAbs) := by
  obtain ⟨h1, h2, h3⟩ := h
  have hs := ratB_spec hq
  have hd : q.den.natAbs ≤ 4611686018427387904 := by omega
  have hn : q.num.natAbs ≤ 4611686018427387904 := by omega
  have k1 : b * q.num.natAbs * c.natAbs ≤ B ^ (2 * k) * 4835703278458516698824704 := by
    rw [Nat.mul_assoc]
    exact Nat.mul_le_mul h3 (Nat.mul_le_mul hn hc)
  have k2 : ∀ y, y ≤ B ^ (2 * (k + 1)) → y * q.den.natAbs ≤ B ^ (2 * k) * 85070591730234615865843651857942052864 := by
    intro y hy
    refine Nat.le_trans (Nat.mul_le_mul hy hd) ?_
    rw [B_pow2 k, Nat.mul_assoc]; exact Nat.le_refl _
  have e4 : B ^ (2 * (k + 1 + 1)) = B ^ (2 * k) * 340282366920938463463374607431768211456 := by rw [B_pow2 (k + 1), B_pow2 k, Nat.mul_assoc]
  have a1 := k2 _ h1
  have a2 := k2 _ h2
  have k3 : ∀ y, y ≤ B ^ (2 * k) * 85070591730234615865843651857942052864 → y + b * q.num.natAbs * c.natAbs ≤ B ^ (2 * k) * 340282366920938463463374607431768211456 ∧ y ≤ B ^ (2 * k) * 340282366920938463463374607431768211456 := fun y hy => big_sum hy k1
  obtain ⟨p1, p2⟩ := k3 _ a1
  obtain ⟨n1, n2⟩ := k3 _ a2
  refine ⟨?_, ?_, ?_⟩
  · rw [e4]; unfold stepR scaledR; split
    · exact p2
    · exact p1
  · rw [e4]; unfold stepR scaledR; split
    · exact n1
    · exact n2
  · rw [B_pow2 k]
    exact Nat.mul_le_mul h3 (by omega)
theorem atB.ok {k : Nat} {x : RInt} {b : Nat} (h : atB k x b) (hk : k ≤ 200) : (digs x.p).length ≤ 500 ∧ (digs x.n).length ≤ 500 ∧ (digs b).length ≤ 500 := by
  have h1 := len_pow h.1
  have h2 := len_pow h.2.1
  have h3 := len_pow h.2.2
  omega
end YtajgclnahfmfmaaGreat
end Go.Vm
end
section
set_option linter.unusedSimpArgs false
namespace Go.Vm
open Go Go.Proofs
namespace YtajgclnahfmfmaaGreat
open Go.Proofs.Tryz
theorem typed_int {t : TypeId} {k : IntKind} {xs : List Tr} (hu : Tryz.prog.underlying t = some (.int k)) (h : Typed Tryz.prog t xs) : ∃ n, xs = [.int k n] := by
  cases h with
  | int h => rw [hu] at h; injection h with h; injection h with h; subst h; exact ⟨_, rfl⟩
  | bool h => rw [hu] at h; cases h
  | str h => rw [hu] at h; cases h
  | snil h => rw [hu] at h; cases h
  | sl h => rw [hu] at h; cases h
  | struct h => rw [hu] at h; cases h
theorem typed_sl {α : Type} {t e : TypeId} {xs : List Tr} (hu : Tryz.prog.underlying t = some (.slice e)) (f : α → Tr) (hel : ∀ x, Typed Tryz.prog e x.cells → (aggB Tryz.prog e = some true → x = .agg x.cells) → x.cells.length = Tryz.prog.cellsOf e → (aggB Tryz.prog e = some false → x.cells = [x]) → ∃ a, x = f a) (h : Typed Tryz.prog t xs) : ∃ nn l, xs = [.sl nn (List.map f l)] := by
  cases h with
  | snil h => exact ⟨false, [], rfl⟩
  | @sl _ e' l h h1 h2 h3 h4 =>
    rw [hu] at h; injection h with h; injection h with h; subst h
    have : ∃ q : List α, l = q.map f := by
      induction l with
      | nil => exact ⟨[], rfl⟩
      | cons x l ih =>
        obtain ⟨q, rfl⟩ := ih (fun y hy => h1 y (by simp [hy])) (fun y hy => h2 y (by simp [hy])) (fun y hy => h3 y (by simp [hy])) (fun y hy => h4 y (by simp [hy]))
        obtain ⟨a, rfl⟩ := hel x (h1 x (by simp)) (h2 x (by simp)) (h3 x (by simp)) (h4 x (by simp))
        exact ⟨a :: q, rfl⟩
    obtain ⟨q, rfl⟩ := this
    exact ⟨true, q, rfl⟩
  | bool h => rw [hu] at h; cases h
  | int h => rw [hu] at h; cases h
  | str h => rw [hu] at h; cases h
  | struct h => rw [hu] at h; cases h
theorem typed_struct {t : TypeId} {fs : Array Field} {xs : List Tr} (hu : Tryz.prog.underlying t = some (.struct fs)) (h : Typed Tryz.prog t xs) : xs.length = Tryz.prog.cellsOf t ∧ ∀ f ∈ fs.toList, Typed Tryz.prog f.type ((xs.drop f.offset).take (Tryz.prog.cellsOf f.type)) := by
  cases h with
  | struct h h1 h2 => rw [hu] at h; injection h with h; injection h with h; subst h; exact ⟨h1, h2⟩
  | bool h => rw [hu] at h; cases h
  | int h => rw [hu] at h; cases h
  | str h => rw [hu] at h; cases h
  | snil h => rw [hu] at h; cases h
  | sl h => rw [hu] at h; cases h
theorem typed_ints {t : TypeId} {xs : List Tr} (hu : Tryz.prog.underlying t = some (.slice 2)) (h : Typed Tryz.prog t xs) : ∃ nn l, xs = [.sl nn (ints l)] := by
  refine typed_sl hu (Tr.int .i64) (fun x h1 _ _ h4 => ?_) h
  obtain ⟨n, hn⟩ := typed_int (k := .i64) (by kernel_rfl) h1
  have := h4 (by kernel_rfl)
  rw [hn] at this
  injection this with h5
  exact ⟨n, h5.symm⟩
theorem len2 {xs : List Tr} (h : xs.length = 2) : ∃ a b, xs = [a, b] := by
  match xs, h with
  | [a, b], _ => exact ⟨a, b, rfl⟩
theorem len4 {xs : List Tr} (h : xs.length = 4) : ∃ a b c d, xs = [a, b, c, d] := by
  match xs, h with
  | [a, b, c, d], _ => exact ⟨a, b, c, d, rfl⟩
theorem typed_row {xs : List Tr} (h : Typed Tryz.prog 37 xs) : ∃ r : Row, .agg xs = r.tr := by
  obtain ⟨hl, hf⟩ := typed_struct Tryz.underlying37 h
  obtain ⟨a, b, rfl⟩ := len2 (hl.trans (by kernel_rfl))
  simp only [List.mem_cons, List.not_mem_nil, or_false, forall_eq_or_imp, forall_eq] at hf
  simp only [go_sem] at hf
  obtain ⟨h1, h2⟩ := hf
  obtain ⟨nn, l, e1⟩ := typed_ints (by kernel_rfl) h1
  obtain ⟨n, e2⟩ := typed_int (k := .i64) (by kernel_rfl) h2
  injection e1 with e1; injection e2 with e2
  subst e1; subst e2
  exact ⟨⟨nn, l, n⟩, rfl⟩
theorem typed_rows {t : TypeId} {xs : List Tr} (hu : Tryz.prog.underlying t = some (.slice 37)) (h : Typed Tryz.prog t xs) : ∃ nn l, xs = [.sl nn (List.map Row.tr l)] := by
  refine typed_sl hu Row.tr (fun x h1 h2 _ _ => ?_) h
  obtain ⟨r, hr⟩ := typed_row h1
  exact ⟨r, (h2 (by kernel_rfl)).trans hr⟩
theorem typed_u64 {t : TypeId} {xs : List Tr} (hu : Tryz.prog.underlying t = some (.int .u64)) (h : Typed Tryz.prog t xs) : ∃ m : Nat, m < 18446744073709551616 ∧ xs = [u64T m] := by
  cases h with
  | int h hw =>
    rename_i k n
    rw [hu] at h; injection h with h; injection h with h; subst h
    simp [Lit.wf, IntKind.min, IntKind.max, IntKind.bits, IntKind.signed] at hw
    exact ⟨n.toNat, by omega, by simp only [u64T]; rw [Int.toNat_of_nonneg (by omega)]⟩
  | bool h => rw [hu] at h; cases h
  | str h => rw [hu] at h; cases h
  | snil h => rw [hu] at h; cases h
  | sl h => rw [hu] at h; cases h
  | struct h => rw [hu] at h; cases h
theorem typed_u64s {t : TypeId} {xs : List Tr} (hu : Tryz.prog.underlying t = some (.slice 38)) (h : Typed Tryz.prog t xs) : ∃ nn l, (∀ m ∈ l, m < 18446744073709551616) ∧ (nn = false → l = []) ∧ xs = [.sl nn (List.map u64T l)] := by
  have hnil : ∀ nn (l : List Tr), Typed Tryz.prog t [.sl nn l] → nn = false → l = [] := by
    intro nn l hh he
    cases hh with
    | snil h => rfl
    | sl h => cases he
    | struct h => rw [hu] at h; cases h
  obtain ⟨nn, l, e⟩ := typed_sl (α := {m : Nat // m < 18446744073709551616}) hu (fun m => u64T m.1) (fun x h1 _ _ h4 => by
    obtain ⟨m, hm, hx⟩ := typed_u64 (by kernel_rfl) h1
    have := h4 (by kernel_rfl)
    rw [hx] at this
    injection this with h5
    exact ⟨⟨m, hm⟩, h5.symm⟩) h
  refine ⟨nn, l.map Subtype.val, fun m hm => ?_, fun hn => ?_, ?_⟩
  · obtain ⟨y, _, rfl⟩ := List.mem_map.1 hm
    exact y.2
  · have := hnil nn _ (e ▸ h) hn
    rw [List.map_eq_nil_iff] at this
    rw [this]; rfl
  · rw [e, List.map_map]; rfl
theorem typed_cert {xs : List Tr} (h : Typed Tryz.prog 40 xs) : ∃ f : Cert, f.scale < 18446744073709551616 ∧ (∀ m ∈ f.ms, m < 18446744073709551616) ∧ (f.mnn = false → f.ms = []) ∧ .agg xs = f.tr := by
  obtain ⟨hl, hf⟩ := typed_struct Tryz.underlying40 h
  obtain ⟨a, b, rfl⟩ := len2 (hl.trans (by kernel_rfl))
  simp only [List.mem_cons, List.not_mem_nil, or_false, forall_eq_or_imp, forall_eq] at hf
  simp only [go_sem] at hf
  obtain ⟨h1, h2⟩ := hf
  obtain ⟨m, hm, e1⟩ := typed_u64 (by kernel_rfl) h1
  obtain ⟨nn, l, h3, h4, e2⟩ := typed_u64s (by kernel_rfl) h2
  injection e1 with e1; injection e2 with e2
  subst e1; subst e2
  exact ⟨⟨m, nn, l⟩, hm, h3, h4, rfl⟩
end YtajgclnahfmfmaaGreat
end Go.Vm
end
section
set_option linter.unusedSimpArgs false
set_option maxRecDepth 10000
namespace Go.Vm
open Go Go.Proofs Go.Whole
section
variable {H : Type} {enc : TypeId × Value → H} {P : Program} {w : World} {base : Nat} {spare : Nat → Bool} {held : Bool}
theorem arg_len {t e : TypeId} {a : Option Addr} {len cap : Nat} {d : DataW H} {ps : List MemPlace} (hu : P.underlying t = some (.slice e)) (h : DataW.Trod enc P w base spare held t (.slice a len cap) d ps) : len = 0 ∨ ∃ el sp, d = .slice el sp ∧ el.length = len := by
  obtain ⟨fuel, hf⟩ := h
  cases fuel with
  | zero => simp [DataW.trod] at hf
  | succ fuel =>
    unfold DataW.trod at hf
    rw [hu] at hf
    cases a with
    | none =>
      simp only [Value.cells] at hf
      split at hf <;> simp_all
    | some a =>
      simp only [Value.cells] at hf
      right
      split at hf <;> try (cases hf; done)
      cases hmm : (List.range len).mapM (fun i => (w.cells? base (a.add (i * P.cellsOf e)) (P.cellsOf e)).bind (DataW.trod enc P w base spare held fuel e)) with
      | none => rw [hmm] at hf; simp at hf
      | some ys =>
        rw [hmm] at hf
        have hyl := mapM_some_length hmm
        simp only [Option.bind_some] at hf
        obtain ⟨rest, _, hr⟩ := Option.map_eq_some_iff.1 hf
        simp only [Prod.mk.injEq] at hr
        exact ⟨_, _, hr.1.symm, by rw [List.length_map, hyl, List.length_range]⟩
theorem reads_len {L : Nat → Prop} {nn : Bool} {l : List Tr} {a : Option Addr} {len cap : Nat} (h : Reads w L (.sl nn l) (.slice a len cap)) : l.length = len := by
  cases h <;> rfl
end
namespace YtajgclnahfmfmaaGreat
open Go.Proofs.Tryz
theorem append_rf2 {P : Program} {mu : Nat → Bool} {h : Hp} {d : Option Tmp} {t e : TypeId} {id : Id} {n by_ : Nat} {nn' : Bool} {cs : List PV} {ag : Bool} {xs : List Tr} {esz : Nat} (hel : elemB P t = some e) (hsz : P.cellsOf e = esz) (hz : (zeroB P e).map List.length = some esz) (h1 : Nat.blt 0 esz = true) (hby : P.bytesOf e = by_)
    (hx : ∀ x ∈ xs, x.cells.length = esz) (hg : hget h id = some ⟨cs, esz, n, e, ag, true⟩) (hb : (n + xs.length) * by_ ≤ 140737488355328 ∧ n + xs.length ≤ 4611686018427387904) (hne : xs ≠ []) :
    appendPV P mu d t (.rf id n) (.t (.sl nn' xs)) h = some (.rf id (n + xs.length), hset h id ⟨cs ++ (flat xs).map .t, esz, n + xs.length, e, ag, true⟩) := by
  have hpos : 0 < esz := by simp [Nat.blt] at h1; omega
  have hzz : ∃ z, zeroB P e = some z ∧ z.length = esz := by
    cases hzz : zeroB P e with
    | none => rw [hzz] at hz; cases hz
    | some z => rw [hzz] at hz; exact ⟨z, rfl, by simpa using hz⟩
  obtain ⟨z, hz1, hz2⟩ := hzz
  have hfl := flat_length xs esz hx
  have hl0 : xs.length ≠ 0 := fun e => hne (List.eq_nil_of_length_eq_zero e)
  unfold appendPV
  simp only [hel, hz1, srcPV, hfl, hsz, if_true, hz2, true_and, hg, hby]
  rw [if_pos hpos, if_pos hb, if_neg hl0]
theorem cloneRows_i2 (l : List Row) (h : Hp) (hlen : l.length ≤ 4398046511104) :
    ICall Tryz.prog 168 [.t (.sl true (l.map Row.tr))] h (fun v h' => v = .rf (hnext h 5) l.length ∧ h' = hnew h 5 ⟨(flat (l.map Row.tr)).map .t, 2, l.length, tRow, true, true⟩) := by
  by_cases hne : l = []
  · subst hne
    exact cloneRows_i' [] h (by simp)
  · have hempty : ¬ l = [] := hne
    refine icall_mk orders Tryz.func168 rfl (by kernel_rfl) (fun d => d == 5 || d == 7) (by kernel_rfl) rfl (fun hs hlen => ?_)
    clear hs
    repeat' (first
      | (with_reducible first | refine sA ?_ ?_ | refine sB ?_ ?_ | refine sC ?_ ?_ | refine sD ?_ ?_ | refine sE ?_ ?_ | refine sF ?_ ?_) <;> intro h
      | simp only [go_sem, *])
    rw [append_rf2 (esz := 2) (e := tRow) (ag := true) (by_ := 32) (by kernel_rfl) (by kernel_rfl) (by kernel_rfl) rfl (by kernel_rfl) (fun x hx => (ok_rows l x hx).2.2) (hget_new _ _) (by rw [List.length_map]; omega) (by simpa using hne)]
    simp only [Nat.zero_add, List.length_map, List.nil_append, hset_new]
    repeat' (first
      | (with_reducible first | refine sA ?_ ?_ | refine sB ?_ ?_ | refine sC ?_ ?_ | refine sD ?_ ?_ | refine sE ?_ ?_ | refine sF ?_ ?_) <;> intro h
      | simp only [go_sem, *])
theorem implied_d2 (vars : Int) (rnn : Bool) (rows : List Row) (row : Row) (hlen : rows.length ≤ 4398046511103) : DCall Tryz.prog 81 [i64 vars, .sl rnn (rows.map Row.tr), row.tr] (i64 (sysErr vars (rows ++ [row]))) := by
  by_cases hsm : rows.length ≤ 900000
  · exact implied_d vars rnn rows row hsm
  refine dcall_wf (enters' _ (by kernel_rfl)) fun hw => ?_
  have hnil : rnn = false → rows = [] := fun h => by
    subst h
    simp [wfL, Tr.wf] at hw
    exact hw.1.1
  cases rnn with
  | false =>
    have := hnil rfl
    subst this
    simp at hsm
  | true =>
    have hc := lcheck_d vars true (rows ++ [row])
    have hi := cloneRows_i2 rows (fun _ => []) (by omega)
    clear hw hnil hsm
    refine dcall_mk orders Tryz.func81 rfl (by kernel_rfl) (fun d => d == 9 || d == 13) (by kernel_rfl) rfl (fun hs => ?_)
    clear hs
    repeat' (first
      | (with_reducible first | refine sA ?_ ?_ | refine sB ?_ ?_ | refine sC ?_ ?_ | refine sD ?_ ?_ | refine sE ?_ ?_ | refine sF ?_ ?_) <;> intro h
      | simp only [go_sem, *])
    refine clK_ix hi rfl ?_
    repeat' (first
      | (with_reducible first | refine sA ?_ ?_ | refine sB ?_ ?_ | refine sC ?_ ?_ | refine sD ?_ ?_ | refine sE ?_ ?_ | refine sF ?_ ?_) <;> intro h
      | simp only [go_sem, *])
    rw [append_rf2 (esz := 2) (e := tRow) (ag := true) (by_ := 32) (by kernel_rfl) (by kernel_rfl) (by kernel_rfl) rfl (by kernel_rfl) (fun x hx => by rw [List.mem_singleton.1 hx]; rfl) (hget_new _ _) (by simp; omega) (by simp)]
    have hcells : List.map PV.t (flat (List.map Row.tr rows)) ++ List.map PV.t (flat [Tr.agg [.sl row.nn (List.map (Tr.int .i64) row.coefs), .int .i64 row.const]]) = List.map PV.t (flat ((rows ++ [row]).map Row.tr)) := by
      rw [List.map_append, flat_append, List.map_append]; rfl
    rw [hcells, hset_new]
    have hdep : ∀ n, n = (rows ++ [row]).length → toTr (hnew (fun _ => []) 5 ⟨List.map PV.t (flat ((rows ++ [row]).map Row.tr)), 2, n, tRow, true, true⟩) dep (.rf (hnext (fun _ => []) 5) n) = some (.sl true ((rows ++ [row]).map Row.tr)) := fun n hn => toTr_flat 5 (ok_rows _) (by simp [hn]) (hget_new _ _)
    have hdep2 := hdep (rows.length + 1) (by simp)
    simp only [List.length_cons, List.length_nil]
    repeat' (first
      | (with_reducible first | refine sA ?_ ?_ | refine sB ?_ ?_ | refine sC ?_ ?_ | refine sD ?_ ?_ | refine sE ?_ ?_ | refine sF ?_ ?_) <;> intro h
      | simp only [go_sem, *])
    refine clK_fx hc (by simp only [go_sem, hdep2]) rfl ?_
    repeat' (first
      | (with_reducible first | refine sA ?_ ?_ | refine sB ?_ ?_ | refine sC ?_ ?_ | refine sD ?_ ?_ | refine sE ?_ ?_ | refine sF ?_ ?_) <;> intro h
      | simp only [go_sem, *])
theorem lproves_bad2 (vars : Int) (rnn : Bool) (rows : List Row) (row : Row) (f : Cert) (hlen : rows.length ≤ 4398046511103) (he : sysErr vars (rows ++ [row]) ≠ 0) : DCall Tryz.prog 37 [i64 vars, .sl rnn (rows.map Row.tr), row.tr, f.tr] (.tup [.bool false, i64 (sysErr vars (rows ++ [row]))]) := by
  have hck := implied_d2 vars rnn rows row hlen
  have g : (sysErr vars (rows ++ [row]) != 0) = true := by simpa using he
  generalize sysErr vars (rows ++ [row]) = e at *
  clear he
  refine dcall_mk orders Tryz.func37 rfl (by kernel_rfl) (fun d => d == 12 || d == 13 || d == 33 || d == 38) (by kernel_rfl) rfl (fun hs => ?_)
  clear hs
  repeat' (first
    | (with_reducible first | refine sA ?_ ?_ | refine sB ?_ ?_ | refine sC ?_ ?_ | refine sD ?_ ?_ | refine sE ?_ ?_ | refine sF ?_ ?_) <;> intro h
    | refine clK_mk (hck) rfl ?_
    | simp only [go_sem, *])
theorem lproves_d (vars : Int) (rnn : Bool) (rows : List Row) (row : Row) (f : Cert) (hlen : rows.length ≤ 4398046511103) (hnil : f.mnn = false → f.ms = []) :
    DCall Tryz.prog 37 [i64 vars, .sl rnn (rows.map Row.tr), row.tr, f.tr] (.tup [.bool (lprovR vars rows row f).1, i64 (lprovR vars rows row f).2]) := by
  unfold lprovR
  by_cases he : sysErr vars (rows ++ [row]) = 0
  · rw [if_neg (fun h => h he)]
    obtain ⟨V, rfl, hS⟩ := sys_of he
    have hn := hS.n
    simp only [List.length_append, List.length_cons, List.length_nil] at hn
    obtain ⟨sc, mnn, ms⟩ := f
    simp only at hnil
    by_cases hc : okCert rows ⟨sc, mnn, ms⟩ = true
    · rw [if_pos hc]
      simp only [okCert, okMults, Bool.and_eq_true, decide_eq_true_eq, List.all_eq_true] at hc
      exact lproves_ok V rnn rows row sc mnn ms he hS hc.1.1 (by
        simp only [List.all_eq_true, List.mem_append, List.mem_singleton, decide_eq_true_eq]
        exact fun m hm => hm.elim (fun hm => hc.1.2 m hm) (fun hm => hm ▸ hc.2)) hnil
    · rw [if_neg hc]
      by_cases hl : ms.length = rows.length
      · refine lproves_big V rnn rows row sc mnn ms (by omega) he hl ?_ hnil
        rw [Bool.eq_false_iff]
        intro ha
        simp only [List.all_eq_true, List.mem_append, List.mem_singleton, decide_eq_true_eq] at ha
        exact hc (by simp only [okCert, okMults, Bool.and_eq_true, decide_eq_true_eq, List.all_eq_true]; exact ⟨⟨hl, fun m hm => ha m (.inl hm)⟩, ha sc (.inr rfl)⟩)
      · exact lproves_len V rnn rows row ⟨sc, mnn, ms⟩ (by omega) he hl
  · rw [if_pos he]
    exact lproves_bad2 vars rnn rows row f hlen he
end YtajgclnahfmfmaaGreat
end Go.Vm
end
section
set_option linter.unusedSimpArgs false
set_option maxRecDepth 10000
namespace Go.Vm
open Go Go.Proofs Go.Whole
namespace YtajgclnahfmfmaaGreat
open Go.Proofs.Tryz
attribute [go_sem] Tryz.results5 Tryz.results6
theorem holdsR_true {vars : Int} {rows : List Row} {pts : List RV} (h1 : sysErr vars rows = 0) (h2 : pointB vars pts = true) : holdsR vars rows pts = (rows.all (fun r => !decide (rowQ r (pts.map RV.q) < 0)), 0) := by
  unfold holdsR; rw [if_neg (fun h => h h1), if_pos h2]
theorem sysErr_one {vars : Int} {rows : List Row} {row : Row} (h : sysErr vars (rows ++ [row]) = 0) : sysErr vars [row] = 0 := by
  obtain ⟨V, rfl, hS⟩ := sys_of h
  unfold sysErr at h ⊢
  split at h
  · cases h
  · rename_i g1
    rw [if_neg g1]
    split at h
    · cases h
    · rw [if_neg (by simp)]
      split at h
      · rename_i g3
        rw [List.all_append, Bool.and_eq_true] at g3
        rw [if_pos g3.2]
      · cases h
theorem LinearSound_d (vars : Int) (rnn : Bool) (rows : List Row) (row : Row) (f : Cert) (pnn : Bool) (pts : List RV) (hlen : rows.length ≤ 4398046511103) (hsc : f.scale < 18446744073709551616) (hms : ∀ m ∈ f.ms, m < 18446744073709551616) (hnil : f.mnn = false → f.ms = []) : DCall Tryz.prog 6 [i64 vars, .sl rnn (rows.map Row.tr), row.tr, f.tr, .sl pnn (pts.map RV.tr)] (.bool true) := by
  have h1 := lholds_d vars rnn rows pnn pts
  have h3 := alive25_d
  have h4 := lrefutes_d vars rnn rows f.mnn f.ms
  have h5 := lproves_d vars rnn rows row f hlen hnil
  have h6 := lholds_d vars true [row] pnn pts
  by_cases hgood : sysErr vars rows = 0 ∧ pointB vars pts = true ∧ rows.all (fun r => !decide (rowQ r (pts.map RV.q) < 0)) = true
  · obtain ⟨g1, g2, g3⟩ := hgood
    rw [holdsR_true g1 g2, g3] at h1
    obtain ⟨V, rfl, hS⟩ := sys_of g1
    have hp : ∀ r ∈ rows, 0 ≤ rowQ r (pts.map RV.q) := fun r hr => by
      have := List.all_eq_true.1 g3 r hr
      simp only [Bool.not_eq_true', decide_eq_false_iff_not] at this
      exact Rat.not_lt.1 this
    have hr : ∀ r ∈ rows, r.coefs.length = V := fun r hr => (hS.r r hr).1
    have k1 : (lrefR V rows f.ms).1 = false := by
      unfold lrefR
      rw [if_neg (fun h => h g1)]
      split
      · rw [Int.toNat_natCast]; exact contra_sound hr hp
      · rfl
    rw [k1] at h4
    generalize (lrefR V rows f.ms).2 = e2 at *
    cases hb : (lprovR V rows row f).1 with
    | false =>
      rw [hb] at h5
      generalize (lprovR V rows row f).2 = e3 at *
      clear hS g1 g2 g3 hp hr k1 hb hms hsc hnil hlen
      generalize (holdsR V [row] pts).1 = b at *
      generalize (holdsR V [row] pts).2 = e4 at *
      obtain ⟨sc, mnn, ms⟩ := f
      refine dcall_mk orders Tryz.func6 rfl (by kernel_rfl) noMu (by kernel_rfl) rfl (fun hs => ?_)
      clear hs
      repeat' (first
        | (with_reducible first | refine sA ?_ ?_ | refine sB ?_ ?_ | refine sC ?_ ?_ | refine sD ?_ ?_ | refine sE ?_ ?_ | refine sF ?_ ?_) <;> intro h
        | refine clK_mk (h1) rfl ?_
        | refine clK_mk (h4) rfl ?_
        | refine clK_mk (h5) rfl ?_
        | refine clK_mk (h6) rfl ?_
        | refine clK_mk (h3) rfl ?_
        | simp only [go_sem, *, beq_self_eq_true])
    | true =>
      rw [hb] at h5
      have hv : sysErr V (rows ++ [row]) = 0 ∧ 0 ≤ rowQ row (pts.map RV.q) := by
        unfold lprovR at hb
        split at hb
        · cases hb
        · rename_i g4
          have g4 : sysErr V (rows ++ [row]) = 0 := Decidable.not_not.1 g4
          refine ⟨g4, ?_⟩
          obtain ⟨V', hV', hS'⟩ := sys_of g4
          have hVV : V' = V := by omega
          subst hVV
          split at hb
          · rw [Int.toNat_natCast] at hb
            exact proves_sound hr (hS'.left).2.1 hp hb
          · cases hb
      have k3 : [row].all (fun r => !decide (rowQ r (pts.map RV.q) < 0)) = true := by
        rw [List.all_cons, decide_eq_false (Rat.not_lt.2 hv.2)]; rfl
      rw [holdsR_true (sysErr_one hv.1) g2, k3] at h6
      generalize (lprovR V rows row f).2 = e3 at *
      clear hS g1 g2 g3 hp hr k1 hb hms hsc hnil hlen k3 hv
      obtain ⟨sc, mnn, ms⟩ := f
      refine dcall_mk orders Tryz.func6 rfl (by kernel_rfl) noMu (by kernel_rfl) rfl (fun hs => ?_)
      clear hs
      repeat' (first
        | (with_reducible first | refine sA ?_ ?_ | refine sB ?_ ?_ | refine sC ?_ ?_ | refine sD ?_ ?_ | refine sE ?_ ?_ | refine sF ?_ ?_) <;> intro h
        | refine clK_mk (h1) rfl ?_
        | refine clK_mk (h4) rfl ?_
        | refine clK_mk (h5) rfl ?_
        | refine clK_mk (h6) rfl ?_
        | refine clK_mk (h3) rfl ?_
        | simp only [go_sem, *, beq_self_eq_true])
  · have hbad : (holdsR vars rows pts).2 ≠ 0 ∨ ((holdsR vars rows pts).2 = 0 ∧ (holdsR vars rows pts).1 = false) := by
      unfold holdsR
      split
      · rename_i h; exact .inl h
      · rename_i h
        split
        · rename_i h2
          right
          refine ⟨rfl, ?_⟩
          rw [Bool.eq_false_iff]
          exact fun h3 => hgood ⟨Decidable.not_not.1 h, h2, h3⟩
        · left; decide
    clear hgood h4 h5 h6 hms hsc hnil hlen
    generalize (holdsR vars rows pts).1 = b at *
    generalize (holdsR vars rows pts).2 = e at *
    obtain ⟨sc, mnn, ms⟩ := f
    rcases hbad with hne | ⟨rfl, rfl⟩
    · have hb2 : (e != 0) = true := by simpa using hne
      refine dcall_mk orders Tryz.func6 rfl (by kernel_rfl) noMu (by kernel_rfl) rfl (fun hs => ?_)
      clear hs
      repeat' (first
        | (with_reducible first | refine sA ?_ ?_ | refine sB ?_ ?_ | refine sC ?_ ?_ | refine sD ?_ ?_ | refine sE ?_ ?_ | refine sF ?_ ?_) <;> intro h
        | refine clK_mk (h1) rfl ?_
        | refine clK_mk (h3) rfl ?_
        | simp only [go_sem, *, beq_self_eq_true])
    · skip
      refine dcall_mk orders Tryz.func6 rfl (by kernel_rfl) noMu (by kernel_rfl) rfl (fun hs => ?_)
      clear hs
      repeat' (first
        | (with_reducible first | refine sA ?_ ?_ | refine sB ?_ ?_ | refine sC ?_ ?_ | refine sD ?_ ?_ | refine sE ?_ ?_ | refine sF ?_ ?_) <;> intro h
        | refine clK_mk (h1) rfl ?_
        | refine clK_mk (h3) rfl ?_
        | simp only [go_sem, *, beq_self_eq_true])
theorem typed_rv {xs : List Tr} (h : Typed Tryz.prog 140 xs) : ∃ r : RV, .agg xs = r.tr := by
  obtain ⟨hl, hf⟩ := typed_struct Tryz.underlying140 h
  obtain ⟨a, b, rfl⟩ := len2 (hl.trans (by kernel_rfl))
  simp only [List.mem_cons, List.not_mem_nil, or_false, forall_eq_or_imp, forall_eq] at hf
  simp only [go_sem] at hf
  obtain ⟨h1, h2⟩ := hf
  obtain ⟨n, e1⟩ := typed_int (k := .i64) (by kernel_rfl) h1
  obtain ⟨d, e2⟩ := typed_int (k := .i64) (by kernel_rfl) h2
  injection e1 with e1; injection e2 with e2
  subst e1; subst e2
  exact ⟨⟨n, d⟩, rfl⟩
theorem typed_rats {t : TypeId} {xs : List Tr} (hu : Tryz.prog.underlying t = some (.slice 140)) (h : Typed Tryz.prog t xs) : ∃ nn l, xs = [.sl nn (List.map RV.tr l)] := by
  refine typed_sl hu RV.tr (fun x h1 h2 _ _ => ?_) h
  obtain ⟨r, hr⟩ := typed_rv h1
  exact ⟨r, (h2 (by kernel_rfl)).trans hr⟩
end YtajgclnahfmfmaaGreat
end Go.Vm
end
section
namespace Go.Proofs.YtajgclnahfmfmaaGreat.lb
open Go.ChangeShapes Go.WideShapes Go.ChangeAt Go.RowKit
theorem and_t {a b : Bool} (h1 : a = true) (h2 : b = true) : (a && b) = true := by rw [h1, h2]; rfl
theorem own : ownKnob Tryz.prog.godebug = none := by kernel_rfl
theorem laidOut : laidOutB Tryz.prog = true := by kernel_rfl
theorem rowed : mapsRowed Tryz.prog = true := by kernel_rfl
theorem enters : Tryz.prog.mayEnter = true := by kernel_rfl
theorem lifts : (Rows.linearHoldsRow.lifted == Tryz.prog.liftsFinal) = true := by kernel_rfl
theorem made : (Tryz.prog.make == some Rows.linearHoldsRow.make) = true := by kernel_rfl
theorem keys : (Rows.linearHoldsRow.plainKeys == Tryz.prog.plainKeys) = true := by kernel_rfl
theorem heard : Tryz.prog.stopsHeard = true := by kernel_rfl
end Go.Proofs.YtajgclnahfmfmaaGreat.lb
end
