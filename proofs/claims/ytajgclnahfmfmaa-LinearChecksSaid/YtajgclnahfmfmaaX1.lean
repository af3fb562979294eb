/- dwindle/dwindlelaw25.alive: carried out in the machine. -/
import Derived.Test.YtajgclnahfmfmaaR1
import Derived.Test.YtajgclnahfmfmaaVmX
set_option maxRecDepth 10000
namespace Go.Vm
open Go Go.Proofs
namespace Ytajgclnahfmfmaa
open Go.Proofs.Try

noncomputable def alive25_d_c30 : Fn := ⟨30, Try.f30, (Try.f30.body).getD .skip, noMu, false⟩
theorem alive25_d_k30 : alive25_d_c30.Ok Try.prog := ⟨Try.func30, by kernel_rfl, by kernel_rfl, by kernel_rfl⟩
noncomputable def alive25_d_c31 : Fn := ⟨31, Try.f31, (Try.f31.body).getD .skip, (fun d => d == 6), false⟩
theorem alive25_d_k31 : alive25_d_c31.Ok Try.prog := ⟨Try.func31, by kernel_rfl, by kernel_rfl, by kernel_rfl⟩
noncomputable def alive25_d_c32 : Fn := ⟨32, Try.f32, (Try.f32.body).getD .skip, (fun d => d == 10 || d == 2000090), false⟩
theorem alive25_d_k32 : alive25_d_c32.Ok Try.prog := ⟨Try.func32, by kernel_rfl, by kernel_rfl, by kernel_rfl⟩
noncomputable def alive25_d_c33 : Fn := ⟨33, Try.f33, (Try.f33.body).getD .skip, noMu, false⟩
theorem alive25_d_k33 : alive25_d_c33.Ok Try.prog := ⟨Try.func33, by kernel_rfl, by kernel_rfl, by kernel_rfl⟩
noncomputable def alive25_d_c34 : Fn := ⟨34, Try.f34, (Try.f34.body).getD .skip, noMu, false⟩
theorem alive25_d_k34 : alive25_d_c34.Ok Try.prog := ⟨Try.func34, by kernel_rfl, by kernel_rfl, by kernel_rfl⟩
noncomputable def alive25_d_c35 : Fn := ⟨35, Try.f35, (Try.f35.body).getD .skip, (fun d => d == 8 || d == 10), false⟩
theorem alive25_d_k35 : alive25_d_c35.Ok Try.prog := ⟨Try.func35, by kernel_rfl, by kernel_rfl, by kernel_rfl⟩
noncomputable def alive25_d_c36 : Fn := ⟨36, Try.f36, (Try.f36.body).getD .skip, (fun d => d == 12 || d == 13 || d == 33 || d == 38), false⟩
theorem alive25_d_k36 : alive25_d_c36.Ok Try.prog := ⟨Try.func36, by kernel_rfl, by kernel_rfl, by kernel_rfl⟩
noncomputable def alive25_d_c38 : Fn := ⟨38, Try.f38, (Try.f38.body).getD .skip, (fun d => d == 10 || d == 13 || d == 14), false⟩
theorem alive25_d_k38 : alive25_d_c38.Ok Try.prog := ⟨Try.func38, by kernel_rfl, by kernel_rfl, by kernel_rfl⟩
noncomputable def alive25_d_c40 : Fn := ⟨40, Try.f40, (Try.f40.body).getD .skip, noMu, false⟩
theorem alive25_d_k40 : alive25_d_c40.Ok Try.prog := ⟨Try.func40, by kernel_rfl, by kernel_rfl, by kernel_rfl⟩
noncomputable def alive25_d_c49 : Fn := ⟨49, Try.f49, (Try.f49.body).getD .skip, noMu, false⟩
theorem alive25_d_k49 : alive25_d_c49.Ok Try.prog := ⟨Try.func49, by kernel_rfl, by kernel_rfl, by kernel_rfl⟩
noncomputable def alive25_d_c51 : Fn := ⟨51, Try.f51, (Try.f51.body).getD .skip, noMu, false⟩
theorem alive25_d_k51 : alive25_d_c51.Ok Try.prog := ⟨Try.func51, by kernel_rfl, by kernel_rfl, by kernel_rfl⟩
noncomputable def alive25_d_c57 : Fn := ⟨57, Try.f57, (Try.f57.body).getD .skip, noMu, false⟩
theorem alive25_d_k57 : alive25_d_c57.Ok Try.prog := ⟨Try.func57, by kernel_rfl, by kernel_rfl, by kernel_rfl⟩
noncomputable def alive25_d_c58 : Fn := ⟨58, Try.f58, (Try.f58.body).getD .skip, noMu, false⟩
theorem alive25_d_k58 : alive25_d_c58.Ok Try.prog := ⟨Try.func58, by kernel_rfl, by kernel_rfl, by kernel_rfl⟩
noncomputable def alive25_d_c59 : Fn := ⟨59, Try.f59, (Try.f59.body).getD .skip, noMu, false⟩
theorem alive25_d_k59 : alive25_d_c59.Ok Try.prog := ⟨Try.func59, by kernel_rfl, by kernel_rfl, by kernel_rfl⟩
noncomputable def alive25_d_c60 : Fn := ⟨60, Try.f60, (Try.f60.body).getD .skip, (fun d => d == 6 || d == 33 || d == 39 || d == 47), false⟩
theorem alive25_d_k60 : alive25_d_c60.Ok Try.prog := ⟨Try.func60, by kernel_rfl, by kernel_rfl, by kernel_rfl⟩
noncomputable def alive25_d_c61 : Fn := ⟨61, Try.f61, (Try.f61.body).getD .skip, (fun d => d == 12), false⟩
theorem alive25_d_k61 : alive25_d_c61.Ok Try.prog := ⟨Try.func61, by kernel_rfl, by kernel_rfl, by kernel_rfl⟩
noncomputable def alive25_d_c62 : Fn := ⟨62, Try.f62, (Try.f62.body).getD .skip, noMu, false⟩
theorem alive25_d_k62 : alive25_d_c62.Ok Try.prog := ⟨Try.func62, by kernel_rfl, by kernel_rfl, by kernel_rfl⟩
noncomputable def alive25_d_c63 : Fn := ⟨63, Try.f63, (Try.f63.body).getD .skip, noMu, false⟩
theorem alive25_d_k63 : alive25_d_c63.Ok Try.prog := ⟨Try.func63, by kernel_rfl, by kernel_rfl, by kernel_rfl⟩
noncomputable def alive25_d_c64 : Fn := ⟨64, Try.f64, (Try.f64.body).getD .skip, (fun d => d == 7 || d == 9 || d == 11 || d == 12 || d == 16 || d == 43 || d == 45 || d == 47 || d == 54 || d == 58), false⟩
theorem alive25_d_k64 : alive25_d_c64.Ok Try.prog := ⟨Try.func64, by kernel_rfl, by kernel_rfl, by kernel_rfl⟩
noncomputable def alive25_d_c65 : Fn := ⟨65, Try.f65, (Try.f65.body).getD .skip, (fun d => d == 7 || d == 9 || d == 11 || d == 16), false⟩
theorem alive25_d_k65 : alive25_d_c65.Ok Try.prog := ⟨Try.func65, by kernel_rfl, by kernel_rfl, by kernel_rfl⟩
noncomputable def alive25_d_c66 : Fn := ⟨66, Try.f66, (Try.f66.body).getD .skip, noMu, false⟩
theorem alive25_d_k66 : alive25_d_c66.Ok Try.prog := ⟨Try.func66, by kernel_rfl, by kernel_rfl, by kernel_rfl⟩
noncomputable def alive25_d_c67 : Fn := ⟨67, Try.f67, (Try.f67.body).getD .skip, noMu, false⟩
theorem alive25_d_k67 : alive25_d_c67.Ok Try.prog := ⟨Try.func67, by kernel_rfl, by kernel_rfl, by kernel_rfl⟩
noncomputable def alive25_d_c68 : Fn := ⟨68, Try.f68, (Try.f68.body).getD .skip, (fun d => d == 9 || d == 13), false⟩
theorem alive25_d_k68 : alive25_d_c68.Ok Try.prog := ⟨Try.func68, by kernel_rfl, by kernel_rfl, by kernel_rfl⟩
noncomputable def alive25_d_c69 : Fn := ⟨69, Try.f69, (Try.f69.body).getD .skip, (fun d => d == 5 || d == 7), true⟩
theorem alive25_d_k69 : alive25_d_c69.Ok Try.prog := ⟨Try.func69, by kernel_rfl, by kernel_rfl, by kernel_rfl⟩
noncomputable def alive25_d_c70 : Fn := ⟨70, Try.f70, (Try.f70.body).getD .skip, (fun d => d == 2), false⟩
theorem alive25_d_k70 : alive25_d_c70.Ok Try.prog := ⟨Try.func70, by kernel_rfl, by kernel_rfl, by kernel_rfl⟩
noncomputable def alive25_d_c71 : Fn := ⟨71, Try.f71, (Try.f71.body).getD .skip, noMu, false⟩
theorem alive25_d_k71 : alive25_d_c71.Ok Try.prog := ⟨Try.func71, by kernel_rfl, by kernel_rfl, by kernel_rfl⟩
noncomputable def alive25_d_c72 : Fn := ⟨72, Try.f72, (Try.f72.body).getD .skip, (fun d => d == 4 || d == 18), false⟩
theorem alive25_d_k72 : alive25_d_c72.Ok Try.prog := ⟨Try.func72, by kernel_rfl, by kernel_rfl, by kernel_rfl⟩
noncomputable def alive25_d_c73 : Fn := ⟨73, Try.f73, (Try.f73.body).getD .skip, (fun d => d == 2 || d == 3), false⟩
theorem alive25_d_k73 : alive25_d_c73.Ok Try.prog := ⟨Try.func73, by kernel_rfl, by kernel_rfl, by kernel_rfl⟩
noncomputable def alive25_d_c74 : Fn := ⟨74, Try.f74, (Try.f74.body).getD .skip, (fun d => d == 5 || d == 7 || d == 10), false⟩
theorem alive25_d_k74 : alive25_d_c74.Ok Try.prog := ⟨Try.func74, by kernel_rfl, by kernel_rfl, by kernel_rfl⟩
noncomputable def alive25_d_c75 : Fn := ⟨75, Try.f75, (Try.f75.body).getD .skip, noMu, false⟩
theorem alive25_d_k75 : alive25_d_c75.Ok Try.prog := ⟨Try.func75, by kernel_rfl, by kernel_rfl, by kernel_rfl⟩
noncomputable def alive25_d_c76 : Fn := ⟨76, Try.f76, (Try.f76.body).getD .skip, (fun d => d == 3 || d == 6 || d == 9 || d == 17), false⟩
theorem alive25_d_k76 : alive25_d_c76.Ok Try.prog := ⟨Try.func76, by kernel_rfl, by kernel_rfl, by kernel_rfl⟩
noncomputable def alive25_d_c77 : Fn := ⟨77, Try.f77, (Try.f77.body).getD .skip, noMu, false⟩
theorem alive25_d_k77 : alive25_d_c77.Ok Try.prog := ⟨Try.func77, by kernel_rfl, by kernel_rfl, by kernel_rfl⟩
noncomputable def alive25_d_c79 : Fn := ⟨79, Try.f79, (Try.f79.body).getD .skip, noMu, false⟩
theorem alive25_d_k79 : alive25_d_c79.Ok Try.prog := ⟨Try.func79, by kernel_rfl, by kernel_rfl, by kernel_rfl⟩
noncomputable def alive25_d_c83 : Fn := ⟨83, Try.f83, (Try.f83.body).getD .skip, noMu, false⟩
theorem alive25_d_k83 : alive25_d_c83.Ok Try.prog := ⟨Try.func83, by kernel_rfl, by kernel_rfl, by kernel_rfl⟩
noncomputable def alive25_d_c84 : Fn := ⟨84, Try.f84, (Try.f84.body).getD .skip, noMu, false⟩
theorem alive25_d_k84 : alive25_d_c84.Ok Try.prog := ⟨Try.func84, by kernel_rfl, by kernel_rfl, by kernel_rfl⟩
noncomputable def alive25_d_c86 : Fn := ⟨86, Try.f86, (Try.f86.body).getD .skip, noMu, false⟩
theorem alive25_d_k86 : alive25_d_c86.Ok Try.prog := ⟨Try.func86, by kernel_rfl, by kernel_rfl, by kernel_rfl⟩
noncomputable def alive25_d_c87 : Fn := ⟨87, Try.f87, (Try.f87.body).getD .skip, (fun d => d == 17 || d == 20 || d == 24 || d == 30 || d == 32 || d == 52 || d == 58 || d == 61 || d == 79 || d == 91 || d == 96 || d == 102 || d == 104 || d == 105 || d == 106 || d == 107 || d == 108 || d == 109 || d == 110 || d == 114 || d == 118 || d == 123 || d == 125 || d == 127 || d == 130), false⟩
theorem alive25_d_k87 : alive25_d_c87.Ok Try.prog := ⟨Try.func87, by kernel_rfl, by kernel_rfl, by kernel_rfl⟩
noncomputable def alive25_d_c88 : Fn := ⟨88, Try.f88, (Try.f88.body).getD .skip, (fun d => d == 16 || d == 10 || d == 38 || d == 40 || d == 42 || d == 47 || d == 48 || d == 56 || d == 58 || d == 60 || d == 67 || d == 68), false⟩
theorem alive25_d_k88 : alive25_d_c88.Ok Try.prog := ⟨Try.func88, by kernel_rfl, by kernel_rfl, by kernel_rfl⟩
noncomputable def alive25_d_c89 : Fn := ⟨89, Try.f89, (Try.f89.body).getD .skip, (fun d => d == 9), false⟩
theorem alive25_d_k89 : alive25_d_c89.Ok Try.prog := ⟨Try.func89, by kernel_rfl, by kernel_rfl, by kernel_rfl⟩
noncomputable def alive25_d_c90 : Fn := ⟨90, Try.f90, (Try.f90.body).getD .skip, (fun d => d == 5 || d == 8 || d == 33), false⟩
theorem alive25_d_k90 : alive25_d_c90.Ok Try.prog := ⟨Try.func90, by kernel_rfl, by kernel_rfl, by kernel_rfl⟩
noncomputable def alive25_d_c91 : Fn := ⟨91, Try.f91, (Try.f91.body).getD .skip, (fun d => d == 8 || d == 15), false⟩
theorem alive25_d_k91 : alive25_d_c91.Ok Try.prog := ⟨Try.func91, by kernel_rfl, by kernel_rfl, by kernel_rfl⟩
noncomputable def alive25_d_c92 : Fn := ⟨92, Try.f92, (Try.f92.body).getD .skip, (fun d => d == 2 || d == 10 || d == 13), false⟩
theorem alive25_d_k92 : alive25_d_c92.Ok Try.prog := ⟨Try.func92, by kernel_rfl, by kernel_rfl, by kernel_rfl⟩
noncomputable def alive25_d_c93 : Fn := ⟨93, Try.f93, (Try.f93.body).getD .skip, noMu, false⟩
theorem alive25_d_k93 : alive25_d_c93.Ok Try.prog := ⟨Try.func93, by kernel_rfl, by kernel_rfl, by kernel_rfl⟩
noncomputable def alive25_d_c95 : Fn := ⟨95, Try.f95, (Try.f95.body).getD .skip, noMu, false⟩
theorem alive25_d_k95 : alive25_d_c95.Ok Try.prog := ⟨Try.func95, by kernel_rfl, by kernel_rfl, by kernel_rfl⟩
noncomputable def alive25_d_c96 : Fn := ⟨96, Try.f96, (Try.f96.body).getD .skip, noMu, false⟩
theorem alive25_d_k96 : alive25_d_c96.Ok Try.prog := ⟨Try.func96, by kernel_rfl, by kernel_rfl, by kernel_rfl⟩
noncomputable def alive25_d_c97 : Fn := ⟨97, Try.f97, (Try.f97.body).getD .skip, noMu, false⟩
theorem alive25_d_k97 : alive25_d_c97.Ok Try.prog := ⟨Try.func97, by kernel_rfl, by kernel_rfl, by kernel_rfl⟩
noncomputable def alive25_d_c98 : Fn := ⟨98, Try.f98, (Try.f98.body).getD .skip, noMu, false⟩
theorem alive25_d_k98 : alive25_d_c98.Ok Try.prog := ⟨Try.func98, by kernel_rfl, by kernel_rfl, by kernel_rfl⟩
noncomputable def alive25_d_c99 : Fn := ⟨99, Try.f99, (Try.f99.body).getD .skip, noMu, false⟩
theorem alive25_d_k99 : alive25_d_c99.Ok Try.prog := ⟨Try.func99, by kernel_rfl, by kernel_rfl, by kernel_rfl⟩
noncomputable def alive25_d_c100 : Fn := ⟨100, Try.f100, (Try.f100.body).getD .skip, (fun d => d == 4), false⟩
theorem alive25_d_k100 : alive25_d_c100.Ok Try.prog := ⟨Try.func100, by kernel_rfl, by kernel_rfl, by kernel_rfl⟩
noncomputable def alive25_d_c101 : Fn := ⟨101, Try.f101, (Try.f101.body).getD .skip, noMu, false⟩
theorem alive25_d_k101 : alive25_d_c101.Ok Try.prog := ⟨Try.func101, by kernel_rfl, by kernel_rfl, by kernel_rfl⟩
noncomputable def alive25_d_c102 : Fn := ⟨102, Try.f102, (Try.f102.body).getD .skip, noMu, false⟩
theorem alive25_d_k102 : alive25_d_c102.Ok Try.prog := ⟨Try.func102, by kernel_rfl, by kernel_rfl, by kernel_rfl⟩
noncomputable def alive25_d_c103 : Fn := ⟨103, Try.f103, (Try.f103.body).getD .skip, (fun d => d == 5 || d == 7), true⟩
theorem alive25_d_k103 : alive25_d_c103.Ok Try.prog := ⟨Try.func103, by kernel_rfl, by kernel_rfl, by kernel_rfl⟩
noncomputable def alive25_d_c104 : Fn := ⟨104, Try.f104, (Try.f104.body).getD .skip, (fun d => d == 4), false⟩
theorem alive25_d_k104 : alive25_d_c104.Ok Try.prog := ⟨Try.func104, by kernel_rfl, by kernel_rfl, by kernel_rfl⟩
noncomputable def alive25_d_c105 : Fn := ⟨105, Try.f105, (Try.f105.body).getD .skip, (fun d => d == 4), false⟩
theorem alive25_d_k105 : alive25_d_c105.Ok Try.prog := ⟨Try.func105, by kernel_rfl, by kernel_rfl, by kernel_rfl⟩
noncomputable def alive25_d_c106 : Fn := ⟨106, Try.f106, (Try.f106.body).getD .skip, noMu, false⟩
theorem alive25_d_k106 : alive25_d_c106.Ok Try.prog := ⟨Try.func106, by kernel_rfl, by kernel_rfl, by kernel_rfl⟩
noncomputable def alive25_d_c107 : Fn := ⟨107, Try.f107, (Try.f107.body).getD .skip, (fun d => d == 37), false⟩
theorem alive25_d_k107 : alive25_d_c107.Ok Try.prog := ⟨Try.func107, by kernel_rfl, by kernel_rfl, by kernel_rfl⟩
noncomputable def alive25_d_c108 : Fn := ⟨108, Try.f108, (Try.f108.body).getD .skip, noMu, false⟩
theorem alive25_d_k108 : alive25_d_c108.Ok Try.prog := ⟨Try.func108, by kernel_rfl, by kernel_rfl, by kernel_rfl⟩
noncomputable def alive25_d_c109 : Fn := ⟨109, Try.f109, (Try.f109.body).getD .skip, noMu, false⟩
theorem alive25_d_k109 : alive25_d_c109.Ok Try.prog := ⟨Try.func109, by kernel_rfl, by kernel_rfl, by kernel_rfl⟩
noncomputable def alive25_d_c114 : Fn := ⟨114, Try.f114, (Try.f114.body).getD .skip, (fun d => d == 16 || d == 18 || d == 31 || d == 41 || d == 52 || d == 53 || d == 54 || d == 55 || d == 58 || d == 81 || d == 13 || d == 141 || d == 142 || d == 143 || d == 144 || d == 146 || d == 147 || d == 148 || d == 149 || d == 151 || d == 155 || d == 163 || d == 164 || d == 167 || d == 168 || d == 169 || d == 170 || d == 172 || d == 173 || d == 174 || d == 178), true⟩
theorem alive25_d_k114 : alive25_d_c114.Ok Try.prog := ⟨Try.func114, by kernel_rfl, by kernel_rfl, by kernel_rfl⟩
noncomputable def alive25_d_c115 : Fn := ⟨115, Try.f115, (Try.f115.body).getD .skip, noMu, true⟩
theorem alive25_d_k115 : alive25_d_c115.Ok Try.prog := ⟨Try.func115, by kernel_rfl, by kernel_rfl, by kernel_rfl⟩
noncomputable def alive25_d_c116 : Fn := ⟨116, Try.f116, (Try.f116.body).getD .skip, (fun d => d == 7 || d == 34 || d == 36 || d == 38 || d == 42 || d == 60 || d == 68), true⟩
theorem alive25_d_k116 : alive25_d_c116.Ok Try.prog := ⟨Try.func116, by kernel_rfl, by kernel_rfl, by kernel_rfl⟩
noncomputable def alive25_d_c117 : Fn := ⟨117, Try.f117, (Try.f117.body).getD .skip, (fun d => d == 6 || d == 9 || d == 27 || d == 28 || d == 31 || d == 33 || d == 35 || d == 50 || d == 51 || d == 52 || d == 53 || d == 55 || d == 57 || d == 58 || d == 59 || d == 60 || d == 62 || d == 1000006 || d == 1000009), true⟩
theorem alive25_d_k117 : alive25_d_c117.Ok Try.prog := ⟨Try.func117, by kernel_rfl, by kernel_rfl, by kernel_rfl⟩
noncomputable def alive25_d_c118 : Fn := ⟨118, Try.f118, (Try.f118.body).getD .skip, (fun d => d == 2), false⟩
theorem alive25_d_k118 : alive25_d_c118.Ok Try.prog := ⟨Try.func118, by kernel_rfl, by kernel_rfl, by kernel_rfl⟩
noncomputable def alive25_d_c119 : Fn := ⟨119, Try.f119, (Try.f119.body).getD .skip, (fun d => d == 4), false⟩
theorem alive25_d_k119 : alive25_d_c119.Ok Try.prog := ⟨Try.func119, by kernel_rfl, by kernel_rfl, by kernel_rfl⟩
noncomputable def alive25_d_c120 : Fn := ⟨120, Try.f120, (Try.f120.body).getD .skip, (fun d => d == 2), false⟩
theorem alive25_d_k120 : alive25_d_c120.Ok Try.prog := ⟨Try.func120, by kernel_rfl, by kernel_rfl, by kernel_rfl⟩
noncomputable def alive25_d_c121 : Fn := ⟨121, Try.f121, (Try.f121.body).getD .skip, (fun d => d == 3 || d == 6 || d == 7 || d == 10 || d == 11 || d == 12 || d == 23 || d == 46 || d == 40), false⟩
theorem alive25_d_k121 : alive25_d_c121.Ok Try.prog := ⟨Try.func121, by kernel_rfl, by kernel_rfl, by kernel_rfl⟩
noncomputable def alive25_d_c122 : Fn := ⟨122, Try.f122, (Try.f122.body).getD .skip, noMu, false⟩
theorem alive25_d_k122 : alive25_d_c122.Ok Try.prog := ⟨Try.func122, by kernel_rfl, by kernel_rfl, by kernel_rfl⟩
noncomputable def alive25_d_c123 : Fn := ⟨123, Try.f123, (Try.f123.body).getD .skip, (fun d => d == 4), false⟩
theorem alive25_d_k123 : alive25_d_c123.Ok Try.prog := ⟨Try.func123, by kernel_rfl, by kernel_rfl, by kernel_rfl⟩
noncomputable def alive25_d_c124 : Fn := ⟨124, Try.f124, (Try.f124.body).getD .skip, (fun d => d == 2), false⟩
theorem alive25_d_k124 : alive25_d_c124.Ok Try.prog := ⟨Try.func124, by kernel_rfl, by kernel_rfl, by kernel_rfl⟩
noncomputable def alive25_d_c125 : Fn := ⟨125, Try.f125, (Try.f125.body).getD .skip, (fun d => d == 2), false⟩
theorem alive25_d_k125 : alive25_d_c125.Ok Try.prog := ⟨Try.func125, by kernel_rfl, by kernel_rfl, by kernel_rfl⟩
noncomputable def alive25_d_c126 : Fn := ⟨126, Try.f126, (Try.f126.body).getD .skip, (fun d => d == 2), false⟩
theorem alive25_d_k126 : alive25_d_c126.Ok Try.prog := ⟨Try.func126, by kernel_rfl, by kernel_rfl, by kernel_rfl⟩
noncomputable def alive25_d_c127 : Fn := ⟨127, Try.f127, (Try.f127.body).getD .skip, (fun d => d == 5 || d == 7), true⟩
theorem alive25_d_k127 : alive25_d_c127.Ok Try.prog := ⟨Try.func127, by kernel_rfl, by kernel_rfl, by kernel_rfl⟩
noncomputable def alive25_d_c128 : Fn := ⟨128, Try.f128, (Try.f128.body).getD .skip, noMu, false⟩
theorem alive25_d_k128 : alive25_d_c128.Ok Try.prog := ⟨Try.func128, by kernel_rfl, by kernel_rfl, by kernel_rfl⟩
noncomputable def alive25_d_c129 : Fn := ⟨129, Try.f129, (Try.f129.body).getD .skip, noMu, false⟩
theorem alive25_d_k129 : alive25_d_c129.Ok Try.prog := ⟨Try.func129, by kernel_rfl, by kernel_rfl, by kernel_rfl⟩
noncomputable def alive25_d_c130 : Fn := ⟨130, Try.f130, (Try.f130.body).getD .skip, (fun d => d == 19), false⟩
theorem alive25_d_k130 : alive25_d_c130.Ok Try.prog := ⟨Try.func130, by kernel_rfl, by kernel_rfl, by kernel_rfl⟩
noncomputable def alive25_d_c131 : Fn := ⟨131, Try.f131, (Try.f131.body).getD .skip, noMu, false⟩
theorem alive25_d_k131 : alive25_d_c131.Ok Try.prog := ⟨Try.func131, by kernel_rfl, by kernel_rfl, by kernel_rfl⟩
noncomputable def alive25_d_c132 : Fn := ⟨132, Try.f132, (Try.f132.body).getD .skip, (fun d => d == 11), false⟩
theorem alive25_d_k132 : alive25_d_c132.Ok Try.prog := ⟨Try.func132, by kernel_rfl, by kernel_rfl, by kernel_rfl⟩
noncomputable def alive25_d_c133 : Fn := ⟨133, Try.f133, (Try.f133.body).getD .skip, (fun d => d == 2), false⟩
theorem alive25_d_k133 : alive25_d_c133.Ok Try.prog := ⟨Try.func133, by kernel_rfl, by kernel_rfl, by kernel_rfl⟩
noncomputable def alive25_d_c134 : Fn := ⟨134, Try.f134, (Try.f134.body).getD .skip, noMu, false⟩
theorem alive25_d_k134 : alive25_d_c134.Ok Try.prog := ⟨Try.func134, by kernel_rfl, by kernel_rfl, by kernel_rfl⟩
noncomputable def alive25_d_c135 : Fn := ⟨135, Try.f135, (Try.f135.body).getD .skip, (fun d => d == 11 || d == 33), false⟩
theorem alive25_d_k135 : alive25_d_c135.Ok Try.prog := ⟨Try.func135, by kernel_rfl, by kernel_rfl, by kernel_rfl⟩
noncomputable def alive25_d_c136 : Fn := ⟨136, Try.f136, (Try.f136.body).getD .skip, (fun d => d == 6 || d == 8 || d == 26 || d == 28 || d == 30 || d == 36), true⟩
theorem alive25_d_k136 : alive25_d_c136.Ok Try.prog := ⟨Try.func136, by kernel_rfl, by kernel_rfl, by kernel_rfl⟩
noncomputable def alive25_d_c137 : Fn := ⟨137, Try.f137, (Try.f137.body).getD .skip, noMu, false⟩
theorem alive25_d_k137 : alive25_d_c137.Ok Try.prog := ⟨Try.func137, by kernel_rfl, by kernel_rfl, by kernel_rfl⟩
noncomputable def alive25_d_c138 : Fn := ⟨138, Try.f138, (Try.f138.body).getD .skip, (fun d => d == 2 || d == 3 || d == 4 || d == 5), false⟩
theorem alive25_d_k138 : alive25_d_c138.Ok Try.prog := ⟨Try.func138, by kernel_rfl, by kernel_rfl, by kernel_rfl⟩
noncomputable def alive25_d_c139 : Fn := ⟨139, Try.f139, (Try.f139.body).getD .skip, (fun d => d == 4), false⟩
theorem alive25_d_k139 : alive25_d_c139.Ok Try.prog := ⟨Try.func139, by kernel_rfl, by kernel_rfl, by kernel_rfl⟩
noncomputable def alive25_d_c140 : Fn := ⟨140, Try.f140, (Try.f140.body).getD .skip, (fun d => d == 2 || d == 3 || d == 5 || d == 6 || d == 7), false⟩
theorem alive25_d_k140 : alive25_d_c140.Ok Try.prog := ⟨Try.func140, by kernel_rfl, by kernel_rfl, by kernel_rfl⟩
noncomputable def alive25_d_c141 : Fn := ⟨141, Try.f141, (Try.f141.body).getD .skip, (fun d => d == 4 || d == 5 || d == 8 || d == 9 || d == 35 || d == 43 || d == 51 || d == 78 || d == 81 || d == 87 || d == 94), false⟩
theorem alive25_d_k141 : alive25_d_c141.Ok Try.prog := ⟨Try.func141, by kernel_rfl, by kernel_rfl, by kernel_rfl⟩
noncomputable def alive25_d_c142 : Fn := ⟨142, Try.f142, (Try.f142.body).getD .skip, noMu, false⟩
theorem alive25_d_k142 : alive25_d_c142.Ok Try.prog := ⟨Try.func142, by kernel_rfl, by kernel_rfl, by kernel_rfl⟩
noncomputable def alive25_d_c143 : Fn := ⟨143, Try.f143, (Try.f143.body).getD .skip, noMu, false⟩
theorem alive25_d_k143 : alive25_d_c143.Ok Try.prog := ⟨Try.func143, by kernel_rfl, by kernel_rfl, by kernel_rfl⟩
noncomputable def alive25_d_c144 : Fn := ⟨144, Try.f144, (Try.f144.body).getD .skip, (fun d => d == 4), false⟩
theorem alive25_d_k144 : alive25_d_c144.Ok Try.prog := ⟨Try.func144, by kernel_rfl, by kernel_rfl, by kernel_rfl⟩
noncomputable def alive25_d_c145 : Fn := ⟨145, Try.f145, (Try.f145.body).getD .skip, noMu, false⟩
theorem alive25_d_k145 : alive25_d_c145.Ok Try.prog := ⟨Try.func145, by kernel_rfl, by kernel_rfl, by kernel_rfl⟩
noncomputable def alive25_d_c146 : Fn := ⟨146, Try.f146, (Try.f146.body).getD .skip, noMu, false⟩
theorem alive25_d_k146 : alive25_d_c146.Ok Try.prog := ⟨Try.func146, by kernel_rfl, by kernel_rfl, by kernel_rfl⟩
noncomputable def alive25_d_c147 : Fn := ⟨147, Try.f147, (Try.f147.body).getD .skip, (fun d => d == 2 || d == 3 || d == 4 || d == 5 || d == 6 || d == 1000002 || d == 1000006), false⟩
theorem alive25_d_k147 : alive25_d_c147.Ok Try.prog := ⟨Try.func147, by kernel_rfl, by kernel_rfl, by kernel_rfl⟩
noncomputable def alive25_d_c148 : Fn := ⟨148, Try.f148, (Try.f148.body).getD .skip, (fun d => d == 11), false⟩
theorem alive25_d_k148 : alive25_d_c148.Ok Try.prog := ⟨Try.func148, by kernel_rfl, by kernel_rfl, by kernel_rfl⟩
noncomputable def alive25_d_c149 : Fn := ⟨149, Try.f149, (Try.f149.body).getD .skip, noMu, false⟩
theorem alive25_d_k149 : alive25_d_c149.Ok Try.prog := ⟨Try.func149, by kernel_rfl, by kernel_rfl, by kernel_rfl⟩
noncomputable def alive25_d_c150 : Fn := ⟨150, Try.f150, (Try.f150.body).getD .skip, noMu, false⟩
theorem alive25_d_k150 : alive25_d_c150.Ok Try.prog := ⟨Try.func150, by kernel_rfl, by kernel_rfl, by kernel_rfl⟩
noncomputable def alive25_d_c151 : Fn := ⟨151, Try.f151, (Try.f151.body).getD .skip, noMu, false⟩
theorem alive25_d_k151 : alive25_d_c151.Ok Try.prog := ⟨Try.func151, by kernel_rfl, by kernel_rfl, by kernel_rfl⟩
noncomputable def alive25_d_c152 : Fn := ⟨152, Try.f152, (Try.f152.body).getD .skip, noMu, false⟩
theorem alive25_d_k152 : alive25_d_c152.Ok Try.prog := ⟨Try.func152, by kernel_rfl, by kernel_rfl, by kernel_rfl⟩
noncomputable def alive25_d_c153 : Fn := ⟨153, Try.f153, (Try.f153.body).getD .skip, (fun d => d == 2), false⟩
theorem alive25_d_k153 : alive25_d_c153.Ok Try.prog := ⟨Try.func153, by kernel_rfl, by kernel_rfl, by kernel_rfl⟩
noncomputable def alive25_d_fs : List Fn := [alive25_d_c30, alive25_d_c31, alive25_d_c32, alive25_d_c33, alive25_d_c34, alive25_d_c35, alive25_d_c36, alive25_d_c38, alive25_d_c40, alive25_d_c49, alive25_d_c51, alive25_d_c57, alive25_d_c58, alive25_d_c59, alive25_d_c60, alive25_d_c61, alive25_d_c62, alive25_d_c63, alive25_d_c64, alive25_d_c65, alive25_d_c66, alive25_d_c67, alive25_d_c68, alive25_d_c69, alive25_d_c70, alive25_d_c71, alive25_d_c72, alive25_d_c73, alive25_d_c74, alive25_d_c75, alive25_d_c76, alive25_d_c77, alive25_d_c79, alive25_d_c83, alive25_d_c84, alive25_d_c86, alive25_d_c87, alive25_d_c88, alive25_d_c89, alive25_d_c90, alive25_d_c91, alive25_d_c92, alive25_d_c93, alive25_d_c95, alive25_d_c96, alive25_d_c97, alive25_d_c98, alive25_d_c99, alive25_d_c100, alive25_d_c101, alive25_d_c102, alive25_d_c103, alive25_d_c104, alive25_d_c105, alive25_d_c106, alive25_d_c107, alive25_d_c108, alive25_d_c109, alive25_d_c114, alive25_d_c115, alive25_d_c116, alive25_d_c117, alive25_d_c118, alive25_d_c119, alive25_d_c120, alive25_d_c121, alive25_d_c122, alive25_d_c123, alive25_d_c124, alive25_d_c125, alive25_d_c126, alive25_d_c127, alive25_d_c128, alive25_d_c129, alive25_d_c130, alive25_d_c131, alive25_d_c132, alive25_d_c133, alive25_d_c134, alive25_d_c135, alive25_d_c136, alive25_d_c137, alive25_d_c138, alive25_d_c139, alive25_d_c140, alive25_d_c141, alive25_d_c142, alive25_d_c143, alive25_d_c144, alive25_d_c145, alive25_d_c146, alive25_d_c147, alive25_d_c148, alive25_d_c149, alive25_d_c150, alive25_d_c151, alive25_d_c152, alive25_d_c153]
theorem alive25_d_ok : ∀ f ∈ alive25_d_fs, f.Ok Try.prog := List.forall_mem_cons.2 ⟨alive25_d_k30, List.forall_mem_cons.2 ⟨alive25_d_k31, List.forall_mem_cons.2 ⟨alive25_d_k32, List.forall_mem_cons.2 ⟨alive25_d_k33, List.forall_mem_cons.2 ⟨alive25_d_k34, List.forall_mem_cons.2 ⟨alive25_d_k35, List.forall_mem_cons.2 ⟨alive25_d_k36, List.forall_mem_cons.2 ⟨alive25_d_k38, List.forall_mem_cons.2 ⟨alive25_d_k40, List.forall_mem_cons.2 ⟨alive25_d_k49, List.forall_mem_cons.2 ⟨alive25_d_k51, List.forall_mem_cons.2 ⟨alive25_d_k57, List.forall_mem_cons.2 ⟨alive25_d_k58, List.forall_mem_cons.2 ⟨alive25_d_k59, List.forall_mem_cons.2 ⟨alive25_d_k60, List.forall_mem_cons.2 ⟨alive25_d_k61, List.forall_mem_cons.2 ⟨alive25_d_k62, List.forall_mem_cons.2 ⟨alive25_d_k63, List.forall_mem_cons.2 ⟨alive25_d_k64, List.forall_mem_cons.2 ⟨alive25_d_k65, List.forall_mem_cons.2 ⟨alive25_d_k66, List.forall_mem_cons.2 ⟨alive25_d_k67, List.forall_mem_cons.2 ⟨alive25_d_k68, List.forall_mem_cons.2 ⟨alive25_d_k69, List.forall_mem_cons.2 ⟨alive25_d_k70, List.forall_mem_cons.2 ⟨alive25_d_k71, List.forall_mem_cons.2 ⟨alive25_d_k72, List.forall_mem_cons.2 ⟨alive25_d_k73, List.forall_mem_cons.2 ⟨alive25_d_k74, List.forall_mem_cons.2 ⟨alive25_d_k75, List.forall_mem_cons.2 ⟨alive25_d_k76, List.forall_mem_cons.2 ⟨alive25_d_k77, List.forall_mem_cons.2 ⟨alive25_d_k79, List.forall_mem_cons.2 ⟨alive25_d_k83, List.forall_mem_cons.2 ⟨alive25_d_k84, List.forall_mem_cons.2 ⟨alive25_d_k86, List.forall_mem_cons.2 ⟨alive25_d_k87, List.forall_mem_cons.2 ⟨alive25_d_k88, List.forall_mem_cons.2 ⟨alive25_d_k89, List.forall_mem_cons.2 ⟨alive25_d_k90, List.forall_mem_cons.2 ⟨alive25_d_k91, List.forall_mem_cons.2 ⟨alive25_d_k92, List.forall_mem_cons.2 ⟨alive25_d_k93, List.forall_mem_cons.2 ⟨alive25_d_k95, List.forall_mem_cons.2 ⟨alive25_d_k96, List.forall_mem_cons.2 ⟨alive25_d_k97, List.forall_mem_cons.2 ⟨alive25_d_k98, List.forall_mem_cons.2 ⟨alive25_d_k99, List.forall_mem_cons.2 ⟨alive25_d_k100, List.forall_mem_cons.2 ⟨alive25_d_k101, List.forall_mem_cons.2 ⟨alive25_d_k102, List.forall_mem_cons.2 ⟨alive25_d_k103, List.forall_mem_cons.2 ⟨alive25_d_k104, List.forall_mem_cons.2 ⟨alive25_d_k105, List.forall_mem_cons.2 ⟨alive25_d_k106, List.forall_mem_cons.2 ⟨alive25_d_k107, List.forall_mem_cons.2 ⟨alive25_d_k108, List.forall_mem_cons.2 ⟨alive25_d_k109, List.forall_mem_cons.2 ⟨alive25_d_k114, List.forall_mem_cons.2 ⟨alive25_d_k115, List.forall_mem_cons.2 ⟨alive25_d_k116, List.forall_mem_cons.2 ⟨alive25_d_k117, List.forall_mem_cons.2 ⟨alive25_d_k118, List.forall_mem_cons.2 ⟨alive25_d_k119, List.forall_mem_cons.2 ⟨alive25_d_k120, List.forall_mem_cons.2 ⟨alive25_d_k121, List.forall_mem_cons.2 ⟨alive25_d_k122, List.forall_mem_cons.2 ⟨alive25_d_k123, List.forall_mem_cons.2 ⟨alive25_d_k124, List.forall_mem_cons.2 ⟨alive25_d_k125, List.forall_mem_cons.2 ⟨alive25_d_k126, List.forall_mem_cons.2 ⟨alive25_d_k127, List.forall_mem_cons.2 ⟨alive25_d_k128, List.forall_mem_cons.2 ⟨alive25_d_k129, List.forall_mem_cons.2 ⟨alive25_d_k130, List.forall_mem_cons.2 ⟨alive25_d_k131, List.forall_mem_cons.2 ⟨alive25_d_k132, List.forall_mem_cons.2 ⟨alive25_d_k133, List.forall_mem_cons.2 ⟨alive25_d_k134, List.forall_mem_cons.2 ⟨alive25_d_k135, List.forall_mem_cons.2 ⟨alive25_d_k136, List.forall_mem_cons.2 ⟨alive25_d_k137, List.forall_mem_cons.2 ⟨alive25_d_k138, List.forall_mem_cons.2 ⟨alive25_d_k139, List.forall_mem_cons.2 ⟨alive25_d_k140, List.forall_mem_cons.2 ⟨alive25_d_k141, List.forall_mem_cons.2 ⟨alive25_d_k142, List.forall_mem_cons.2 ⟨alive25_d_k143, List.forall_mem_cons.2 ⟨alive25_d_k144, List.forall_mem_cons.2 ⟨alive25_d_k145, List.forall_mem_cons.2 ⟨alive25_d_k146, List.forall_mem_cons.2 ⟨alive25_d_k147, List.forall_mem_cons.2 ⟨alive25_d_k148, List.forall_mem_cons.2 ⟨alive25_d_k149, List.forall_mem_cons.2 ⟨alive25_d_k150, List.forall_mem_cons.2 ⟨alive25_d_k151, List.forall_mem_cons.2 ⟨alive25_d_k152, List.forall_mem_cons.2 ⟨alive25_d_k153, (fun _ h => nomatch h)⟩⟩⟩⟩⟩⟩⟩⟩⟩⟩⟩⟩⟩⟩⟩⟩⟩⟩⟩⟩⟩⟩⟩⟩⟩⟩⟩⟩⟩⟩⟩⟩⟩⟩⟩⟩⟩⟩⟩⟩⟩⟩⟩⟩⟩⟩⟩⟩⟩⟩⟩⟩⟩⟩⟩⟩⟩⟩⟩⟩⟩⟩⟩⟩⟩⟩⟩⟩⟩⟩⟩⟩⟩⟩⟩⟩⟩⟩⟩⟩⟩⟩⟩⟩⟩⟩⟩⟩⟩⟩⟩⟩⟩⟩⟩⟩⟩⟩
theorem alive25_d : DCall Try.prog 32 [] (.bool true) := (xAll_sound (orc := fun _ _ => none) orders (fun _ _ _ h => nomatch h) alive25_d_ok 30).1 _ _ _ (by kernel_rfl)
end Ytajgclnahfmfmaa
end Go.Vm
