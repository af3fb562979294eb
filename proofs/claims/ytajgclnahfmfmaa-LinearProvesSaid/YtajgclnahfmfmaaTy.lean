/- The facts of the types of this program: made by ty.py. -/
import Derived.Test.YtajgclnahfmfmaaVm1
import Derived.Attr
import Derived.Test.YtajgclnahfmfmaaProg
import Derived.KernelRfl
namespace Go.Vm
open Go Go.Proofs
namespace Ytajgclnahfmfmaa
@[go_sem] theorem ag1 : aggB Try.prog 1 = some false := by kernel_rfl
@[go_sem] theorem sz1 : Try.prog.cellsOf 1 = 1 := by kernel_rfl
@[go_sem] theorem by1 : Try.prog.bytesOf 1 = 8 := by kernel_rfl
@[go_sem] theorem in1 : (Try.prog.info? 1).isSome = true := by kernel_rfl
@[go_sem] theorem ag2 : aggB Try.prog 2 = some false := by kernel_rfl
@[go_sem] theorem sz2 : Try.prog.cellsOf 2 = 1 := by kernel_rfl
@[go_sem] theorem by2 : Try.prog.bytesOf 2 = 8 := by kernel_rfl
@[go_sem] theorem in2 : (Try.prog.info? 2).isSome = true := by kernel_rfl
@[go_sem] theorem ze2 : zeroB Try.prog 2 = some [.int .i64 0] := by kernel_rfl
@[go_sem] theorem it2 : intB Try.prog 2 = some .i64 := by kernel_rfl
@[go_sem] theorem ag3 : aggB Try.prog 3 = some false := by kernel_rfl
@[go_sem] theorem sz3 : Try.prog.cellsOf 3 = 1 := by kernel_rfl
@[go_sem] theorem by3 : Try.prog.bytesOf 3 = 8 := by kernel_rfl
@[go_sem] theorem in3 : (Try.prog.info? 3).isSome = true := by kernel_rfl
@[go_sem] theorem ze3 : zeroB Try.prog 3 = some [.int .i64 0] := by kernel_rfl
@[go_sem] theorem it3 : intB Try.prog 3 = some .i64 := by kernel_rfl
@[go_sem] theorem ag4 : aggB Try.prog 4 = some false := by kernel_rfl
@[go_sem] theorem sz4 : Try.prog.cellsOf 4 = 1 := by kernel_rfl
@[go_sem] theorem by4 : Try.prog.bytesOf 4 = 1 := by kernel_rfl
@[go_sem] theorem in4 : (Try.prog.info? 4).isSome = true := by kernel_rfl
@[go_sem] theorem ze4 : zeroB Try.prog 4 = some [.bool false] := by kernel_rfl
@[go_sem] theorem bo4 : isBoolB Try.prog 4 = true := by kernel_rfl
@[go_sem] theorem ag5 : aggB Try.prog 5 = some false := by kernel_rfl
@[go_sem] theorem sz5 : Try.prog.cellsOf 5 = 1 := by kernel_rfl
@[go_sem] theorem by5 : Try.prog.bytesOf 5 = 1 := by kernel_rfl
@[go_sem] theorem in5 : (Try.prog.info? 5).isSome = true := by kernel_rfl
@[go_sem] theorem ze5 : zeroB Try.prog 5 = some [.int .u8 0] := by kernel_rfl
@[go_sem] theorem it5 : intB Try.prog 5 = some .u8 := by kernel_rfl
@[go_sem] theorem ag6 : aggB Try.prog 6 = some false := by kernel_rfl
@[go_sem] theorem sz6 : Try.prog.cellsOf 6 = 1 := by kernel_rfl
@[go_sem] theorem by6 : Try.prog.bytesOf 6 = 1 := by kernel_rfl
@[go_sem] theorem in6 : (Try.prog.info? 6).isSome = true := by kernel_rfl
@[go_sem] theorem ze6 : zeroB Try.prog 6 = some [.int .u8 0] := by kernel_rfl
@[go_sem] theorem it6 : intB Try.prog 6 = some .u8 := by kernel_rfl
@[go_sem] theorem ag7 : aggB Try.prog 7 = some true := by kernel_rfl
@[go_sem] theorem sz7 : Try.prog.cellsOf 7 = 4 := by kernel_rfl
@[go_sem] theorem by7 : Try.prog.bytesOf 7 = 24 := by kernel_rfl
@[go_sem] theorem in7 : (Try.prog.info? 7).isSome = true := by kernel_rfl
@[go_sem] theorem ze7 : zeroB Try.prog 7 = some [.int .i64 0, .int .i64 0, .bool false, .int .u8 0] := by kernel_rfl
@[go_sem] theorem fi7_0 : fieldB Try.prog 7 0 = some (0, 2) := by kernel_rfl
@[go_sem] theorem fi7_1 : fieldB Try.prog 7 1 = some (1, 3) := by kernel_rfl
@[go_sem] theorem fi7_2 : fieldB Try.prog 7 2 = some (2, 4) := by kernel_rfl
@[go_sem] theorem fi7_3 : fieldB Try.prog 7 3 = some (3, 6) := by kernel_rfl
@[go_sem] theorem pl7 : placesB Try.prog 7 = some [(0, 1), (1, 1), (2, 1), (3, 1)] := by kernel_rfl
@[go_sem] theorem ag8 : aggB Try.prog 8 = some true := by kernel_rfl
@[go_sem] theorem sz8 : Try.prog.cellsOf 8 = 4 := by kernel_rfl
@[go_sem] theorem by8 : Try.prog.bytesOf 8 = 24 := by kernel_rfl
@[go_sem] theorem in8 : (Try.prog.info? 8).isSome = true := by kernel_rfl
@[go_sem] theorem ze8 : zeroB Try.prog 8 = some [.int .i64 0, .int .i64 0, .bool false, .int .u8 0] := by kernel_rfl
@[go_sem] theorem fi8_0 : fieldB Try.prog 8 0 = some (0, 2) := by kernel_rfl
@[go_sem] theorem fi8_1 : fieldB Try.prog 8 1 = some (1, 3) := by kernel_rfl
@[go_sem] theorem fi8_2 : fieldB Try.prog 8 2 = some (2, 4) := by kernel_rfl
@[go_sem] theorem fi8_3 : fieldB Try.prog 8 3 = some (3, 6) := by kernel_rfl
@[go_sem] theorem pl8 : placesB Try.prog 8 = some [(0, 1), (1, 1), (2, 1), (3, 1)] := by kernel_rfl
@[go_sem] theorem ag9 : aggB Try.prog 9 = some false := by kernel_rfl
@[go_sem] theorem sz9 : Try.prog.cellsOf 9 = 1 := by kernel_rfl
@[go_sem] theorem by9 : Try.prog.bytesOf 9 = 16 := by kernel_rfl
@[go_sem] theorem in9 : (Try.prog.info? 9).isSome = true := by kernel_rfl
@[go_sem] theorem ze9 : zeroB Try.prog 9 = some [.str (ByteArray.mk #[])] := by kernel_rfl
@[go_sem] theorem st9 : isStrB Try.prog 9 = true := by kernel_rfl
@[go_sem] theorem ag10 : aggB Try.prog 10 = some false := by kernel_rfl
@[go_sem] theorem sz10 : Try.prog.cellsOf 10 = 1 := by kernel_rfl
@[go_sem] theorem by10 : Try.prog.bytesOf 10 = 16 := by kernel_rfl
@[go_sem] theorem in10 : (Try.prog.info? 10).isSome = true := by kernel_rfl
@[go_sem] theorem ze10 : zeroB Try.prog 10 = some [.str (ByteArray.mk #[])] := by kernel_rfl
@[go_sem] theorem st10 : isStrB Try.prog 10 = true := by kernel_rfl
@[go_sem] theorem ag11 : aggB Try.prog 11 = some false := by kernel_rfl
@[go_sem] theorem sz11 : Try.prog.cellsOf 11 = 1 := by kernel_rfl
@[go_sem] theorem by11 : Try.prog.bytesOf 11 = 16 := by kernel_rfl
@[go_sem] theorem in11 : (Try.prog.info? 11).isSome = true := by kernel_rfl
@[go_sem] theorem ze11 : zeroB Try.prog 11 = some [.str (ByteArray.mk #[])] := by kernel_rfl
@[go_sem] theorem st11 : isStrB Try.prog 11 = true := by kernel_rfl
@[go_sem] theorem ag12 : aggB Try.prog 12 = some false := by kernel_rfl
@[go_sem] theorem sz12 : Try.prog.cellsOf 12 = 1 := by kernel_rfl
@[go_sem] theorem by12 : Try.prog.bytesOf 12 = 8 := by kernel_rfl
@[go_sem] theorem in12 : (Try.prog.info? 12).isSome = true := by kernel_rfl
@[go_sem] theorem ze12 : zeroB Try.prog 12 = some [.int .u64 0] := by kernel_rfl
@[go_sem] theorem it12 : intB Try.prog 12 = some .u64 := by kernel_rfl
@[go_sem] theorem ag13 : aggB Try.prog 13 = some true := by kernel_rfl
@[go_sem] theorem sz13 : Try.prog.cellsOf 13 = 2 := by kernel_rfl
@[go_sem] theorem by13 : Try.prog.bytesOf 13 = 24 := by kernel_rfl
@[go_sem] theorem in13 : (Try.prog.info? 13).isSome = true := by kernel_rfl
@[go_sem] theorem ze13 : zeroB Try.prog 13 = some [.str (ByteArray.mk #[]), .int .u64 0] := by kernel_rfl
@[go_sem] theorem fi13_0 : fieldB Try.prog 13 0 = some (0, 9) := by kernel_rfl
@[go_sem] theorem fi13_1 : fieldB Try.prog 13 1 = some (1, 12) := by kernel_rfl
@[go_sem] theorem pl13 : placesB Try.prog 13 = some [(0, 1), (1, 1)] := by kernel_rfl
@[go_sem] theorem ag14 : aggB Try.prog 14 = some true := by kernel_rfl
@[go_sem] theorem sz14 : Try.prog.cellsOf 14 = 2 := by kernel_rfl
@[go_sem] theorem by14 : Try.prog.bytesOf 14 = 24 := by kernel_rfl
@[go_sem] theorem in14 : (Try.prog.info? 14).isSome = true := by kernel_rfl
@[go_sem] theorem ze14 : zeroB Try.prog 14 = some [.str (ByteArray.mk #[]), .int .u64 0] := by kernel_rfl
@[go_sem] theorem fi14_0 : fieldB Try.prog 14 0 = some (0, 9) := by kernel_rfl
@[go_sem] theorem fi14_1 : fieldB Try.prog 14 1 = some (1, 12) := by kernel_rfl
@[go_sem] theorem pl14 : placesB Try.prog 14 = some [(0, 1), (1, 1)] := by kernel_rfl
@[go_sem] theorem ag15 : aggB Try.prog 15 = some false := by kernel_rfl
@[go_sem] theorem sz15 : Try.prog.cellsOf 15 = 1 := by kernel_rfl
@[go_sem] theorem by15 : Try.prog.bytesOf 15 = 8 := by kernel_rfl
@[go_sem] theorem in15 : (Try.prog.info? 15).isSome = true := by kernel_rfl
@[go_sem] theorem ze15 : zeroB Try.prog 15 = some [.nilp] := by kernel_rfl
@[go_sem] theorem ag16 : aggB Try.prog 16 = some false := by kernel_rfl
@[go_sem] theorem sz16 : Try.prog.cellsOf 16 = 1 := by kernel_rfl
@[go_sem] theorem by16 : Try.prog.bytesOf 16 = 8 := by kernel_rfl
@[go_sem] theorem in16 : (Try.prog.info? 16).isSome = true := by kernel_rfl
@[go_sem] theorem ze16 : zeroB Try.prog 16 = some [.nilp] := by kernel_rfl
@[go_sem] theorem ag17 : aggB Try.prog 17 = some false := by kernel_rfl
@[go_sem] theorem sz17 : Try.prog.cellsOf 17 = 1 := by kernel_rfl
@[go_sem] theorem by17 : Try.prog.bytesOf 17 = 8 := by kernel_rfl
@[go_sem] theorem in17 : (Try.prog.info? 17).isSome = true := by kernel_rfl
@[go_sem] theorem ze17 : zeroB Try.prog 17 = some [.nilp] := by kernel_rfl
@[go_sem] theorem ag18 : aggB Try.prog 18 = some true := by kernel_rfl
@[go_sem] theorem sz18 : Try.prog.cellsOf 18 = 1 := by kernel_rfl
@[go_sem] theorem by18 : Try.prog.bytesOf 18 = 8 := by kernel_rfl
@[go_sem] theorem in18 : (Try.prog.info? 18).isSome = true := by kernel_rfl
@[go_sem] theorem ze18 : zeroB Try.prog 18 = some [.nilp] := by kernel_rfl
@[go_sem] theorem fi18_0 : fieldB Try.prog 18 0 = some (0, 17) := by kernel_rfl
@[go_sem] theorem pl18 : placesB Try.prog 18 = some [(0, 1)] := by kernel_rfl
@[go_sem] theorem ag19 : aggB Try.prog 19 = some true := by kernel_rfl
@[go_sem] theorem sz19 : Try.prog.cellsOf 19 = 1 := by kernel_rfl
@[go_sem] theorem by19 : Try.prog.bytesOf 19 = 8 := by kernel_rfl
@[go_sem] theorem in19 : (Try.prog.info? 19).isSome = true := by kernel_rfl
@[go_sem] theorem ze19 : zeroB Try.prog 19 = some [.nilp] := by kernel_rfl
@[go_sem] theorem fi19_0 : fieldB Try.prog 19 0 = some (0, 17) := by kernel_rfl
@[go_sem] theorem pl19 : placesB Try.prog 19 = some [(0, 1)] := by kernel_rfl
@[go_sem] theorem ag21 : aggB Try.prog 21 = some false := by kernel_rfl
@[go_sem] theorem sz21 : Try.prog.cellsOf 21 = 1 := by kernel_rfl
@[go_sem] theorem by21 : Try.prog.bytesOf 21 = 4 := by kernel_rfl
@[go_sem] theorem in21 : (Try.prog.info? 21).isSome = true := by kernel_rfl
@[go_sem] theorem ze21 : zeroB Try.prog 21 = some [.int .i32 0] := by kernel_rfl
@[go_sem] theorem it21 : intB Try.prog 21 = some .i32 := by kernel_rfl
@[go_sem] theorem ag22 : aggB Try.prog 22 = some false := by kernel_rfl
@[go_sem] theorem sz22 : Try.prog.cellsOf 22 = 1 := by kernel_rfl
@[go_sem] theorem by22 : Try.prog.bytesOf 22 = 24 := by kernel_rfl
@[go_sem] theorem in22 : (Try.prog.info? 22).isSome = true := by kernel_rfl
@[go_sem] theorem ze22 : zeroB Try.prog 22 = some [.sl false []] := by kernel_rfl
@[go_sem] theorem el22 : elemB Try.prog 22 = some 82 := by kernel_rfl
@[go_sem] theorem es22 : (elemB Try.prog 22).isSome = true := by kernel_rfl
@[go_sem] theorem st22 : isStrB Try.prog 22 = false := by kernel_rfl
@[go_sem] theorem ag23 : aggB Try.prog 23 = some true := by kernel_rfl
@[go_sem] theorem sz23 : Try.prog.cellsOf 23 = 4 := by kernel_rfl
@[go_sem] theorem by23 : Try.prog.bytesOf 23 = 48 := by kernel_rfl
@[go_sem] theorem in23 : (Try.prog.info? 23).isSome = true := by kernel_rfl
@[go_sem] theorem ze23 : zeroB Try.prog 23 = some [.int .i64 0, .int .i64 0, .int .i64 0, .sl false []] := by kernel_rfl
@[go_sem] theorem fi23_0 : fieldB Try.prog 23 0 = some (0, 3) := by kernel_rfl
@[go_sem] theorem fi23_1 : fieldB Try.prog 23 1 = some (1, 3) := by kernel_rfl
@[go_sem] theorem fi23_2 : fieldB Try.prog 23 2 = some (2, 3) := by kernel_rfl
@[go_sem] theorem fi23_3 : fieldB Try.prog 23 3 = some (3, 22) := by kernel_rfl
@[go_sem] theorem pl23 : placesB Try.prog 23 = some [(0, 1), (1, 1), (2, 1), (3, 1)] := by kernel_rfl
@[go_sem] theorem ag24 : aggB Try.prog 24 = some true := by kernel_rfl
@[go_sem] theorem sz24 : Try.prog.cellsOf 24 = 4 := by kernel_rfl
@[go_sem] theorem by24 : Try.prog.bytesOf 24 = 48 := by kernel_rfl
@[go_sem] theorem in24 : (Try.prog.info? 24).isSome = true := by kernel_rfl
@[go_sem] theorem ze24 : zeroB Try.prog 24 = some [.int .i64 0, .int .i64 0, .int .i64 0, .sl false []] := by kernel_rfl
@[go_sem] theorem fi24_0 : fieldB Try.prog 24 0 = some (0, 3) := by kernel_rfl
@[go_sem] theorem fi24_1 : fieldB Try.prog 24 1 = some (1, 3) := by kernel_rfl
@[go_sem] theorem fi24_2 : fieldB Try.prog 24 2 = some (2, 3) := by kernel_rfl
@[go_sem] theorem fi24_3 : fieldB Try.prog 24 3 = some (3, 22) := by kernel_rfl
@[go_sem] theorem pl24 : placesB Try.prog 24 = some [(0, 1), (1, 1), (2, 1), (3, 1)] := by kernel_rfl
@[go_sem] theorem ag25 : aggB Try.prog 25 = some false := by kernel_rfl
@[go_sem] theorem sz25 : Try.prog.cellsOf 25 = 1 := by kernel_rfl
@[go_sem] theorem by25 : Try.prog.bytesOf 25 = 24 := by kernel_rfl
@[go_sem] theorem in25 : (Try.prog.info? 25).isSome = true := by kernel_rfl
@[go_sem] theorem ze25 : zeroB Try.prog 25 = some [.sl false []] := by kernel_rfl
@[go_sem] theorem el25 : elemB Try.prog 25 = some 2 := by kernel_rfl
@[go_sem] theorem es25 : (elemB Try.prog 25).isSome = true := by kernel_rfl
@[go_sem] theorem st25 : isStrB Try.prog 25 = false := by kernel_rfl
@[go_sem] theorem ag26 : aggB Try.prog 26 = some true := by kernel_rfl
@[go_sem] theorem sz26 : Try.prog.cellsOf 26 = 2 := by kernel_rfl
@[go_sem] theorem by26 : Try.prog.bytesOf 26 = 32 := by kernel_rfl
@[go_sem] theorem in26 : (Try.prog.info? 26).isSome = true := by kernel_rfl
@[go_sem] theorem ze26 : zeroB Try.prog 26 = some [.int .i64 0, .sl false []] := by kernel_rfl
@[go_sem] theorem fi26_0 : fieldB Try.prog 26 0 = some (0, 3) := by kernel_rfl
@[go_sem] theorem fi26_1 : fieldB Try.prog 26 1 = some (1, 25) := by kernel_rfl
@[go_sem] theorem pl26 : placesB Try.prog 26 = some [(0, 1), (1, 1)] := by kernel_rfl
@[go_sem] theorem ag27 : aggB Try.prog 27 = some true := by kernel_rfl
@[go_sem] theorem sz27 : Try.prog.cellsOf 27 = 2 := by kernel_rfl
@[go_sem] theorem by27 : Try.prog.bytesOf 27 = 32 := by kernel_rfl
@[go_sem] theorem in27 : (Try.prog.info? 27).isSome = true := by kernel_rfl
@[go_sem] theorem ze27 : zeroB Try.prog 27 = some [.int .i64 0, .sl false []] := by kernel_rfl
@[go_sem] theorem fi27_0 : fieldB Try.prog 27 0 = some (0, 3) := by kernel_rfl
@[go_sem] theorem fi27_1 : fieldB Try.prog 27 1 = some (1, 25) := by kernel_rfl
@[go_sem] theorem pl27 : placesB Try.prog 27 = some [(0, 1), (1, 1)] := by kernel_rfl
@[go_sem] theorem ag28 : aggB Try.prog 28 = some false := by kernel_rfl
@[go_sem] theorem sz28 : Try.prog.cellsOf 28 = 1 := by kernel_rfl
@[go_sem] theorem by28 : Try.prog.bytesOf 28 = 8 := by kernel_rfl
@[go_sem] theorem in28 : (Try.prog.info? 28).isSome = true := by kernel_rfl
@[go_sem] theorem ze28 : zeroB Try.prog 28 = some [.int .i64 0] := by kernel_rfl
@[go_sem] theorem it28 : intB Try.prog 28 = some .i64 := by kernel_rfl
@[go_sem] theorem ag29 : aggB Try.prog 29 = some false := by kernel_rfl
@[go_sem] theorem sz29 : Try.prog.cellsOf 29 = 1 := by kernel_rfl
@[go_sem] theorem by29 : Try.prog.bytesOf 29 = 8 := by kernel_rfl
@[go_sem] theorem in29 : (Try.prog.info? 29).isSome = true := by kernel_rfl
@[go_sem] theorem ag30 : aggB Try.prog 30 = some false := by kernel_rfl
@[go_sem] theorem sz30 : Try.prog.cellsOf 30 = 1 := by kernel_rfl
@[go_sem] theorem by30 : Try.prog.bytesOf 30 = 8 := by kernel_rfl
@[go_sem] theorem in30 : (Try.prog.info? 30).isSome = true := by kernel_rfl
@[go_sem] theorem ag31 : aggB Try.prog 31 = some false := by kernel_rfl
@[go_sem] theorem sz31 : Try.prog.cellsOf 31 = 1 := by kernel_rfl
@[go_sem] theorem by31 : Try.prog.bytesOf 31 = 8 := by kernel_rfl
@[go_sem] theorem in31 : (Try.prog.info? 31).isSome = true := by kernel_rfl
@[go_sem] theorem ag32 : aggB Try.prog 32 = some false := by kernel_rfl
@[go_sem] theorem sz32 : Try.prog.cellsOf 32 = 1 := by kernel_rfl
@[go_sem] theorem by32 : Try.prog.bytesOf 32 = 24 := by kernel_rfl
@[go_sem] theorem in32 : (Try.prog.info? 32).isSome = true := by kernel_rfl
@[go_sem] theorem ze32 : zeroB Try.prog 32 = some [.sl false []] := by kernel_rfl
@[go_sem] theorem el32 : elemB Try.prog 32 = some 3 := by kernel_rfl
@[go_sem] theorem es32 : (elemB Try.prog 32).isSome = true := by kernel_rfl
@[go_sem] theorem st32 : isStrB Try.prog 32 = false := by kernel_rfl
@[go_sem] theorem ag33 : aggB Try.prog 33 = some false := by kernel_rfl
@[go_sem] theorem sz33 : Try.prog.cellsOf 33 = 1 := by kernel_rfl
@[go_sem] theorem by33 : Try.prog.bytesOf 33 = 24 := by kernel_rfl
@[go_sem] theorem in33 : (Try.prog.info? 33).isSome = true := by kernel_rfl
@[go_sem] theorem ze33 : zeroB Try.prog 33 = some [.sl false []] := by kernel_rfl
@[go_sem] theorem el33 : elemB Try.prog 33 = some 27 := by kernel_rfl
@[go_sem] theorem es33 : (elemB Try.prog 33).isSome = true := by kernel_rfl
@[go_sem] theorem st33 : isStrB Try.prog 33 = false := by kernel_rfl
@[go_sem] theorem ag35 : aggB Try.prog 35 = some false := by kernel_rfl
@[go_sem] theorem sz35 : Try.prog.cellsOf 35 = 1 := by kernel_rfl
@[go_sem] theorem by35 : Try.prog.bytesOf 35 = 8 := by kernel_rfl
@[go_sem] theorem in35 : (Try.prog.info? 35).isSome = true := by kernel_rfl
@[go_sem] theorem ag36 : aggB Try.prog 36 = some false := by kernel_rfl
@[go_sem] theorem sz36 : Try.prog.cellsOf 36 = 1 := by kernel_rfl
@[go_sem] theorem by36 : Try.prog.bytesOf 36 = 8 := by kernel_rfl
@[go_sem] theorem in36 : (Try.prog.info? 36).isSome = true := by kernel_rfl
@[go_sem] theorem ag37 : aggB Try.prog 37 = some false := by kernel_rfl
@[go_sem] theorem sz37 : Try.prog.cellsOf 37 = 1 := by kernel_rfl
@[go_sem] theorem by37 : Try.prog.bytesOf 37 = 8 := by kernel_rfl
@[go_sem] theorem in37 : (Try.prog.info? 37).isSome = true := by kernel_rfl
@[go_sem] theorem ag38 : aggB Try.prog 38 = some false := by kernel_rfl
@[go_sem] theorem sz38 : Try.prog.cellsOf 38 = 1 := by kernel_rfl
@[go_sem] theorem by38 : Try.prog.bytesOf 38 = 8 := by kernel_rfl
@[go_sem] theorem in38 : (Try.prog.info? 38).isSome = true := by kernel_rfl
@[go_sem] theorem ag39 : aggB Try.prog 39 = some true := by kernel_rfl
@[go_sem] theorem sz39 : Try.prog.cellsOf 39 = 2 := by kernel_rfl
@[go_sem] theorem by39 : Try.prog.bytesOf 39 = 32 := by kernel_rfl
@[go_sem] theorem in39 : (Try.prog.info? 39).isSome = true := by kernel_rfl
@[go_sem] theorem ze39 : zeroB Try.prog 39 = some [.sl false [], .int .i64 0] := by kernel_rfl
@[go_sem] theorem fi39_0 : fieldB Try.prog 39 0 = some (0, 25) := by kernel_rfl
@[go_sem] theorem fi39_1 : fieldB Try.prog 39 1 = some (1, 2) := by kernel_rfl
@[go_sem] theorem pl39 : placesB Try.prog 39 = some [(0, 1), (1, 1)] := by kernel_rfl
@[go_sem] theorem ag40 : aggB Try.prog 40 = some true := by kernel_rfl
@[go_sem] theorem sz40 : Try.prog.cellsOf 40 = 2 := by kernel_rfl
@[go_sem] theorem by40 : Try.prog.bytesOf 40 = 32 := by kernel_rfl
@[go_sem] theorem in40 : (Try.prog.info? 40).isSome = true := by kernel_rfl
@[go_sem] theorem ze40 : zeroB Try.prog 40 = some [.sl false [], .int .i64 0] := by kernel_rfl
@[go_sem] theorem fi40_0 : fieldB Try.prog 40 0 = some (0, 25) := by kernel_rfl
@[go_sem] theorem fi40_1 : fieldB Try.prog 40 1 = some (1, 2) := by kernel_rfl
@[go_sem] theorem pl40 : placesB Try.prog 40 = some [(0, 1), (1, 1)] := by kernel_rfl
@[go_sem] theorem ag42 : aggB Try.prog 42 = some false := by kernel_rfl
@[go_sem] theorem sz42 : Try.prog.cellsOf 42 = 1 := by kernel_rfl
@[go_sem] theorem by42 : Try.prog.bytesOf 42 = 8 := by kernel_rfl
@[go_sem] theorem in42 : (Try.prog.info? 42).isSome = true := by kernel_rfl
@[go_sem] theorem ag43 : aggB Try.prog 43 = some false := by kernel_rfl
@[go_sem] theorem sz43 : Try.prog.cellsOf 43 = 1 := by kernel_rfl
@[go_sem] theorem by43 : Try.prog.bytesOf 43 = 8 := by kernel_rfl
@[go_sem] theorem in43 : (Try.prog.info? 43).isSome = true := by kernel_rfl
@[go_sem] theorem ag44 : aggB Try.prog 44 = some false := by kernel_rfl
@[go_sem] theorem sz44 : Try.prog.cellsOf 44 = 1 := by kernel_rfl
@[go_sem] theorem by44 : Try.prog.bytesOf 44 = 8 := by kernel_rfl
@[go_sem] theorem in44 : (Try.prog.info? 44).isSome = true := by kernel_rfl
@[go_sem] theorem ag45 : aggB Try.prog 45 = some false := by kernel_rfl
@[go_sem] theorem sz45 : Try.prog.cellsOf 45 = 1 := by kernel_rfl
@[go_sem] theorem by45 : Try.prog.bytesOf 45 = 8 := by kernel_rfl
@[go_sem] theorem in45 : (Try.prog.info? 45).isSome = true := by kernel_rfl
@[go_sem] theorem ag47 : aggB Try.prog 47 = some false := by kernel_rfl
@[go_sem] theorem sz47 : Try.prog.cellsOf 47 = 1 := by kernel_rfl
@[go_sem] theorem by47 : Try.prog.bytesOf 47 = 8 := by kernel_rfl
@[go_sem] theorem in47 : (Try.prog.info? 47).isSome = true := by kernel_rfl
@[go_sem] theorem ag49 : aggB Try.prog 49 = some false := by kernel_rfl
@[go_sem] theorem sz49 : Try.prog.cellsOf 49 = 1 := by kernel_rfl
@[go_sem] theorem by49 : Try.prog.bytesOf 49 = 8 := by kernel_rfl
@[go_sem] theorem in49 : (Try.prog.info? 49).isSome = true := by kernel_rfl
@[go_sem] theorem ag50 : aggB Try.prog 50 = some false := by kernel_rfl
@[go_sem] theorem sz50 : Try.prog.cellsOf 50 = 1 := by kernel_rfl
@[go_sem] theorem by50 : Try.prog.bytesOf 50 = 8 := by kernel_rfl
@[go_sem] theorem in50 : (Try.prog.info? 50).isSome = true := by kernel_rfl
@[go_sem] theorem ag51 : aggB Try.prog 51 = some false := by kernel_rfl
@[go_sem] theorem sz51 : Try.prog.cellsOf 51 = 1 := by kernel_rfl
@[go_sem] theorem by51 : Try.prog.bytesOf 51 = 8 := by kernel_rfl
@[go_sem] theorem in51 : (Try.prog.info? 51).isSome = true := by kernel_rfl
@[go_sem] theorem ag52 : aggB Try.prog 52 = some false := by kernel_rfl
@[go_sem] theorem sz52 : Try.prog.cellsOf 52 = 1 := by kernel_rfl
@[go_sem] theorem by52 : Try.prog.bytesOf 52 = 8 := by kernel_rfl
@[go_sem] theorem in52 : (Try.prog.info? 52).isSome = true := by kernel_rfl
@[go_sem] theorem ag53 : aggB Try.prog 53 = some false := by kernel_rfl
@[go_sem] theorem sz53 : Try.prog.cellsOf 53 = 1 := by kernel_rfl
@[go_sem] theorem by53 : Try.prog.bytesOf 53 = 8 := by kernel_rfl
@[go_sem] theorem in53 : (Try.prog.info? 53).isSome = true := by kernel_rfl
@[go_sem] theorem ag55 : aggB Try.prog 55 = some false := by kernel_rfl
@[go_sem] theorem sz55 : Try.prog.cellsOf 55 = 1 := by kernel_rfl
@[go_sem] theorem by55 : Try.prog.bytesOf 55 = 8 := by kernel_rfl
@[go_sem] theorem in55 : (Try.prog.info? 55).isSome = true := by kernel_rfl
@[go_sem] theorem ag56 : aggB Try.prog 56 = some false := by kernel_rfl
@[go_sem] theorem sz56 : Try.prog.cellsOf 56 = 1 := by kernel_rfl
@[go_sem] theorem by56 : Try.prog.bytesOf 56 = 24 := by kernel_rfl
@[go_sem] theorem in56 : (Try.prog.info? 56).isSome = true := by kernel_rfl
@[go_sem] theorem ze56 : zeroB Try.prog 56 = some [.sl false []] := by kernel_rfl
@[go_sem] theorem el56 : elemB Try.prog 56 = some 40 := by kernel_rfl
@[go_sem] theorem es56 : (elemB Try.prog 56).isSome = true := by kernel_rfl
@[go_sem] theorem st56 : isStrB Try.prog 56 = false := by kernel_rfl
@[go_sem] theorem ag57 : aggB Try.prog 57 = some false := by kernel_rfl
@[go_sem] theorem sz57 : Try.prog.cellsOf 57 = 1 := by kernel_rfl
@[go_sem] theorem by57 : Try.prog.bytesOf 57 = 8 := by kernel_rfl
@[go_sem] theorem in57 : (Try.prog.info? 57).isSome = true := by kernel_rfl
@[go_sem] theorem ag58 : aggB Try.prog 58 = some false := by kernel_rfl
@[go_sem] theorem sz58 : Try.prog.cellsOf 58 = 1 := by kernel_rfl
@[go_sem] theorem by58 : Try.prog.bytesOf 58 = 8 := by kernel_rfl
@[go_sem] theorem in58 : (Try.prog.info? 58).isSome = true := by kernel_rfl
@[go_sem] theorem ag59 : aggB Try.prog 59 = some false := by kernel_rfl
@[go_sem] theorem sz59 : Try.prog.cellsOf 59 = 1 := by kernel_rfl
@[go_sem] theorem by59 : Try.prog.bytesOf 59 = 24 := by kernel_rfl
@[go_sem] theorem in59 : (Try.prog.info? 59).isSome = true := by kernel_rfl
@[go_sem] theorem ze59 : zeroB Try.prog 59 = some [.sl false []] := by kernel_rfl
@[go_sem] theorem el59 : elemB Try.prog 59 = some 64 := by kernel_rfl
@[go_sem] theorem es59 : (elemB Try.prog 59).isSome = true := by kernel_rfl
@[go_sem] theorem st59 : isStrB Try.prog 59 = false := by kernel_rfl
@[go_sem] theorem ag61 : aggB Try.prog 61 = some false := by kernel_rfl
@[go_sem] theorem sz61 : Try.prog.cellsOf 61 = 1 := by kernel_rfl
@[go_sem] theorem by61 : Try.prog.bytesOf 61 = 8 := by kernel_rfl
@[go_sem] theorem in61 : (Try.prog.info? 61).isSome = true := by kernel_rfl
@[go_sem] theorem ag62 : aggB Try.prog 62 = some false := by kernel_rfl
@[go_sem] theorem sz62 : Try.prog.cellsOf 62 = 1 := by kernel_rfl
@[go_sem] theorem by62 : Try.prog.bytesOf 62 = 8 := by kernel_rfl
@[go_sem] theorem in62 : (Try.prog.info? 62).isSome = true := by kernel_rfl
@[go_sem] theorem ag63 : aggB Try.prog 63 = some false := by kernel_rfl
@[go_sem] theorem sz63 : Try.prog.cellsOf 63 = 1 := by kernel_rfl
@[go_sem] theorem by63 : Try.prog.bytesOf 63 = 8 := by kernel_rfl
@[go_sem] theorem in63 : (Try.prog.info? 63).isSome = true := by kernel_rfl
@[go_sem] theorem ag64 : aggB Try.prog 64 = some false := by kernel_rfl
@[go_sem] theorem sz64 : Try.prog.cellsOf 64 = 1 := by kernel_rfl
@[go_sem] theorem by64 : Try.prog.bytesOf 64 = 8 := by kernel_rfl
@[go_sem] theorem in64 : (Try.prog.info? 64).isSome = true := by kernel_rfl
@[go_sem] theorem ze64 : zeroB Try.prog 64 = some [.int .u64 0] := by kernel_rfl
@[go_sem] theorem it64 : intB Try.prog 64 = some .u64 := by kernel_rfl
@[go_sem] theorem ag65 : aggB Try.prog 65 = some true := by kernel_rfl
@[go_sem] theorem sz65 : Try.prog.cellsOf 65 = 2 := by kernel_rfl
@[go_sem] theorem by65 : Try.prog.bytesOf 65 = 32 := by kernel_rfl
@[go_sem] theorem in65 : (Try.prog.info? 65).isSome = true := by kernel_rfl
@[go_sem] theorem ze65 : zeroB Try.prog 65 = some [.int .u64 0, .sl false []] := by kernel_rfl
@[go_sem] theorem fi65_0 : fieldB Try.prog 65 0 = some (0, 64) := by kernel_rfl
@[go_sem] theorem fi65_1 : fieldB Try.prog 65 1 = some (1, 59) := by kernel_rfl
@[go_sem] theorem pl65 : placesB Try.prog 65 = some [(0, 1), (1, 1)] := by kernel_rfl
@[go_sem] theorem ag66 : aggB Try.prog 66 = some true := by kernel_rfl
@[go_sem] theorem sz66 : Try.prog.cellsOf 66 = 2 := by kernel_rfl
@[go_sem] theorem by66 : Try.prog.bytesOf 66 = 32 := by kernel_rfl
@[go_sem] theorem in66 : (Try.prog.info? 66).isSome = true := by kernel_rfl
@[go_sem] theorem ze66 : zeroB Try.prog 66 = some [.int .u64 0, .sl false []] := by kernel_rfl
@[go_sem] theorem fi66_0 : fieldB Try.prog 66 0 = some (0, 64) := by kernel_rfl
@[go_sem] theorem fi66_1 : fieldB Try.prog 66 1 = some (1, 59) := by kernel_rfl
@[go_sem] theorem pl66 : placesB Try.prog 66 = some [(0, 1), (1, 1)] := by kernel_rfl
@[go_sem] theorem ag67 : aggB Try.prog 67 = some false := by kernel_rfl
@[go_sem] theorem sz67 : Try.prog.cellsOf 67 = 1 := by kernel_rfl
@[go_sem] theorem by67 : Try.prog.bytesOf 67 = 8 := by kernel_rfl
@[go_sem] theorem in67 : (Try.prog.info? 67).isSome = true := by kernel_rfl
@[go_sem] theorem ag68 : aggB Try.prog 68 = some false := by kernel_rfl
@[go_sem] theorem sz68 : Try.prog.cellsOf 68 = 1 := by kernel_rfl
@[go_sem] theorem by68 : Try.prog.bytesOf 68 = 8 := by kernel_rfl
@[go_sem] theorem in68 : (Try.prog.info? 68).isSome = true := by kernel_rfl
@[go_sem] theorem ag69 : aggB Try.prog 69 = some false := by kernel_rfl
@[go_sem] theorem sz69 : Try.prog.cellsOf 69 = 1 := by kernel_rfl
@[go_sem] theorem by69 : Try.prog.bytesOf 69 = 8 := by kernel_rfl
@[go_sem] theorem in69 : (Try.prog.info? 69).isSome = true := by kernel_rfl
@[go_sem] theorem ag70 : aggB Try.prog 70 = some false := by kernel_rfl
@[go_sem] theorem sz70 : Try.prog.cellsOf 70 = 1 := by kernel_rfl
@[go_sem] theorem by70 : Try.prog.bytesOf 70 = 8 := by kernel_rfl
@[go_sem] theorem in70 : (Try.prog.info? 70).isSome = true := by kernel_rfl
@[go_sem] theorem ag71 : aggB Try.prog 71 = some false := by kernel_rfl
@[go_sem] theorem sz71 : Try.prog.cellsOf 71 = 1 := by kernel_rfl
@[go_sem] theorem by71 : Try.prog.bytesOf 71 = 8 := by kernel_rfl
@[go_sem] theorem in71 : (Try.prog.info? 71).isSome = true := by kernel_rfl
@[go_sem] theorem ag72 : aggB Try.prog 72 = some false := by kernel_rfl
@[go_sem] theorem sz72 : Try.prog.cellsOf 72 = 1 := by kernel_rfl
@[go_sem] theorem by72 : Try.prog.bytesOf 72 = 8 := by kernel_rfl
@[go_sem] theorem in72 : (Try.prog.info? 72).isSome = true := by kernel_rfl
@[go_sem] theorem ag73 : aggB Try.prog 73 = some false := by kernel_rfl
@[go_sem] theorem sz73 : Try.prog.cellsOf 73 = 1 := by kernel_rfl
@[go_sem] theorem by73 : Try.prog.bytesOf 73 = 8 := by kernel_rfl
@[go_sem] theorem in73 : (Try.prog.info? 73).isSome = true := by kernel_rfl
@[go_sem] theorem ag74 : aggB Try.prog 74 = some false := by kernel_rfl
@[go_sem] theorem sz74 : Try.prog.cellsOf 74 = 1 := by kernel_rfl
@[go_sem] theorem by74 : Try.prog.bytesOf 74 = 8 := by kernel_rfl
@[go_sem] theorem in74 : (Try.prog.info? 74).isSome = true := by kernel_rfl
@[go_sem] theorem ag75 : aggB Try.prog 75 = some false := by kernel_rfl
@[go_sem] theorem sz75 : Try.prog.cellsOf 75 = 1 := by kernel_rfl
@[go_sem] theorem by75 : Try.prog.bytesOf 75 = 8 := by kernel_rfl
@[go_sem] theorem in75 : (Try.prog.info? 75).isSome = true := by kernel_rfl
@[go_sem] theorem ag76 : aggB Try.prog 76 = some false := by kernel_rfl
@[go_sem] theorem sz76 : Try.prog.cellsOf 76 = 1 := by kernel_rfl
@[go_sem] theorem by76 : Try.prog.bytesOf 76 = 8 := by kernel_rfl
@[go_sem] theorem in76 : (Try.prog.info? 76).isSome = true := by kernel_rfl
@[go_sem] theorem ag77 : aggB Try.prog 77 = some false := by kernel_rfl
@[go_sem] theorem sz77 : Try.prog.cellsOf 77 = 1 := by kernel_rfl
@[go_sem] theorem by77 : Try.prog.bytesOf 77 = 8 := by kernel_rfl
@[go_sem] theorem in77 : (Try.prog.info? 77).isSome = true := by kernel_rfl
@[go_sem] theorem ag78 : aggB Try.prog 78 = some false := by kernel_rfl
@[go_sem] theorem sz78 : Try.prog.cellsOf 78 = 1 := by kernel_rfl
@[go_sem] theorem by78 : Try.prog.bytesOf 78 = 8 := by kernel_rfl
@[go_sem] theorem in78 : (Try.prog.info? 78).isSome = true := by kernel_rfl
@[go_sem] theorem ag79 : aggB Try.prog 79 = some false := by kernel_rfl
@[go_sem] theorem sz79 : Try.prog.cellsOf 79 = 1 := by kernel_rfl
@[go_sem] theorem by79 : Try.prog.bytesOf 79 = 8 := by kernel_rfl
@[go_sem] theorem in79 : (Try.prog.info? 79).isSome = true := by kernel_rfl
@[go_sem] theorem ag80 : aggB Try.prog 80 = some false := by kernel_rfl
@[go_sem] theorem sz80 : Try.prog.cellsOf 80 = 1 := by kernel_rfl
@[go_sem] theorem by80 : Try.prog.bytesOf 80 = 24 := by kernel_rfl
@[go_sem] theorem in80 : (Try.prog.info? 80).isSome = true := by kernel_rfl
@[go_sem] theorem ze80 : zeroB Try.prog 80 = some [.sl false []] := by kernel_rfl
@[go_sem] theorem el80 : elemB Try.prog 80 = some 84 := by kernel_rfl
@[go_sem] theorem es80 : (elemB Try.prog 80).isSome = true := by kernel_rfl
@[go_sem] theorem st80 : isStrB Try.prog 80 = false := by kernel_rfl
@[go_sem] theorem ag81 : aggB Try.prog 81 = some true := by kernel_rfl
@[go_sem] theorem sz81 : Try.prog.cellsOf 81 = 4 := by kernel_rfl
@[go_sem] theorem by81 : Try.prog.bytesOf 81 = 64 := by kernel_rfl
@[go_sem] theorem in81 : (Try.prog.info? 81).isSome = true := by kernel_rfl
@[go_sem] theorem ze81 : zeroB Try.prog 81 = some [.int .i64 0, .int .i64 0, .sl false [], .sl false []] := by kernel_rfl
@[go_sem] theorem fi81_0 : fieldB Try.prog 81 0 = some (0, 3) := by kernel_rfl
@[go_sem] theorem fi81_1 : fieldB Try.prog 81 1 = some (1, 3) := by kernel_rfl
@[go_sem] theorem fi81_2 : fieldB Try.prog 81 2 = some (2, 56) := by kernel_rfl
@[go_sem] theorem fi81_3 : fieldB Try.prog 81 3 = some (3, 80) := by kernel_rfl
@[go_sem] theorem pl81 : placesB Try.prog 81 = some [(0, 1), (1, 1), (2, 1), (3, 1)] := by kernel_rfl
@[go_sem] theorem ag82 : aggB Try.prog 82 = some true := by kernel_rfl
@[go_sem] theorem sz82 : Try.prog.cellsOf 82 = 4 := by kernel_rfl
@[go_sem] theorem by82 : Try.prog.bytesOf 82 = 64 := by kernel_rfl
@[go_sem] theorem in82 : (Try.prog.info? 82).isSome = true := by kernel_rfl
@[go_sem] theorem ze82 : zeroB Try.prog 82 = some [.int .i64 0, .int .i64 0, .sl false [], .sl false []] := by kernel_rfl
@[go_sem] theorem fi82_0 : fieldB Try.prog 82 0 = some (0, 3) := by kernel_rfl
@[go_sem] theorem fi82_1 : fieldB Try.prog 82 1 = some (1, 3) := by kernel_rfl
@[go_sem] theorem fi82_2 : fieldB Try.prog 82 2 = some (2, 56) := by kernel_rfl
@[go_sem] theorem fi82_3 : fieldB Try.prog 82 3 = some (3, 80) := by kernel_rfl
@[go_sem] theorem pl82 : placesB Try.prog 82 = some [(0, 1), (1, 1), (2, 1), (3, 1)] := by kernel_rfl
@[go_sem] theorem ag83 : aggB Try.prog 83 = some true := by kernel_rfl
@[go_sem] theorem sz83 : Try.prog.cellsOf 83 = 3 := by kernel_rfl
@[go_sem] theorem by83 : Try.prog.bytesOf 83 = 40 := by kernel_rfl
@[go_sem] theorem in83 : (Try.prog.info? 83).isSome = true := by kernel_rfl
@[go_sem] theorem ze83 : zeroB Try.prog 83 = some [.bool false, .sl false [], .int .i64 0] := by kernel_rfl
@[go_sem] theorem fi83_0 : fieldB Try.prog 83 0 = some (0, 4) := by kernel_rfl
@[go_sem] theorem fi83_1 : fieldB Try.prog 83 1 = some (1, 40) := by kernel_rfl
@[go_sem] theorem pl83 : placesB Try.prog 83 = some [(0, 1), (1, 2)] := by kernel_rfl
@[go_sem] theorem ag84 : aggB Try.prog 84 = some true := by kernel_rfl
@[go_sem] theorem sz84 : Try.prog.cellsOf 84 = 3 := by kernel_rfl
@[go_sem] theorem by84 : Try.prog.bytesOf 84 = 40 := by kernel_rfl
@[go_sem] theorem in84 : (Try.prog.info? 84).isSome = true := by kernel_rfl
@[go_sem] theorem ze84 : zeroB Try.prog 84 = some [.bool false, .sl false [], .int .i64 0] := by kernel_rfl
@[go_sem] theorem fi84_0 : fieldB Try.prog 84 0 = some (0, 4) := by kernel_rfl
@[go_sem] theorem fi84_1 : fieldB Try.prog 84 1 = some (1, 40) := by kernel_rfl
@[go_sem] theorem pl84 : placesB Try.prog 84 = some [(0, 1), (1, 2)] := by kernel_rfl
@[go_sem] theorem ag85 : aggB Try.prog 85 = some false := by kernel_rfl
@[go_sem] theorem sz85 : Try.prog.cellsOf 85 = 1 := by kernel_rfl
@[go_sem] theorem by85 : Try.prog.bytesOf 85 = 8 := by kernel_rfl
@[go_sem] theorem in85 : (Try.prog.info? 85).isSome = true := by kernel_rfl
@[go_sem] theorem ag86 : aggB Try.prog 86 = some false := by kernel_rfl
@[go_sem] theorem sz86 : Try.prog.cellsOf 86 = 1 := by kernel_rfl
@[go_sem] theorem by86 : Try.prog.bytesOf 86 = 8 := by kernel_rfl
@[go_sem] theorem in86 : (Try.prog.info? 86).isSome = true := by kernel_rfl
@[go_sem] theorem ag87 : aggB Try.prog 87 = some false := by kernel_rfl
@[go_sem] theorem sz87 : Try.prog.cellsOf 87 = 1 := by kernel_rfl
@[go_sem] theorem by87 : Try.prog.bytesOf 87 = 8 := by kernel_rfl
@[go_sem] theorem in87 : (Try.prog.info? 87).isSome = true := by kernel_rfl
@[go_sem] theorem ag88 : aggB Try.prog 88 = some false := by kernel_rfl
@[go_sem] theorem sz88 : Try.prog.cellsOf 88 = 1 := by kernel_rfl
@[go_sem] theorem by88 : Try.prog.bytesOf 88 = 24 := by kernel_rfl
@[go_sem] theorem in88 : (Try.prog.info? 88).isSome = true := by kernel_rfl
@[go_sem] theorem ze88 : zeroB Try.prog 88 = some [.sl false []] := by kernel_rfl
@[go_sem] theorem el88 : elemB Try.prog 88 = some 169 := by kernel_rfl
@[go_sem] theorem es88 : (elemB Try.prog 88).isSome = true := by kernel_rfl
@[go_sem] theorem st88 : isStrB Try.prog 88 = false := by kernel_rfl
@[go_sem] theorem ag90 : aggB Try.prog 90 = some false := by kernel_rfl
@[go_sem] theorem sz90 : Try.prog.cellsOf 90 = 1 := by kernel_rfl
@[go_sem] theorem by90 : Try.prog.bytesOf 90 = 8 := by kernel_rfl
@[go_sem] theorem in90 : (Try.prog.info? 90).isSome = true := by kernel_rfl
@[go_sem] theorem ag92 : aggB Try.prog 92 = some false := by kernel_rfl
@[go_sem] theorem sz92 : Try.prog.cellsOf 92 = 1 := by kernel_rfl
@[go_sem] theorem by92 : Try.prog.bytesOf 92 = 8 := by kernel_rfl
@[go_sem] theorem in92 : (Try.prog.info? 92).isSome = true := by kernel_rfl
@[go_sem] theorem ag93 : aggB Try.prog 93 = some false := by kernel_rfl
@[go_sem] theorem sz93 : Try.prog.cellsOf 93 = 1 := by kernel_rfl
@[go_sem] theorem by93 : Try.prog.bytesOf 93 = 8 := by kernel_rfl
@[go_sem] theorem in93 : (Try.prog.info? 93).isSome = true := by kernel_rfl
@[go_sem] theorem ag94 : aggB Try.prog 94 = some false := by kernel_rfl
@[go_sem] theorem sz94 : Try.prog.cellsOf 94 = 1 := by kernel_rfl
@[go_sem] theorem by94 : Try.prog.bytesOf 94 = 8 := by kernel_rfl
@[go_sem] theorem in94 : (Try.prog.info? 94).isSome = true := by kernel_rfl
@[go_sem] theorem ag95 : aggB Try.prog 95 = some false := by kernel_rfl
@[go_sem] theorem sz95 : Try.prog.cellsOf 95 = 1 := by kernel_rfl
@[go_sem] theorem by95 : Try.prog.bytesOf 95 = 24 := by kernel_rfl
@[go_sem] theorem in95 : (Try.prog.info? 95).isSome = true := by kernel_rfl
@[go_sem] theorem ze95 : zeroB Try.prog 95 = some [.sl false []] := by kernel_rfl
@[go_sem] theorem el95 : elemB Try.prog 95 = some 98 := by kernel_rfl
@[go_sem] theorem es95 : (elemB Try.prog 95).isSome = true := by kernel_rfl
@[go_sem] theorem st95 : isStrB Try.prog 95 = false := by kernel_rfl
@[go_sem] theorem ag96 : aggB Try.prog 96 = some false := by kernel_rfl
@[go_sem] theorem sz96 : Try.prog.cellsOf 96 = 1 := by kernel_rfl
@[go_sem] theorem by96 : Try.prog.bytesOf 96 = 24 := by kernel_rfl
@[go_sem] theorem in96 : (Try.prog.info? 96).isSome = true := by kernel_rfl
@[go_sem] theorem ze96 : zeroB Try.prog 96 = some [.sl false []] := by kernel_rfl
@[go_sem] theorem el96 : elemB Try.prog 96 = some 145 := by kernel_rfl
@[go_sem] theorem es96 : (elemB Try.prog 96).isSome = true := by kernel_rfl
@[go_sem] theorem st96 : isStrB Try.prog 96 = false := by kernel_rfl
@[go_sem] theorem ag97 : aggB Try.prog 97 = some true := by kernel_rfl
@[go_sem] theorem sz97 : Try.prog.cellsOf 97 = 2 := by kernel_rfl
@[go_sem] theorem by97 : Try.prog.bytesOf 97 = 32 := by kernel_rfl
@[go_sem] theorem in97 : (Try.prog.info? 97).isSome = true := by kernel_rfl
@[go_sem] theorem ze97 : zeroB Try.prog 97 = some [.sl false [], .bool false] := by kernel_rfl
@[go_sem] theorem fi97_0 : fieldB Try.prog 97 0 = some (0, 96) := by kernel_rfl
@[go_sem] theorem fi97_1 : fieldB Try.prog 97 1 = some (1, 4) := by kernel_rfl
@[go_sem] theorem pl97 : placesB Try.prog 97 = some [(0, 1), (1, 1)] := by kernel_rfl
@[go_sem] theorem ag98 : aggB Try.prog 98 = some true := by kernel_rfl
@[go_sem] theorem sz98 : Try.prog.cellsOf 98 = 2 := by kernel_rfl
@[go_sem] theorem by98 : Try.prog.bytesOf 98 = 32 := by kernel_rfl
@[go_sem] theorem in98 : (Try.prog.info? 98).isSome = true := by kernel_rfl
@[go_sem] theorem ze98 : zeroB Try.prog 98 = some [.sl false [], .bool false] := by kernel_rfl
@[go_sem] theorem fi98_0 : fieldB Try.prog 98 0 = some (0, 96) := by kernel_rfl
@[go_sem] theorem fi98_1 : fieldB Try.prog 98 1 = some (1, 4) := by kernel_rfl
@[go_sem] theorem pl98 : placesB Try.prog 98 = some [(0, 1), (1, 1)] := by kernel_rfl
@[go_sem] theorem ag100 : aggB Try.prog 100 = some false := by kernel_rfl
@[go_sem] theorem sz100 : Try.prog.cellsOf 100 = 1 := by kernel_rfl
@[go_sem] theorem by100 : Try.prog.bytesOf 100 = 8 := by kernel_rfl
@[go_sem] theorem in100 : (Try.prog.info? 100).isSome = true := by kernel_rfl
@[go_sem] theorem ag101 : aggB Try.prog 101 = some false := by kernel_rfl
@[go_sem] theorem sz101 : Try.prog.cellsOf 101 = 1 := by kernel_rfl
@[go_sem] theorem by101 : Try.prog.bytesOf 101 = 24 := by kernel_rfl
@[go_sem] theorem in101 : (Try.prog.info? 101).isSome = true := by kernel_rfl
@[go_sem] theorem ze101 : zeroB Try.prog 101 = some [.sl false []] := by kernel_rfl
@[go_sem] theorem el101 : elemB Try.prog 101 = some 104 := by kernel_rfl
@[go_sem] theorem es101 : (elemB Try.prog 101).isSome = true := by kernel_rfl
@[go_sem] theorem st101 : isStrB Try.prog 101 = false := by kernel_rfl
@[go_sem] theorem ag102 : aggB Try.prog 102 = some false := by kernel_rfl
@[go_sem] theorem sz102 : Try.prog.cellsOf 102 = 1 := by kernel_rfl
@[go_sem] theorem by102 : Try.prog.bytesOf 102 = 24 := by kernel_rfl
@[go_sem] theorem in102 : (Try.prog.info? 102).isSome = true := by kernel_rfl
@[go_sem] theorem ze102 : zeroB Try.prog 102 = some [.sl false []] := by kernel_rfl
@[go_sem] theorem el102 : elemB Try.prog 102 = some 145 := by kernel_rfl
@[go_sem] theorem es102 : (elemB Try.prog 102).isSome = true := by kernel_rfl
@[go_sem] theorem st102 : isStrB Try.prog 102 = false := by kernel_rfl
@[go_sem] theorem ag103 : aggB Try.prog 103 = some true := by kernel_rfl
@[go_sem] theorem sz103 : Try.prog.cellsOf 103 = 2 := by kernel_rfl
@[go_sem] theorem by103 : Try.prog.bytesOf 103 = 48 := by kernel_rfl
@[go_sem] theorem in103 : (Try.prog.info? 103).isSome = true := by kernel_rfl
@[go_sem] theorem ze103 : zeroB Try.prog 103 = some [.sl false [], .sl false []] := by kernel_rfl
@[go_sem] theorem fi103_0 : fieldB Try.prog 103 0 = some (0, 102) := by kernel_rfl
@[go_sem] theorem fi103_1 : fieldB Try.prog 103 1 = some (1, 102) := by kernel_rfl
@[go_sem] theorem pl103 : placesB Try.prog 103 = some [(0, 1), (1, 1)] := by kernel_rfl
@[go_sem] theorem ag104 : aggB Try.prog 104 = some true := by kernel_rfl
@[go_sem] theorem sz104 : Try.prog.cellsOf 104 = 2 := by kernel_rfl
@[go_sem] theorem by104 : Try.prog.bytesOf 104 = 48 := by kernel_rfl
@[go_sem] theorem in104 : (Try.prog.info? 104).isSome = true := by kernel_rfl
@[go_sem] theorem ze104 : zeroB Try.prog 104 = some [.sl false [], .sl false []] := by kernel_rfl
@[go_sem] theorem fi104_0 : fieldB Try.prog 104 0 = some (0, 102) := by kernel_rfl
@[go_sem] theorem fi104_1 : fieldB Try.prog 104 1 = some (1, 102) := by kernel_rfl
@[go_sem] theorem pl104 : placesB Try.prog 104 = some [(0, 1), (1, 1)] := by kernel_rfl
@[go_sem] theorem ag106 : aggB Try.prog 106 = some false := by kernel_rfl
@[go_sem] theorem sz106 : Try.prog.cellsOf 106 = 1 := by kernel_rfl
@[go_sem] theorem by106 : Try.prog.bytesOf 106 = 8 := by kernel_rfl
@[go_sem] theorem in106 : (Try.prog.info? 106).isSome = true := by kernel_rfl
@[go_sem] theorem ag107 : aggB Try.prog 107 = some false := by kernel_rfl
@[go_sem] theorem sz107 : Try.prog.cellsOf 107 = 1 := by kernel_rfl
@[go_sem] theorem by107 : Try.prog.bytesOf 107 = 8 := by kernel_rfl
@[go_sem] theorem in107 : (Try.prog.info? 107).isSome = true := by kernel_rfl
@[go_sem] theorem ag108 : aggB Try.prog 108 = some false := by kernel_rfl
@[go_sem] theorem sz108 : Try.prog.cellsOf 108 = 1 := by kernel_rfl
@[go_sem] theorem by108 : Try.prog.bytesOf 108 = 8 := by kernel_rfl
@[go_sem] theorem in108 : (Try.prog.info? 108).isSome = true := by kernel_rfl
@[go_sem] theorem ag109 : aggB Try.prog 109 = some false := by kernel_rfl
@[go_sem] theorem sz109 : Try.prog.cellsOf 109 = 1 := by kernel_rfl
@[go_sem] theorem by109 : Try.prog.bytesOf 109 = 8 := by kernel_rfl
@[go_sem] theorem in109 : (Try.prog.info? 109).isSome = true := by kernel_rfl
@[go_sem] theorem ag110 : aggB Try.prog 110 = some false := by kernel_rfl
@[go_sem] theorem sz110 : Try.prog.cellsOf 110 = 1 := by kernel_rfl
@[go_sem] theorem by110 : Try.prog.bytesOf 110 = 8 := by kernel_rfl
@[go_sem] theorem in110 : (Try.prog.info? 110).isSome = true := by kernel_rfl
@[go_sem] theorem ag111 : aggB Try.prog 111 = some false := by kernel_rfl
@[go_sem] theorem sz111 : Try.prog.cellsOf 111 = 1 := by kernel_rfl
@[go_sem] theorem by111 : Try.prog.bytesOf 111 = 8 := by kernel_rfl
@[go_sem] theorem in111 : (Try.prog.info? 111).isSome = true := by kernel_rfl
@[go_sem] theorem ag112 : aggB Try.prog 112 = some false := by kernel_rfl
@[go_sem] theorem sz112 : Try.prog.cellsOf 112 = 1 := by kernel_rfl
@[go_sem] theorem by112 : Try.prog.bytesOf 112 = 8 := by kernel_rfl
@[go_sem] theorem in112 : (Try.prog.info? 112).isSome = true := by kernel_rfl
@[go_sem] theorem ag113 : aggB Try.prog 113 = some false := by kernel_rfl
@[go_sem] theorem sz113 : Try.prog.cellsOf 113 = 1 := by kernel_rfl
@[go_sem] theorem by113 : Try.prog.bytesOf 113 = 8 := by kernel_rfl
@[go_sem] theorem in113 : (Try.prog.info? 113).isSome = true := by kernel_rfl
@[go_sem] theorem ag114 : aggB Try.prog 114 = some false := by kernel_rfl
@[go_sem] theorem sz114 : Try.prog.cellsOf 114 = 1 := by kernel_rfl
@[go_sem] theorem by114 : Try.prog.bytesOf 114 = 8 := by kernel_rfl
@[go_sem] theorem in114 : (Try.prog.info? 114).isSome = true := by kernel_rfl
@[go_sem] theorem ag115 : aggB Try.prog 115 = some false := by kernel_rfl
@[go_sem] theorem sz115 : Try.prog.cellsOf 115 = 1 := by kernel_rfl
@[go_sem] theorem by115 : Try.prog.bytesOf 115 = 8 := by kernel_rfl
@[go_sem] theorem in115 : (Try.prog.info? 115).isSome = true := by kernel_rfl
@[go_sem] theorem ag116 : aggB Try.prog 116 = some false := by kernel_rfl
@[go_sem] theorem sz116 : Try.prog.cellsOf 116 = 1 := by kernel_rfl
@[go_sem] theorem by116 : Try.prog.bytesOf 116 = 8 := by kernel_rfl
@[go_sem] theorem in116 : (Try.prog.info? 116).isSome = true := by kernel_rfl
@[go_sem] theorem ag117 : aggB Try.prog 117 = some false := by kernel_rfl
@[go_sem] theorem sz117 : Try.prog.cellsOf 117 = 1 := by kernel_rfl
@[go_sem] theorem by117 : Try.prog.bytesOf 117 = 8 := by kernel_rfl
@[go_sem] theorem in117 : (Try.prog.info? 117).isSome = true := by kernel_rfl
@[go_sem] theorem ag118 : aggB Try.prog 118 = some false := by kernel_rfl
@[go_sem] theorem sz118 : Try.prog.cellsOf 118 = 1 := by kernel_rfl
@[go_sem] theorem by118 : Try.prog.bytesOf 118 = 8 := by kernel_rfl
@[go_sem] theorem in118 : (Try.prog.info? 118).isSome = true := by kernel_rfl
@[go_sem] theorem ag119 : aggB Try.prog 119 = some false := by kernel_rfl
@[go_sem] theorem sz119 : Try.prog.cellsOf 119 = 1 := by kernel_rfl
@[go_sem] theorem by119 : Try.prog.bytesOf 119 = 8 := by kernel_rfl
@[go_sem] theorem in119 : (Try.prog.info? 119).isSome = true := by kernel_rfl
@[go_sem] theorem ag121 : aggB Try.prog 121 = some false := by kernel_rfl
@[go_sem] theorem sz121 : Try.prog.cellsOf 121 = 1 := by kernel_rfl
@[go_sem] theorem by121 : Try.prog.bytesOf 121 = 8 := by kernel_rfl
@[go_sem] theorem in121 : (Try.prog.info? 121).isSome = true := by kernel_rfl
@[go_sem] theorem ag122 : aggB Try.prog 122 = some false := by kernel_rfl
@[go_sem] theorem sz122 : Try.prog.cellsOf 122 = 1 := by kernel_rfl
@[go_sem] theorem by122 : Try.prog.bytesOf 122 = 8 := by kernel_rfl
@[go_sem] theorem in122 : (Try.prog.info? 122).isSome = true := by kernel_rfl
@[go_sem] theorem ag123 : aggB Try.prog 123 = some false := by kernel_rfl
@[go_sem] theorem sz123 : Try.prog.cellsOf 123 = 1 := by kernel_rfl
@[go_sem] theorem by123 : Try.prog.bytesOf 123 = 8 := by kernel_rfl
@[go_sem] theorem in123 : (Try.prog.info? 123).isSome = true := by kernel_rfl
@[go_sem] theorem ag124 : aggB Try.prog 124 = some false := by kernel_rfl
@[go_sem] theorem sz124 : Try.prog.cellsOf 124 = 1 := by kernel_rfl
@[go_sem] theorem by124 : Try.prog.bytesOf 124 = 24 := by kernel_rfl
@[go_sem] theorem in124 : (Try.prog.info? 124).isSome = true := by kernel_rfl
@[go_sem] theorem ze124 : zeroB Try.prog 124 = some [.sl false []] := by kernel_rfl
@[go_sem] theorem el124 : elemB Try.prog 124 = some 135 := by kernel_rfl
@[go_sem] theorem es124 : (elemB Try.prog 124).isSome = true := by kernel_rfl
@[go_sem] theorem st124 : isStrB Try.prog 124 = false := by kernel_rfl
@[go_sem] theorem ag126 : aggB Try.prog 126 = some false := by kernel_rfl
@[go_sem] theorem sz126 : Try.prog.cellsOf 126 = 1 := by kernel_rfl
@[go_sem] theorem by126 : Try.prog.bytesOf 126 = 8 := by kernel_rfl
@[go_sem] theorem in126 : (Try.prog.info? 126).isSome = true := by kernel_rfl
@[go_sem] theorem ag127 : aggB Try.prog 127 = some false := by kernel_rfl
@[go_sem] theorem sz127 : Try.prog.cellsOf 127 = 1 := by kernel_rfl
@[go_sem] theorem by127 : Try.prog.bytesOf 127 = 24 := by kernel_rfl
@[go_sem] theorem in127 : (Try.prog.info? 127).isSome = true := by kernel_rfl
@[go_sem] theorem ze127 : zeroB Try.prog 127 = some [.sl false []] := by kernel_rfl
@[go_sem] theorem el127 : elemB Try.prog 127 = some 124 := by kernel_rfl
@[go_sem] theorem es127 : (elemB Try.prog 127).isSome = true := by kernel_rfl
@[go_sem] theorem st127 : isStrB Try.prog 127 = false := by kernel_rfl
@[go_sem] theorem ag128 : aggB Try.prog 128 = some false := by kernel_rfl
@[go_sem] theorem sz128 : Try.prog.cellsOf 128 = 1 := by kernel_rfl
@[go_sem] theorem by128 : Try.prog.bytesOf 128 = 8 := by kernel_rfl
@[go_sem] theorem in128 : (Try.prog.info? 128).isSome = true := by kernel_rfl
@[go_sem] theorem ag129 : aggB Try.prog 129 = some false := by kernel_rfl
@[go_sem] theorem sz129 : Try.prog.cellsOf 129 = 1 := by kernel_rfl
@[go_sem] theorem by129 : Try.prog.bytesOf 129 = 8 := by kernel_rfl
@[go_sem] theorem in129 : (Try.prog.info? 129).isSome = true := by kernel_rfl
@[go_sem] theorem ag131 : aggB Try.prog 131 = some false := by kernel_rfl
@[go_sem] theorem sz131 : Try.prog.cellsOf 131 = 1 := by kernel_rfl
@[go_sem] theorem by131 : Try.prog.bytesOf 131 = 8 := by kernel_rfl
@[go_sem] theorem in131 : (Try.prog.info? 131).isSome = true := by kernel_rfl
@[go_sem] theorem ag133 : aggB Try.prog 133 = some false := by kernel_rfl
@[go_sem] theorem sz133 : Try.prog.cellsOf 133 = 1 := by kernel_rfl
@[go_sem] theorem by133 : Try.prog.bytesOf 133 = 8 := by kernel_rfl
@[go_sem] theorem in133 : (Try.prog.info? 133).isSome = true := by kernel_rfl
@[go_sem] theorem ag134 : aggB Try.prog 134 = some true := by kernel_rfl
@[go_sem] theorem sz134 : Try.prog.cellsOf 134 = 6 := by kernel_rfl
@[go_sem] theorem by134 : Try.prog.bytesOf 134 = 80 := by kernel_rfl
@[go_sem] theorem in134 : (Try.prog.info? 134).isSome = true := by kernel_rfl
@[go_sem] theorem ze134 : zeroB Try.prog 134 = some [.int .i64 0, .int .i64 0, .sl false [], .bool false, .sl false [], .bool false] := by kernel_rfl
@[go_sem] theorem fi134_0 : fieldB Try.prog 134 0 = some (0, 2) := by kernel_rfl
@[go_sem] theorem fi134_1 : fieldB Try.prog 134 1 = some (1, 2) := by kernel_rfl
@[go_sem] theorem fi134_2 : fieldB Try.prog 134 2 = some (2, 98) := by kernel_rfl
@[go_sem] theorem fi134_3 : fieldB Try.prog 134 3 = some (4, 98) := by kernel_rfl
@[go_sem] theorem pl134 : placesB Try.prog 134 = some [(0, 1), (1, 1), (2, 2), (4, 2)] := by kernel_rfl
@[go_sem] theorem ag135 : aggB Try.prog 135 = some true := by kernel_rfl
@[go_sem] theorem sz135 : Try.prog.cellsOf 135 = 6 := by kernel_rfl
@[go_sem] theorem by135 : Try.prog.bytesOf 135 = 80 := by kernel_rfl
@[go_sem] theorem in135 : (Try.prog.info? 135).isSome = true := by kernel_rfl
@[go_sem] theorem ze135 : zeroB Try.prog 135 = some [.int .i64 0, .int .i64 0, .sl false [], .bool false, .sl false [], .bool false] := by kernel_rfl
@[go_sem] theorem fi135_0 : fieldB Try.prog 135 0 = some (0, 2) := by kernel_rfl
@[go_sem] theorem fi135_1 : fieldB Try.prog 135 1 = some (1, 2) := by kernel_rfl
@[go_sem] theorem fi135_2 : fieldB Try.prog 135 2 = some (2, 98) := by kernel_rfl
@[go_sem] theorem fi135_3 : fieldB Try.prog 135 3 = some (4, 98) := by kernel_rfl
@[go_sem] theorem pl135 : placesB Try.prog 135 = some [(0, 1), (1, 1), (2, 2), (4, 2)] := by kernel_rfl
@[go_sem] theorem ag136 : aggB Try.prog 136 = some false := by kernel_rfl
@[go_sem] theorem sz136 : Try.prog.cellsOf 136 = 1 := by kernel_rfl
@[go_sem] theorem by136 : Try.prog.bytesOf 136 = 8 := by kernel_rfl
@[go_sem] theorem in136 : (Try.prog.info? 136).isSome = true := by kernel_rfl
@[go_sem] theorem ag137 : aggB Try.prog 137 = some false := by kernel_rfl
@[go_sem] theorem sz137 : Try.prog.cellsOf 137 = 1 := by kernel_rfl
@[go_sem] theorem by137 : Try.prog.bytesOf 137 = 8 := by kernel_rfl
@[go_sem] theorem in137 : (Try.prog.info? 137).isSome = true := by kernel_rfl
@[go_sem] theorem ag138 : aggB Try.prog 138 = some false := by kernel_rfl
@[go_sem] theorem sz138 : Try.prog.cellsOf 138 = 1 := by kernel_rfl
@[go_sem] theorem by138 : Try.prog.bytesOf 138 = 8 := by kernel_rfl
@[go_sem] theorem in138 : (Try.prog.info? 138).isSome = true := by kernel_rfl
@[go_sem] theorem ag139 : aggB Try.prog 139 = some false := by kernel_rfl
@[go_sem] theorem sz139 : Try.prog.cellsOf 139 = 1 := by kernel_rfl
@[go_sem] theorem by139 : Try.prog.bytesOf 139 = 8 := by kernel_rfl
@[go_sem] theorem in139 : (Try.prog.info? 139).isSome = true := by kernel_rfl
@[go_sem] theorem ag140 : aggB Try.prog 140 = some false := by kernel_rfl
@[go_sem] theorem sz140 : Try.prog.cellsOf 140 = 1 := by kernel_rfl
@[go_sem] theorem by140 : Try.prog.bytesOf 140 = 8 := by kernel_rfl
@[go_sem] theorem in140 : (Try.prog.info? 140).isSome = true := by kernel_rfl
@[go_sem] theorem ag141 : aggB Try.prog 141 = some false := by kernel_rfl
@[go_sem] theorem sz141 : Try.prog.cellsOf 141 = 1 := by kernel_rfl
@[go_sem] theorem by141 : Try.prog.bytesOf 141 = 8 := by kernel_rfl
@[go_sem] theorem in141 : (Try.prog.info? 141).isSome = true := by kernel_rfl
@[go_sem] theorem ag142 : aggB Try.prog 142 = some false := by kernel_rfl
@[go_sem] theorem sz142 : Try.prog.cellsOf 142 = 1 := by kernel_rfl
@[go_sem] theorem by142 : Try.prog.bytesOf 142 = 8 := by kernel_rfl
@[go_sem] theorem in142 : (Try.prog.info? 142).isSome = true := by kernel_rfl
@[go_sem] theorem ag143 : aggB Try.prog 143 = some false := by kernel_rfl
@[go_sem] theorem sz143 : Try.prog.cellsOf 143 = 1 := by kernel_rfl
@[go_sem] theorem by143 : Try.prog.bytesOf 143 = 8 := by kernel_rfl
@[go_sem] theorem in143 : (Try.prog.info? 143).isSome = true := by kernel_rfl
@[go_sem] theorem ag144 : aggB Try.prog 144 = some false := by kernel_rfl
@[go_sem] theorem sz144 : Try.prog.cellsOf 144 = 1 := by kernel_rfl
@[go_sem] theorem by144 : Try.prog.bytesOf 144 = 8 := by kernel_rfl
@[go_sem] theorem in144 : (Try.prog.info? 144).isSome = true := by kernel_rfl
@[go_sem] theorem ag145 : aggB Try.prog 145 = some false := by kernel_rfl
@[go_sem] theorem sz145 : Try.prog.cellsOf 145 = 1 := by kernel_rfl
@[go_sem] theorem by145 : Try.prog.bytesOf 145 = 4 := by kernel_rfl
@[go_sem] theorem in145 : (Try.prog.info? 145).isSome = true := by kernel_rfl
@[go_sem] theorem ze145 : zeroB Try.prog 145 = some [.int .u32 0] := by kernel_rfl
@[go_sem] theorem it145 : intB Try.prog 145 = some .u32 := by kernel_rfl
@[go_sem] theorem ag146 : aggB Try.prog 146 = some false := by kernel_rfl
@[go_sem] theorem sz146 : Try.prog.cellsOf 146 = 1 := by kernel_rfl
@[go_sem] theorem by146 : Try.prog.bytesOf 146 = 8 := by kernel_rfl
@[go_sem] theorem in146 : (Try.prog.info? 146).isSome = true := by kernel_rfl
@[go_sem] theorem ze146 : zeroB Try.prog 146 = some [.int .u64 0] := by kernel_rfl
@[go_sem] theorem it146 : intB Try.prog 146 = some .u64 := by kernel_rfl
@[go_sem] theorem ag147 : aggB Try.prog 147 = some false := by kernel_rfl
@[go_sem] theorem sz147 : Try.prog.cellsOf 147 = 1 := by kernel_rfl
@[go_sem] theorem by147 : Try.prog.bytesOf 147 = 8 := by kernel_rfl
@[go_sem] theorem in147 : (Try.prog.info? 147).isSome = true := by kernel_rfl
@[go_sem] theorem ag148 : aggB Try.prog 148 = some false := by kernel_rfl
@[go_sem] theorem sz148 : Try.prog.cellsOf 148 = 1 := by kernel_rfl
@[go_sem] theorem by148 : Try.prog.bytesOf 148 = 8 := by kernel_rfl
@[go_sem] theorem in148 : (Try.prog.info? 148).isSome = true := by kernel_rfl
@[go_sem] theorem ag149 : aggB Try.prog 149 = some false := by kernel_rfl
@[go_sem] theorem sz149 : Try.prog.cellsOf 149 = 1 := by kernel_rfl
@[go_sem] theorem by149 : Try.prog.bytesOf 149 = 8 := by kernel_rfl
@[go_sem] theorem in149 : (Try.prog.info? 149).isSome = true := by kernel_rfl
@[go_sem] theorem ag150 : aggB Try.prog 150 = some false := by kernel_rfl
@[go_sem] theorem sz150 : Try.prog.cellsOf 150 = 1 := by kernel_rfl
@[go_sem] theorem by150 : Try.prog.bytesOf 150 = 8 := by kernel_rfl
@[go_sem] theorem in150 : (Try.prog.info? 150).isSome = true := by kernel_rfl
@[go_sem] theorem ag151 : aggB Try.prog 151 = some false := by kernel_rfl
@[go_sem] theorem sz151 : Try.prog.cellsOf 151 = 1 := by kernel_rfl
@[go_sem] theorem by151 : Try.prog.bytesOf 151 = 8 := by kernel_rfl
@[go_sem] theorem in151 : (Try.prog.info? 151).isSome = true := by kernel_rfl
@[go_sem] theorem ag152 : aggB Try.prog 152 = some false := by kernel_rfl
@[go_sem] theorem sz152 : Try.prog.cellsOf 152 = 1 := by kernel_rfl
@[go_sem] theorem by152 : Try.prog.bytesOf 152 = 8 := by kernel_rfl
@[go_sem] theorem in152 : (Try.prog.info? 152).isSome = true := by kernel_rfl
@[go_sem] theorem ag153 : aggB Try.prog 153 = some false := by kernel_rfl
@[go_sem] theorem sz153 : Try.prog.cellsOf 153 = 1 := by kernel_rfl
@[go_sem] theorem by153 : Try.prog.bytesOf 153 = 8 := by kernel_rfl
@[go_sem] theorem in153 : (Try.prog.info? 153).isSome = true := by kernel_rfl
@[go_sem] theorem ze153 : zeroB Try.prog 153 = some [.nilp] := by kernel_rfl
@[go_sem] theorem ag154 : aggB Try.prog 154 = some false := by kernel_rfl
@[go_sem] theorem sz154 : Try.prog.cellsOf 154 = 1 := by kernel_rfl
@[go_sem] theorem by154 : Try.prog.bytesOf 154 = 24 := by kernel_rfl
@[go_sem] theorem in154 : (Try.prog.info? 154).isSome = true := by kernel_rfl
@[go_sem] theorem ze154 : zeroB Try.prog 154 = some [.sl false []] := by kernel_rfl
@[go_sem] theorem el154 : elemB Try.prog 154 = some 4 := by kernel_rfl
@[go_sem] theorem es154 : (elemB Try.prog 154).isSome = true := by kernel_rfl
@[go_sem] theorem st154 : isStrB Try.prog 154 = false := by kernel_rfl
@[go_sem] theorem ag156 : aggB Try.prog 156 = some false := by kernel_rfl
@[go_sem] theorem sz156 : Try.prog.cellsOf 156 = 1 := by kernel_rfl
@[go_sem] theorem by156 : Try.prog.bytesOf 156 = 8 := by kernel_rfl
@[go_sem] theorem in156 : (Try.prog.info? 156).isSome = true := by kernel_rfl
@[go_sem] theorem ag157 : aggB Try.prog 157 = some false := by kernel_rfl
@[go_sem] theorem sz157 : Try.prog.cellsOf 157 = 1 := by kernel_rfl
@[go_sem] theorem by157 : Try.prog.bytesOf 157 = 8 := by kernel_rfl
@[go_sem] theorem in157 : (Try.prog.info? 157).isSome = true := by kernel_rfl
@[go_sem] theorem ag158 : aggB Try.prog 158 = some false := by kernel_rfl
@[go_sem] theorem sz158 : Try.prog.cellsOf 158 = 1 := by kernel_rfl
@[go_sem] theorem by158 : Try.prog.bytesOf 158 = 8 := by kernel_rfl
@[go_sem] theorem in158 : (Try.prog.info? 158).isSome = true := by kernel_rfl
@[go_sem] theorem ag159 : aggB Try.prog 159 = some true := by kernel_rfl
@[go_sem] theorem sz159 : Try.prog.cellsOf 159 = 4 := by kernel_rfl
@[go_sem] theorem by159 : Try.prog.bytesOf 159 = 80 := by kernel_rfl
@[go_sem] theorem in159 : (Try.prog.info? 159).isSome = true := by kernel_rfl
@[go_sem] theorem ze159 : zeroB Try.prog 159 = some [.sl false [], .sl false [], .sl false [], .int .i64 0] := by kernel_rfl
@[go_sem] theorem fi159_0 : fieldB Try.prog 159 0 = some (0, 127) := by kernel_rfl
@[go_sem] theorem fi159_1 : fieldB Try.prog 159 1 = some (1, 124) := by kernel_rfl
@[go_sem] theorem fi159_2 : fieldB Try.prog 159 2 = some (2, 32) := by kernel_rfl
@[go_sem] theorem fi159_3 : fieldB Try.prog 159 3 = some (3, 3) := by kernel_rfl
@[go_sem] theorem pl159 : placesB Try.prog 159 = some [(0, 1), (1, 1), (2, 1), (3, 1)] := by kernel_rfl
@[go_sem] theorem ag160 : aggB Try.prog 160 = some true := by kernel_rfl
@[go_sem] theorem sz160 : Try.prog.cellsOf 160 = 4 := by kernel_rfl
@[go_sem] theorem by160 : Try.prog.bytesOf 160 = 80 := by kernel_rfl
@[go_sem] theorem in160 : (Try.prog.info? 160).isSome = true := by kernel_rfl
@[go_sem] theorem ze160 : zeroB Try.prog 160 = some [.sl false [], .sl false [], .sl false [], .int .i64 0] := by kernel_rfl
@[go_sem] theorem fi160_0 : fieldB Try.prog 160 0 = some (0, 127) := by kernel_rfl
@[go_sem] theorem fi160_1 : fieldB Try.prog 160 1 = some (1, 124) := by kernel_rfl
@[go_sem] theorem fi160_2 : fieldB Try.prog 160 2 = some (2, 32) := by kernel_rfl
@[go_sem] theorem fi160_3 : fieldB Try.prog 160 3 = some (3, 3) := by kernel_rfl
@[go_sem] theorem pl160 : placesB Try.prog 160 = some [(0, 1), (1, 1), (2, 1), (3, 1)] := by kernel_rfl
@[go_sem] theorem ag161 : aggB Try.prog 161 = some false := by kernel_rfl
@[go_sem] theorem sz161 : Try.prog.cellsOf 161 = 1 := by kernel_rfl
@[go_sem] theorem by161 : Try.prog.bytesOf 161 = 8 := by kernel_rfl
@[go_sem] theorem in161 : (Try.prog.info? 161).isSome = true := by kernel_rfl
@[go_sem] theorem ag162 : aggB Try.prog 162 = some false := by kernel_rfl
@[go_sem] theorem sz162 : Try.prog.cellsOf 162 = 1 := by kernel_rfl
@[go_sem] theorem by162 : Try.prog.bytesOf 162 = 8 := by kernel_rfl
@[go_sem] theorem in162 : (Try.prog.info? 162).isSome = true := by kernel_rfl
@[go_sem] theorem ag163 : aggB Try.prog 163 = some false := by kernel_rfl
@[go_sem] theorem sz163 : Try.prog.cellsOf 163 = 1 := by kernel_rfl
@[go_sem] theorem by163 : Try.prog.bytesOf 163 = 8 := by kernel_rfl
@[go_sem] theorem in163 : (Try.prog.info? 163).isSome = true := by kernel_rfl
@[go_sem] theorem ag164 : aggB Try.prog 164 = some false := by kernel_rfl
@[go_sem] theorem sz164 : Try.prog.cellsOf 164 = 1 := by kernel_rfl
@[go_sem] theorem by164 : Try.prog.bytesOf 164 = 8 := by kernel_rfl
@[go_sem] theorem in164 : (Try.prog.info? 164).isSome = true := by kernel_rfl
@[go_sem] theorem ag166 : aggB Try.prog 166 = some false := by kernel_rfl
@[go_sem] theorem sz166 : Try.prog.cellsOf 166 = 1 := by kernel_rfl
@[go_sem] theorem by166 : Try.prog.bytesOf 166 = 8 := by kernel_rfl
@[go_sem] theorem in166 : (Try.prog.info? 166).isSome = true := by kernel_rfl
@[go_sem] theorem ag167 : aggB Try.prog 167 = some false := by kernel_rfl
@[go_sem] theorem sz167 : Try.prog.cellsOf 167 = 1 := by kernel_rfl
@[go_sem] theorem by167 : Try.prog.bytesOf 167 = 8 := by kernel_rfl
@[go_sem] theorem in167 : (Try.prog.info? 167).isSome = true := by kernel_rfl
@[go_sem] theorem ag168 : aggB Try.prog 168 = some true := by kernel_rfl
@[go_sem] theorem sz168 : Try.prog.cellsOf 168 = 2 := by kernel_rfl
@[go_sem] theorem by168 : Try.prog.bytesOf 168 = 16 := by kernel_rfl
@[go_sem] theorem in168 : (Try.prog.info? 168).isSome = true := by kernel_rfl
@[go_sem] theorem ze168 : zeroB Try.prog 168 = some [.int .i64 0, .int .i64 0] := by kernel_rfl
@[go_sem] theorem fi168_0 : fieldB Try.prog 168 0 = some (0, 2) := by kernel_rfl
@[go_sem] theorem fi168_1 : fieldB Try.prog 168 1 = some (1, 2) := by kernel_rfl
@[go_sem] theorem pl168 : placesB Try.prog 168 = some [(0, 1), (1, 1)] := by kernel_rfl
@[go_sem] theorem ag169 : aggB Try.prog 169 = some true := by kernel_rfl
@[go_sem] theorem sz169 : Try.prog.cellsOf 169 = 2 := by kernel_rfl
@[go_sem] theorem by169 : Try.prog.bytesOf 169 = 16 := by kernel_rfl
@[go_sem] theorem in169 : (Try.prog.info? 169).isSome = true := by kernel_rfl
@[go_sem] theorem ze169 : zeroB Try.prog 169 = some [.int .i64 0, .int .i64 0] := by kernel_rfl
@[go_sem] theorem fi169_0 : fieldB Try.prog 169 0 = some (0, 2) := by kernel_rfl
@[go_sem] theorem fi169_1 : fieldB Try.prog 169 1 = some (1, 2) := by kernel_rfl
@[go_sem] theorem pl169 : placesB Try.prog 169 = some [(0, 1), (1, 1)] := by kernel_rfl
@[go_sem] theorem ag170 : aggB Try.prog 170 = some false := by kernel_rfl
@[go_sem] theorem sz170 : Try.prog.cellsOf 170 = 1 := by kernel_rfl
@[go_sem] theorem by170 : Try.prog.bytesOf 170 = 8 := by kernel_rfl
@[go_sem] theorem in170 : (Try.prog.info? 170).isSome = true := by kernel_rfl
@[go_sem] theorem ag171 : aggB Try.prog 171 = some false := by kernel_rfl
@[go_sem] theorem sz171 : Try.prog.cellsOf 171 = 1 := by kernel_rfl
@[go_sem] theorem by171 : Try.prog.bytesOf 171 = 8 := by kernel_rfl
@[go_sem] theorem in171 : (Try.prog.info? 171).isSome = true := by kernel_rfl
@[go_sem] theorem ag172 : aggB Try.prog 172 = some false := by kernel_rfl
@[go_sem] theorem sz172 : Try.prog.cellsOf 172 = 1 := by kernel_rfl
@[go_sem] theorem by172 : Try.prog.bytesOf 172 = 8 := by kernel_rfl
@[go_sem] theorem in172 : (Try.prog.info? 172).isSome = true := by kernel_rfl
@[go_sem] theorem ag173 : aggB Try.prog 173 = some false := by kernel_rfl
@[go_sem] theorem sz173 : Try.prog.cellsOf 173 = 1 := by kernel_rfl
@[go_sem] theorem by173 : Try.prog.bytesOf 173 = 8 := by kernel_rfl
@[go_sem] theorem in173 : (Try.prog.info? 173).isSome = true := by kernel_rfl
@[go_sem] theorem ag174 : aggB Try.prog 174 = some false := by kernel_rfl
@[go_sem] theorem sz174 : Try.prog.cellsOf 174 = 1 := by kernel_rfl
@[go_sem] theorem by174 : Try.prog.bytesOf 174 = 8 := by kernel_rfl
@[go_sem] theorem in174 : (Try.prog.info? 174).isSome = true := by kernel_rfl
@[go_sem] theorem ag175 : aggB Try.prog 175 = some false := by kernel_rfl
@[go_sem] theorem sz175 : Try.prog.cellsOf 175 = 1 := by kernel_rfl
@[go_sem] theorem by175 : Try.prog.bytesOf 175 = 8 := by kernel_rfl
@[go_sem] theorem in175 : (Try.prog.info? 175).isSome = true := by kernel_rfl
@[go_sem] theorem ag176 : aggB Try.prog 176 = some false := by kernel_rfl
@[go_sem] theorem sz176 : Try.prog.cellsOf 176 = 1 := by kernel_rfl
@[go_sem] theorem by176 : Try.prog.bytesOf 176 = 8 := by kernel_rfl
@[go_sem] theorem in176 : (Try.prog.info? 176).isSome = true := by kernel_rfl
@[go_sem] theorem ag177 : aggB Try.prog 177 = some false := by kernel_rfl
@[go_sem] theorem sz177 : Try.prog.cellsOf 177 = 1 := by kernel_rfl
@[go_sem] theorem by177 : Try.prog.bytesOf 177 = 8 := by kernel_rfl
@[go_sem] theorem in177 : (Try.prog.info? 177).isSome = true := by kernel_rfl
@[go_sem] theorem ag178 : aggB Try.prog 178 = some false := by kernel_rfl
@[go_sem] theorem sz178 : Try.prog.cellsOf 178 = 1 := by kernel_rfl
@[go_sem] theorem by178 : Try.prog.bytesOf 178 = 8 := by kernel_rfl
@[go_sem] theorem in178 : (Try.prog.info? 178).isSome = true := by kernel_rfl
@[go_sem] theorem ag179 : aggB Try.prog 179 = some false := by kernel_rfl
@[go_sem] theorem sz179 : Try.prog.cellsOf 179 = 1 := by kernel_rfl
@[go_sem] theorem by179 : Try.prog.bytesOf 179 = 8 := by kernel_rfl
@[go_sem] theorem in179 : (Try.prog.info? 179).isSome = true := by kernel_rfl
@[go_sem] theorem ag180 : aggB Try.prog 180 = some false := by kernel_rfl
@[go_sem] theorem sz180 : Try.prog.cellsOf 180 = 1 := by kernel_rfl
@[go_sem] theorem by180 : Try.prog.bytesOf 180 = 8 := by kernel_rfl
@[go_sem] theorem in180 : (Try.prog.info? 180).isSome = true := by kernel_rfl
@[go_sem] theorem ag182 : aggB Try.prog 182 = some false := by kernel_rfl
@[go_sem] theorem sz182 : Try.prog.cellsOf 182 = 1 := by kernel_rfl
@[go_sem] theorem by182 : Try.prog.bytesOf 182 = 8 := by kernel_rfl
@[go_sem] theorem in182 : (Try.prog.info? 182).isSome = true := by kernel_rfl
@[go_sem] theorem ag183 : aggB Try.prog 183 = some false := by kernel_rfl
@[go_sem] theorem sz183 : Try.prog.cellsOf 183 = 1 := by kernel_rfl
@[go_sem] theorem by183 : Try.prog.bytesOf 183 = 8 := by kernel_rfl
@[go_sem] theorem in183 : (Try.prog.info? 183).isSome = true := by kernel_rfl
@[go_sem] theorem ag184 : aggB Try.prog 184 = some false := by kernel_rfl
@[go_sem] theorem sz184 : Try.prog.cellsOf 184 = 1 := by kernel_rfl
@[go_sem] theorem by184 : Try.prog.bytesOf 184 = 8 := by kernel_rfl
@[go_sem] theorem in184 : (Try.prog.info? 184).isSome = true := by kernel_rfl
@[go_sem] theorem ag185 : aggB Try.prog 185 = some false := by kernel_rfl
@[go_sem] theorem sz185 : Try.prog.cellsOf 185 = 1 := by kernel_rfl
@[go_sem] theorem by185 : Try.prog.bytesOf 185 = 8 := by kernel_rfl
@[go_sem] theorem in185 : (Try.prog.info? 185).isSome = true := by kernel_rfl
@[go_sem] theorem ag187 : aggB Try.prog 187 = some false := by kernel_rfl
@[go_sem] theorem sz187 : Try.prog.cellsOf 187 = 1 := by kernel_rfl
@[go_sem] theorem by187 : Try.prog.bytesOf 187 = 8 := by kernel_rfl
@[go_sem] theorem in187 : (Try.prog.info? 187).isSome = true := by kernel_rfl
@[go_sem] theorem ag188 : aggB Try.prog 188 = some false := by kernel_rfl
@[go_sem] theorem sz188 : Try.prog.cellsOf 188 = 1 := by kernel_rfl
@[go_sem] theorem by188 : Try.prog.bytesOf 188 = 8 := by kernel_rfl
@[go_sem] theorem in188 : (Try.prog.info? 188).isSome = true := by kernel_rfl
@[go_sem] theorem ag189 : aggB Try.prog 189 = some false := by kernel_rfl
@[go_sem] theorem sz189 : Try.prog.cellsOf 189 = 1 := by kernel_rfl
@[go_sem] theorem by189 : Try.prog.bytesOf 189 = 8 := by kernel_rfl
@[go_sem] theorem in189 : (Try.prog.info? 189).isSome = true := by kernel_rfl
@[go_sem] theorem ag190 : aggB Try.prog 190 = some false := by kernel_rfl
@[go_sem] theorem sz190 : Try.prog.cellsOf 190 = 1 := by kernel_rfl
@[go_sem] theorem by190 : Try.prog.bytesOf 190 = 8 := by kernel_rfl
@[go_sem] theorem in190 : (Try.prog.info? 190).isSome = true := by kernel_rfl
@[go_sem] theorem ag192 : aggB Try.prog 192 = some false := by kernel_rfl
@[go_sem] theorem sz192 : Try.prog.cellsOf 192 = 1 := by kernel_rfl
@[go_sem] theorem by192 : Try.prog.bytesOf 192 = 8 := by kernel_rfl
@[go_sem] theorem in192 : (Try.prog.info? 192).isSome = true := by kernel_rfl
@[go_sem] theorem ag193 : aggB Try.prog 193 = some false := by kernel_rfl
@[go_sem] theorem sz193 : Try.prog.cellsOf 193 = 1 := by kernel_rfl
@[go_sem] theorem by193 : Try.prog.bytesOf 193 = 8 := by kernel_rfl
@[go_sem] theorem in193 : (Try.prog.info? 193).isSome = true := by kernel_rfl
@[go_sem] theorem ag194 : aggB Try.prog 194 = some false := by kernel_rfl
@[go_sem] theorem sz194 : Try.prog.cellsOf 194 = 1 := by kernel_rfl
@[go_sem] theorem by194 : Try.prog.bytesOf 194 = 8 := by kernel_rfl
@[go_sem] theorem in194 : (Try.prog.info? 194).isSome = true := by kernel_rfl
@[go_sem] theorem ag195 : aggB Try.prog 195 = some true := by kernel_rfl
@[go_sem] theorem sz195 : Try.prog.cellsOf 195 = 4 := by kernel_rfl
@[go_sem] theorem by195 : Try.prog.bytesOf 195 = 40 := by kernel_rfl
@[go_sem] theorem in195 : (Try.prog.info? 195).isSome = true := by kernel_rfl
@[go_sem] theorem ze195 : zeroB Try.prog 195 = some [.nilp, .nilp, .nilp, .str (ByteArray.mk #[])] := by kernel_rfl
@[go_sem] theorem fi195_0 : fieldB Try.prog 195 0 = some (0, 17) := by kernel_rfl
@[go_sem] theorem fi195_1 : fieldB Try.prog 195 1 = some (1, 17) := by kernel_rfl
@[go_sem] theorem fi195_2 : fieldB Try.prog 195 2 = some (2, 17) := by kernel_rfl
@[go_sem] theorem fi195_3 : fieldB Try.prog 195 3 = some (3, 9) := by kernel_rfl
@[go_sem] theorem pl195 : placesB Try.prog 195 = some [(0, 1), (1, 1), (2, 1), (3, 1)] := by kernel_rfl
@[go_sem] theorem ag196 : aggB Try.prog 196 = some true := by kernel_rfl
@[go_sem] theorem sz196 : Try.prog.cellsOf 196 = 4 := by kernel_rfl
@[go_sem] theorem by196 : Try.prog.bytesOf 196 = 40 := by kernel_rfl
@[go_sem] theorem in196 : (Try.prog.info? 196).isSome = true := by kernel_rfl
@[go_sem] theorem ze196 : zeroB Try.prog 196 = some [.nilp, .nilp, .nilp, .str (ByteArray.mk #[])] := by kernel_rfl
@[go_sem] theorem fi196_0 : fieldB Try.prog 196 0 = some (0, 17) := by kernel_rfl
@[go_sem] theorem fi196_1 : fieldB Try.prog 196 1 = some (1, 17) := by kernel_rfl
@[go_sem] theorem fi196_2 : fieldB Try.prog 196 2 = some (2, 17) := by kernel_rfl
@[go_sem] theorem fi196_3 : fieldB Try.prog 196 3 = some (3, 9) := by kernel_rfl
@[go_sem] theorem pl196 : placesB Try.prog 196 = some [(0, 1), (1, 1), (2, 1), (3, 1)] := by kernel_rfl
@[go_sem] theorem ag197 : aggB Try.prog 197 = some true := by kernel_rfl
@[go_sem] theorem sz197 : Try.prog.cellsOf 197 = 0 := by kernel_rfl
@[go_sem] theorem by197 : Try.prog.bytesOf 197 = 0 := by kernel_rfl
@[go_sem] theorem in197 : (Try.prog.info? 197).isSome = true := by kernel_rfl
@[go_sem] theorem ze197 : zeroB Try.prog 197 = some [] := by kernel_rfl
@[go_sem] theorem ag198 : aggB Try.prog 198 = some true := by kernel_rfl
@[go_sem] theorem sz198 : Try.prog.cellsOf 198 = 0 := by kernel_rfl
@[go_sem] theorem by198 : Try.prog.bytesOf 198 = 0 := by kernel_rfl
@[go_sem] theorem in198 : (Try.prog.info? 198).isSome = true := by kernel_rfl
@[go_sem] theorem ze198 : zeroB Try.prog 198 = some [] := by kernel_rfl
@[go_sem] theorem ag199 : aggB Try.prog 199 = some true := by kernel_rfl
@[go_sem] theorem sz199 : Try.prog.cellsOf 199 = 0 := by kernel_rfl
@[go_sem] theorem by199 : Try.prog.bytesOf 199 = 0 := by kernel_rfl
@[go_sem] theorem in199 : (Try.prog.info? 199).isSome = true := by kernel_rfl
@[go_sem] theorem ze199 : zeroB Try.prog 199 = some [] := by kernel_rfl
@[go_sem] theorem ag200 : aggB Try.prog 200 = some false := by kernel_rfl
@[go_sem] theorem sz200 : Try.prog.cellsOf 200 = 1 := by kernel_rfl
@[go_sem] theorem by200 : Try.prog.bytesOf 200 = 1 := by kernel_rfl
@[go_sem] theorem in200 : (Try.prog.info? 200).isSome = true := by kernel_rfl
@[go_sem] theorem ze200 : zeroB Try.prog 200 = some [.int .u8 0] := by kernel_rfl
@[go_sem] theorem it200 : intB Try.prog 200 = some .u8 := by kernel_rfl
@[go_sem] theorem ag201 : aggB Try.prog 201 = some false := by kernel_rfl
@[go_sem] theorem sz201 : Try.prog.cellsOf 201 = 1 := by kernel_rfl
@[go_sem] theorem by201 : Try.prog.bytesOf 201 = 1 := by kernel_rfl
@[go_sem] theorem in201 : (Try.prog.info? 201).isSome = true := by kernel_rfl
@[go_sem] theorem ze201 : zeroB Try.prog 201 = some [.int .u8 0] := by kernel_rfl
@[go_sem] theorem it201 : intB Try.prog 201 = some .u8 := by kernel_rfl
@[go_sem] theorem ag202 : aggB Try.prog 202 = some false := by kernel_rfl
@[go_sem] theorem sz202 : Try.prog.cellsOf 202 = 1 := by kernel_rfl
@[go_sem] theorem by202 : Try.prog.bytesOf 202 = 8 := by kernel_rfl
@[go_sem] theorem in202 : (Try.prog.info? 202).isSome = true := by kernel_rfl
@[go_sem] theorem ag203 : aggB Try.prog 203 = some false := by kernel_rfl
@[go_sem] theorem sz203 : Try.prog.cellsOf 203 = 1 := by kernel_rfl
@[go_sem] theorem by203 : Try.prog.bytesOf 203 = 8 := by kernel_rfl
@[go_sem] theorem in203 : (Try.prog.info? 203).isSome = true := by kernel_rfl
@[go_sem] theorem ze203 : zeroB Try.prog 203 = some [.nilp] := by kernel_rfl
@[go_sem] theorem ag204 : aggB Try.prog 204 = some false := by kernel_rfl
@[go_sem] theorem sz204 : Try.prog.cellsOf 204 = 1 := by kernel_rfl
@[go_sem] theorem by204 : Try.prog.bytesOf 204 = 4 := by kernel_rfl
@[go_sem] theorem in204 : (Try.prog.info? 204).isSome = true := by kernel_rfl
@[go_sem] theorem ze204 : zeroB Try.prog 204 = some [.int .i32 0] := by kernel_rfl
@[go_sem] theorem it204 : intB Try.prog 204 = some .i32 := by kernel_rfl
@[go_sem] theorem ag205 : aggB Try.prog 205 = some false := by kernel_rfl
@[go_sem] theorem sz205 : Try.prog.cellsOf 205 = 1 := by kernel_rfl
@[go_sem] theorem by205 : Try.prog.bytesOf 205 = 4 := by kernel_rfl
@[go_sem] theorem in205 : (Try.prog.info? 205).isSome = true := by kernel_rfl
@[go_sem] theorem ze205 : zeroB Try.prog 205 = some [.int .i32 0] := by kernel_rfl
@[go_sem] theorem it205 : intB Try.prog 205 = some .i32 := by kernel_rfl
@[go_sem] theorem ag206 : aggB Try.prog 206 = some true := by kernel_rfl
@[go_sem] theorem sz206 : Try.prog.cellsOf 206 = 11 := by kernel_rfl
@[go_sem] theorem by206 : Try.prog.bytesOf 206 = 48 := by kernel_rfl
@[go_sem] theorem in206 : (Try.prog.info? 206).isSome = true := by kernel_rfl
@[go_sem] theorem fi206_0 : fieldB Try.prog 206 0 = some (0, 12) := by kernel_rfl
@[go_sem] theorem fi206_1 : fieldB Try.prog 206 1 = some (1, 12) := by kernel_rfl
@[go_sem] theorem fi206_2 : fieldB Try.prog 206 2 = some (2, 145) := by kernel_rfl
@[go_sem] theorem fi206_3 : fieldB Try.prog 206 3 = some (3, 200) := by kernel_rfl
@[go_sem] theorem fi206_4 : fieldB Try.prog 206 4 = some (4, 5) := by kernel_rfl
@[go_sem] theorem fi206_5 : fieldB Try.prog 206 5 = some (5, 5) := by kernel_rfl
@[go_sem] theorem fi206_6 : fieldB Try.prog 206 6 = some (6, 201) := by kernel_rfl
@[go_sem] theorem fi206_7 : fieldB Try.prog 206 7 = some (7, 202) := by kernel_rfl
@[go_sem] theorem fi206_8 : fieldB Try.prog 206 8 = some (8, 203) := by kernel_rfl
@[go_sem] theorem fi206_9 : fieldB Try.prog 206 9 = some (9, 204) := by kernel_rfl
@[go_sem] theorem fi206_10 : fieldB Try.prog 206 10 = some (10, 205) := by kernel_rfl
@[go_sem] theorem pl206 : placesB Try.prog 206 = some [(0, 1), (1, 1), (2, 1), (3, 1), (4, 1), (5, 1), (6, 1), (7, 1), (8, 1), (9, 1), (10, 1)] := by kernel_rfl
@[go_sem] theorem ag207 : aggB Try.prog 207 = some true := by kernel_rfl
@[go_sem] theorem sz207 : Try.prog.cellsOf 207 = 11 := by kernel_rfl
@[go_sem] theorem by207 : Try.prog.bytesOf 207 = 48 := by kernel_rfl
@[go_sem] theorem in207 : (Try.prog.info? 207).isSome = true := by kernel_rfl
@[go_sem] theorem fi207_0 : fieldB Try.prog 207 0 = some (0, 12) := by kernel_rfl
@[go_sem] theorem fi207_1 : fieldB Try.prog 207 1 = some (1, 12) := by kernel_rfl
@[go_sem] theorem fi207_2 : fieldB Try.prog 207 2 = some (2, 145) := by kernel_rfl
@[go_sem] theorem fi207_3 : fieldB Try.prog 207 3 = some (3, 200) := by kernel_rfl
@[go_sem] theorem fi207_4 : fieldB Try.prog 207 4 = some (4, 5) := by kernel_rfl
@[go_sem] theorem fi207_5 : fieldB Try.prog 207 5 = some (5, 5) := by kernel_rfl
@[go_sem] theorem fi207_6 : fieldB Try.prog 207 6 = some (6, 201) := by kernel_rfl
@[go_sem] theorem fi207_7 : fieldB Try.prog 207 7 = some (7, 202) := by kernel_rfl
@[go_sem] theorem fi207_8 : fieldB Try.prog 207 8 = some (8, 203) := by kernel_rfl
@[go_sem] theorem fi207_9 : fieldB Try.prog 207 9 = some (9, 204) := by kernel_rfl
@[go_sem] theorem fi207_10 : fieldB Try.prog 207 10 = some (10, 205) := by kernel_rfl
@[go_sem] theorem pl207 : placesB Try.prog 207 = some [(0, 1), (1, 1), (2, 1), (3, 1), (4, 1), (5, 1), (6, 1), (7, 1), (8, 1), (9, 1), (10, 1)] := by kernel_rfl
end Ytajgclnahfmfmaa
end Go.Vm
