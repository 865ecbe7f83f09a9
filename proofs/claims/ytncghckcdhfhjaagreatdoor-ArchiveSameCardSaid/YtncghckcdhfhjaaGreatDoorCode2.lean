/- The code of 78 functions, as the abstract machine reads it; that it is the program's. -/
import Derived.Test.YtncghckcdhfhjaaGreatDoorProg
import Derived.Test.YtncghckcdhfhjaaGreatDoorAh16
import Derived.KernelRfl
set_option maxRecDepth 100000
set_option maxHeartbeats 40000000
set_option linter.unusedVariables false
namespace Go.Proofs.Ah
open Go

abbrev f_r10_Go : Nat := 125
def c_r10_Go_p1 : List AOper :=
 OT 21 22 (.mv 5) ::
 OT 21 23 (.nilck 22) ::
 OT 21 24 (.faddr 3 23) ::
 OT 21 25 (.load 1 false 24) ::
 OT 21 26 (.bin .eql 25 (I 0)) ::
 O 27 (.pick 21 26 (.c (.bool false))) ::
 []
def c_r10_Go_p3 : List AOper :=
 O 6 (.mv 29) ::
 []
def c_r10_Go_p4 : List AOper :=
 O 7 (.mv 31) ::
 []
def c_r10_Go_p6 : ACode :=
 .ops (
 O 43 (.mv 5) ::
 C 44 179 [43] ::
 [])
def c_r10_Go_p9 : List AOper :=
 O 47 (.mv 48) ::
 O 49 (.ext 47 0) ::
 O 50 (.ext 47 1) ::
 O 8 (.mv 49) ::
 O 9 (.mv 50) ::
 []
def c_r10_Go_p8 : ACode :=
 .seq (.ops (C 48 180 [] ::
 c_r10_Go_p9)) (.ops (O 51 (.mv 5) ::
 O 52 (.mv 8) ::
 O 53 (.mv 9) ::
 C 54 181 [51, 52, 53] ::
 []))
def c_r10_Go_p11 : List AOper :=
 O 55 (.mv 57) ::
 O 58 (.ext 55 0) ::
 O 59 (.ext 55 1) ::
 O 10 (.mv 58) ::
 O 11 (.mv 59) ::
 []
def c_r10_Go_p12 : ACode :=
 .ops (
 O 65 (.mv 5) ::
 O 66 (.mv 10) ::
 O 67 (.mv 11) ::
 C 68 181 [65, 66, 67] ::
 [])
def c_r10_Go_p10 : ACode :=
 .seq (.ops (O 56 (.mv 5) ::
 C 57 182 [56] ::
 c_r10_Go_p11)) (
 .seq (.ops (O 60 (.mv 5) ::
 O 61 (.nilck 60) ::
 O 62 (.faddr 3 61) ::
 O 63 (.load 1 false 62) ::
 O 64 (.bin .eql 63 (I 0)) ::
 [])) (
 .cond 64 (c_r10_Go_p12) (.skip)))
def c_r10_Go_p7 : ACode :=
 .seq (.ops (O 45 (.mv 7) ::
 O 46 (.bin .eql 45 (I 1)) ::
 [])) (
 .cond 46 (c_r10_Go_p8) (c_r10_Go_p10))
def c_r10_Go_p5 : ACode :=
 .seq (.ops (O 41 (.mv 7) ::
 O 42 (.bin .eql 41 (I 0)) ::
 [])) (
 .cond 42 (c_r10_Go_p6) (c_r10_Go_p7))
def c_r10_Go_p2 : ACode :=
 .block 1 (
 .seq (.ops (O 28 (.mv 5) ::
 C 29 177 [28, (I 1)] ::
 c_r10_Go_p3)) (
 .seq (.ops (O 30 (.mv 5) ::
 C 31 177 [30, (I 2)] ::
 c_r10_Go_p4)) (
 .seq (.ops (O 32 (.mv 5) ::
 O 33 (.mv 7) ::
 O 34 (.bin .eql 33 (I 3)) ::
 C 35 178 [32, 34, (I 2)] ::
 [])) (
 .seq (
 .seq (.ops (O 36 (.mv 5) ::
 O 37 (.nilck 36) ::
 O 38 (.faddr 3 37) ::
 O 39 (.load 1 false 38) ::
 O 40 (.bin .neq 39 (I 0)) ::
 [])) (
 .cond 40 (.exit 0) (.skip))) (c_r10_Go_p5)))))
def c_r10_Go_p0 : ACode :=
 .seq (
 .seq (.ops (O 19 (.mv 6) ::
 O 20 (.bin .eql 19 (I 0)) ::
 O 21 (.mv 20) ::
 c_r10_Go_p1)) (
 .cond 27 (.skip) (.exit 0))) (c_r10_Go_p2)
def c_r10_Go_p13 : ACode :=
 .seq (.ops (O 69 (.mv 5) ::
 O 4 (.mv 69) ::
 [])) (
 .ret)
def c_r10_Go : AFunc := ⟨70, (
 .seq (.ops (O 4 (.mv (.c (.nilp))) ::
 [])) (
 .seq (.ops (O 12 (.mv 0) ::
 O 13 (.build [.str (bytesOf []), .nat .i64 0] [(0, 1, 12)]) ::
 O 14 (.box 164 13) ::
 O 15 (.mv 1) ::
 O 16 (.mm true 15 [(I 0)]) ::
 O 17 (.build [.nilp, .nils, .nat .i64 0, .nat .i64 0, .bool false] [(0, 1, 14), (2, 1, 16)]) ::
 O 18 (.box 162 17) ::
 O 5 (.mv 18) ::
 [])) (
 .seq (.ops (O 6 (.mv (I 0)) ::
 [])) (
 .seq (
 .block 0 (
 .loop (c_r10_Go_p0))) (c_r10_Go_p13))))), [.t 4]⟩
theorem is_r10_Go : IsFun Go.Proofs.Tryz.prog f_r10_Go c_r10_Go := cFunc_is (obj := false) (by kernel_rfl)

abbrev f_r01_TakeNum : Nat := 126
def c_r01_TakeNum_p0 : List AOper :=
 OF 10 11 (.mv 0) ::
 OF 10 12 (.idxS 11 (I 0)) ::
 OF 10 13 (.bin .eql 12 (U8 255)) ::
 O 14 (.pick 10 (.c (.bool true)) 13) ::
 []
def c_r01_TakeNum_p1 : ACode :=
 .seq (.ops (O 2 (.mv (I 0)) ::
 O 3 (.mv (.c (.str (bytesOf [])))) ::
 O 4 (.mv (I 2)) ::
 [])) (
 .ret)
def c_r01_TakeNum_p3 : ACode :=
 .seq (.ops (O 18 (.mv 0) ::
 O 19 (.idxS 18 (I 0)) ::
 O 20 (.toInt .i64 19) ::
 O 21 (.mv 0) ::
 O 22 (.sliceT 21 (some (I 1)) none) ::
 O 2 (.mv 20) ::
 O 3 (.mv 22) ::
 O 4 (.mv (I 0)) ::
 [])) (
 .ret)
def c_r01_TakeNum_p5 : ACode :=
 .seq (.ops (O 2 (.mv (I 0)) ::
 O 3 (.mv (.c (.str (bytesOf [])))) ::
 O 4 (.mv (I 2)) ::
 [])) (
 .ret)
def c_r01_TakeNum_p7 : List AOper :=
 O 6 (.mv 36) ::
 []
def c_r01_TakeNum_p8 : List AOper :=
 O 39 (.mv 0) ::
 O 40 (.mv 5) ::
 O 41 (.bin .add (I 1) 40) ::
 O 42 (.sliceT 39 none (some 41)) ::
 O 43 (.bin .neq 38 42) ::
 []
def c_r01_TakeNum_p9 : ACode :=
 .seq (.ops (O 2 (.mv (I 0)) ::
 O 3 (.mv (.c (.str (bytesOf [])))) ::
 O 4 (.mv (I 2)) ::
 [])) (
 .ret)
def c_r01_TakeNum_p10 : ACode :=
 .seq (.ops (O 44 (.mv 6) ::
 O 45 (.mv 0) ::
 O 46 (.mv 5) ::
 O 47 (.bin .add (I 1) 46) ::
 O 48 (.sliceT 45 (some 47) none) ::
 O 2 (.mv 44) ::
 O 3 (.mv 48) ::
 O 4 (.mv (I 0)) ::
 [])) (
 .ret)
def c_r01_TakeNum_p6 : ACode :=
 .seq (.ops (O 32 (.mv 0) ::
 O 33 (.mv 5) ::
 O 34 (.bin .add (I 1) 33) ::
 O 35 (.sliceT 32 (some (I 1)) (some 34)) ::
 C 36 142 [35] ::
 c_r01_TakeNum_p7)) (
 .seq (
 .seq (.ops (O 37 (.mv 6) ::
 C 38 183 [37] ::
 c_r01_TakeNum_p8)) (
 .cond 43 (c_r01_TakeNum_p9) (.skip))) (c_r01_TakeNum_p10))
def c_r01_TakeNum_p4 : ACode :=
 .seq (.ops (O 23 (.mv 0) ::
 O 24 (.idxS 23 (I 0)) ::
 O 25 (.toInt .i64 24) ::
 O 26 (.bin .sub 25 (I 247)) ::
 O 5 (.mv 26) ::
 [])) (
 .seq (
 .seq (.ops (O 27 (.mv 0) ::
 O 28 (.lenT 27) ::
 O 29 (.mv 5) ::
 O 30 (.bin .add (I 1) 29) ::
 O 31 (.bin .lss 28 30) ::
 [])) (
 .cond 31 (c_r01_TakeNum_p5) (.skip))) (c_r01_TakeNum_p6))
def c_r01_TakeNum_p2 : ACode :=
 .seq (
 .seq (.ops (O 15 (.mv 0) ::
 O 16 (.idxS 15 (I 0)) ::
 O 17 (.bin .lss 16 (U8 248)) ::
 [])) (
 .cond 17 (c_r01_TakeNum_p3) (.skip))) (c_r01_TakeNum_p4)
def c_r01_TakeNum : AFunc := ⟨49, (
 .seq (.ops (O 2 (.mv (I 0)) ::
 O 3 (.mv (.c (.str (bytesOf [])))) ::
 O 4 (.mv (I 0)) ::
 [])) (
 .seq (
 .seq (.ops (O 7 (.mv 0) ::
 O 8 (.lenT 7) ::
 O 9 (.bin .eql 8 (I 0)) ::
 O 10 (.mv 9) ::
 c_r01_TakeNum_p0)) (
 .cond 14 (c_r01_TakeNum_p1) (.skip))) (c_r01_TakeNum_p2))), [.t 2, .t 3, .t 4]⟩
theorem is_r01_TakeNum : IsFun Go.Proofs.Tryz.prog f_r01_TakeNum c_r01_TakeNum := cFunc_is (obj := false) (by kernel_rfl)

abbrev f_r01_TakeText : Nat := 127
def c_r01_TakeText_p0 : List AOper :=
 O 10 (.mv 12) ::
 O 13 (.ext 10 0) ::
 O 14 (.ext 10 1) ::
 O 15 (.ext 10 2) ::
 O 7 (.mv 13) ::
 O 8 (.mv 14) ::
 O 9 (.mv 15) ::
 []
def c_r01_TakeText_p1 : ACode :=
 .seq (.ops (O 18 (.mv 9) ::
 O 4 (.mv (.c (.str (bytesOf [])))) ::
 O 5 (.mv (.c (.str (bytesOf [])))) ::
 O 6 (.mv 18) ::
 [])) (
 .ret)
def c_r01_TakeText_p3 : ACode :=
 .seq (.ops (O 4 (.mv (.c (.str (bytesOf [])))) ::
 O 5 (.mv (.c (.str (bytesOf [])))) ::
 O 6 (.mv (I 3)) ::
 [])) (
 .ret)
def c_r01_TakeText_p5 : ACode :=
 .seq (.ops (O 4 (.mv (.c (.str (bytesOf [])))) ::
 O 5 (.mv (.c (.str (bytesOf [])))) ::
 O 6 (.mv (I 2)) ::
 [])) (
 .ret)
def c_r01_TakeText_p6 : ACode :=
 .seq (.ops (O 26 (.mv 8) ::
 O 27 (.mv 7) ::
 O 28 (.sliceT 26 none (some 27)) ::
 O 29 (.mv 8) ::
 O 30 (.mv 7) ::
 O 31 (.sliceT 29 (some 30) none) ::
 O 4 (.mv 28) ::
 O 5 (.mv 31) ::
 O 6 (.mv (I 0)) ::
 [])) (
 .ret)
def c_r01_TakeText_p4 : ACode :=
 .seq (
 .seq (.ops (O 22 (.mv 7) ::
 O 23 (.mv 8) ::
 O 24 (.lenT 23) ::
 O 25 (.bin .gtr 22 24) ::
 [])) (
 .cond 25 (c_r01_TakeText_p5) (.skip))) (c_r01_TakeText_p6)
def c_r01_TakeText_p2 : ACode :=
 .seq (
 .seq (.ops (O 19 (.mv 7) ::
 O 20 (.mv 1) ::
 O 21 (.bin .gtr 19 20) ::
 [])) (
 .cond 21 (c_r01_TakeText_p3) (.skip))) (c_r01_TakeText_p4)
def c_r01_TakeText : AFunc := ⟨32, (
 .seq (.ops (O 4 (.mv (.c (.str (bytesOf [])))) ::
 O 5 (.mv (.c (.str (bytesOf [])))) ::
 O 6 (.mv (I 0)) ::
 [])) (
 .seq (.ops (O 11 (.mv 0) ::
 C 12 126 [11] ::
 c_r01_TakeText_p0)) (
 .seq (
 .seq (.ops (O 16 (.mv 9) ::
 O 17 (.bin .neq 16 (I 0)) ::
 [])) (
 .cond 17 (c_r01_TakeText_p1) (.skip))) (c_r01_TakeText_p2)))), [.t 4, .t 5, .t 6]⟩
theorem is_r01_TakeText : IsFun Go.Proofs.Tryz.prog f_r01_TakeText c_r01_TakeText := cFunc_is (obj := false) (by kernel_rfl)

abbrev f_r11_May : Nat := 128
def c_r11_May_p0 : List AOper :=
 OF 9 10 (.mv 0) ::
 OF 9 11 (.lenT 10) ::
 OF 9 12 (.bin .gtr 11 (I 4096)) ::
 O 13 (.pick 9 (.c (.bool true)) 12) ::
 []
def c_r11_May_p1 : ACode :=
 .seq (.ops (O 2 (.mv (.c (.bool false))) ::
 [])) (
 .ret)
def c_r11_May_p5 : ACode :=
 .seq (.ops (O 2 (.mv (.c (.bool false))) ::
 [])) (
 .ret)
def c_r11_May_p6 : ACode :=
 .ops (
 O 18 (.mv 3) ::
 O 19 (.bin .add 18 (I 1)) ::
 O 3 (.mv 19) ::
 [])
def c_r11_May_p4 : ACode :=
 .seq (
 .block 1 (
 .seq (.ops (O 20 (.mv 0) ::
 O 21 (.mv 3) ::
 O 22 (.idxS 20 21) ::
 O 23 (.bin .eql 22 (U8 0)) ::
 [])) (
 .cond 23 (c_r11_May_p5) (.skip)))) (c_r11_May_p6)
def c_r11_May_p3 : ACode :=
 .seq (
 .seq (.ops (O 14 (.mv 3) ::
 O 15 (.mv 0) ::
 O 16 (.lenT 15) ::
 O 17 (.bin .lss 14 16) ::
 [])) (
 .cond 17 (.skip) (.exit 0))) (c_r11_May_p4)
def c_r11_May_p8 : List AOper :=
 O 4 (.mv 25) ::
 []
def c_r11_May_p12 : List AOper :=
 OF 44 45 (.mv 4) ::
 OF 44 46 (.mv 5) ::
 OF 44 47 (.iadS 1 45 46) ::
 OF 44 48 (.load 1 false 47) ::
 OF 44 49 (.bin .eql 48 (.c (.str (bytesOf [46, 46])))) ::
 O 50 (.pick 44 (.c (.bool true)) 49) ::
 []
def c_r11_May_p11 : List AOper :=
 OF 37 38 (.mv 4) ::
 OF 37 39 (.mv 5) ::
 OF 37 40 (.iadS 1 38 39) ::
 OF 37 41 (.load 1 false 40) ::
 OF 37 42 (.bin .eql 41 (.c (.str (bytesOf [46])))) ::
 O 43 (.pick 37 (.c (.bool true)) 42) ::
 O 44 (.mv 43) ::
 c_r11_May_p12
def c_r11_May_p13 : ACode :=
 .seq (.ops (O 2 (.mv (.c (.bool false))) ::
 [])) (
 .ret)
def c_r11_May_p14 : ACode :=
 .ops (
 O 30 (.mv 5) ::
 O 31 (.bin .add 30 (I 1)) ::
 O 5 (.mv 31) ::
 [])
def c_r11_May_p10 : ACode :=
 .seq (
 .block 3 (
 .seq (.ops (O 32 (.mv 4) ::
 O 33 (.mv 5) ::
 O 34 (.iadS 1 32 33) ::
 O 35 (.load 1 false 34) ::
 O 36 (.bin .eql 35 (.c (.str (bytesOf [])))) ::
 O 37 (.mv 36) ::
 c_r11_May_p11)) (
 .cond 50 (c_r11_May_p13) (.skip)))) (c_r11_May_p14)
def c_r11_May_p9 : ACode :=
 .seq (
 .seq (.ops (O 26 (.mv 5) ::
 O 27 (.mv 4) ::
 O 28 (.lenS 27) ::
 O 29 (.bin .lss 26 28) ::
 [])) (
 .cond 29 (.skip) (.exit 2))) (c_r11_May_p10)
def c_r11_May_p15 : ACode :=
 .seq (.ops (O 2 (.mv (.c (.bool true))) ::
 [])) (
 .ret)
def c_r11_May_p7 : ACode :=
 .seq (.ops (O 24 (.mv 0) ::
 C 25 184 [24] ::
 c_r11_May_p8)) (
 .seq (
 .seq (.ops (O 5 (.mv (I 0)) ::
 [])) (
 .block 2 (
 .loop (c_r11_May_p9)))) (c_r11_May_p15))
def c_r11_May_p2 : ACode :=
 .seq (
 .seq (.ops (O 3 (.mv (I 0)) ::
 [])) (
 .block 0 (
 .loop (c_r11_May_p3)))) (c_r11_May_p7)
def c_r11_May : AFunc := ⟨51, (
 .seq (.ops (O 2 (.mv (.c (.bool false))) ::
 [])) (
 .seq (
 .seq (.ops (O 6 (.mv 0) ::
 O 7 (.lenT 6) ::
 O 8 (.bin .lss 7 (I 1)) ::
 O 9 (.mv 8) ::
 c_r11_May_p0)) (
 .cond 13 (c_r11_May_p1) (.skip))) (c_r11_May_p2))), [.t 2]⟩
theorem is_r11_May : IsFun Go.Proofs.Tryz.prog f_r11_May c_r11_May := cFunc_is (obj := false) (by kernel_rfl)

abbrev f_r11_Compare : Nat := 129
def c_r11_Compare_p1 : List AOper :=
 OT 10 11 (.mv 5) ::
 OT 10 12 (.mv 1) ::
 OT 10 13 (.lenT 12) ::
 OT 10 14 (.bin .lss 11 13) ::
 O 15 (.pick 10 14 (.c (.bool false))) ::
 []
def c_r11_Compare_p3 : ACode :=
 .seq (.ops (O 4 (.mv (.c (.int .i64 (-1)))) ::
 [])) (
 .ret)
def c_r11_Compare_p5 : ACode :=
 .seq (.ops (O 4 (.mv (I 1)) ::
 [])) (
 .ret)
def c_r11_Compare_p4 : ACode :=
 .seq (.ops (O 25 (.mv 0) ::
 O 26 (.mv 5) ::
 O 27 (.idxS 25 26) ::
 O 28 (.mv 1) ::
 O 29 (.mv 5) ::
 O 30 (.idxS 28 29) ::
 O 31 (.bin .gtr 27 30) ::
 [])) (
 .cond 31 (c_r11_Compare_p5) (.skip))
def c_r11_Compare_p6 : ACode :=
 .ops (
 O 16 (.mv 5) ::
 O 17 (.bin .add 16 (I 1)) ::
 O 5 (.mv 17) ::
 [])
def c_r11_Compare_p2 : ACode :=
 .seq (
 .block 1 (
 .seq (
 .seq (.ops (O 18 (.mv 0) ::
 O 19 (.mv 5) ::
 O 20 (.idxS 18 19) ::
 O 21 (.mv 1) ::
 O 22 (.mv 5) ::
 O 23 (.idxS 21 22) ::
 O 24 (.bin .lss 20 23) ::
 [])) (
 .cond 24 (c_r11_Compare_p3) (.skip))) (c_r11_Compare_p4))) (c_r11_Compare_p6)
def c_r11_Compare_p0 : ACode :=
 .seq (
 .seq (.ops (O 6 (.mv 5) ::
 O 7 (.mv 0) ::
 O 8 (.lenT 7) ::
 O 9 (.bin .lss 6 8) ::
 O 10 (.mv 9) ::
 c_r11_Compare_p1)) (
 .cond 15 (.skip) (.exit 0))) (c_r11_Compare_p2)
def c_r11_Compare_p8 : ACode :=
 .seq (.ops (O 4 (.mv (.c (.int .i64 (-1)))) ::
 [])) (
 .ret)
def c_r11_Compare_p10 : ACode :=
 .seq (.ops (O 4 (.mv (I 1)) ::
 [])) (
 .ret)
def c_r11_Compare_p11 : ACode :=
 .seq (.ops (O 4 (.mv (I 0)) ::
 [])) (
 .ret)
def c_r11_Compare_p9 : ACode :=
 .seq (
 .seq (.ops (O 37 (.mv 0) ::
 O 38 (.lenT 37) ::
 O 39 (.mv 1) ::
 O 40 (.lenT 39) ::
 O 41 (.bin .gtr 38 40) ::
 [])) (
 .cond 41 (c_r11_Compare_p10) (.skip))) (c_r11_Compare_p11)
def c_r11_Compare_p7 : ACode :=
 .seq (
 .seq (.ops (O 32 (.mv 0) ::
 O 33 (.lenT 32) ::
 O 34 (.mv 1) ::
 O 35 (.lenT 34) ::
 O 36 (.bin .lss 33 35) ::
 [])) (
 .cond 36 (c_r11_Compare_p8) (.skip))) (c_r11_Compare_p9)
def c_r11_Compare : AFunc := ⟨42, (
 .seq (.ops (O 4 (.mv (I 0)) ::
 [])) (
 .seq (
 .seq (.ops (O 5 (.mv (I 0)) ::
 [])) (
 .block 0 (
 .loop (c_r11_Compare_p0)))) (c_r11_Compare_p7))), [.t 4]⟩
theorem is_r11_Compare : IsFun Go.Proofs.Tryz.prog f_r11_Compare c_r11_Compare := cFunc_is (obj := false) (by kernel_rfl)

abbrev f_r12_Check : Nat := 130
def c_r12_Check_p0 : ACode :=
 .seq (.ops (O 2 (.mv (I 3)) ::
 [])) (
 .ret)
def c_r12_Check_p4 : List AOper :=
 O 21 (.un .not 20) ::
 []
def c_r12_Check_p5 : ACode :=
 .seq (.ops (O 2 (.mv (I 5)) ::
 [])) (
 .ret)
def c_r12_Check_p7 : ACode :=
 .seq (.ops (O 2 (.mv (I 3)) ::
 [])) (
 .ret)
def c_r12_Check_p6 : ACode :=
 .seq (.ops (O 22 (.mv 0) ::
 O 23 (.mv 3) ::
 O 24 (.iadS 2 22 23) ::
 O 25 (.faddr 1 24) ::
 O 26 (.load 1 false 25) ::
 O 27 (.lenT 26) ::
 O 28 (.bin .gtr 27 (I 1048576)) ::
 [])) (
 .cond 28 (c_r12_Check_p7) (.skip))
def c_r12_Check_p8 : ACode :=
 .ops (
 O 13 (.mv 3) ::
 O 14 (.bin .add 13 (I 1)) ::
 O 3 (.mv 14) ::
 [])
def c_r12_Check_p3 : ACode :=
 .seq (
 .block 1 (
 .seq (
 .seq (.ops (O 15 (.mv 0) ::
 O 16 (.mv 3) ::
 O 17 (.iadS 2 15 16) ::
 O 18 (.faddr 0 17) ::
 O 19 (.load 1 false 18) ::
 C 20 128 [19] ::
 c_r12_Check_p4)) (
 .cond 21 (c_r12_Check_p5) (.skip))) (c_r12_Check_p6))) (c_r12_Check_p8)
def c_r12_Check_p2 : ACode :=
 .seq (
 .seq (.ops (O 9 (.mv 3) ::
 O 10 (.mv 0) ::
 O 11 (.lenS 10) ::
 O 12 (.bin .lss 9 11) ::
 [])) (
 .cond 12 (.skip) (.exit 0))) (c_r12_Check_p3)
def c_r12_Check_p16 : List AOper :=
 OT 44 68 (.pick 56 (.c (.bool true)) 67) ::
 O 69 (.pick 44 68 (.c (.bool false))) ::
 []
def c_r12_Check_p15 : List AOper :=
 OF 56 57 (.mv 0) ::
 OF 56 58 (.mv 4) ::
 OF 56 59 (.iadS 2 57 58) ::
 OF 56 60 (.faddr 0 59) ::
 OF 56 61 (.load 1 false 60) ::
 OF 56 62 (.mv 0) ::
 OF 56 63 (.mv 5) ::
 OF 56 64 (.iadS 2 62 63) ::
 OF 56 65 (.faddr 0 64) ::
 OF 56 66 (.load 1 false 65) ::
 CF 56 67 185 [61, 66] ::
 c_r12_Check_p16
def c_r12_Check_p14 : List AOper :=
 OT 44 45 (.mv 0) ::
 OT 44 46 (.mv 4) ::
 OT 44 47 (.iadS 2 45 46) ::
 OT 44 48 (.faddr 0 47) ::
 OT 44 49 (.load 1 false 48) ::
 OT 44 50 (.mv 0) ::
 OT 44 51 (.mv 5) ::
 OT 44 52 (.iadS 2 50 51) ::
 OT 44 53 (.faddr 0 52) ::
 OT 44 54 (.load 1 false 53) ::
 OT 44 55 (.bin .eql 49 54) ::
 OT 44 56 (.mv 55) ::
 c_r12_Check_p15
def c_r12_Check_p17 : ACode :=
 .seq (.ops (O 2 (.mv (I 6)) ::
 [])) (
 .ret)
def c_r12_Check_p18 : ACode :=
 .ops (
 O 39 (.mv 5) ::
 O 40 (.bin .add 39 (I 1)) ::
 O 5 (.mv 40) ::
 [])
def c_r12_Check_p13 : ACode :=
 .seq (
 .block 5 (
 .seq (.ops (O 41 (.mv 4) ::
 O 42 (.mv 5) ::
 O 43 (.bin .neq 41 42) ::
 O 44 (.mv 43) ::
 c_r12_Check_p14)) (
 .cond 69 (c_r12_Check_p17) (.skip)))) (c_r12_Check_p18)
def c_r12_Check_p12 : ACode :=
 .seq (
 .seq (.ops (O 35 (.mv 5) ::
 O 36 (.mv 0) ::
 O 37 (.lenS 36) ::
 O 38 (.bin .lss 35 37) ::
 [])) (
 .cond 38 (.skip) (.exit 4))) (c_r12_Check_p13)
def c_r12_Check_p19 : ACode :=
 .ops (
 O 33 (.mv 4) ::
 O 34 (.bin .add 33 (I 1)) ::
 O 4 (.mv 34) ::
 [])
def c_r12_Check_p11 : ACode :=
 .seq (
 .block 3 (
 .seq (.ops (O 5 (.mv (I 0)) ::
 [])) (
 .block 4 (
 .loop (c_r12_Check_p12))))) (c_r12_Check_p19)
def c_r12_Check_p10 : ACode :=
 .seq (
 .seq (.ops (O 29 (.mv 4) ::
 O 30 (.mv 0) ::
 O 31 (.lenS 30) ::
 O 32 (.bin .lss 29 31) ::
 [])) (
 .cond 32 (.skip) (.exit 2))) (c_r12_Check_p11)
def c_r12_Check_p20 : ACode :=
 .seq (.ops (O 2 (.mv (I 0)) ::
 [])) (
 .ret)
def c_r12_Check_p9 : ACode :=
 .seq (
 .seq (.ops (O 4 (.mv (I 0)) ::
 [])) (
 .block 2 (
 .loop (c_r12_Check_p10)))) (c_r12_Check_p20)
def c_r12_Check_p1 : ACode :=
 .seq (
 .seq (.ops (O 3 (.mv (I 0)) ::
 [])) (
 .block 0 (
 .loop (c_r12_Check_p2)))) (c_r12_Check_p9)
def c_r12_Check : AFunc := ⟨70, (
 .seq (.ops (O 2 (.mv (I 0)) ::
 [])) (
 .seq (
 .seq (.ops (O 6 (.mv 0) ::
 O 7 (.lenS 6) ::
 O 8 (.bin .gtr 7 (I 64)) ::
 [])) (
 .cond 8 (c_r12_Check_p0) (.skip))) (c_r12_Check_p1))), [.t 2]⟩
theorem is_r12_Check : IsFun Go.Proofs.Tryz.prog f_r12_Check c_r12_Check := cFunc_is (obj := false) (by kernel_rfl)

abbrev f_sha_New : Nat := 131
def c_sha_New : AFunc := ⟨4, (
 .seq (.ops (O 0 (.mv (.c (.nilp))) ::
 [])) (
 .seq (.ops (O 1 (.build (List.replicate 8 (.nat .u32 0)) [(0, 1, (U32 1779033703)), (1, 1, (U32 3144134277)), (2, 1, (U32 1013904242)), (3, 1, (U32 2773480762)), (4, 1, (U32 1359893119)), (5, 1, (U32 2600822924)), (6, 1, (U32 528734635)), (7, 1, (U32 1541459225))]) ::
 O 2 (.build [.nat .u32 0, .nat .u32 0, .nat .u32 0, .nat .u32 0, .nat .u32 0, .nat .u32 0, .nat .u32 0, .nat .u32 0, .nils, .nat .i64 0] [(0, 8, 1)]) ::
 O 3 (.box 220 2) ::
 O 0 (.mv 3) ::
 [])) (
 .ret))), [.t 0]⟩
theorem is_sha_New : IsFun Go.Proofs.Tryz.prog f_sha_New c_sha_New := cFunc_is (obj := false) (by kernel_rfl)

abbrev f_sha_Hash_Write : Nat := 132
def c_sha_Hash_Write_p3 : List AOper :=
 O 41 (.nilck 30) ::
 O 42 (.faddr 0 41) ::
 S (.store 8 42 40) ::
 []
def c_sha_Hash_Write_p2 : ACode :=
 .block 1 (
 .seq (.ops (O 30 (.mv 0) ::
 O 31 (.mv 0) ::
 O 32 (.nilck 31) ::
 O 33 (.faddr 0 32) ::
 O 34 (.load 8 true 33) ::
 O 35 (.mv 0) ::
 O 36 (.nilck 35) ::
 O 37 (.faddr 8 36) ::
 O 38 (.load 1 false 37) ::
 O 39 (.sliceS 1 38 none (some (I 64))) ::
 C 40 186 [34, 39] ::
 c_sha_Hash_Write_p3)) (.ops (O 43 (.mv 0) ::
 O 44 (.mv 0) ::
 O 45 (.nilck 44) ::
 O 46 (.faddr 8 45) ::
 O 47 (.load 1 false 46) ::
 O 48 (.sliceS 1 47 (some (I 64)) none) ::
 O 49 (.nilck 43) ::
 O 50 (.faddr 8 49) ::
 S (.store 1 50 48) ::
 [])))
def c_sha_Hash_Write_p1 : ACode :=
 .seq (
 .seq (.ops (O 24 (.mv 0) ::
 O 25 (.nilck 24) ::
 O 26 (.faddr 8 25) ::
 O 27 (.load 1 false 26) ::
 O 28 (.lenS 27) ::
 O 29 (.bin .geq 28 (I 64)) ::
 [])) (
 .cond 29 (.skip) (.exit 0))) (c_sha_Hash_Write_p2)
def c_sha_Hash_Write_p4 : ACode :=
 .ops (
 O 51 (.mv 0) ::
 O 52 (.mv 0) ::
 O 53 (.nilck 52) ::
 O 54 (.faddr 8 53) ::
 O 55 (.load 1 false 54) ::
 O 56 (.app 5 1 1 (.c (.nils)) 55) ::
 O 57 (.nilck 51) ::
 O 58 (.faddr 8 57) ::
 S (.store 1 58 56) ::
 [])
def c_sha_Hash_Write_p0 : ACode :=
 .seq (.ops (O 6 (.mv 0) ::
 O 7 (.nilck 6) ::
 O 8 (.faddr 9 7) ::
 O 9 (.load 1 false 8) ::
 O 10 (.mv 1) ::
 O 11 (.lenT 10) ::
 O 12 (.bin .add 9 11) ::
 O 13 (.nilck 6) ::
 O 14 (.faddr 9 13) ::
 S (.store 1 14 12) ::
 [])) (
 .seq (.ops (O 15 (.mv 0) ::
 O 16 (.mv 0) ::
 O 17 (.nilck 16) ::
 O 18 (.faddr 8 17) ::
 O 19 (.load 1 false 18) ::
 O 20 (.mv 1) ::
 O 21 (.app 5 1 1 19 20) ::
 O 22 (.nilck 15) ::
 O 23 (.faddr 8 22) ::
 S (.store 1 23 21) ::
 [])) (
 .seq (
 .block 0 (
 .loop (c_sha_Hash_Write_p1))) (c_sha_Hash_Write_p4)))
def c_sha_Hash_Write : AFunc := ⟨59, (
 .seq (
 .seq (.ops (O 4 (.mv 0) ::
 O 5 (.eqn .ptr .eql 4 (.c (.nilp))) ::
 [])) (
 .cond 5 (.ret) (.skip))) (c_sha_Hash_Write_p0)), []⟩
theorem is_sha_Hash_Write : IsFun Go.Proofs.Tryz.prog f_sha_Hash_Write c_sha_Hash_Write := cFunc_is (obj := false) (by kernel_rfl)

abbrev f_mac_pad : Nat := 133
def c_mac_pad_p1 : List AOper :=
 O 0 (.mv 12) ::
 []
def c_mac_pad_p0 : ACode :=
 .ops (
 O 10 (.mv 0) ::
 O 11 (.lit false 9 1 1 [.str (bytesOf [])] [(0, 1, 10)]) ::
 C 12 134 [11] ::
 c_mac_pad_p1)
def c_mac_pad_p4 : ACode :=
 .seq (
 .block 1 (
 .seq (.ops (O 18 (.mv 16) ::
 O 6 (.mv 18) ::
 [])) (.ops (O 19 (.mv 6) ::
 O 20 (.iadA 64 1 5 19) ::
 O 21 (.load 1 false 20) ::
 O 22 (.mv 1) ::
 O 23 (.bin .xor 21 22) ::
 O 24 (.iadA 64 1 5 19) ::
 S (.store 1 24 23) ::
 [])))) (.ops (O 25 (.bin .add 16 (I 1)) ::
 O 16 (.mv 25) ::
 []))
def c_mac_pad_p3 : ACode :=
 .seq (.ops (O 17 (.bin .lss 16 (I 64)) ::
 [])) (
 .seq (
 .cond 17 (.skip) (.exit 0)) (c_mac_pad_p4))
def c_mac_pad_p5 : ACode :=
 .seq (.ops (O 26 (.slarr 64 1 5 none none) ::
 O 27 (.b2s 26) ::
 O 4 (.mv 27) ::
 [])) (
 .ret)
def c_mac_pad_p2 : ACode :=
 .seq (.ops (O 13 (.slarr 64 1 5 none none) ::
 O 14 (.mv 0) ::
 O 15 (.cpy 1 13 14) ::
 [])) (
 .seq (
 .seq (.ops (O 16 (.mv (I 0)) ::
 [])) (
 .block 0 (
 .loop (c_mac_pad_p3)))) (c_mac_pad_p5))
def c_mac_pad : AFunc := ⟨28, (
 .seq (.ops (O 4 (.mv (.c (.str (bytesOf [])))) ::
 [])) (
 .seq (.ops (O 5 (.alloc 131 (List.replicate 64 (.nat .u8 0))) ::
 [])) (
 .seq (
 .seq (.ops (O 7 (.mv 0) ::
 O 8 (.lenT 7) ::
 O 9 (.bin .gtr 8 (I 64)) ::
 [])) (
 .cond 9 (c_mac_pad_p0) (.skip))) (c_mac_pad_p2)))), [.t 4]⟩
theorem is_mac_pad : IsFun Go.Proofs.Tryz.prog f_mac_pad c_mac_pad := cFunc_is (obj := false) (by kernel_rfl)

abbrev f_sha_Sum : Nat := 134
def c_sha_Sum_p0 : List AOper :=
 O 3 (.mv 6) ::
 []
def c_sha_Sum_p2 : ACode :=
 .seq (
 .block 1 (
 .seq (.ops (O 11 (.iadS 1 7 9) ::
 O 12 (.load 1 false 11) ::
 O 5 (.mv 12) ::
 [])) (.ops (O 13 (.mv 3) ::
 O 14 (.mv 5) ::
 C 15 132 [13, 14] ::
 [])))) (.ops (O 16 (.bin .add 9 (I 1)) ::
 O 9 (.mv 16) ::
 []))
def c_sha_Sum_p1 : ACode :=
 .seq (.ops (O 10 (.bin .lss 9 8) ::
 [])) (
 .seq (
 .cond 10 (.skip) (.exit 0)) (c_sha_Sum_p2))
def c_sha_Sum_p4 : List AOper :=
 O 2 (.mv 18) ::
 []
def c_sha_Sum_p3 : ACode :=
 .seq (.ops (O 17 (.mv 3) ::
 C 18 135 [17] ::
 c_sha_Sum_p4)) (
 .ret)
def c_sha_Sum : AFunc := ⟨19, (
 .seq (.ops (O 2 (.mv (.c (.str (bytesOf [])))) ::
 [])) (
 .seq (.ops (C 6 131 [] ::
 c_sha_Sum_p0)) (
 .seq (
 .seq (.ops (O 7 (.mv 0) ::
 O 8 (.lenS 7) ::
 O 9 (.mv (I 0)) ::
 [])) (
 .block 0 (
 .loop (c_sha_Sum_p1)))) (c_sha_Sum_p3)))), [.t 2]⟩
theorem is_sha_Sum : IsFun Go.Proofs.Tryz.prog f_sha_Sum c_sha_Sum := cFunc_is (obj := false) (by kernel_rfl)

abbrev f_sha_Hash_Sum : Nat := 135
def c_sha_Hash_Sum_p0 : ACode :=
 .seq (.ops (O 2 (.mv (.c (.str (bytesOf [])))) ::
 [])) (
 .ret)
def c_sha_Hash_Sum_p3 : ACode :=
 .block 1 (.ops (O 23 (.mv 3) ::
 O 24 (.lit false 5 1 1 [.nat .u8 0] [(0, 1, (U8 0))]) ::
 O 25 (.app 5 1 1 23 24) ::
 O 3 (.mv 25) ::
 []))
def c_sha_Hash_Sum_p2 : ACode :=
 .seq (
 .seq (.ops (O 19 (.mv 3) ::
 O 20 (.lenS 19) ::
 O 21 (.bin .rem 20 (I 64)) ::
 O 22 (.bin .neq 21 (I 56)) ::
 [])) (
 .cond 22 (.skip) (.exit 0))) (c_sha_Hash_Sum_p3)
def c_sha_Hash_Sum_p6 : ACode :=
 .seq (
 .block 3 (
 .seq (.ops (O 28 (.mv 26) ::
 O 4 (.mv 28) ::
 [])) (.ops (O 29 (.mv 3) ::
 O 30 (.mv 0) ::
 O 31 (.nilck 30) ::
 O 32 (.faddr 9 31) ::
 O 33 (.load 1 false 32) ::
 O 34 (.bin .mul 33 (I 8)) ::
 O 35 (.mv 4) ::
 O 36 (.bin .mul (I 8) 35) ::
 O 37 (.bin .sub (I 56) 36) ::
 O 38 (.bin .shr 34 37) ::
 O 39 (.toInt .u8 38) ::
 O 40 (.lit false 5 1 1 [.nat .u8 0] [(0, 1, 39)]) ::
 O 41 (.app 5 1 1 29 40) ::
 O 3 (.mv 41) ::
 [])))) (.ops (O 42 (.bin .add 26 (I 1)) ::
 O 26 (.mv 42) ::
 []))
def c_sha_Hash_Sum_p5 : ACode :=
 .seq (.ops (O 27 (.bin .lss 26 (I 8)) ::
 [])) (
 .seq (
 .cond 27 (.skip) (.exit 2)) (c_sha_Hash_Sum_p6))
def c_sha_Hash_Sum_p10 : List AOper :=
 S (.store 8 5 55) ::
 []
def c_sha_Hash_Sum_p9 : ACode :=
 .seq (
 .block 5 (.ops (O 52 (.load 8 true 5) ::
 O 53 (.mv 3) ::
 O 54 (.sliceS 1 53 none (some (I 64))) ::
 C 55 186 [52, 54] ::
 c_sha_Hash_Sum_p10))) (.ops (O 50 (.mv 3) ::
 O 51 (.sliceS 1 50 (some (I 64)) none) ::
 O 3 (.mv 51) ::
 []))
def c_sha_Hash_Sum_p8 : ACode :=
 .seq (
 .seq (.ops (O 47 (.mv 3) ::
 O 48 (.lenS 47) ::
 O 49 (.bin .gtr 48 (I 0)) ::
 [])) (
 .cond 49 (.skip) (.exit 4))) (c_sha_Hash_Sum_p9)
def c_sha_Hash_Sum_p13 : ACode :=
 .seq (
 .block 7 (
 .seq (.ops (O 59 (.idxA 8 1 false 56 57) ::
 O 8 (.mv 59) ::
 [])) (.ops (O 60 (.mv 6) ::
 O 61 (.mv 8) ::
 O 62 (.bin .shr 61 (U64 24)) ::
 O 63 (.toInt .u8 62) ::
 O 64 (.mv 8) ::
 O 65 (.bin .shr 64 (U64 16)) ::
 O 66 (.toInt .u8 65) ::
 O 67 (.mv 8) ::
 O 68 (.bin .shr 67 (U64 8)) ::
 O 69 (.toInt .u8 68) ::
 O 70 (.mv 8) ::
 O 71 (.toInt .u8 70) ::
 O 72 (.lit false 5 4 1 [.nat .u8 0] [(0, 1, 63), (1, 1, 66), (2, 1, 69), (3, 1, 71)]) ::
 O 73 (.app 5 1 1 60 72) ::
 O 6 (.mv 73) ::
 [])))) (.ops (O 74 (.bin .add 57 (I 1)) ::
 O 57 (.mv 74) ::
 []))
def c_sha_Hash_Sum_p12 : ACode :=
 .seq (.ops (O 58 (.bin .lss 57 (I 8)) ::
 [])) (
 .seq (
 .cond 58 (.skip) (.exit 6)) (c_sha_Hash_Sum_p13))
def c_sha_Hash_Sum_p14 : ACode :=
 .seq (.ops (O 75 (.mv 6) ::
 O 76 (.b2s 75) ::
 O 2 (.mv 76) ::
 [])) (
 .ret)
def c_sha_Hash_Sum_p11 : ACode :=
 .seq (.ops (O 6 (.mv (.c (.nils))) ::
 [])) (
 .seq (
 .seq (.ops (O 56 (.load 8 true 5) ::
 O 57 (.mv (I 0)) ::
 [])) (
 .block 6 (
 .loop (c_sha_Hash_Sum_p12)))) (c_sha_Hash_Sum_p14))
def c_sha_Hash_Sum_p7 : ACode :=
 .seq (.ops (O 43 (.mv 0) ::
 O 44 (.nilck 43) ::
 O 45 (.faddr 0 44) ::
 O 46 (.load 8 true 45) ::
 O 5 (.alloc 218 (List.replicate 8 (.nat .u32 0))) ::
 S (.store 8 5 46) ::
 [])) (
 .seq (
 .block 4 (
 .loop (c_sha_Hash_Sum_p8))) (c_sha_Hash_Sum_p11))
def c_sha_Hash_Sum_p4 : ACode :=
 .seq (
 .seq (.ops (O 26 (.mv (I 0)) ::
 [])) (
 .block 2 (
 .loop (c_sha_Hash_Sum_p5)))) (c_sha_Hash_Sum_p7)
def c_sha_Hash_Sum_p1 : ACode :=
 .seq (.ops (O 11 (.mv 0) ::
 O 12 (.nilck 11) ::
 O 13 (.faddr 8 12) ::
 O 14 (.load 1 false 13) ::
 O 15 (.app 5 1 1 (.c (.nils)) 14) ::
 O 3 (.mv 15) ::
 [])) (
 .seq (.ops (O 16 (.mv 3) ::
 O 17 (.lit false 5 1 1 [.nat .u8 0] [(0, 1, (U8 128))]) ::
 O 18 (.app 5 1 1 16 17) ::
 O 3 (.mv 18) ::
 [])) (
 .seq (
 .block 0 (
 .loop (c_sha_Hash_Sum_p2))) (c_sha_Hash_Sum_p4)))
def c_sha_Hash_Sum : AFunc := ⟨77, (
 .seq (.ops (O 2 (.mv (.c (.str (bytesOf [])))) ::
 [])) (
 .seq (
 .seq (.ops (O 9 (.mv 0) ::
 O 10 (.eqn .ptr .eql 9 (.c (.nilp))) ::
 [])) (
 .cond 10 (c_sha_Hash_Sum_p0) (.skip))) (c_sha_Hash_Sum_p1))), [.t 2]⟩
theorem is_sha_Hash_Sum : IsFun Go.Proofs.Tryz.prog f_sha_Hash_Sum c_sha_Hash_Sum := cFunc_is (obj := false) (by kernel_rfl)

abbrev f_merkle_Sum : Nat := 136
def c_merkle_Sum_p1 : List AOper :=
 O 9 (.sliceT 6 none (some 8)) ::
 O 4 (.mv 9) ::
 []
def c_merkle_Sum_p0 : List AOper :=
 O 7 (.mv 0) ::
 C 8 187 [7] ::
 c_merkle_Sum_p1
def c_merkle_Sum : AFunc := ⟨10, (
 .seq (.ops (O 4 (.mv (.c (.str (bytesOf [])))) ::
 [])) (
 .seq (.ops (O 5 (.mv 1) ::
 C 6 134 [5] ::
 c_merkle_Sum_p0)) (
 .ret))), [.t 4]⟩
theorem is_merkle_Sum : IsFun Go.Proofs.Tryz.prog f_merkle_Sum c_merkle_Sum := cFunc_is (obj := false) (by kernel_rfl)

abbrev f_merkle_Cut : Nat := 137
def c_merkle_Cut_p1 : ACode :=
 .block 1 (.ops (O 9 (.mv 3) ::
 O 10 (.bin .mul 9 (I 2)) ::
 O 3 (.mv 10) ::
 []))
def c_merkle_Cut_p0 : ACode :=
 .seq (
 .seq (.ops (O 4 (.mv 3) ::
 O 5 (.mv 0) ::
 O 6 (.mv 3) ::
 O 7 (.bin .sub 5 6) ::
 O 8 (.bin .lss 4 7) ::
 [])) (
 .cond 8 (.skip) (.exit 0))) (c_merkle_Cut_p1)
def c_merkle_Cut_p2 : ACode :=
 .seq (.ops (O 11 (.mv 3) ::
 O 2 (.mv 11) ::
 [])) (
 .ret)
def c_merkle_Cut : AFunc := ⟨12, (
 .seq (.ops (O 2 (.mv (I 0)) ::
 [])) (
 .seq (.ops (O 3 (.mv (I 1)) ::
 [])) (
 .seq (
 .block 0 (
 .loop (c_merkle_Cut_p0))) (c_merkle_Cut_p2)))), [.t 2]⟩
theorem is_merkle_Cut : IsFun Go.Proofs.Tryz.prog f_merkle_Cut c_merkle_Cut := cFunc_is (obj := false) (by kernel_rfl)

abbrev f_merkle_Node : Nat := 138
def c_merkle_Node_p0 : List AOper :=
 O 6 (.mv 11) ::
 []
def c_merkle_Node : AFunc := ⟨12, (
 .seq (.ops (O 6 (.mv (.c (.str (bytesOf [])))) ::
 [])) (
 .seq (.ops (O 7 (.mv 0) ::
 O 8 (.mv 1) ::
 O 9 (.mv 2) ::
 O 10 (.lit false 9 3 1 [.str (bytesOf [])] [(0, 1, (.c (.str (bytesOf [1])))), (1, 1, 8), (2, 1, 9)]) ::
 C 11 136 [7, 10] ::
 c_merkle_Node_p0)) (
 .ret))), [.t 6]⟩
theorem is_merkle_Node : IsFun Go.Proofs.Tryz.prog f_merkle_Node c_merkle_Node := cFunc_is (obj := false) (by kernel_rfl)

abbrev f_r15_Node : Nat := 139
def c_r15_Node_p0 : List AOper :=
 O 6 (.mv 12) ::
 []
def c_r15_Node : AFunc := ⟨13, (
 .seq (.ops (O 6 (.mv (.c (.str (bytesOf [])))) ::
 [])) (
 .seq (.ops (O 7 (.mv 0) ::
 O 8 (.mv 1) ::
 O 9 (.bin .add (.c (.str (bytesOf [1]))) 8) ::
 O 10 (.mv 2) ::
 O 11 (.bin .add 9 10) ::
 C 12 54 [7, 11] ::
 c_r15_Node_p0)) (
 .ret))), [.t 6]⟩
theorem is_r15_Node : IsFun Go.Proofs.Tryz.prog f_r15_Node c_r15_Node := cFunc_is (obj := false) (by kernel_rfl)

abbrev f_strings_Builder_grow : Nat := 141
def c_strings_Builder_grow_p1 : List (AOper × List Nat) :=
 (O 14 (.mv 0), []) ::
 (O 15 (.nilck 14), []) ::
 (O 16 (.faddr 1 15), []) ::
 (O 17 (.load 1 false 16), [8]) ::
 (O 18 (.lenS 17), []) ::
 (O 19 (.sliceS 1 13 none (some 18)), []) ::
 (O 4 (.mv 19), []) ::
 []
def c_strings_Builder_grow_p0 : List (AOper × List Nat) :=
 (O 5 (.mv 0), []) ::
 (O 6 (.nilck 5), []) ::
 (O 7 (.faddr 1 6), []) ::
 (O 8 (.load 1 false 7), []) ::
 (O 9 (.capS 8), []) ::
 (O 10 (.bin .mul (I 2) 9), []) ::
 (O 11 (.mv 1), []) ::
 (O 12 (.bin .add 10 11), []) ::
 (C 13 189 [12], []) ::
 c_strings_Builder_grow_p1
def c_strings_Builder_grow_p0a : List AOper := fstsOf c_strings_Builder_grow_p0
def c_strings_Builder_grow : AFunc := ⟨30, (
 .seq (
 .draw c_strings_Builder_grow_p0a c_strings_Builder_grow_p0) (
 .seq (.ops (O 20 (.mv 4) ::
 O 21 (.mv 0) ::
 O 22 (.nilck 21) ::
 O 23 (.faddr 1 22) ::
 O 24 (.load 1 false 23) ::
 O 25 (.cpy 1 20 24) ::
 [])) (.ops (O 26 (.mv 0) ::
 O 27 (.mv 4) ::
 O 28 (.nilck 26) ::
 O 29 (.faddr 1 28) ::
 S (.store 1 29 27) ::
 [])))), []⟩
theorem is_strings_Builder_grow : IsFun Go.Proofs.Tryz.prog f_strings_Builder_grow c_strings_Builder_grow := cFunc_is (obj := false) (by kernel_rfl)

abbrev f_r01_number : Nat := 142
def c_r01_number_p1 : ACode :=
 .seq (
 .block 1 (.ops (O 11 (.mv 3) ::
 O 12 (.bin .mul 11 (I 256)) ::
 O 13 (.mv 0) ::
 O 14 (.mv 4) ::
 O 15 (.idxS 13 14) ::
 O 16 (.toInt .i64 15) ::
 O 17 (.bin .add 12 16) ::
 O 3 (.mv 17) ::
 []))) (.ops (O 9 (.mv 4) ::
 O 10 (.bin .add 9 (I 1)) ::
 O 4 (.mv 10) ::
 []))
def c_r01_number_p0 : ACode :=
 .seq (
 .seq (.ops (O 5 (.mv 4) ::
 O 6 (.mv 0) ::
 O 7 (.lenT 6) ::
 O 8 (.bin .lss 5 7) ::
 [])) (
 .cond 8 (.skip) (.exit 0))) (c_r01_number_p1)
def c_r01_number_p2 : ACode :=
 .seq (.ops (O 18 (.mv 3) ::
 O 2 (.mv 18) ::
 [])) (
 .ret)
def c_r01_number : AFunc := ⟨19, (
 .seq (.ops (O 2 (.mv (I 0)) ::
 [])) (
 .seq (.ops (O 3 (.mv (I 0)) ::
 [])) (
 .seq (
 .seq (.ops (O 4 (.mv (I 0)) ::
 [])) (
 .block 0 (
 .loop (c_r01_number_p0)))) (c_r01_number_p2)))), [.t 2]⟩
theorem is_r01_number : IsFun Go.Proofs.Tryz.prog f_r01_number c_r01_number := cFunc_is (obj := false) (by kernel_rfl)

abbrev f_enc_PutNum : Nat := 143
def c_enc_PutNum_p2 : ACode :=
 .seq (.ops (O 19 (.mv 3) ::
 O 20 (.mv 5) ::
 O 21 (.toInt .u8 20) ::
 O 22 (.lit false 5 1 1 [.nat .u8 0] [(0, 1, 21)]) ::
 O 23 (.app 5 1 1 19 22) ::
 O 3 (.mv 23) ::
 [])) (
 .exit 1)
def c_enc_PutNum_p4 : List AOper :=
 O 6 (.mv 25) ::
 []
def c_enc_PutNum_p6 : ACode :=
 .seq (
 .block 3 (
 .seq (.ops (O 35 (.mv 33) ::
 O 7 (.mv 35) ::
 [])) (.ops (O 36 (.mv 3) ::
 O 37 (.mv 5) ::
 O 38 (.mv 6) ::
 O 39 (.bin .sub 38 (I 1)) ::
 O 40 (.mv 7) ::
 O 41 (.bin .sub 39 40) ::
 O 42 (.bin .mul (I 8) 41) ::
 O 43 (.bin .shr 37 42) ::
 O 44 (.toInt .u8 43) ::
 O 45 (.lit false 5 1 1 [.nat .u8 0] [(0, 1, 44)]) ::
 O 46 (.app 5 1 1 36 45) ::
 O 3 (.mv 46) ::
 [])))) (.ops (O 47 (.bin .add 33 (I 1)) ::
 O 33 (.mv 47) ::
 []))
def c_enc_PutNum_p5 : ACode :=
 .seq (.ops (O 34 (.bin .lss 33 32) ::
 [])) (
 .seq (
 .cond 34 (.skip) (.exit 2)) (c_enc_PutNum_p6))
def c_enc_PutNum_p3 : ACode :=
 .seq (.ops (O 24 (.mv 5) ::
 C 25 170 [24] ::
 c_enc_PutNum_p4)) (
 .seq (.ops (O 26 (.mv 3) ::
 O 27 (.mv 6) ::
 O 28 (.bin .add (I 247) 27) ::
 O 29 (.toInt .u8 28) ::
 O 30 (.lit false 5 1 1 [.nat .u8 0] [(0, 1, 29)]) ::
 O 31 (.app 5 1 1 26 30) ::
 O 3 (.mv 31) ::
 [])) (
 .seq (.ops (O 32 (.mv 6) ::
 O 33 (.mv (I 0)) ::
 [])) (
 .block 2 (
 .loop (c_enc_PutNum_p5)))))
def c_enc_PutNum_p7 : ACode :=
 .ops (
 O 48 (.bin .add 10 (I 1)) ::
 O 10 (.mv 48) ::
 [])
def c_enc_PutNum_p1 : ACode :=
 .seq (
 .block 1 (
 .seq (.ops (O 12 (.iadS 1 8 10) ::
 O 13 (.load 1 false 12) ::
 O 5 (.mv 13) ::
 [])) (
 .seq (.ops (O 14 (.mv 5) ::
 O 15 (.mm true 14 [(I 0)]) ::
 O 16 (.mm false 15 [(I 72057594037927935)]) ::
 O 5 (.mv 16) ::
 [])) (
 .seq (
 .seq (.ops (O 17 (.mv 5) ::
 O 18 (.bin .leq 17 (I 247)) ::
 [])) (
 .cond 18 (c_enc_PutNum_p2) (.skip))) (c_enc_PutNum_p3))))) (c_enc_PutNum_p7)
def c_enc_PutNum_p0 : ACode :=
 .seq (.ops (O 11 (.bin .lss 10 9) ::
 [])) (
 .seq (
 .cond 11 (.skip) (.exit 0)) (c_enc_PutNum_p1))
def c_enc_PutNum_p8 : ACode :=
 .seq (.ops (O 49 (.mv 3) ::
 O 50 (.b2s 49) ::
 O 2 (.mv 50) ::
 [])) (
 .ret)
def c_enc_PutNum : AFunc := ⟨51, (
 .seq (.ops (O 2 (.mv (.c (.str (bytesOf [])))) ::
 [])) (
 .seq (.ops (O 3 (.mv (.c (.nils))) ::
 [])) (
 .seq (
 .seq (.ops (O 8 (.mv 0) ::
 O 9 (.lenS 8) ::
 O 10 (.mv (I 0)) ::
 [])) (
 .block 0 (
 .loop (c_enc_PutNum_p0)))) (c_enc_PutNum_p8)))), [.t 2]⟩
theorem is_enc_PutNum : IsFun Go.Proofs.Tryz.prog f_enc_PutNum c_enc_PutNum := cFunc_is (obj := false) (by kernel_rfl)

abbrev f_filemap_Sort : Nat := 144
def c_filemap_Sort_p0 : List AOper :=
 O 3 (.mv 5) ::
 []
def c_filemap_Sort : AFunc := ⟨9, (
 .seq (.ops (O 2 (.mv (.c (.nils))) ::
 [])) (
 .seq (.ops (O 4 (.mv 0) ::
 C 5 190 [4] ::
 c_filemap_Sort_p0)) (
 .seq (.ops (O 6 (.mv 3) ::
 C 7 191 [6, (.c (.fn 192 []))] ::
 [])) (
 .seq (.ops (O 8 (.mv 3) ::
 O 2 (.mv 8) ::
 [])) (
 .ret))))), [.t 2]⟩
theorem is_filemap_Sort : IsFun Go.Proofs.Tryz.prog f_filemap_Sort c_filemap_Sort := cFunc_is (obj := false) (by kernel_rfl)

abbrev f_enc_PutText : Nat := 145
def c_enc_PutText_p0 : List AOper :=
 O 7 (.mv 0) ::
 O 8 (.bin .add 6 7) ::
 O 2 (.mv 8) ::
 []
def c_enc_PutText : AFunc := ⟨9, (
 .seq (.ops (O 2 (.mv (.c (.str (bytesOf [])))) ::
 [])) (
 .seq (.ops (O 3 (.mv 0) ::
 O 4 (.lenT 3) ::
 O 5 (.lit false 3 1 1 [.nat .i64 0] [(0, 1, 4)]) ::
 C 6 143 [5] ::
 c_enc_PutText_p0)) (
 .ret))), [.t 2]⟩
theorem is_enc_PutText : IsFun Go.Proofs.Tryz.prog f_enc_PutText c_enc_PutText := cFunc_is (obj := false) (by kernel_rfl)

abbrev f_flate_Store : Nat := 146
def c_flate_Store_p1 : List AOper :=
 OF 7 8 (.mv 0) ::
 OF 7 9 (.bin .neq 8 (.c (.str (bytesOf [])))) ::
 O 10 (.pick 7 (.c (.bool true)) 9) ::
 []
def c_flate_Store_p2 : ACode :=
 .seq (
 .block 1 (
 .seq (.ops (O 11 (.mv 0) ::
 O 12 (.lenT 11) ::
 O 13 (.mm false 12 [(I 65535)]) ::
 O 5 (.mv 13) ::
 [])) (
 .seq (.ops (O 14 (.mv 5) ::
 O 15 (.mv 0) ::
 O 16 (.lenT 15) ::
 O 17 (.bin .eql 14 16) ::
 C 18 193 [3, 17, (I 0)] ::
 [])) (
 .seq (.ops (C 19 194 [3] ::
 [])) (
 .seq (.ops (O 20 (.mv 5) ::
 C 21 195 [3, 20, (I 16)] ::
 [])) (
 .seq (.ops (O 22 (.mv 5) ::
 O 23 (.bin .xor 22 (I 65535)) ::
 C 24 195 [3, 23, (I 16)] ::
 [])) (
 .seq (.ops (O 25 (.mv 0) ::
 O 26 (.mv 5) ::
 O 27 (.sliceT 25 none (some 26)) ::
 C 28 196 [3, 27] ::
 [])) (.ops (O 29 (.mv 0) ::
 O 30 (.mv 5) ::
 O 31 (.sliceT 29 (some 30) none) ::
 O 0 (.mv 31) ::
 []))))))))) (.ops (O 4 (.mv (.c (.bool false))) ::
 []))
def c_flate_Store_p0 : ACode :=
 .seq (
 .seq (.ops (O 6 (.mv 4) ::
 O 7 (.mv 6) ::
 c_flate_Store_p1)) (
 .cond 10 (.skip) (.exit 0))) (c_flate_Store_p2)
def c_flate_Store_p4 : List AOper :=
 O 2 (.mv 32) ::
 []
def c_flate_Store_p3 : ACode :=
 .seq (.ops (C 32 197 [3] ::
 c_flate_Store_p4)) (
 .ret)
def c_flate_Store : AFunc := ⟨33, (
 .seq (.ops (O 2 (.mv (.c (.str (bytesOf [])))) ::
 [])) (
 .seq (.ops (O 3 (.alloc 228 [.nils, .nat .i64 0]) ::
 [])) (
 .seq (
 .seq (.ops (O 4 (.mv (.c (.bool true))) ::
 [])) (
 .block 0 (
 .loop (c_flate_Store_p0)))) (c_flate_Store_p3)))), [.t 2]⟩
theorem is_flate_Store : IsFun Go.Proofs.Tryz.prog f_flate_Store c_flate_Store := cFunc_is (obj := false) (by kernel_rfl)

abbrev f_flate_Simple : Nat := 147
def c_flate_Simple_p0 : List AOper :=
 C 6 198 [3, 5, (I 1), (.c (.bool true))] ::
 []
def c_flate_Simple_p1 : List AOper :=
 O 2 (.mv 7) ::
 []
def c_flate_Simple : AFunc := ⟨8, (
 .seq (.ops (O 2 (.mv (.c (.str (bytesOf [])))) ::
 [])) (
 .seq (.ops (O 3 (.alloc 228 [.nils, .nat .i64 0]) ::
 [])) (
 .seq (.ops (O 4 (.mv 0) ::
 C 5 199 [4] ::
 c_flate_Simple_p0)) (
 .seq (.ops (C 7 197 [3] ::
 c_flate_Simple_p1)) (
 .ret))))), [.t 2]⟩
theorem is_flate_Simple : IsFun Go.Proofs.Tryz.prog f_flate_Simple c_flate_Simple := cFunc_is (obj := false) (by kernel_rfl)

abbrev f_flate_Rich : Nat := 148
def c_flate_Rich_p0 : List AOper :=
 C 6 198 [3, 5, (I 2), (.c (.bool true))] ::
 []
def c_flate_Rich_p1 : List AOper :=
 O 2 (.mv 7) ::
 []
def c_flate_Rich : AFunc := ⟨8, (
 .seq (.ops (O 2 (.mv (.c (.str (bytesOf [])))) ::
 [])) (
 .seq (.ops (O 3 (.alloc 228 [.nils, .nat .i64 0]) ::
 [])) (
 .seq (.ops (O 4 (.mv 0) ::
 C 5 199 [4] ::
 c_flate_Rich_p0)) (
 .seq (.ops (C 7 197 [3] ::
 c_flate_Rich_p1)) (
 .ret))))), [.t 2]⟩
theorem is_flate_Rich : IsFun Go.Proofs.Tryz.prog f_flate_Rich c_flate_Rich := cFunc_is (obj := false) (by kernel_rfl)

abbrev f_math_bits_Mul : Nat := 149
def c_math_bits_Mul_p1 : List AOper :=
 O 10 (.mv 15) ::
 O 16 (.ext 10 0) ::
 O 17 (.ext 10 1) ::
 O 6 (.mv 16) ::
 O 7 (.mv 17) ::
 []
def c_math_bits_Mul_p0 : ACode :=
 .seq (.ops (O 11 (.mv 0) ::
 O 12 (.toInt .u32 11) ::
 O 13 (.mv 1) ::
 O 14 (.toInt .u32 13) ::
 C 15 200 [12, 14] ::
 c_math_bits_Mul_p1)) (
 .seq (.ops (O 18 (.mv 6) ::
 O 19 (.toInt .u64 18) ::
 O 20 (.mv 7) ::
 O 21 (.toInt .u64 20) ::
 O 4 (.mv 19) ::
 O 5 (.mv 21) ::
 [])) (
 .ret))
def c_math_bits_Mul_p3 : List AOper :=
 O 22 (.mv 25) ::
 O 26 (.ext 22 0) ::
 O 27 (.ext 22 1) ::
 O 8 (.mv 26) ::
 O 9 (.mv 27) ::
 []
def c_math_bits_Mul_p2 : ACode :=
 .seq (.ops (O 23 (.mv 0) ::
 O 24 (.mv 1) ::
 C 25 201 [23, 24] ::
 c_math_bits_Mul_p3)) (
 .seq (.ops (O 28 (.mv 8) ::
 O 29 (.mv 9) ::
 O 4 (.mv 28) ::
 O 5 (.mv 29) ::
 [])) (
 .ret))
def c_math_bits_Mul : AFunc := ⟨30, (
 .seq (.ops (O 4 (.mv (U64 0)) ::
 O 5 (.mv (U64 0)) ::
 [])) (
 .seq (
 .cond (.c (.bool false)) (c_math_bits_Mul_p0) (.skip)) (c_math_bits_Mul_p2))), [.t 4, .t 5]⟩
theorem is_math_bits_Mul : IsFun Go.Proofs.Tryz.prog f_math_bits_Mul c_math_bits_Mul := cFunc_is (obj := false) (by kernel_rfl)

abbrev f_strings_HasPrefix : Nat := 150
def c_strings_HasPrefix_p0 : List AOper :=
 O 4 (.mv 7) ::
 []
def c_strings_HasPrefix : AFunc := ⟨8, (
 .seq (.ops (O 4 (.mv (.c (.bool false))) ::
 [])) (
 .seq (.ops (O 5 (.mv 0) ::
 O 6 (.mv 1) ::
 C 7 202 [5, 6] ::
 c_strings_HasPrefix_p0)) (
 .ret))), [.t 4]⟩
theorem is_strings_HasPrefix : IsFun Go.Proofs.Tryz.prog f_strings_HasPrefix c_strings_HasPrefix := cFunc_is (obj := false) (by kernel_rfl)

abbrev f_strings_Builder_Len : Nat := 151
def c_strings_Builder_Len : AFunc := ⟨8, (
 .seq (.ops (O 2 (.mv (I 0)) ::
 [])) (
 .seq (.ops (O 3 (.mv 0) ::
 O 4 (.nilck 3) ::
 O 5 (.faddr 1 4) ::
 O 6 (.load 1 false 5) ::
 O 7 (.lenS 6) ::
 O 2 (.mv 7) ::
 [])) (
 .ret))), [.t 2]⟩
theorem is_strings_Builder_Len : IsFun Go.Proofs.Tryz.prog f_strings_Builder_Len c_strings_Builder_Len := cFunc_is (obj := false) (by kernel_rfl)

abbrev f_r01_one : Nat := 152
def c_r01_one : AFunc := ⟨7, (
 .seq (.ops (O 2 (.mv (.c (.str (bytesOf [])))) ::
 [])) (
 .seq (.ops (O 3 (.mv 0) ::
 O 4 (.toInt .u8 3) ::
 O 5 (.lit false 5 1 1 [.nat .u8 0] [(0, 1, 4)]) ::
 O 6 (.b2s 5) ::
 O 2 (.mv 6) ::
 [])) (
 .ret))), [.t 2]⟩
theorem is_r01_one : IsFun Go.Proofs.Tryz.prog f_r01_one c_r01_one := cFunc_is (obj := false) (by kernel_rfl)

abbrev f_chacha_begin : Nat := 153
def c_chacha_begin_p2 : List AOper :=
 O 19 (.iadA 16 1 7 15) ::
 S (.store 1 19 18) ::
 []
def c_chacha_begin_p1 : ACode :=
 .seq (
 .block 1 (
 .seq (.ops (O 13 (.mv 11) ::
 O 8 (.mv 13) ::
 [])) (.ops (O 14 (.mv 8) ::
 O 15 (.bin .add (I 4) 14) ::
 O 16 (.mv 0) ::
 O 17 (.mv 8) ::
 C 18 203 [16, 17] ::
 c_chacha_begin_p2)))) (.ops (O 20 (.bin .add 11 (I 1)) ::
 O 11 (.mv 20) ::
 []))
def c_chacha_begin_p0 : ACode :=
 .seq (.ops (O 12 (.bin .lss 11 (I 8)) ::
 [])) (
 .seq (
 .cond 12 (.skip) (.exit 0)) (c_chacha_begin_p1))
def c_chacha_begin_p6 : List AOper :=
 O 32 (.iadA 16 1 7 28) ::
 S (.store 1 32 31) ::
 []
def c_chacha_begin_p5 : ACode :=
 .seq (
 .block 3 (
 .seq (.ops (O 26 (.mv 24) ::
 O 9 (.mv 26) ::
 [])) (.ops (O 27 (.mv 9) ::
 O 28 (.bin .add (I 13) 27) ::
 O 29 (.mv 1) ::
 O 30 (.mv 9) ::
 C 31 203 [29, 30] ::
 c_chacha_begin_p6)))) (.ops (O 33 (.bin .add 24 (I 1)) ::
 O 24 (.mv 33) ::
 []))
def c_chacha_begin_p4 : ACode :=
 .seq (.ops (O 25 (.bin .lss 24 (I 3)) ::
 [])) (
 .seq (
 .cond 25 (.skip) (.exit 2)) (c_chacha_begin_p5))
def c_chacha_begin_p7 : ACode :=
 .seq (.ops (O 34 (.load 16 true 7) ::
 S (.store 16 6 34) ::
 [])) (
 .ret)
def c_chacha_begin_p3 : ACode :=
 .seq (.ops (O 21 (.mv 2) ::
 O 22 (.toInt .u32 21) ::
 O 23 (.iadA 16 1 7 (I 12)) ::
 S (.store 1 23 22) ::
 [])) (
 .seq (
 .seq (.ops (O 24 (.mv (I 0)) ::
 [])) (
 .block 2 (
 .loop (c_chacha_begin_p4)))) (c_chacha_begin_p7))
def c_chacha_begin : AFunc := ⟨35, (
 .seq (.ops (O 6 (.alloc 185 (List.replicate 16 (.nat .u32 0))) ::
 [])) (
 .seq (.ops (O 10 (.build (List.replicate 16 (.nat .u32 0)) [(0, 1, (U32 1634760805)), (1, 1, (U32 857760878)), (2, 1, (U32 2036477234)), (3, 1, (U32 1797285236))]) ::
 O 7 (.alloc 185 (List.replicate 16 (.nat .u32 0))) ::
 S (.store 16 7 10) ::
 [])) (
 .seq (
 .seq (.ops (O 11 (.mv (I 0)) ::
 [])) (
 .block 0 (
 .loop (c_chacha_begin_p0)))) (c_chacha_begin_p3)))), [.cell 6 16 true]⟩
theorem is_chacha_begin : IsFun Go.Proofs.Tryz.prog f_chacha_begin c_chacha_begin := cFunc_is (obj := false) (by kernel_rfl)

abbrev f_chacha_state_mix : Nat := 154
def c_chacha_state_mix_p0 : List AOper :=
 O 10 (.mv 39) ::
 O 40 (.ext 10 0) ::
 O 41 (.ext 10 1) ::
 O 42 (.ext 10 2) ::
 O 43 (.ext 10 3) ::
 O 44 (.nilck 11) ::
 O 45 (.iadA 16 1 44 12) ::
 S (.store 1 45 40) ::
 O 46 (.nilck 13) ::
 O 47 (.iadA 16 1 46 14) ::
 S (.store 1 47 41) ::
 O 48 (.nilck 15) ::
 O 49 (.iadA 16 1 48 16) ::
 S (.store 1 49 42) ::
 O 50 (.nilck 17) ::
 O 51 (.iadA 16 1 50 18) ::
 S (.store 1 51 43) ::
 []
def c_chacha_state_mix : AFunc := ⟨52, (.ops (O 11 (.mv 0) ::
 O 12 (.mv 1) ::
 O 13 (.mv 0) ::
 O 14 (.mv 2) ::
 O 15 (.mv 0) ::
 O 16 (.mv 3) ::
 O 17 (.mv 0) ::
 O 18 (.mv 4) ::
 O 19 (.mv 0) ::
 O 20 (.mv 1) ::
 O 21 (.nilck 19) ::
 O 22 (.iadA 16 1 21 20) ::
 O 23 (.load 1 false 22) ::
 O 24 (.mv 0) ::
 O 25 (.mv 2) ::
 O 26 (.nilck 24) ::
 O 27 (.iadA 16 1 26 25) ::
 O 28 (.load 1 false 27) ::
 O 29 (.mv 0) ::
 O 30 (.mv 3) ::
 O 31 (.nilck 29) ::
 O 32 (.iadA 16 1 31 30) ::
 O 33 (.load 1 false 32) ::
 O 34 (.mv 0) ::
 O 35 (.mv 4) ::
 O 36 (.nilck 34) ::
 O 37 (.iadA 16 1 36 35) ::
 O 38 (.load 1 false 37) ::
 C 39 204 [23, 28, 33, 38] ::
 c_chacha_state_mix_p0)), []⟩
theorem is_chacha_state_mix : IsFun Go.Proofs.Tryz.prog f_chacha_state_mix c_chacha_state_mix := cFunc_is (obj := false) (by kernel_rfl)

abbrev f_strings_asciiSet_contains : Nat := 155
def c_strings_asciiSet_contains : AFunc := ⟨10, (
 .seq (.ops (O 4 (.mv (.c (.bool false))) ::
 [])) (
 .seq (.ops (O 5 (.mv 0) ::
 O 6 (.mv 1) ::
 O 7 (.nilck 5) ::
 O 8 (.iadA 256 1 7 6) ::
 O 9 (.load 1 false 8) ::
 O 4 (.mv 9) ::
 [])) (
 .ret))), [.t 4]⟩
theorem is_strings_asciiSet_contains : IsFun Go.Proofs.Tryz.prog f_strings_asciiSet_contains c_strings_asciiSet_contains := cFunc_is (obj := false) (by kernel_rfl)

abbrev f_unicode_utf8_DecodeRuneInString : Nat := 156
def c_unicode_utf8_DecodeRuneInString_p0 : List AOper :=
 OT 6 7 (.mv 0) ::
 OT 6 8 (.idxS 7 (I 0)) ::
 OT 6 9 (.bin .lss 8 (U8 128)) ::
 O 10 (.pick 6 9 (.c (.bool false))) ::
 []
def c_unicode_utf8_DecodeRuneInString_p1 : ACode :=
 .seq (.ops (O 11 (.mv 0) ::
 O 12 (.idxS 11 (I 0)) ::
 O 13 (.toInt .i32 12) ::
 O 2 (.mv 13) ::
 O 3 (.mv (I 1)) ::
 [])) (
 .ret)
def c_unicode_utf8_DecodeRuneInString_p3 : List AOper :=
 O 14 (.mv 16) ::
 O 17 (.ext 14 0) ::
 O 18 (.ext 14 1) ::
 O 2 (.mv 17) ::
 O 3 (.mv 18) ::
 []
def c_unicode_utf8_DecodeRuneInString_p2 : ACode :=
 .ops (
 O 15 (.mv 0) ::
 C 16 205 [15] ::
 c_unicode_utf8_DecodeRuneInString_p3)
def c_unicode_utf8_DecodeRuneInString : AFunc := ⟨19, (
 .seq (.ops (O 2 (.mv (.c (.nat .i32 0))) ::
 O 3 (.mv (I 0)) ::
 [])) (
 .seq (
 .seq (.ops (O 4 (.mv 0) ::
 O 5 (.bin .neq 4 (.c (.str (bytesOf [])))) ::
 O 6 (.mv 5) ::
 c_unicode_utf8_DecodeRuneInString_p0)) (
 .cond 10 (c_unicode_utf8_DecodeRuneInString_p1) (c_unicode_utf8_DecodeRuneInString_p2))) (.ret))), [.t 2, .t 3]⟩
theorem is_unicode_utf8_DecodeRuneInString : IsFun Go.Proofs.Tryz.prog f_unicode_utf8_DecodeRuneInString c_unicode_utf8_DecodeRuneInString := cFunc_is (obj := false) (by kernel_rfl)

abbrev f_strings_ContainsRune : Nat := 157
def c_strings_ContainsRune_p0 : List AOper :=
 O 8 (.bin .geq 7 (I 0)) ::
 O 4 (.mv 8) ::
 []
def c_strings_ContainsRune : AFunc := ⟨9, (
 .seq (.ops (O 4 (.mv (.c (.bool false))) ::
 [])) (
 .seq (.ops (O 5 (.mv 0) ::
 O 6 (.mv 1) ::
 C 7 206 [5, 6] ::
 c_strings_ContainsRune_p0)) (
 .ret))), [.t 4]⟩
theorem is_strings_ContainsRune : IsFun Go.Proofs.Tryz.prog f_strings_ContainsRune c_strings_ContainsRune := cFunc_is (obj := false) (by kernel_rfl)

abbrev f_unicode_utf8_DecodeLastRuneInString : Nat := 158
def c_unicode_utf8_DecodeLastRuneInString_p0 : ACode :=
 .seq (.ops (O 2 (.mv (.c (.nat .i32 65533))) ::
 O 3 (.mv (I 0)) ::
 [])) (
 .ret)
def c_unicode_utf8_DecodeLastRuneInString_p2 : ACode :=
 .seq (.ops (O 19 (.mv 2) ::
 O 2 (.mv 19) ::
 O 3 (.mv (I 1)) ::
 [])) (
 .ret)
def c_unicode_utf8_DecodeLastRuneInString_p6 : ACode :=
 .ops (
 O 28 (.mv 5) ::
 O 29 (.bin .sub 28 (I 1)) ::
 O 5 (.mv 29) ::
 [])
def c_unicode_utf8_DecodeLastRuneInString_p5 : ACode :=
 .seq (
 .block 1 (
 .seq (.ops (O 30 (.mv 0) ::
 O 31 (.mv 5) ::
 O 32 (.idxS 30 31) ::
 C 33 207 [32] ::
 [])) (
 .cond 33 (.exit 0) (.skip)))) (c_unicode_utf8_DecodeLastRuneInString_p6)
def c_unicode_utf8_DecodeLastRuneInString_p4 : ACode :=
 .seq (
 .seq (.ops (O 25 (.mv 5) ::
 O 26 (.mv 6) ::
 O 27 (.bin .geq 25 26) ::
 [])) (
 .cond 27 (.skip) (.exit 0))) (c_unicode_utf8_DecodeLastRuneInString_p5)
def c_unicode_utf8_DecodeLastRuneInString_p8 : ACode :=
 .ops (
 O 5 (.mv (I 0)) ::
 [])
def c_unicode_utf8_DecodeLastRuneInString_p10 : List AOper :=
 O 36 (.mv 41) ::
 O 42 (.ext 36 0) ::
 O 43 (.ext 36 1) ::
 O 2 (.mv 42) ::
 O 3 (.mv 43) ::
 []
def c_unicode_utf8_DecodeLastRuneInString_p11 : ACode :=
 .seq (.ops (O 2 (.mv (.c (.nat .i32 65533))) ::
 O 3 (.mv (I 1)) ::
 [])) (
 .ret)
def c_unicode_utf8_DecodeLastRuneInString_p12 : ACode :=
 .seq (.ops (O 49 (.mv 2) ::
 O 50 (.mv 3) ::
 O 2 (.mv 49) ::
 O 3 (.mv 50) ::
 [])) (
 .ret)
def c_unicode_utf8_DecodeLastRuneInString_p9 : ACode :=
 .seq (.ops (O 37 (.mv 0) ::
 O 38 (.mv 5) ::
 O 39 (.mv 4) ::
 O 40 (.sliceT 37 (some 38) (some 39)) ::
 C 41 156 [40] ::
 c_unicode_utf8_DecodeLastRuneInString_p10)) (
 .seq (
 .seq (.ops (O 44 (.mv 5) ::
 O 45 (.mv 3) ::
 O 46 (.bin .add 44 45) ::
 O 47 (.mv 4) ::
 O 48 (.bin .neq 46 47) ::
 [])) (
 .cond 48 (c_unicode_utf8_DecodeLastRuneInString_p11) (.skip))) (c_unicode_utf8_DecodeLastRuneInString_p12))
def c_unicode_utf8_DecodeLastRuneInString_p7 : ACode :=
 .seq (
 .seq (.ops (O 34 (.mv 5) ::
 O 35 (.bin .lss 34 (I 0)) ::
 [])) (
 .cond 35 (c_unicode_utf8_DecodeLastRuneInString_p8) (.skip))) (c_unicode_utf8_DecodeLastRuneInString_p9)
def c_unicode_utf8_DecodeLastRuneInString_p3 : ACode :=
 .seq (.ops (O 20 (.mv 4) ::
 O 21 (.bin .sub 20 (I 4)) ::
 O 22 (.mm true 21 [(I 0)]) ::
 O 6 (.mv 22) ::
 [])) (
 .seq (
 .seq (.ops (O 23 (.mv 5) ::
 O 24 (.bin .sub 23 (I 1)) ::
 O 5 (.mv 24) ::
 [])) (
 .block 0 (
 .loop (c_unicode_utf8_DecodeLastRuneInString_p4)))) (c_unicode_utf8_DecodeLastRuneInString_p7))
def c_unicode_utf8_DecodeLastRuneInString_p1 : ACode :=
 .seq (.ops (O 11 (.mv 4) ::
 O 12 (.bin .sub 11 (I 1)) ::
 O 5 (.mv 12) ::
 [])) (
 .seq (.ops (O 13 (.mv 0) ::
 O 14 (.mv 5) ::
 O 15 (.idxS 13 14) ::
 O 16 (.toInt .i32 15) ::
 O 2 (.mv 16) ::
 [])) (
 .seq (
 .seq (.ops (O 17 (.mv 2) ::
 O 18 (.bin .lss 17 (.c (.nat .i32 128))) ::
 [])) (
 .cond 18 (c_unicode_utf8_DecodeLastRuneInString_p2) (.skip))) (c_unicode_utf8_DecodeLastRuneInString_p3)))
def c_unicode_utf8_DecodeLastRuneInString : AFunc := ⟨51, (
 .seq (.ops (O 2 (.mv (.c (.nat .i32 0))) ::
 O 3 (.mv (I 0)) ::
 [])) (
 .seq (.ops (O 7 (.mv 0) ::
 O 8 (.lenT 7) ::
 O 4 (.mv 8) ::
 [])) (
 .seq (
 .seq (.ops (O 9 (.mv 4) ::
 O 10 (.bin .eql 9 (I 0)) ::
 [])) (
 .cond 10 (c_unicode_utf8_DecodeLastRuneInString_p0) (.skip))) (c_unicode_utf8_DecodeLastRuneInString_p1)))), [.t 2, .t 3]⟩
theorem is_unicode_utf8_DecodeLastRuneInString : IsFun Go.Proofs.Tryz.prog f_unicode_utf8_DecodeLastRuneInString c_unicode_utf8_DecodeLastRuneInString := cFunc_is (obj := false) (by kernel_rfl)

abbrev f_bits_Reader_Take : Nat := 159
def c_bits_Reader_Take_p3 : List AOper :=
 OF 21 22 (.mv 0) ::
 OF 21 23 (.eqn .ptr .eql 22 (.c (.nilp))) ::
 O 24 (.pick 21 (.c (.bool true)) 23) ::
 []
def c_bits_Reader_Take_p2 : List AOper :=
 OF 15 19 (.bin .gtr 16 18) ::
 O 20 (.pick 15 (.c (.bool true)) 19) ::
 O 21 (.mv 20) ::
 c_bits_Reader_Take_p3
def c_bits_Reader_Take_p1 : List AOper :=
 OF 15 16 (.mv 1) ::
 OF 15 17 (.mv 0) ::
 CF 15 18 208 [17] ::
 c_bits_Reader_Take_p2
def c_bits_Reader_Take_p0 : List AOper :=
 OF 11 12 (.mv 1) ::
 OF 11 13 (.bin .gtr 12 (I 62)) ::
 O 14 (.pick 11 (.c (.bool true)) 13) ::
 O 15 (.mv 14) ::
 c_bits_Reader_Take_p1
def c_bits_Reader_Take_p4 : ACode :=
 .seq (.ops (O 4 (.mv (I 0)) ::
 O 5 (.mv (.c (.bool false))) ::
 [])) (
 .ret)
def c_bits_Reader_Take_p7 : ACode :=
 .seq (
 .block 1 (
 .seq (.ops (O 28 (.mv 26) ::
 O 7 (.mv 28) ::
 [])) (
 .seq (.ops (O 29 (.mv 0) ::
 O 30 (.nilck 29) ::
 O 31 (.faddr 1 30) ::
 O 32 (.load 1 false 31) ::
 O 33 (.mv 7) ::
 O 34 (.bin .add 32 33) ::
 O 8 (.mv 34) ::
 [])) (.ops (O 35 (.mv 6) ::
 O 36 (.mv 0) ::
 O 37 (.nilck 36) ::
 O 38 (.faddr 0 37) ::
 O 39 (.load 1 false 38) ::
 O 40 (.mv 8) ::
 O 41 (.bin .quo 40 (I 8)) ::
 O 42 (.idxS 39 41) ::
 O 43 (.mv 8) ::
 O 44 (.bin .rem 43 (I 8)) ::
 O 45 (.bin .shr 42 44) ::
 O 46 (.bin .and 45 (U8 1)) ::
 O 47 (.toInt .i64 46) ::
 O 48 (.mv 7) ::
 O 49 (.bin .shl 47 48) ::
 O 50 (.bin .or 35 49) ::
 O 6 (.mv 50) ::
 []))))) (.ops (O 51 (.bin .add 26 (I 1)) ::
 O 26 (.mv 51) ::
 []))
def c_bits_Reader_Take_p6 : ACode :=
 .seq (.ops (O 27 (.bin .lss 26 25) ::
 [])) (
 .seq (
 .cond 27 (.skip) (.exit 0)) (c_bits_Reader_Take_p7))
def c_bits_Reader_Take_p8 : ACode :=
 .seq (.ops (O 52 (.mv 0) ::
 O 53 (.nilck 52) ::
 O 54 (.faddr 1 53) ::
 O 55 (.load 1 false 54) ::
 O 56 (.mv 1) ::
 O 57 (.bin .add 55 56) ::
 O 58 (.nilck 52) ::
 O 59 (.faddr 1 58) ::
 S (.store 1 59 57) ::
 [])) (
 .seq (.ops (O 60 (.mv 6) ::
 O 4 (.mv 60) ::
 O 5 (.mv (.c (.bool true))) ::
 [])) (
 .ret))
def c_bits_Reader_Take_p5 : ACode :=
 .seq (.ops (O 6 (.mv (I 0)) ::
 [])) (
 .seq (
 .seq (.ops (O 25 (.mv 1) ::
 O 26 (.mv (I 0)) ::
 [])) (
 .block 0 (
 .loop (c_bits_Reader_Take_p6)))) (c_bits_Reader_Take_p8))
def c_bits_Reader_Take : AFunc := ⟨61, (
 .seq (.ops (O 4 (.mv (I 0)) ::
 O 5 (.mv (.c (.bool false))) ::
 [])) (
 .seq (
 .seq (.ops (O 9 (.mv 1) ::
 O 10 (.bin .lss 9 (I 0)) ::
 O 11 (.mv 10) ::
 c_bits_Reader_Take_p0)) (
 .cond 24 (c_bits_Reader_Take_p4) (.skip))) (c_bits_Reader_Take_p5))), [.t 4, .t 5]⟩
theorem is_bits_Reader_Take : IsFun Go.Proofs.Tryz.prog f_bits_Reader_Take c_bits_Reader_Take := cFunc_is (obj := false) (by kernel_rfl)

abbrev f_bits_Reader_Text : Nat := 160
def c_bits_Reader_Text_p0 : ACode :=
 .seq (.ops (O 4 (.mv (.c (.str (bytesOf [])))) ::
 O 5 (.mv (.c (.bool false))) ::
 [])) (
 .ret)
def c_bits_Reader_Text_p2 : List AOper :=
 OF 17 18 (.mv 1) ::
 OF 17 19 (.mv 0) ::
 OF 17 20 (.nilck 19) ::
 OF 17 21 (.faddr 0 20) ::
 OF 17 22 (.load 1 false 21) ::
 OF 17 23 (.lenT 22) ::
 OF 17 24 (.mv 6) ::
 OF 17 25 (.bin .sub 23 24) ::
 OF 17 26 (.bin .gtr 18 25) ::
 O 27 (.pick 17 (.c (.bool true)) 26) ::
 []
def c_bits_Reader_Text_p3 : ACode :=
 .seq (.ops (O 4 (.mv (.c (.str (bytesOf [])))) ::
 O 5 (.mv (.c (.bool false))) ::
 [])) (
 .ret)
def c_bits_Reader_Text_p4 : ACode :=
 .seq (.ops (O 28 (.mv 0) ::
 O 29 (.mv 6) ::
 O 30 (.mv 1) ::
 O 31 (.bin .add 29 30) ::
 O 32 (.bin .mul (I 8) 31) ::
 O 33 (.nilck 28) ::
 O 34 (.faddr 1 33) ::
 S (.store 1 34 32) ::
 [])) (
 .seq (.ops (O 35 (.mv 0) ::
 O 36 (.nilck 35) ::
 O 37 (.faddr 0 36) ::
 O 38 (.load 1 false 37) ::
 O 39 (.mv 6) ::
 O 40 (.mv 6) ::
 O 41 (.mv 1) ::
 O 42 (.bin .add 40 41) ::
 O 43 (.sliceT 38 (some 39) (some 42)) ::
 O 4 (.mv 43) ::
 O 5 (.mv (.c (.bool true))) ::
 [])) (
 .ret))
def c_bits_Reader_Text_p1 : ACode :=
 .seq (.ops (O 9 (.mv 0) ::
 O 10 (.nilck 9) ::
 O 11 (.faddr 1 10) ::
 O 12 (.load 1 false 11) ::
 O 13 (.bin .add 12 (I 7)) ::
 O 14 (.bin .quo 13 (I 8)) ::
 O 6 (.mv 14) ::
 [])) (
 .seq (
 .seq (.ops (O 15 (.mv 1) ::
 O 16 (.bin .lss 15 (I 0)) ::
 O 17 (.mv 16) ::
 c_bits_Reader_Text_p2)) (
 .cond 27 (c_bits_Reader_Text_p3) (.skip))) (c_bits_Reader_Text_p4))
def c_bits_Reader_Text : AFunc := ⟨44, (
 .seq (.ops (O 4 (.mv (.c (.str (bytesOf [])))) ::
 O 5 (.mv (.c (.bool false))) ::
 [])) (
 .seq (
 .seq (.ops (O 7 (.mv 0) ::
 O 8 (.eqn .ptr .eql 7 (.c (.nilp))) ::
 [])) (
 .cond 8 (c_bits_Reader_Text_p0) (.skip))) (c_bits_Reader_Text_p1))), [.t 4, .t 5]⟩
theorem is_bits_Reader_Text : IsFun Go.Proofs.Tryz.prog f_bits_Reader_Text c_bits_Reader_Text := cFunc_is (obj := false) (by kernel_rfl)

abbrev f_inflate_reader_room : Nat := 161
def c_inflate_reader_room_p0 : List AOper :=
 OT 10 11 (.mv 1) ::
 OT 10 12 (.mv 0) ::
 OT 10 13 (.nilck 12) ::
 OT 10 14 (.faddr 2 13) ::
 OT 10 15 (.load 1 false 14) ::
 OT 10 16 (.mv 0) ::
 OT 10 17 (.nilck 16) ::
 OT 10 18 (.faddr 1 17) ::
 OT 10 19 (.load 1 false 18) ::
 OT 10 20 (.lenS 19) ::
 OT 10 21 (.bin .sub 15 20) ::
 OT 10 22 (.bin .gtr 11 21) ::
 O 23 (.pick 10 22 (.c (.bool false))) ::
 []
def c_inflate_reader_room_p1 : ACode :=
 .ops (
 O 24 (.mv 0) ::
 C 25 115 [24, (I 12)] ::
 [])
def c_inflate_reader_room_p2 : ACode :=
 .seq (.ops (O 26 (.mv 0) ::
 O 27 (.nilck 26) ::
 O 28 (.faddr 3 27) ::
 O 29 (.load 1 false 28) ::
 O 30 (.bin .eql 29 (I 0)) ::
 O 4 (.mv 30) ::
 [])) (
 .ret)
def c_inflate_reader_room : AFunc := ⟨31, (
 .seq (.ops (O 4 (.mv (.c (.bool false))) ::
 [])) (
 .seq (
 .seq (.ops (O 5 (.mv 0) ::
 O 6 (.nilck 5) ::
 O 7 (.faddr 3 6) ::
 O 8 (.load 1 false 7) ::
 O 9 (.bin .eql 8 (I 0)) ::
 O 10 (.mv 9) ::
 c_inflate_reader_room_p0)) (
 .cond 23 (c_inflate_reader_room_p1) (.skip))) (c_inflate_reader_room_p2))), [.t 4]⟩
theorem is_inflate_reader_room : IsFun Go.Proofs.Tryz.prog f_inflate_reader_room c_inflate_reader_room := cFunc_is (obj := false) (by kernel_rfl)

abbrev f_inflate_reader_sym : Nat := 162
def c_inflate_reader_sym_p0 : ACode :=
 .seq (.ops (O 4 (.mv (I 0)) ::
 [])) (
 .ret)
def c_inflate_reader_sym_p2 : List AOper :=
 O 12 (.mv 18) ::
 O 19 (.ext 12 0) ::
 O 20 (.ext 12 1) ::
 O 5 (.mv 19) ::
 O 6 (.mv 20) ::
 []
def c_inflate_reader_sym_p1 : ACode :=
 .seq (.ops (O 13 (.mv 1) ::
 O 14 (.mv 0) ::
 O 15 (.nilck 14) ::
 O 16 (.faddr 0 15) ::
 O 17 (.load 1 false 16) ::
 C 18 209 [13, 17] ::
 c_inflate_reader_sym_p2)) (
 .seq (.ops (O 21 (.mv 0) ::
 O 22 (.mv 6) ::
 O 23 (.nilck 21) ::
 O 24 (.faddr 3 23) ::
 S (.store 1 24 22) ::
 [])) (
 .seq (.ops (O 25 (.mv 5) ::
 O 4 (.mv 25) ::
 [])) (
 .ret)))
def c_inflate_reader_sym : AFunc := ⟨26, (
 .seq (.ops (O 4 (.mv (I 0)) ::
 [])) (
 .seq (
 .seq (.ops (O 7 (.mv 0) ::
 O 8 (.nilck 7) ::
 O 9 (.faddr 3 8) ::
 O 10 (.load 1 false 9) ::
 O 11 (.bin .neq 10 (I 0)) ::
 [])) (
 .cond 11 (c_inflate_reader_sym_p0) (.skip))) (c_inflate_reader_sym_p1))), [.t 4]⟩
theorem is_inflate_reader_sym : IsFun Go.Proofs.Tryz.prog f_inflate_reader_sym c_inflate_reader_sym := cFunc_is (obj := false) (by kernel_rfl)

abbrev f_inflate_reader_length : Nat := 163
def c_inflate_reader_length_p0 : ACode :=
 .seq (.ops (O 9 (.mv 1) ::
 O 10 (.bin .sub 9 (I 254)) ::
 O 4 (.mv 10) ::
 [])) (
 .ret)
def c_inflate_reader_length_p2 : ACode :=
 .seq (.ops (O 4 (.mv (I 258)) ::
 [])) (
 .ret)
def c_inflate_reader_length_p4 : ACode :=
 .seq (.ops (O 17 (.mv 0) ::
 C 18 115 [17, (I 2)] ::
 [])) (
 .seq (.ops (O 4 (.mv (I 0)) ::
 [])) (
 .ret))
def c_inflate_reader_length_p3 : ACode :=
 .seq (.ops (O 15 (.mv 1) ::
 O 16 (.bin .gtr 15 (I 285)) ::
 O 14 (.mv 16) ::
 [])) (
 .cond 14 (c_inflate_reader_length_p4) (.skip))
def c_inflate_reader_length_p1 : ACode :=
 .seq (.ops (O 12 (.mv 1) ::
 O 13 (.bin .eql 12 (I 285)) ::
 O 11 (.mv 13) ::
 [])) (
 .cond 11 (c_inflate_reader_length_p2) (c_inflate_reader_length_p3))
def c_inflate_reader_length_p6 : List AOper :=
 O 32 (.bin .add 28 31) ::
 O 4 (.mv 32) ::
 []
def c_inflate_reader_length_p5 : ACode :=
 .seq (.ops (O 19 (.mv 1) ::
 O 20 (.bin .sub 19 (I 261)) ::
 O 21 (.bin .quo 20 (I 4)) ::
 O 5 (.mv 21) ::
 [])) (
 .seq (.ops (O 22 (.mv 1) ::
 O 23 (.bin .sub 22 (I 265)) ::
 O 24 (.bin .rem 23 (I 4)) ::
 O 25 (.bin .add (I 4) 24) ::
 O 26 (.mv 5) ::
 O 27 (.bin .shl 25 26) ::
 O 28 (.bin .add (I 3) 27) ::
 O 29 (.mv 0) ::
 O 30 (.mv 5) ::
 C 31 110 [29, 30] ::
 c_inflate_reader_length_p6)) (
 .ret))
def c_inflate_reader_length : AFunc := ⟨33, (
 .seq (.ops (O 4 (.mv (I 0)) ::
 [])) (
 .seq (
 .block 0 (
 .seq (.ops (O 7 (.mv 1) ::
 O 8 (.bin .lss 7 (I 265)) ::
 O 6 (.mv 8) ::
 [])) (
 .cond 6 (c_inflate_reader_length_p0) (c_inflate_reader_length_p1)))) (c_inflate_reader_length_p5))), [.t 4]⟩
theorem is_inflate_reader_length : IsFun Go.Proofs.Tryz.prog f_inflate_reader_length c_inflate_reader_length := cFunc_is (obj := false) (by kernel_rfl)

abbrev f_inflate_reader_dist : Nat := 164
def c_inflate_reader_dist_p0 : ACode :=
 .seq (.ops (O 9 (.mv 1) ::
 O 10 (.bin .add 9 (I 1)) ::
 O 4 (.mv 10) ::
 [])) (
 .ret)
def c_inflate_reader_dist_p2 : ACode :=
 .seq (.ops (O 14 (.mv 0) ::
 C 15 115 [14, (I 2)] ::
 [])) (
 .seq (.ops (O 4 (.mv (I 0)) ::
 [])) (
 .ret))
def c_inflate_reader_dist_p1 : ACode :=
 .seq (.ops (O 12 (.mv 1) ::
 O 13 (.bin .gtr 12 (I 29)) ::
 O 11 (.mv 13) ::
 [])) (
 .cond 11 (c_inflate_reader_dist_p2) (.skip))
def c_inflate_reader_dist_p4 : List AOper :=
 O 28 (.bin .add 24 27) ::
 O 4 (.mv 28) ::
 []
def c_inflate_reader_dist_p3 : ACode :=
 .seq (.ops (O 16 (.mv 1) ::
 O 17 (.bin .sub 16 (I 2)) ::
 O 18 (.bin .quo 17 (I 2)) ::
 O 5 (.mv 18) ::
 [])) (
 .seq (.ops (O 19 (.mv 1) ::
 O 20 (.bin .rem 19 (I 2)) ::
 O 21 (.bin .add (I 2) 20) ::
 O 22 (.mv 5) ::
 O 23 (.bin .shl 21 22) ::
 O 24 (.bin .add (I 1) 23) ::
 O 25 (.mv 0) ::
 O 26 (.mv 5) ::
 C 27 110 [25, 26] ::
 c_inflate_reader_dist_p4)) (
 .ret))
def c_inflate_reader_dist : AFunc := ⟨29, (
 .seq (.ops (O 4 (.mv (I 0)) ::
 [])) (
 .seq (
 .block 0 (
 .seq (.ops (O 7 (.mv 1) ::
 O 8 (.bin .lss 7 (I 4)) ::
 O 6 (.mv 8) ::
 [])) (
 .cond 6 (c_inflate_reader_dist_p0) (c_inflate_reader_dist_p1)))) (c_inflate_reader_dist_p3))), [.t 4]⟩
theorem is_inflate_reader_dist : IsFun Go.Proofs.Tryz.prog f_inflate_reader_dist c_inflate_reader_dist := cFunc_is (obj := false) (by kernel_rfl)

abbrev f_slices_Concat_int : Nat := 165
def c_slices_Concat_int_p3 : List AOper :=
 ⟨none, .bad, none⟩ ::
 []
def c_slices_Concat_int_p2 : ACode :=
 .ops (
 ⟨(some 21), .bad, none⟩ ::
 c_slices_Concat_int_p3)
def c_slices_Concat_int_p4 : ACode :=
 .ops (
 O 22 (.bin .add 11 (I 1)) ::
 O 11 (.mv 22) ::
 [])
def c_slices_Concat_int_p1 : ACode :=
 .seq (
 .block 1 (
 .seq (.ops (O 13 (.iadS 1 9 11) ::
 O 14 (.load 1 false 13) ::
 O 5 (.mv 14) ::
 [])) (
 .seq (.ops (O 15 (.mv 3) ::
 O 16 (.mv 5) ::
 O 17 (.lenS 16) ::
 O 18 (.bin .add 15 17) ::
 O 3 (.mv 18) ::
 [])) (
 .seq (.ops (O 19 (.mv 3) ::
 O 20 (.bin .lss 19 (I 0)) ::
 [])) (
 .cond 20 (c_slices_Concat_int_p2) (.skip)))))) (c_slices_Concat_int_p4)
def c_slices_Concat_int_p0 : ACode :=
 .seq (.ops (O 12 (.bin .lss 11 10) ::
 [])) (
 .seq (
 .cond 12 (.skip) (.exit 0)) (c_slices_Concat_int_p1))
def c_slices_Concat_int_p6 : List AOper :=
 O 6 (.mv 24) ::
 []
def c_slices_Concat_int_p8 : ACode :=
 .seq (
 .block 3 (
 .seq (.ops (O 29 (.iadS 1 25 27) ::
 O 30 (.load 1 false 29) ::
 O 8 (.mv 30) ::
 [])) (.ops (O 31 (.mv 6) ::
 O 32 (.mv 8) ::
 O 33 (.app 3 1 8 31 32) ::
 O 6 (.mv 33) ::
 [])))) (.ops (O 34 (.bin .add 27 (I 1)) ::
 O 27 (.mv 34) ::
 []))
def c_slices_Concat_int_p7 : ACode :=
 .seq (.ops (O 28 (.bin .lss 27 26) ::
 [])) (
 .seq (
 .cond 28 (.skip) (.exit 2)) (c_slices_Concat_int_p8))
def c_slices_Concat_int_p9 : ACode :=
 .seq (.ops (O 35 (.mv 6) ::
 O 2 (.mv 35) ::
 [])) (
 .ret)
def c_slices_Concat_int_p5 : ACode :=
 .seq (.ops (O 23 (.mv 3) ::
 C 24 210 [(.c (.nils)), 23] ::
 c_slices_Concat_int_p6)) (
 .seq (
 .seq (.ops (O 25 (.mv 0) ::
 O 26 (.lenS 25) ::
 O 27 (.mv (I 0)) ::
 [])) (
 .block 2 (
 .loop (c_slices_Concat_int_p7)))) (c_slices_Concat_int_p9))
def c_slices_Concat_int : AFunc := ⟨36, (
 .seq (.ops (O 2 (.mv (.c (.nils))) ::
 [])) (
 .seq (.ops (O 3 (.mv (I 0)) ::
 [])) (
 .seq (
 .seq (.ops (O 9 (.mv 0) ::
 O 10 (.lenS 9) ::
 O 11 (.mv (I 0)) ::
 [])) (
 .block 0 (
 .loop (c_slices_Concat_int_p0)))) (c_slices_Concat_int_p5)))), [.t 2]⟩
theorem is_slices_Concat_int : IsFun Go.Proofs.Tryz.prog f_slices_Concat_int c_slices_Concat_int := cFunc_is (obj := false) (by kernel_rfl)

abbrev f_slices_Repeat_int : Nat := 166
def c_slices_Repeat_int_p1 : List AOper :=
 ⟨none, .bad, none⟩ ::
 []
def c_slices_Repeat_int_p0 : ACode :=
 .ops (
 ⟨(some 11), .bad, none⟩ ::
 c_slices_Repeat_int_p1)
def c_slices_Repeat_int_p3 : List AOper :=
 O 12 (.mv 18) ::
 O 19 (.ext 12 0) ::
 O 20 (.ext 12 1) ::
 O 5 (.mv 19) ::
 O 6 (.mv 20) ::
 []
def c_slices_Repeat_int_p4 : List AOper :=
 OF 23 24 (.mv 6) ::
 OF 23 25 (.bin .gtr 24 (U64 9223372036854775807)) ::
 O 26 (.pick 23 (.c (.bool true)) 25) ::
 []
def c_slices_Repeat_int_p6 : List AOper :=
 ⟨none, .bad, none⟩ ::
 []
def c_slices_Repeat_int_p5 : ACode :=
 .ops (
 ⟨(some 27), .bad, none⟩ ::
 c_slices_Repeat_int_p6)
def c_slices_Repeat_int_p9 : ACode :=
 .block 1 (.ops (O 38 (.mv 8) ::
 O 39 (.mv 7) ::
 O 40 (.mv 8) ::
 O 41 (.sliceS 1 39 (some 40) none) ::
 O 42 (.mv 7) ::
 O 43 (.mv 8) ::
 O 44 (.sliceS 1 42 none (some 43)) ::
 O 45 (.cpy 1 41 44) ::
 O 46 (.bin .add 38 45) ::
 O 8 (.mv 46) ::
 []))
def c_slices_Repeat_int_p8 : ACode :=
 .seq (
 .seq (.ops (O 34 (.mv 8) ::
 O 35 (.mv 7) ::
 O 36 (.lenS 35) ::
 O 37 (.bin .lss 34 36) ::
 [])) (
 .cond 37 (.skip) (.exit 0))) (c_slices_Repeat_int_p9)
def c_slices_Repeat_int_p10 : ACode :=
 .seq (.ops (O 47 (.mv 7) ::
 O 4 (.mv 47) ::
 [])) (
 .ret)
def c_slices_Repeat_int_p7 : ACode :=
 .seq (.ops (O 28 (.mv 6) ::
 O 29 (.toInt .i64 28) ::
 O 30 (.mks 3 1 8 [.nat .i64 0] 29 29) ::
 O 7 (.mv 30) ::
 [])) (
 .seq (.ops (O 31 (.mv 7) ::
 O 32 (.mv 0) ::
 O 33 (.cpy 1 31 32) ::
 O 8 (.mv 33) ::
 [])) (
 .seq (
 .block 0 (
 .loop (c_slices_Repeat_int_p8))) (c_slices_Repeat_int_p10)))
def c_slices_Repeat_int_p2 : ACode :=
 .seq (.ops (O 13 (.mv 0) ::
 O 14 (.lenS 13) ::
 O 15 (.toInt .u64 14) ::
 O 16 (.mv 1) ::
 O 17 (.toInt .u64 16) ::
 C 18 149 [15, 17] ::
 c_slices_Repeat_int_p3)) (
 .seq (
 .seq (.ops (O 21 (.mv 5) ::
 O 22 (.bin .gtr 21 (U64 0)) ::
 O 23 (.mv 22) ::
 c_slices_Repeat_int_p4)) (
 .cond 26 (c_slices_Repeat_int_p5) (.skip))) (c_slices_Repeat_int_p7))
def c_slices_Repeat_int : AFunc := ⟨48, (
 .seq (.ops (O 4 (.mv (.c (.nils))) ::
 [])) (
 .seq (
 .seq (.ops (O 9 (.mv 1) ::
 O 10 (.bin .lss 9 (I 0)) ::
 [])) (
 .cond 10 (c_slices_Repeat_int_p0) (.skip))) (c_slices_Repeat_int_p2))), [.t 4]⟩
theorem is_slices_Repeat_int : IsFun Go.Proofs.Tryz.prog f_slices_Repeat_int c_slices_Repeat_int := cFunc_is (obj := false) (by kernel_rfl)

abbrev f_huff_New : Nat := 167
def c_huff_New_p0 : List AOper :=
 O 12 (.mv 14) ::
 O 15 (.ext 12 0) ::
 O 16 (.ext 12 1) ::
 O 4 (.alloc 247 (List.replicate 16 (.nat .i64 0))) ::
 S (.store 16 4 15) ::
 O 5 (.mv 16) ::
 []
def c_huff_New_p1 : ACode :=
 .seq (.ops (O 2 (.mv (.c (.nilp))) ::
 O 3 (.mv (I 1)) ::
 [])) (
 .ret)
def c_huff_New_p7 : ACode :=
 .ops (
 O 36 (.mv 6) ::
 O 37 (.mv 6) ::
 O 38 (.nilck 37) ::
 O 39 (.faddr 16 38) ::
 O 40 (.load 1 false 39) ::
 O 41 (.mv 8) ::
 O 42 (.lit false 3 1 1 [.nat .i64 0] [(0, 1, 41)]) ::
 O 43 (.app 3 1 8 40 42) ::
 O 44 (.nilck 36) ::
 O 45 (.faddr 16 44) ::
 S (.store 1 45 43) ::
 [])
def c_huff_New_p8 : ACode :=
 .ops (
 O 46 (.bin .add 28 (I 1)) ::
 O 28 (.mv 46) ::
 [])
def c_huff_New_p6 : ACode :=
 .seq (
 .block 3 (
 .seq (.ops (O 30 (.mv 28) ::
 O 31 (.iadS 1 26 28) ::
 O 32 (.load 1 false 31) ::
 O 8 (.mv 30) ::
 O 9 (.mv 32) ::
 [])) (
 .seq (.ops (O 33 (.mv 9) ::
 O 34 (.mv 7) ::
 O 35 (.bin .eql 33 34) ::
 [])) (
 .cond 35 (c_huff_New_p7) (.skip))))) (c_huff_New_p8)
def c_huff_New_p5 : ACode :=
 .seq (.ops (O 29 (.bin .lss 28 27) ::
 [])) (
 .seq (
 .cond 29 (.skip) (.exit 2)) (c_huff_New_p6))
def c_huff_New_p9 : ACode :=
 .ops (
 O 24 (.mv 7) ::
 O 25 (.bin .add 24 (I 1)) ::
 O 7 (.mv 25) ::
 [])
def c_huff_New_p4 : ACode :=
 .seq (
 .block 1 (
 .seq (.ops (O 26 (.mv 0) ::
 O 27 (.lenS 26) ::
 O 28 (.mv (I 0)) ::
 [])) (
 .block 2 (
 .loop (c_huff_New_p5))))) (c_huff_New_p9)
def c_huff_New_p3 : ACode :=
 .seq (
 .seq (.ops (O 22 (.mv 7) ::
 O 23 (.bin .leq 22 (I 15)) ::
 [])) (
 .cond 23 (.skip) (.exit 0))) (c_huff_New_p4)
def c_huff_New_p13 : List AOper :=
 OF 53 64 (.pick 60 63 (.c (.bool false))) ::
 O 65 (.pick 53 (.c (.bool true)) 64) ::
 O 10 (.mv 65) ::
 []
def c_huff_New_p12 : List AOper :=
 OT 60 61 (.iadA 16 1 4 (I 1)) ::
 OT 60 62 (.load 1 false 61) ::
 OT 60 63 (.bin .eql 62 (I 1)) ::
 c_huff_New_p13
def c_huff_New_p11 : List AOper :=
 OF 53 54 (.mv 6) ::
 OF 53 55 (.nilck 54) ::
 OF 53 56 (.faddr 16 55) ::
 OF 53 57 (.load 1 false 56) ::
 OF 53 58 (.lenS 57) ::
 OF 53 59 (.bin .eql 58 (I 1)) ::
 OF 53 60 (.mv 59) ::
 c_huff_New_p12
def c_huff_New_p14 : List AOper :=
 O 11 (.mv 67) ::
 []
def c_huff_New_p17 : List AOper :=
 OF 70 76 (.pick 73 75 (.c (.bool false))) ::
 O 77 (.pick 70 (.c (.bool true)) 76) ::
 []
def c_huff_New_p16 : List AOper :=
 OT 73 74 (.mv 10) ::
 OT 73 75 (.un .not 74) ::
 c_huff_New_p17
def c_huff_New_p15 : List AOper :=
 OF 70 71 (.mv 11) ::
 OF 70 72 (.bin .gtr 71 (I 0)) ::
 OF 70 73 (.mv 72) ::
 c_huff_New_p16
def c_huff_New_p18 : ACode :=
 .seq (.ops (O 2 (.mv (.c (.nilp))) ::
 O 3 (.mv (I 2)) ::
 [])) (
 .ret)
def c_huff_New_p19 : ACode :=
 .seq (.ops (O 78 (.mv 6) ::
 O 2 (.mv 78) ::
 O 3 (.mv (I 0)) ::
 [])) (
 .ret)
def c_huff_New_p10 : ACode :=
 .seq (.ops (O 47 (.mv 6) ::
 O 48 (.nilck 47) ::
 O 49 (.faddr 16 48) ::
 O 50 (.load 1 false 49) ::
 O 51 (.lenS 50) ::
 O 52 (.bin .eql 51 (I 0)) ::
 O 53 (.mv 52) ::
 c_huff_New_p11)) (
 .seq (
 .seq (.ops (O 66 (.load 16 true 4) ::
 C 67 212 [66] ::
 c_huff_New_p14)) (
 .seq (.ops (O 68 (.mv 11) ::
 O 69 (.bin .lss 68 (I 0)) ::
 O 70 (.mv 69) ::
 c_huff_New_p15)) (
 .cond 77 (c_huff_New_p18) (.skip)))) (c_huff_New_p19))
def c_huff_New_p2 : ACode :=
 .seq (.ops (O 19 (.load 16 true 4) ::
 O 20 (.build [.nat .i64 0, .nat .i64 0, .nat .i64 0, .nat .i64 0, .nat .i64 0, .nat .i64 0, .nat .i64 0, .nat .i64 0, .nat .i64 0, .nat .i64 0, .nat .i64 0, .nat .i64 0, .nat .i64 0, .nat .i64 0, .nat .i64 0, .nat .i64 0, .nils] [(0, 16, 19)]) ::
 O 21 (.box 251 20) ::
 O 6 (.mv 21) ::
 [])) (
 .seq (
 .seq (.ops (O 7 (.mv (I 1)) ::
 [])) (
 .block 0 (
 .loop (c_huff_New_p3)))) (c_huff_New_p10))
def c_huff_New : AFunc := ⟨79, (
 .seq (.ops (O 2 (.mv (.c (.nilp))) ::
 O 3 (.mv (I 0)) ::
 [])) (
 .seq (.ops (O 13 (.mv 0) ::
 C 14 211 [13] ::
 c_huff_New_p0)) (
 .seq (
 .seq (.ops (O 17 (.mv 5) ::
 O 18 (.un .not 17) ::
 [])) (
 .cond 18 (c_huff_New_p1) (.skip))) (c_huff_New_p2)))), [.t 2, .t 3]⟩
theorem is_huff_New : IsFun Go.Proofs.Tryz.prog f_huff_New c_huff_New := cFunc_is (obj := false) (by kernel_rfl)

abbrev f_inflate_reader_table : Nat := 168
def c_inflate_reader_table_p0 : List AOper :=
 O 7 (.mv 9) ::
 O 10 (.ext 7 0) ::
 O 11 (.ext 7 1) ::
 O 5 (.mv 10) ::
 O 6 (.mv 11) ::
 []
def c_inflate_reader_table_p1 : ACode :=
 .ops (
 O 14 (.mv 0) ::
 C 15 115 [14, (I 2)] ::
 [])
def c_inflate_reader_table_p2 : ACode :=
 .seq (.ops (O 16 (.mv 5) ::
 O 4 (.mv 16) ::
 [])) (
 .ret)
def c_inflate_reader_table : AFunc := ⟨17, (
 .seq (.ops (O 4 (.mv (.c (.nilp))) ::
 [])) (
 .seq (.ops (O 8 (.mv 1) ::
 C 9 167 [8] ::
 c_inflate_reader_table_p0)) (
 .seq (
 .seq (.ops (O 12 (.mv 6) ::
 O 13 (.bin .neq 12 (I 0)) ::
 [])) (
 .cond 13 (c_inflate_reader_table_p1) (.skip))) (c_inflate_reader_table_p2)))), [.t 4]⟩
theorem is_inflate_reader_table : IsFun Go.Proofs.Tryz.prog f_inflate_reader_table c_inflate_reader_table := cFunc_is (obj := false) (by kernel_rfl)

abbrev f_inflate_reader_lengths : Nat := 169
def c_inflate_reader_lengths_p1 : List AOper :=
 OT 15 16 (.load 1 false 3) ::
 OT 15 17 (.nilck 16) ::
 OT 15 18 (.faddr 3 17) ::
 OT 15 19 (.load 1 false 18) ::
 OT 15 20 (.bin .eql 19 (I 0)) ::
 O 21 (.pick 15 20 (.c (.bool false))) ::
 []
def c_inflate_reader_lengths_p3 : List AOper :=
 O 9 (.mv 24) ::
 []
def c_inflate_reader_lengths_p5 : ACode :=
 .ops (
 O 39 (.load 1 false 7) ::
 O 40 (.mv 9) ::
 O 41 (.lit false 3 1 1 [.nat .i64 0] [(0, 1, 40)]) ::
 O 42 (.app 3 1 8 39 41) ::
 S (.store 1 7 42) ::
 [])
def c_inflate_reader_lengths_p7 : List AOper :=
 OT 46 47 (.load 1 false 7) ::
 OT 46 48 (.lenS 47) ::
 OT 46 49 (.bin .eql 48 (I 0)) ::
 O 50 (.pick 46 49 (.c (.bool false))) ::
 O 43 (.mv 50) ::
 []
def c_inflate_reader_lengths_p8 : ACode :=
 .ops (
 O 51 (.load 1 false 3) ::
 C 52 115 [51, (I 2)] ::
 [])
def c_inflate_reader_lengths_p12 : List (AOper × List Nat) :=
 (O 65 (.bin .add (I 3) 64), []) ::
 (CV 66 56 [62, 65], []) ::
 []
def c_inflate_reader_lengths_p11 : List (AOper × List Nat) :=
 (O 56 (.mv 8), []) ::
 (O 57 (.load 1 false 7), []) ::
 (O 58 (.load 1 false 7), []) ::
 (O 59 (.lenS 58), []) ::
 (O 60 (.bin .sub 59 (I 1)), []) ::
 (O 61 (.iadS 1 57 60), []) ::
 (O 62 (.load 1 false 61), []) ::
 (O 63 (.load 1 false 3), []) ::
 (C 64 110 [63, (I 2)], [1, 2, 5, 6]) ::
 c_inflate_reader_lengths_p12
def c_inflate_reader_lengths_p11a : List AOper := fstsOf c_inflate_reader_lengths_p11
def c_inflate_reader_lengths_p10 : ACode :=
 .draw c_inflate_reader_lengths_p11a c_inflate_reader_lengths_p11
def c_inflate_reader_lengths_p15 : List AOper :=
 O 73 (.bin .add (I 3) 72) ::
 CV 74 70 [(I 0), 73] ::
 []
def c_inflate_reader_lengths_p14 : ACode :=
 .ops (
 O 70 (.mv 8) ::
 O 71 (.load 1 false 3) ::
 C 72 110 [71, (I 3)] ::
 c_inflate_reader_lengths_p15)
def c_inflate_reader_lengths_p17 : List AOper :=
 O 28 (.bin .add (I 11) 27) ::
 CV 29 25 [(I 0), 28] ::
 []
def c_inflate_reader_lengths_p16 : ACode :=
 .ops (
 O 25 (.mv 8) ::
 O 26 (.load 1 false 3) ::
 C 27 110 [26, (I 7)] ::
 c_inflate_reader_lengths_p17)
def c_inflate_reader_lengths_p13 : ACode :=
 .seq (.ops (O 68 (.mv 9) ::
 O 69 (.bin .eql 68 (I 17)) ::
 O 67 (.mv 69) ::
 [])) (
 .cond 67 (c_inflate_reader_lengths_p14) (c_inflate_reader_lengths_p16))
def c_inflate_reader_lengths_p9 : ACode :=
 .seq (.ops (O 54 (.mv 9) ::
 O 55 (.bin .eql 54 (I 16)) ::
 O 53 (.mv 55) ::
 [])) (
 .cond 53 (c_inflate_reader_lengths_p10) (c_inflate_reader_lengths_p13))
def c_inflate_reader_lengths_p6 : ACode :=
 .seq (.ops (O 44 (.mv 9) ::
 O 45 (.bin .eql 44 (I 16)) ::
 O 46 (.mv 45) ::
 c_inflate_reader_lengths_p7)) (
 .cond 43 (c_inflate_reader_lengths_p8) (c_inflate_reader_lengths_p9))
def c_inflate_reader_lengths_p4 : ACode :=
 .seq (.ops (O 37 (.mv 9) ::
 O 38 (.bin .lss 37 (I 16)) ::
 O 36 (.mv 38) ::
 [])) (
 .cond 36 (c_inflate_reader_lengths_p5) (c_inflate_reader_lengths_p6))
def c_inflate_reader_lengths_p2 : ACode :=
 .block 1 (
 .seq (.ops (O 22 (.load 1 false 3) ::
 O 23 (.mv 1) ::
 C 24 162 [22, 23] ::
 c_inflate_reader_lengths_p3)) (
 .block 2 (
 .seq (.ops (O 31 (.load 1 false 3) ::
 O 32 (.nilck 31) ::
 O 33 (.faddr 3 32) ::
 O 34 (.load 1 false 33) ::
 O 35 (.bin .neq 34 (I 0)) ::
 O 30 (.mv 35) ::
 [])) (
 .cond 30 (.skip) (c_inflate_reader_lengths_p4)))))
def c_inflate_reader_lengths_p0 : ACode :=
 .seq (
 .seq (.ops (O 11 (.load 1 false 7) ::
 O 12 (.lenS 11) ::
 O 13 (.load 1 false 5) ::
 O 14 (.bin .lss 12 13) ::
 O 15 (.mv 14) ::
 c_inflate_reader_lengths_p1)) (
 .cond 21 (.skip) (.exit 0))) (c_inflate_reader_lengths_p2)
def c_inflate_reader_lengths_p18 : ACode :=
 .seq (.ops (O 75 (.load 1 false 7) ::
 O 6 (.mv 75) ::
 [])) (
 .ret)
def c_inflate_reader_lengths : AFunc := ⟨76, (
 .seq (.ops (O 3 (.box 140 0) ::
 O 5 (.box 3 2) ::
 O 6 (.mv (.c (.nils))) ::
 [])) (
 .seq (.ops (O 7 (.alloc 124 [.nils]) ::
 [])) (
 .seq (.ops (O 10 (.mkfn 213 [5, 7, 3]) ::
 O 8 (.mv 10) ::
 [])) (
 .seq (
 .block 0 (
 .loop (c_inflate_reader_lengths_p0))) (c_inflate_reader_lengths_p18))))), [.t 6]⟩
theorem is_inflate_reader_lengths : IsFun Go.Proofs.Tryz.prog f_inflate_reader_lengths c_inflate_reader_lengths := cFunc_is (obj := false) (by kernel_rfl)

abbrev f_enc_width : Nat := 170
def c_enc_width_p1 : ACode :=
 .block 1 (.ops (O 9 (.mv 3) ::
 O 10 (.bin .add 9 (I 1)) ::
 O 3 (.mv 10) ::
 []))
def c_enc_width_p0 : ACode :=
 .seq (
 .seq (.ops (O 4 (.mv 0) ::
 O 5 (.mv 3) ::
 O 6 (.bin .mul (I 8) 5) ::
 O 7 (.bin .shr 4 6) ::
 O 8 (.bin .gtr 7 (I 0)) ::
 [])) (
 .cond 8 (.skip) (.exit 0))) (c_enc_width_p1)
def c_enc_width_p2 : ACode :=
 .seq (.ops (O 11 (.mv 3) ::
 O 2 (.mv 11) ::
 [])) (
 .ret)
def c_enc_width : AFunc := ⟨12, (
 .seq (.ops (O 2 (.mv (I 0)) ::
 [])) (
 .seq (.ops (O 3 (.mv (I 1)) ::
 [])) (
 .seq (
 .block 0 (
 .loop (c_enc_width_p0))) (c_enc_width_p2)))), [.t 2]⟩
theorem is_enc_width : IsFun Go.Proofs.Tryz.prog f_enc_width c_enc_width := cFunc_is (obj := false) (by kernel_rfl)

abbrev f_strings_Contains : Nat := 171
def c_strings_Contains_p0 : List AOper :=
 O 8 (.bin .geq 7 (I 0)) ::
 O 4 (.mv 8) ::
 []
def c_strings_Contains : AFunc := ⟨9, (
 .seq (.ops (O 4 (.mv (.c (.bool false))) ::
 [])) (
 .seq (.ops (O 5 (.mv 0) ::
 O 6 (.mv 1) ::
 C 7 214 [5, 6] ::
 c_strings_Contains_p0)) (
 .ret))), [.t 4]⟩
theorem is_strings_Contains : IsFun Go.Proofs.Tryz.prog f_strings_Contains c_strings_Contains := cFunc_is (obj := false) (by kernel_rfl)

abbrev f_path_parts : Nat := 172
def c_path_parts : AFunc := ⟨4, (
 .seq (.ops (O 1 (.box 9 0) ::
 O 2 (.mv (.c (.nilf))) ::
 [])) (
 .seq (.ops (O 3 (.mkfn 215 [1]) ::
 O 2 (.mv 3) ::
 [])) (
 .ret))), [.t 2]⟩
theorem is_path_parts : IsFun Go.Proofs.Tryz.prog f_path_parts c_path_parts := cFunc_is (obj := false) (by kernel_rfl)

abbrev f_strings_Compare : Nat := 173
def c_strings_Compare_p0 : List AOper :=
 O 4 (.mv 7) ::
 []
def c_strings_Compare : AFunc := ⟨8, (
 .seq (.ops (O 4 (.mv (I 0)) ::
 [])) (
 .seq (.ops (O 5 (.mv 0) ::
 O 6 (.mv 1) ::
 C 7 217 [5, 6] ::
 c_strings_Compare_p0)) (
 .ret))), [.t 4]⟩
theorem is_strings_Compare : IsFun Go.Proofs.Tryz.prog f_strings_Compare c_strings_Compare := cFunc_is (obj := false) (by kernel_rfl)

abbrev f_filemap_clash : Nat := 174
def c_filemap_clash_p1 : List AOper :=
 O 16 (.pick 10 (.c (.bool true)) 15) ::
 O 4 (.mv 16) ::
 []
def c_filemap_clash_p0 : List AOper :=
 OF 10 11 (.faddr 0 3) ::
 OF 10 12 (.load 1 false 11) ::
 OF 10 13 (.faddr 0 2) ::
 OF 10 14 (.load 1 false 13) ::
 CF 10 15 218 [12, 14] ::
 c_filemap_clash_p1
def c_filemap_clash : AFunc := ⟨17, (
 .seq (.ops (O 2 (.box 61 0) ::
 O 3 (.box 61 1) ::
 O 4 (.mv (.c (.bool false))) ::
 [])) (
 .seq (.ops (O 5 (.faddr 0 2) ::
 O 6 (.load 1 false 5) ::
 O 7 (.faddr 0 3) ::
 O 8 (.load 1 false 7) ::
 O 9 (.bin .eql 6 8) ::
 O 10 (.mv 9) ::
 c_filemap_clash_p0)) (
 .ret))), [.t 4]⟩
theorem is_filemap_clash : IsFun Go.Proofs.Tryz.prog f_filemap_clash c_filemap_clash := cFunc_is (obj := false) (by kernel_rfl)

abbrev f_r04_words : Nat := 175
def c_r04_words_p1 : ACode :=
 .seq (
 .block 1 (.ops (O 12 (.mv 3) ::
 O 13 (.mv 0) ::
 O 14 (.mv 4) ::
 O 15 (.idxS 13 14) ::
 O 16 (.toInt .i64 15) ::
 O 17 (.mv 0) ::
 O 18 (.mv 4) ::
 O 19 (.bin .add 18 (I 1)) ::
 O 20 (.idxS 17 19) ::
 O 21 (.toInt .i64 20) ::
 O 22 (.bin .mul 21 (I 256)) ::
 O 23 (.bin .add 16 22) ::
 O 24 (.mv 0) ::
 O 25 (.mv 4) ::
 O 26 (.bin .add 25 (I 2)) ::
 O 27 (.idxS 24 26) ::
 O 28 (.toInt .i64 27) ::
 O 29 (.bin .mul 28 (I 65536)) ::
 O 30 (.bin .add 23 29) ::
 O 31 (.mv 0) ::
 O 32 (.mv 4) ::
 O 33 (.bin .add 32 (I 3)) ::
 O 34 (.idxS 31 33) ::
 O 35 (.toInt .i64 34) ::
 O 36 (.bin .mul 35 (I 16777216)) ::
 O 37 (.bin .add 30 36) ::
 O 38 (.lit false 3 1 1 [.nat .i64 0] [(0, 1, 37)]) ::
 O 39 (.app 3 1 8 12 38) ::
 O 3 (.mv 39) ::
 []))) (.ops (O 10 (.mv 4) ::
 O 11 (.bin .add 10 (I 4)) ::
 O 4 (.mv 11) ::
 []))
def c_r04_words_p0 : ACode :=
 .seq (
 .seq (.ops (O 5 (.mv 4) ::
 O 6 (.bin .add 5 (I 3)) ::
 O 7 (.mv 0) ::
 O 8 (.lenT 7) ::
 O 9 (.bin .lss 6 8) ::
 [])) (
 .cond 9 (.skip) (.exit 0))) (c_r04_words_p1)
def c_r04_words_p2 : ACode :=
 .seq (.ops (O 40 (.mv 3) ::
 O 2 (.mv 40) ::
 [])) (
 .ret)
def c_r04_words : AFunc := ⟨41, (
 .seq (.ops (O 2 (.mv (.c (.nils))) ::
 [])) (
 .seq (.ops (O 3 (.mv (.c (.nils))) ::
 [])) (
 .seq (
 .seq (.ops (O 4 (.mv (I 0)) ::
 [])) (
 .block 0 (
 .loop (c_r04_words_p0)))) (c_r04_words_p2)))), [.t 2]⟩
theorem is_r04_words : IsFun Go.Proofs.Tryz.prog f_r04_words c_r04_words := cFunc_is (obj := false) (by kernel_rfl)

abbrev f_r04_Quarter : Nat := 176
def c_r04_Quarter_p0 : List AOper :=
 O 3 (.mv 27) ::
 []
def c_r04_Quarter_p1 : List AOper :=
 O 1 (.mv 35) ::
 []
def c_r04_Quarter_p2 : List AOper :=
 O 3 (.mv 43) ::
 []
def c_r04_Quarter_p3 : List AOper :=
 O 1 (.mv 51) ::
 []
def c_r04_Quarter : AFunc := ⟨56, (
 .seq (.ops (O 8 (.mv (I 0)) ::
 O 9 (.mv (I 0)) ::
 O 10 (.mv (I 0)) ::
 O 11 (.mv (I 0)) ::
 [])) (
 .seq (.ops (O 12 (.mv 0) ::
 O 13 (.bin .and 12 (I 4294967295)) ::
 O 0 (.mv 13) ::
 [])) (
 .seq (.ops (O 14 (.mv 1) ::
 O 15 (.bin .and 14 (I 4294967295)) ::
 O 1 (.mv 15) ::
 [])) (
 .seq (.ops (O 16 (.mv 2) ::
 O 17 (.bin .and 16 (I 4294967295)) ::
 O 2 (.mv 17) ::
 [])) (
 .seq (.ops (O 18 (.mv 3) ::
 O 19 (.bin .and 18 (I 4294967295)) ::
 O 3 (.mv 19) ::
 [])) (
 .seq (.ops (O 20 (.mv 0) ::
 O 21 (.mv 1) ::
 O 22 (.bin .add 20 21) ::
 O 23 (.bin .and 22 (I 4294967295)) ::
 O 0 (.mv 23) ::
 [])) (
 .seq (.ops (O 24 (.mv 3) ::
 O 25 (.mv 0) ::
 O 26 (.bin .xor 24 25) ::
 C 27 219 [26, (I 16)] ::
 c_r04_Quarter_p0)) (
 .seq (.ops (O 28 (.mv 2) ::
 O 29 (.mv 3) ::
 O 30 (.bin .add 28 29) ::
 O 31 (.bin .and 30 (I 4294967295)) ::
 O 2 (.mv 31) ::
 [])) (
 .seq (.ops (O 32 (.mv 1) ::
 O 33 (.mv 2) ::
 O 34 (.bin .xor 32 33) ::
 C 35 219 [34, (I 12)] ::
 c_r04_Quarter_p1)) (
 .seq (.ops (O 36 (.mv 0) ::
 O 37 (.mv 1) ::
 O 38 (.bin .add 36 37) ::
 O 39 (.bin .and 38 (I 4294967295)) ::
 O 0 (.mv 39) ::
 [])) (
 .seq (.ops (O 40 (.mv 3) ::
 O 41 (.mv 0) ::
 O 42 (.bin .xor 40 41) ::
 C 43 219 [42, (I 8)] ::
 c_r04_Quarter_p2)) (
 .seq (.ops (O 44 (.mv 2) ::
 O 45 (.mv 3) ::
 O 46 (.bin .add 44 45) ::
 O 47 (.bin .and 46 (I 4294967295)) ::
 O 2 (.mv 47) ::
 [])) (
 .seq (.ops (O 48 (.mv 1) ::
 O 49 (.mv 2) ::
 O 50 (.bin .xor 48 49) ::
 C 51 219 [50, (I 7)] ::
 c_r04_Quarter_p3)) (
 .seq (.ops (O 52 (.mv 0) ::
 O 53 (.mv 1) ::
 O 54 (.mv 2) ::
 O 55 (.mv 3) ::
 O 8 (.mv 52) ::
 O 9 (.mv 53) ::
 O 10 (.mv 54) ::
 O 11 (.mv 55) ::
 [])) (
 .ret))))))))))))))), [.t 8, .t 9, .t 10, .t 11]⟩
theorem is_r04_Quarter : IsFun Go.Proofs.Tryz.prog f_r04_Quarter c_r04_Quarter := cFunc_is (obj := false) (by kernel_rfl)

abbrev f_r10_State_take : Nat := 177
def c_r10_State_take_p0 : ACode :=
 .seq (.ops (O 4 (.mv (I 0)) ::
 [])) (
 .ret)
def c_r10_State_take_p2 : List AOper :=
 O 12 (.mv 18) ::
 O 19 (.ext 12 0) ::
 O 20 (.ext 12 1) ::
 O 5 (.mv 19) ::
 O 6 (.mv 20) ::
 []
def c_r10_State_take_p1 : ACode :=
 .seq (.ops (O 13 (.mv 0) ::
 O 14 (.nilck 13) ::
 O 15 (.faddr 0 14) ::
 O 16 (.load 1 false 15) ::
 O 17 (.mv 1) ::
 C 18 220 [16, 17] ::
 c_r10_State_take_p2)) (
 .seq (.ops (O 21 (.mv 0) ::
 O 22 (.mv 6) ::
 O 23 (.un .not 22) ::
 C 24 221 [21, 23] ::
 [])) (
 .seq (.ops (O 25 (.mv 5) ::
 O 4 (.mv 25) ::
 [])) (
 .ret)))
def c_r10_State_take : AFunc := ⟨26, (
 .seq (.ops (O 4 (.mv (I 0)) ::
 [])) (
 .seq (
 .seq (.ops (O 7 (.mv 0) ::
 O 8 (.nilck 7) ::
 O 9 (.faddr 3 8) ::
 O 10 (.load 1 false 9) ::
 O 11 (.bin .neq 10 (I 0)) ::
 [])) (
 .cond 11 (c_r10_State_take_p0) (.skip))) (c_r10_State_take_p1))), [.t 4]⟩
theorem is_r10_State_take : IsFun Go.Proofs.Tryz.prog f_r10_State_take c_r10_State_take := cFunc_is (obj := false) (by kernel_rfl)

abbrev f_r10_State_fault : Nat := 178
def c_r10_State_fault_p0 : List AOper :=
 OT 7 8 (.mv 0) ::
 OT 7 9 (.nilck 8) ::
 OT 7 10 (.faddr 3 9) ::
 OT 7 11 (.load 1 false 10) ::
 OT 7 12 (.bin .eql 11 (I 0)) ::
 O 13 (.pick 7 12 (.c (.bool false))) ::
 []
def c_r10_State_fault_p1 : ACode :=
 .ops (
 O 14 (.mv 0) ::
 O 15 (.mv 2) ::
 O 16 (.nilck 14) ::
 O 17 (.faddr 3 16) ::
 S (.store 1 17 15) ::
 [])
def c_r10_State_fault : AFunc := ⟨18, (
 .seq (.ops (O 6 (.mv 1) ::
 O 7 (.mv 6) ::
 c_r10_State_fault_p0)) (
 .cond 13 (c_r10_State_fault_p1) (.skip))), []⟩
theorem is_r10_State_fault : IsFun Go.Proofs.Tryz.prog f_r10_State_fault c_r10_State_fault := cFunc_is (obj := false) (by kernel_rfl)

abbrev f_r10_State_stored : Nat := 179
def c_r10_State_stored_p0 : List AOper :=
 O 2 (.mv 12) ::
 []
def c_r10_State_stored_p1 : List AOper :=
 O 3 (.mv 14) ::
 []
def c_r10_State_stored_p3 : List AOper :=
 O 26 (.mv 32) ::
 O 33 (.ext 26 0) ::
 O 34 (.ext 26 1) ::
 O 4 (.mv 33) ::
 O 5 (.mv 34) ::
 []
def c_r10_State_stored_p4 : ACode :=
 .ops (
 O 58 (.mv 0) ::
 O 59 (.mv 0) ::
 O 60 (.nilck 59) ::
 O 61 (.faddr 1 60) ::
 O 62 (.load 1 false 61) ::
 O 63 (.mv 4) ::
 O 64 (.app 5 1 1 62 63) ::
 O 65 (.nilck 58) ::
 O 66 (.faddr 1 65) ::
 S (.store 1 66 64) ::
 [])
def c_r10_State_stored_p2 : ACode :=
 .seq (.ops (O 27 (.mv 0) ::
 O 28 (.nilck 27) ::
 O 29 (.faddr 0 28) ::
 O 30 (.load 1 false 29) ::
 O 31 (.mv 2) ::
 C 32 223 [30, 31] ::
 c_r10_State_stored_p3)) (
 .seq (.ops (O 35 (.mv 0) ::
 O 36 (.mv 5) ::
 O 37 (.un .not 36) ::
 C 38 221 [35, 37] ::
 [])) (
 .seq (.ops (O 39 (.mv 0) ::
 O 40 (.mv 2) ::
 O 41 (.mv 0) ::
 O 42 (.nilck 41) ::
 O 43 (.faddr 2 42) ::
 O 44 (.load 1 false 43) ::
 O 45 (.mv 0) ::
 O 46 (.nilck 45) ::
 O 47 (.faddr 1 46) ::
 O 48 (.load 1 false 47) ::
 O 49 (.lenS 48) ::
 O 50 (.bin .sub 44 49) ::
 O 51 (.bin .gtr 40 50) ::
 C 52 178 [39, 51, (I 12)] ::
 [])) (
 .seq (.ops (O 53 (.mv 0) ::
 O 54 (.nilck 53) ::
 O 55 (.faddr 3 54) ::
 O 56 (.load 1 false 55) ::
 O 57 (.bin .eql 56 (I 0)) ::
 [])) (
 .cond 57 (c_r10_State_stored_p4) (.skip)))))
def c_r10_State_stored : AFunc := ⟨67, (
 .seq (.ops (O 6 (.mv 0) ::
 O 7 (.nilck 6) ::
 O 8 (.faddr 0 7) ::
 O 9 (.load 1 false 8) ::
 C 10 222 [9] ::
 [])) (
 .seq (.ops (O 11 (.mv 0) ::
 C 12 177 [11, (I 16)] ::
 c_r10_State_stored_p0)) (
 .seq (.ops (O 13 (.mv 0) ::
 C 14 177 [13, (I 16)] ::
 c_r10_State_stored_p1)) (
 .seq (.ops (O 15 (.mv 0) ::
 O 16 (.mv 2) ::
 O 17 (.mv 3) ::
 O 18 (.bin .add 16 17) ::
 O 19 (.bin .neq 18 (I 65535)) ::
 C 20 178 [15, 19, (I 2)] ::
 [])) (
 .seq (
 .seq (.ops (O 21 (.mv 0) ::
 O 22 (.nilck 21) ::
 O 23 (.faddr 3 22) ::
 O 24 (.load 1 false 23) ::
 O 25 (.bin .neq 24 (I 0)) ::
 [])) (
 .cond 25 (.ret) (.skip))) (c_r10_State_stored_p2)))))), []⟩
theorem is_r10_State_stored : IsFun Go.Proofs.Tryz.prog f_r10_State_stored c_r10_State_stored := cFunc_is (obj := false) (by kernel_rfl)

abbrev f_r09_Fixed : Nat := 180
def c_r09_Fixed_p2 : List AOper :=
 OT 13 14 (.mv 4) ::
 OT 13 15 (.bin .lss 14 (I 256)) ::
 O 16 (.pick 13 15 (.c (.bool false))) ::
 []
def c_r09_Fixed_p3 : ACode :=
 .ops (
 O 5 (.mv (I 9)) ::
 [])
def c_r09_Fixed_p5 : List AOper :=
 OT 19 20 (.mv 4) ::
 OT 19 21 (.bin .lss 20 (I 280)) ::
 O 22 (.pick 19 21 (.c (.bool false))) ::
 []
def c_r09_Fixed_p6 : ACode :=
 .ops (
 O 5 (.mv (I 7)) ::
 [])
def c_r09_Fixed_p7 : ACode :=
 .ops (
 O 23 (.mv 2) ::
 O 24 (.mv 5) ::
 O 25 (.lit false 3 1 1 [.nat .i64 0] [(0, 1, 24)]) ::
 O 26 (.app 3 1 8 23 25) ::
 O 2 (.mv 26) ::
 [])
def c_r09_Fixed_p4 : ACode :=
 .seq (
 .seq (.ops (O 17 (.mv 4) ::
 O 18 (.bin .geq 17 (I 256)) ::
 O 19 (.mv 18) ::
 c_r09_Fixed_p5)) (
 .cond 22 (c_r09_Fixed_p6) (.skip))) (c_r09_Fixed_p7)
def c_r09_Fixed_p8 : ACode :=
 .ops (
 O 9 (.mv 4) ::
 O 10 (.bin .add 9 (I 1)) ::
 O 4 (.mv 10) ::
 [])
def c_r09_Fixed_p1 : ACode :=
 .seq (
 .block 1 (
 .seq (.ops (O 5 (.mv (I 8)) ::
 [])) (
 .seq (
 .seq (.ops (O 11 (.mv 4) ::
 O 12 (.bin .geq 11 (I 144)) ::
 O 13 (.mv 12) ::
 c_r09_Fixed_p2)) (
 .cond 16 (c_r09_Fixed_p3) (.skip))) (c_r09_Fixed_p4)))) (c_r09_Fixed_p8)
def c_r09_Fixed_p0 : ACode :=
 .seq (
 .seq (.ops (O 7 (.mv 4) ::
 O 8 (.bin .lss 7 (I 288)) ::
 [])) (
 .cond 8 (.skip) (.exit 0))) (c_r09_Fixed_p1)
def c_r09_Fixed_p11 : ACode :=
 .seq (
 .block 3 (.ops (O 31 (.mv 3) ::
 O 32 (.lit false 3 1 1 [.nat .i64 0] [(0, 1, (I 5))]) ::
 O 33 (.app 3 1 8 31 32) ::
 O 3 (.mv 33) ::
 []))) (.ops (O 29 (.mv 6) ::
 O 30 (.bin .add 29 (I 1)) ::
 O 6 (.mv 30) ::
 []))
def c_r09_Fixed_p10 : ACode :=
 .seq (
 .seq (.ops (O 27 (.mv 6) ::
 O 28 (.bin .lss 27 (I 32)) ::
 [])) (
 .cond 28 (.skip) (.exit 2))) (c_r09_Fixed_p11)
def c_r09_Fixed_p12 : ACode :=
 .seq (.ops (O 34 (.mv 2) ::
 O 35 (.mv 3) ::
 O 0 (.mv 34) ::
 O 1 (.mv 35) ::
 [])) (
 .ret)
def c_r09_Fixed_p9 : ACode :=
 .seq (
 .seq (.ops (O 6 (.mv (I 0)) ::
 [])) (
 .block 2 (
 .loop (c_r09_Fixed_p10)))) (c_r09_Fixed_p12)
def c_r09_Fixed : AFunc := ⟨36, (
 .seq (.ops (O 0 (.mv (.c (.nils))) ::
 O 1 (.mv (.c (.nils))) ::
 [])) (
 .seq (.ops (O 2 (.mv (.c (.nils))) ::
 O 3 (.mv (.c (.nils))) ::
 [])) (
 .seq (
 .seq (.ops (O 4 (.mv (I 0)) ::
 [])) (
 .block 0 (
 .loop (c_r09_Fixed_p0)))) (c_r09_Fixed_p9)))), [.t 0, .t 1]⟩
theorem is_r09_Fixed : IsFun Go.Proofs.Tryz.prog f_r09_Fixed c_r09_Fixed := cFunc_is (obj := false) (by kernel_rfl)

abbrev f_r10_State_tokens : Nat := 181
def c_r10_State_tokens_p0 : List AOper :=
 O 17 (.mv 18) ::
 O 19 (.ext 17 0) ::
 O 20 (.ext 17 1) ::
 O 6 (.mv 19) ::
 O 7 (.mv 20) ::
 []
def c_r10_State_tokens_p1 : List AOper :=
 O 21 (.mv 22) ::
 O 23 (.ext 21 0) ::
 O 24 (.ext 21 1) ::
 O 8 (.mv 23) ::
 O 9 (.mv 24) ::
 []
def c_r10_State_tokens_p3 : List AOper :=
 O 10 (.alloc 256 [.nils, .nils]) ::
 O 11 (.alloc 256 [.nils, .nils]) ::
 S (.store 2 10 26) ::
 S (.store 2 11 28) ::
 []
def c_r10_State_tokens_p2 : List AOper :=
 O 27 (.mv 2) ::
 C 28 226 [27] ::
 c_r10_State_tokens_p3
def c_r10_State_tokens_p6 : List AOper :=
 O 12 (.mv 36) ::
 []
def c_r10_State_tokens_p7 : List AOper :=
 OF 42 43 (.mv 12) ::
 OF 42 44 (.bin .eql 43 (I 256)) ::
 O 45 (.pick 42 (.c (.bool true)) 44) ::
 []
def c_r10_State_tokens_p10 : ACode :=
 .ops (
 O 66 (.mv 0) ::
 O 67 (.mv 0) ::
 O 68 (.nilck 67) ::
 O 69 (.faddr 1 68) ::
 O 70 (.load 1 false 69) ::
 O 71 (.mv 12) ::
 O 72 (.toInt .u8 71) ::
 O 73 (.lit false 5 1 1 [.nat .u8 0] [(0, 1, 72)]) ::
 O 74 (.app 5 1 1 70 73) ::
 O 75 (.nilck 66) ::
 O 76 (.faddr 1 75) ::
 S (.store 1 76 74) ::
 [])
def c_r10_State_tokens_p9 : ACode :=
 .seq (.ops (O 48 (.mv 0) ::
 O 49 (.mv 0) ::
 O 50 (.nilck 49) ::
 O 51 (.faddr 2 50) ::
 O 52 (.load 1 false 51) ::
 O 53 (.mv 0) ::
 O 54 (.nilck 53) ::
 O 55 (.faddr 1 54) ::
 O 56 (.load 1 false 55) ::
 O 57 (.lenS 56) ::
 O 58 (.bin .sub 52 57) ::
 O 59 (.bin .lss 58 (I 1)) ::
 C 60 178 [48, 59, (I 12)] ::
 [])) (
 .seq (
 .seq (.ops (O 61 (.mv 0) ::
 O 62 (.nilck 61) ::
 O 63 (.faddr 3 62) ::
 O 64 (.load 1 false 63) ::
 O 65 (.bin .eql 64 (I 0)) ::
 [])) (
 .cond 65 (c_r10_State_tokens_p10) (.skip))) (.exit 1))
def c_r10_State_tokens_p12 : ACode :=
 .seq (.ops (O 79 (.mv 0) ::
 O 80 (.nilck 79) ::
 O 81 (.faddr 3 80) ::
 S (.store 1 81 (I 2)) ::
 [])) (
 .ret)
def c_r10_State_tokens_p15 : List (AOper × List Nat) :=
 (O 94 (.bin .add 86 93), []) ::
 (O 13 (.mv 94), []) ::
 []
def c_r10_State_tokens_p14 : List (AOper × List Nat) :=
 (O 82 (.mv 6), []) ::
 (O 83 (.mv 12), []) ::
 (O 84 (.bin .sub 83 (I 257)), []) ::
 (O 85 (.iadS 1 82 84), []) ::
 (O 86 (.load 1 false 85), []) ::
 (O 87 (.mv 0), []) ::
 (O 88 (.mv 7), []) ::
 (O 89 (.mv 12), []) ::
 (O 90 (.bin .sub 89 (I 257)), []) ::
 (O 91 (.iadS 1 88 90), []) ::
 (O 92 (.load 1 false 91), []) ::
 (C 93 177 [87, 92], [3, 4]) ::
 c_r10_State_tokens_p15
def c_r10_State_tokens_p14a : List AOper := fstsOf c_r10_State_tokens_p14
def c_r10_State_tokens_p16 : List AOper :=
 O 14 (.mv 97) ::
 []
def c_r10_State_tokens_p19 : List (AOper × List Nat) :=
 (O 117 (.bin .add 110 116), []) ::
 (O 15 (.mv 117), []) ::
 []
def c_r10_State_tokens_p18 : List (AOper × List Nat) :=
 (O 107 (.mv 8), []) ::
 (O 108 (.mv 14), []) ::
 (O 109 (.iadS 1 107 108), []) ::
 (O 110 (.load 1 false 109), []) ::
 (O 111 (.mv 0), []) ::
 (O 112 (.mv 9), []) ::
 (O 113 (.mv 14), []) ::
 (O 114 (.iadS 1 112 113), []) ::
 (O 115 (.load 1 false 114), []) ::
 (C 116 177 [111, 115], [2, 3]) ::
 c_r10_State_tokens_p19
def c_r10_State_tokens_p18a : List AOper := fstsOf c_r10_State_tokens_p18
def c_r10_State_tokens_p21 : List AOper :=
 OT 144 145 (.mv 0) ::
 OT 144 146 (.nilck 145) ::
 OT 144 147 (.faddr 3 146) ::
 OT 144 148 (.load 1 false 147) ::
 OT 144 149 (.bin .eql 148 (I 0)) ::
 O 150 (.pick 144 149 (.c (.bool false))) ::
 []
def c_r10_State_tokens_p22 : ACode :=
 .seq (
 .block 3 (.ops (O 153 (.mv 0) ::
 O 154 (.mv 0) ::
 O 155 (.nilck 154) ::
 O 156 (.faddr 1 155) ::
 O 157 (.load 1 false 156) ::
 O 158 (.mv 0) ::
 O 159 (.nilck 158) ::
 O 160 (.faddr 1 159) ::
 O 161 (.load 1 false 160) ::
 O 162 (.mv 0) ::
 O 163 (.nilck 162) ::
 O 164 (.faddr 1 163) ::
 O 165 (.load 1 false 164) ::
 O 166 (.lenS 165) ::
 O 167 (.mv 15) ::
 O 168 (.bin .sub 166 167) ::
 O 169 (.iadS 1 161 168) ::
 O 170 (.load 1 false 169) ::
 O 171 (.lit false 5 1 1 [.nat .u8 0] [(0, 1, 170)]) ::
 O 172 (.app 5 1 1 157 171) ::
 O 173 (.nilck 153) ::
 O 174 (.faddr 1 173) ::
 S (.store 1 174 172) ::
 []))) (.ops (O 151 (.mv 16) ::
 O 152 (.bin .add 151 (I 1)) ::
 O 16 (.mv 152) ::
 []))
def c_r10_State_tokens_p20 : ACode :=
 .seq (
 .seq (.ops (O 141 (.mv 16) ::
 O 142 (.mv 13) ::
 O 143 (.bin .lss 141 142) ::
 O 144 (.mv 143) ::
 c_r10_State_tokens_p21)) (
 .cond 150 (.skip) (.exit 2))) (c_r10_State_tokens_p22)
def c_r10_State_tokens_p17 : ACode :=
 .seq (
 .draw c_r10_State_tokens_p18a c_r10_State_tokens_p18) (
 .seq (.ops (O 118 (.mv 0) ::
 O 119 (.mv 15) ::
 O 120 (.mv 0) ::
 O 121 (.nilck 120) ::
 O 122 (.faddr 1 121) ::
 O 123 (.load 1 false 122) ::
 O 124 (.lenS 123) ::
 O 125 (.bin .gtr 119 124) ::
 C 126 178 [118, 125, (I 2)] ::
 [])) (
 .seq (.ops (O 127 (.mv 0) ::
 O 128 (.mv 13) ::
 O 129 (.mv 0) ::
 O 130 (.nilck 129) ::
 O 131 (.faddr 2 130) ::
 O 132 (.load 1 false 131) ::
 O 133 (.mv 0) ::
 O 134 (.nilck 133) ::
 O 135 (.faddr 1 134) ::
 O 136 (.load 1 false 135) ::
 O 137 (.lenS 136) ::
 O 138 (.bin .sub 132 137) ::
 O 139 (.bin .gtr 128 138) ::
 C 140 178 [127, 139, (I 12)] ::
 [])) (
 .seq (.ops (O 16 (.mv (I 0)) ::
 [])) (
 .block 2 (
 .loop (c_r10_State_tokens_p20))))))
def c_r10_State_tokens_p13 : ACode :=
 .seq (
 .draw c_r10_State_tokens_p14a c_r10_State_tokens_p14) (
 .seq (.ops (O 95 (.mv 0) ::
 O 96 (.load 2 true 11) ::
 C 97 227 [95, 96] ::
 c_r10_State_tokens_p16)) (
 .seq (.ops (O 98 (.mv 0) ::
 O 99 (.mv 14) ::
 O 100 (.bin .gtr 99 (I 29)) ::
 C 101 178 [98, 100, (I 2)] ::
 [])) (
 .seq (
 .seq (.ops (O 102 (.mv 0) ::
 O 103 (.nilck 102) ::
 O 104 (.faddr 3 103) ::
 O 105 (.load 1 false 104) ::
 O 106 (.bin .neq 105 (I 0)) ::
 [])) (
 .cond 106 (.ret) (.skip))) (c_r10_State_tokens_p17))))
def c_r10_State_tokens_p11 : ACode :=
 .seq (
 .seq (.ops (O 77 (.mv 12) ::
 O 78 (.bin .gtr 77 (I 285)) ::
 [])) (
 .cond 78 (c_r10_State_tokens_p12) (.skip))) (c_r10_State_tokens_p13)
def c_r10_State_tokens_p8 : ACode :=
 .seq (
 .seq (.ops (O 46 (.mv 12) ::
 O 47 (.bin .lss 46 (I 256)) ::
 [])) (
 .cond 47 (c_r10_State_tokens_p9) (.skip))) (c_r10_State_tokens_p11)
def c_r10_State_tokens_p5 : ACode :=
 .block 1 (
 .seq (.ops (O 34 (.mv 0) ::
 O 35 (.load 2 true 10) ::
 C 36 227 [34, 35] ::
 c_r10_State_tokens_p6)) (
 .seq (
 .seq (.ops (O 37 (.mv 0) ::
 O 38 (.nilck 37) ::
 O 39 (.faddr 3 38) ::
 O 40 (.load 1 false 39) ::
 O 41 (.bin .neq 40 (I 0)) ::
 O 42 (.mv 41) ::
 c_r10_State_tokens_p7)) (
 .cond 45 (.ret) (.skip))) (c_r10_State_tokens_p8)))
def c_r10_State_tokens_p4 : ACode :=
 .seq (
 .seq (.ops (O 29 (.mv 0) ::
 O 30 (.nilck 29) ::
 O 31 (.faddr 3 30) ::
 O 32 (.load 1 false 31) ::
 O 33 (.bin .eql 32 (I 0)) ::
 [])) (
 .cond 33 (.skip) (.exit 0))) (c_r10_State_tokens_p5)
def c_r10_State_tokens : AFunc := ⟨175, (
 .seq (.ops (C 18 224 [] ::
 c_r10_State_tokens_p0)) (
 .seq (.ops (C 22 225 [] ::
 c_r10_State_tokens_p1)) (
 .seq (.ops (O 25 (.mv 1) ::
 C 26 226 [25] ::
 c_r10_State_tokens_p2)) (
 .block 0 (
 .loop (c_r10_State_tokens_p4)))))), []⟩
theorem is_r10_State_tokens : IsFun Go.Proofs.Tryz.prog f_r10_State_tokens c_r10_State_tokens := cFunc_is (obj := false) (by kernel_rfl)

abbrev f_r10_State_told : Nat := 182
def c_r10_State_told_p0 : List AOper :=
 O 14 (.bin .add (I 257) 13) ::
 O 4 (.mv 14) ::
 []
def c_r10_State_told_p1 : List AOper :=
 O 17 (.bin .add (I 1) 16) ::
 O 5 (.mv 17) ::
 []
def c_r10_State_told_p2 : List AOper :=
 O 20 (.bin .add (I 4) 19) ::
 O 6 (.mv 20) ::
 []
def c_r10_State_told_p3 : List AOper :=
 OF 24 25 (.mv 5) ::
 OF 24 26 (.bin .gtr 25 (I 30)) ::
 O 27 (.pick 24 (.c (.bool true)) 26) ::
 C 28 178 [21, 27, (I 2)] ::
 []
def c_r10_State_told_p5 : ACode :=
 .seq (
 .block 1 (.ops (O 34 (.mv 8) ::
 O 35 (.lit false 3 1 1 [.nat .i64 0] [(0, 1, (I 0))]) ::
 O 36 (.app 3 1 8 34 35) ::
 O 8 (.mv 36) ::
 []))) (.ops (O 32 (.mv 9) ::
 O 33 (.bin .add 32 (I 1)) ::
 O 9 (.mv 33) ::
 []))
def c_r10_State_told_p4 : ACode :=
 .seq (
 .seq (.ops (O 30 (.mv 9) ::
 O 31 (.bin .lss 30 (I 19)) ::
 [])) (
 .cond 31 (.skip) (.exit 0))) (c_r10_State_told_p5)
def c_r10_State_told_p8 : List AOper :=
 OT 40 41 (.mv 10) ::
 OT 40 42 (.bin .lss 41 (I 19)) ::
 O 43 (.pick 40 42 (.c (.bool false))) ::
 []
def c_r10_State_told_p11 : List (AOper × List Nat) :=
 (O 53 (.iadS 1 46 50), []) ::
 (S (.store 1 53 52), []) ::
 []
def c_r10_State_told_p10 : List (AOper × List Nat) :=
 (O 46 (.mv 8), []) ::
 (O 47 (.mv 7), []) ::
 (O 48 (.mv 10), []) ::
 (O 49 (.iadS 1 47 48), []) ::
 (O 50 (.load 1 false 49), []) ::
 (O 51 (.mv 0), []) ::
 (C 52 177 [51, (I 3)], [3, 4]) ::
 c_r10_State_told_p11
def c_r10_State_told_p10a : List AOper := fstsOf c_r10_State_told_p10
def c_r10_State_told_p9 : ACode :=
 .seq (
 .block 3 (
 .draw c_r10_State_told_p10a c_r10_State_told_p10)) (.ops (O 44 (.mv 10) ::
 O 45 (.bin .add 44 (I 1)) ::
 O 10 (.mv 45) ::
 []))
def c_r10_State_told_p7 : ACode :=
 .seq (
 .seq (.ops (O 37 (.mv 10) ::
 O 38 (.mv 6) ::
 O 39 (.bin .lss 37 38) ::
 O 40 (.mv 39) ::
 c_r10_State_told_p8)) (
 .cond 43 (.skip) (.exit 2))) (c_r10_State_told_p9)
def c_r10_State_told_p13 : List AOper :=
 O 57 (.bin .neq 56 (I 0)) ::
 C 58 178 [54, 57, (I 2)] ::
 []
def c_r10_State_told_p14 : List AOper :=
 O 11 (.mv 64) ::
 []
def c_r10_State_told_p15 : ACode :=
 .seq (.ops (O 2 (.mv (.c (.nils))) ::
 O 3 (.mv (.c (.nils))) ::
 [])) (
 .ret)
def c_r10_State_told_p20 : List AOper :=
 OF 82 87 (.bin .neq 86 (I 0)) ::
 O 88 (.pick 82 (.c (.bool true)) 87) ::
 C 89 178 [70, 88, (I 2)] ::
 []
def c_r10_State_told_p19 : List AOper :=
 OF 82 83 (.mv 11) ::
 OF 82 84 (.mv 4) ::
 OF 82 85 (.sliceS 1 83 (some 84) none) ::
 CF 82 86 228 [85] ::
 c_r10_State_told_p20
def c_r10_State_told_p18 : List AOper :=
 OF 75 80 (.bin .neq 79 (I 0)) ::
 O 81 (.pick 75 (.c (.bool true)) 80) ::
 O 82 (.mv 81) ::
 c_r10_State_told_p19
def c_r10_State_told_p17 : List AOper :=
 OF 75 76 (.mv 11) ::
 OF 75 77 (.mv 4) ::
 OF 75 78 (.sliceS 1 76 none (some 77)) ::
 CF 75 79 228 [78] ::
 c_r10_State_told_p18
def c_r10_State_told_p16 : ACode :=
 .seq (.ops (O 70 (.mv 0) ::
 O 71 (.mv 11) ::
 O 72 (.iadS 1 71 (I 256)) ::
 O 73 (.load 1 false 72) ::
 O 74 (.bin .eql 73 (I 0)) ::
 O 75 (.mv 74) ::
 c_r10_State_told_p17)) (
 .seq (.ops (O 90 (.mv 11) ::
 O 91 (.mv 4) ::
 O 92 (.sliceS 1 90 none (some 91)) ::
 O 93 (.mv 11) ::
 O 94 (.mv 4) ::
 O 95 (.sliceS 1 93 (some 94) none) ::
 O 2 (.mv 92) ::
 O 3 (.mv 95) ::
 [])) (
 .ret))
def c_r10_State_told_p12 : ACode :=
 .seq (.ops (O 54 (.mv 0) ::
 O 55 (.mv 8) ::
 C 56 228 [55] ::
 c_r10_State_told_p13)) (
 .seq (.ops (O 59 (.mv 0) ::
 O 60 (.mv 8) ::
 O 61 (.mv 4) ::
 O 62 (.mv 5) ::
 O 63 (.bin .add 61 62) ::
 C 64 229 [59, 60, 63] ::
 c_r10_State_told_p14)) (
 .seq (
 .seq (.ops (O 65 (.mv 0) ::
 O 66 (.nilck 65) ::
 O 67 (.faddr 3 66) ::
 O 68 (.load 1 false 67) ::
 O 69 (.bin .neq 68 (I 0)) ::
 [])) (
 .cond 69 (c_r10_State_told_p15) (.skip))) (c_r10_State_told_p16)))
def c_r10_State_told_p6 : ACode :=
 .seq (
 .seq (.ops (O 10 (.mv (I 0)) ::
 [])) (
 .block 2 (
 .loop (c_r10_State_told_p7)))) (c_r10_State_told_p12)
def c_r10_State_told : AFunc := ⟨96, (
 .seq (.ops (O 2 (.mv (.c (.nils))) ::
 O 3 (.mv (.c (.nils))) ::
 [])) (
 .seq (.ops (O 12 (.mv 0) ::
 C 13 177 [12, (I 5)] ::
 c_r10_State_told_p0)) (
 .seq (.ops (O 15 (.mv 0) ::
 C 16 177 [15, (I 5)] ::
 c_r10_State_told_p1)) (
 .seq (.ops (O 18 (.mv 0) ::
 C 19 177 [18, (I 4)] ::
 c_r10_State_told_p2)) (
 .seq (.ops (O 21 (.mv 0) ::
 O 22 (.mv 4) ::
 O 23 (.bin .gtr 22 (I 286)) ::
 O 24 (.mv 23) ::
 c_r10_State_told_p3)) (
 .seq (.ops (O 29 (.lit false 3 19 1 [.nat .i64 0] [(0, 1, (I 16)), (1, 1, (I 17)), (2, 1, (I 18)), (3, 1, (I 0)), (4, 1, (I 8)), (5, 1, (I 7)), (6, 1, (I 9)), (7, 1, (I 6)), (8, 1, (I 10)), (9, 1, (I 5)), (10, 1, (I 11)), (11, 1, (I 4)), (12, 1, (I 12)), (13, 1, (I 3)), (14, 1, (I 13)), (15, 1, (I 2)), (16, 1, (I 14)), (17, 1, (I 1)), (18, 1, (I 15))]) ::
 O 7 (.mv 29) ::
 [])) (
 .seq (.ops (O 8 (.mv (.c (.nils))) ::
 [])) (
 .seq (
 .seq (.ops (O 9 (.mv (I 0)) ::
 [])) (
 .block 0 (
 .loop (c_r10_State_told_p4)))) (c_r10_State_told_p6))))))))), [.t 2, .t 3]⟩
theorem is_r10_State_told : IsFun Go.Proofs.Tryz.prog f_r10_State_told c_r10_State_told := cFunc_is (obj := false) (by kernel_rfl)

abbrev f_r01_Put : Nat := 183
def c_r01_Put_p0 : ACode :=
 .ops (
 O 0 (.mv (I 0)) ::
 [])
def c_r01_Put_p2 : ACode :=
 .ops (
 O 0 (.mv (I 72057594037927935)) ::
 [])
def c_r01_Put_p5 : List AOper :=
 O 2 (.mv 12) ::
 []
def c_r01_Put_p4 : ACode :=
 .seq (.ops (O 11 (.mv 0) ::
 C 12 152 [11] ::
 c_r01_Put_p5)) (
 .ret)
def c_r01_Put_p8 : List AOper :=
 OT 15 16 (.mv 0) ::
 OT 15 17 (.mv 4) ::
 OT 15 18 (.bin .geq 16 17) ::
 O 19 (.pick 15 18 (.c (.bool false))) ::
 []
def c_r01_Put_p9 : ACode :=
 .seq (
 .block 1 (.ops (O 22 (.mv 3) ::
 O 23 (.bin .add 22 (I 1)) ::
 O 3 (.mv 23) ::
 []))) (.ops (O 20 (.mv 4) ::
 O 21 (.bin .mul 20 (I 256)) ::
 O 4 (.mv 21) ::
 []))
def c_r01_Put_p7 : ACode :=
 .seq (
 .seq (.ops (O 13 (.mv 3) ::
 O 14 (.bin .lss 13 (I 7)) ::
 O 15 (.mv 14) ::
 c_r01_Put_p8)) (
 .cond 19 (.skip) (.exit 0))) (c_r01_Put_p9)
def c_r01_Put_p12 : List AOper :=
 O 30 (.bin .add 26 29) ::
 O 2 (.mv 30) ::
 []
def c_r01_Put_p11 : List AOper :=
 O 27 (.mv 0) ::
 O 28 (.mv 3) ::
 C 29 90 [27, 28] ::
 c_r01_Put_p12
def c_r01_Put_p10 : ACode :=
 .seq (.ops (O 24 (.mv 3) ::
 O 25 (.bin .add (I 247) 24) ::
 C 26 152 [25] ::
 c_r01_Put_p11)) (
 .ret)
def c_r01_Put_p6 : ACode :=
 .seq (.ops (O 3 (.mv (I 1)) ::
 [])) (
 .seq (
 .seq (.ops (O 4 (.mv (I 256)) ::
 [])) (
 .block 0 (
 .loop (c_r01_Put_p7)))) (c_r01_Put_p10))
def c_r01_Put_p3 : ACode :=
 .seq (
 .seq (.ops (O 9 (.mv 0) ::
 O 10 (.bin .lss 9 (I 248)) ::
 [])) (
 .cond 10 (c_r01_Put_p4) (.skip))) (c_r01_Put_p6)
def c_r01_Put_p1 : ACode :=
 .seq (
 .seq (.ops (O 7 (.mv 0) ::
 O 8 (.bin .gtr 7 (I 72057594037927935)) ::
 [])) (
 .cond 8 (c_r01_Put_p2) (.skip))) (c_r01_Put_p3)
def c_r01_Put : AFunc := ⟨31, (
 .seq (.ops (O 2 (.mv (.c (.str (bytesOf [])))) ::
 [])) (
 .seq (
 .seq (.ops (O 5 (.mv 0) ::
 O 6 (.bin .lss 5 (I 0)) ::
 [])) (
 .cond 6 (c_r01_Put_p0) (.skip))) (c_r01_Put_p1))), [.t 2]⟩
theorem is_r01_Put : IsFun Go.Proofs.Tryz.prog f_r01_Put c_r01_Put := cFunc_is (obj := false) (by kernel_rfl)

abbrev f_r11_Split : Nat := 184
def c_r11_Split_p2 : ACode :=
 .seq (.ops (O 16 (.mv 3) ::
 O 17 (.mv 4) ::
 O 18 (.lit false 9 1 1 [.str (bytesOf [])] [(0, 1, 17)]) ::
 O 19 (.app 9 1 16 16 18) ::
 O 3 (.mv 19) ::
 [])) (.ops (O 4 (.mv (.c (.str (bytesOf [])))) ::
 []))
def c_r11_Split_p3 : ACode :=
 .ops (
 O 20 (.mv 4) ::
 O 21 (.mv 0) ::
 O 22 (.mv 5) ::
 O 23 (.mv 5) ::
 O 24 (.bin .add 23 (I 1)) ::
 O 25 (.sliceT 21 (some 22) (some 24)) ::
 O 26 (.bin .add 20 25) ::
 O 4 (.mv 26) ::
 [])
def c_r11_Split_p4 : ACode :=
 .ops (
 O 10 (.mv 5) ::
 O 11 (.bin .add 10 (I 1)) ::
 O 5 (.mv 11) ::
 [])
def c_r11_Split_p1 : ACode :=
 .seq (
 .block 1 (
 .seq (.ops (O 12 (.mv 0) ::
 O 13 (.mv 5) ::
 O 14 (.idxS 12 13) ::
 O 15 (.bin .eql 14 (U8 47)) ::
 [])) (
 .cond 15 (c_r11_Split_p2) (c_r11_Split_p3)))) (c_r11_Split_p4)
def c_r11_Split_p0 : ACode :=
 .seq (
 .seq (.ops (O 6 (.mv 5) ::
 O 7 (.mv 0) ::
 O 8 (.lenT 7) ::
 O 9 (.bin .lss 6 8) ::
 [])) (
 .cond 9 (.skip) (.exit 0))) (c_r11_Split_p1)
def c_r11_Split_p5 : ACode :=
 .seq (.ops (O 27 (.mv 3) ::
 O 28 (.mv 4) ::
 O 29 (.lit false 9 1 1 [.str (bytesOf [])] [(0, 1, 28)]) ::
 O 30 (.app 9 1 16 27 29) ::
 O 2 (.mv 30) ::
 [])) (
 .ret)
def c_r11_Split : AFunc := ⟨31, (
 .seq (.ops (O 2 (.mv (.c (.nils))) ::
 [])) (
 .seq (.ops (O 3 (.mv (.c (.nils))) ::
 [])) (
 .seq (.ops (O 4 (.mv (.c (.str (bytesOf [])))) ::
 [])) (
 .seq (
 .seq (.ops (O 5 (.mv (I 0)) ::
 [])) (
 .block 0 (
 .loop (c_r11_Split_p0)))) (c_r11_Split_p5))))), [.t 2]⟩
theorem is_r11_Split : IsFun Go.Proofs.Tryz.prog f_r11_Split c_r11_Split := cFunc_is (obj := false) (by kernel_rfl)

abbrev f_r11_Under : Nat := 185
def c_r11_Under_p1 : List AOper :=
 OT 18 19 (.mv 0) ::
 OT 18 20 (.mv 1) ::
 OT 18 21 (.lenT 20) ::
 OT 18 22 (.idxS 19 21) ::
 OT 18 23 (.bin .eql 22 (U8 47)) ::
 O 24 (.pick 18 23 (.c (.bool false))) ::
 O 4 (.mv 24) ::
 []
def c_r11_Under_p0 : List AOper :=
 OT 10 11 (.mv 0) ::
 OT 10 12 (.mv 1) ::
 OT 10 13 (.lenT 12) ::
 OT 10 14 (.sliceT 11 none (some 13)) ::
 OT 10 15 (.mv 1) ::
 OT 10 16 (.bin .eql 14 15) ::
 O 17 (.pick 10 16 (.c (.bool false))) ::
 O 18 (.mv 17) ::
 c_r11_Under_p1
def c_r11_Under : AFunc := ⟨25, (
 .seq (.ops (O 4 (.mv (.c (.bool false))) ::
 [])) (
 .seq (.ops (O 5 (.mv 0) ::
 O 6 (.lenT 5) ::
 O 7 (.mv 1) ::
 O 8 (.lenT 7) ::
 O 9 (.bin .gtr 6 8) ::
 O 10 (.mv 9) ::
 c_r11_Under_p0)) (
 .ret))), [.t 4]⟩
theorem is_r11_Under : IsFun Go.Proofs.Tryz.prog f_r11_Under c_r11_Under := cFunc_is (obj := false) (by kernel_rfl)

abbrev f_sha_mix : Nat := 186
def c_sha_mix_p0 : List AOper :=
 O 16 (.mv (I 0)) ::
 []
def c_sha_mix_p7 : List (AOper × List Nat) :=
 (O 48 (.bin .add 45 47), []) ::
 (O 49 (.mv 7), []) ::
 (O 50 (.bin .add 48 49), []) ::
 (O 10 (.mv 50), []) ::
 []
def c_sha_mix_p6 : List (AOper × List Nat) :=
 (O 33 (.bin .xor 30 32), []) ::
 (O 34 (.bin .add 25 33), []) ::
 (O 35 (.mv 9), []) ::
 (O 36 (.iadA 8 1 5 (I 5)), []) ::
 (O 37 (.load 1 false 36), [3, 5, 8]) ::
 (O 38 (.bin .and 35 37), []) ::
 (O 39 (.mv 9), []) ::
 (O 40 (.un .xor 39), []) ::
 (O 41 (.iadA 8 1 5 (I 6)), []) ::
 (O 42 (.load 1 false 41), [3, 5, 8]) ::
 (O 43 (.bin .and 40 42), []) ::
 (O 44 (.bin .xor 38 43), []) ::
 (O 45 (.bin .add 34 44), []) ::
 (O 46 (.mv 6), []) ::
 (C 47 232 [46], [1, 13, 18]) ::
 c_sha_mix_p7
def c_sha_mix_p5 : List (AOper × List Nat) :=
 (O 30 (.bin .xor 27 29), []) ::
 (O 31 (.mv 9), []) ::
 (C 32 231 [31, (I 25)], [1]) ::
 c_sha_mix_p6
def c_sha_mix_p4 : List (AOper × List Nat) :=
 (O 28 (.mv 9), []) ::
 (C 29 231 [28, (I 11)], [1]) ::
 c_sha_mix_p5
def c_sha_mix_p3 : List (AOper × List Nat) :=
 (O 24 (.iadA 8 1 5 (I 7)), []) ::
 (O 25 (.load 1 false 24), []) ::
 (O 26 (.mv 9), []) ::
 (C 27 231 [26, (I 6)], [1]) ::
 c_sha_mix_p4
def c_sha_mix_p3a : List AOper := fstsOf c_sha_mix_p3
def c_sha_mix_p11 : List (AOper × List Nat) :=
 (O 58 (.bin .xor 55 57), []) ::
 (O 59 (.mv 8), []) ::
 (O 60 (.iadA 8 1 5 (I 1)), []) ::
 (O 61 (.load 1 false 60), [1, 3, 6]) ::
 (O 62 (.bin .and 59 61), []) ::
 (O 63 (.mv 8), []) ::
 (O 64 (.iadA 8 1 5 (I 2)), []) ::
 (O 65 (.load 1 false 64), [1, 3, 6]) ::
 (O 66 (.bin .and 63 65), []) ::
 (O 67 (.bin .xor 62 66), []) ::
 (O 68 (.iadA 8 1 5 (I 1)), []) ::
 (O 69 (.load 1 false 68), [1, 3, 6]) ::
 (O 70 (.iadA 8 1 5 (I 2)), []) ::
 (O 71 (.load 1 false 70), [1, 3, 6]) ::
 (O 72 (.bin .and 69 71), []) ::
 (O 73 (.bin .xor 67 72), []) ::
 (O 74 (.bin .add 58 73), []) ::
 (O 11 (.mv 74), []) ::
 []
def c_sha_mix_p10 : List (AOper × List Nat) :=
 (O 55 (.bin .xor 52 54), []) ::
 (O 56 (.mv 8), []) ::
 (C 57 231 [56, (I 22)], []) ::
 c_sha_mix_p11
def c_sha_mix_p9 : List (AOper × List Nat) :=
 (O 53 (.mv 8), []) ::
 (C 54 231 [53, (I 13)], []) ::
 c_sha_mix_p10
def c_sha_mix_p8 : List (AOper × List Nat) :=
 (O 51 (.mv 8), []) ::
 (C 52 231 [51, (I 2)], []) ::
 c_sha_mix_p9
def c_sha_mix_p8a : List AOper := fstsOf c_sha_mix_p8
def c_sha_mix_p2 : ACode :=
 .seq (
 .block 1 (
 .seq (.ops (O 18 (.mv 16) ::
 O 19 (.idxA 64 1 false 15 16) ::
 O 6 (.mv 18) ::
 O 7 (.mv 19) ::
 [])) (
 .seq (.ops (O 20 (.iadA 8 1 5 (I 0)) ::
 O 21 (.load 1 false 20) ::
 O 22 (.iadA 8 1 5 (I 4)) ::
 O 23 (.load 1 false 22) ::
 O 8 (.mv 21) ::
 O 9 (.mv 23) ::
 [])) (
 .seq (
 .draw c_sha_mix_p3a c_sha_mix_p3) (
 .seq (
 .draw c_sha_mix_p8a c_sha_mix_p8) (
 .seq (.ops (O 75 (.slarr 8 1 5 (some (I 1)) none) ::
 O 76 (.slarr 8 1 5 none (some (I 7))) ::
 O 77 (.cpy 1 75 76) ::
 [])) (
 .seq (.ops (O 78 (.iadA 8 1 5 (I 4)) ::
 O 79 (.load 1 false 78) ::
 O 80 (.mv 10) ::
 O 81 (.bin .add 79 80) ::
 O 82 (.iadA 8 1 5 (I 4)) ::
 S (.store 1 82 81) ::
 [])) (.ops (O 83 (.mv 10) ::
 O 84 (.mv 11) ::
 O 85 (.bin .add 83 84) ::
 O 86 (.iadA 8 1 5 (I 0)) ::
 S (.store 1 86 85) ::
 []))))))))) (.ops (O 87 (.bin .add 16 (I 1)) ::
 O 16 (.mv 87) ::
 []))
def c_sha_mix_p1 : ACode :=
 .seq (.ops (O 17 (.bin .lss 16 (I 64)) ::
 [])) (
 .seq (
 .cond 17 (.skip) (.exit 0)) (c_sha_mix_p2))
def c_sha_mix_p14 : ACode :=
 .seq (
 .block 3 (
 .seq (.ops (O 90 (.mv 88) ::
 O 12 (.mv 90) ::
 [])) (.ops (O 91 (.mv 12) ::
 O 92 (.iadA 8 1 2 91) ::
 O 93 (.load 1 false 92) ::
 O 94 (.mv 12) ::
 O 95 (.iadA 8 1 5 94) ::
 O 96 (.load 1 false 95) ::
 O 97 (.bin .add 93 96) ::
 O 98 (.iadA 8 1 2 91) ::
 S (.store 1 98 97) ::
 [])))) (.ops (O 99 (.bin .add 88 (I 1)) ::
 O 88 (.mv 99) ::
 []))
def c_sha_mix_p13 : ACode :=
 .seq (.ops (O 89 (.bin .lss 88 (I 8)) ::
 [])) (
 .seq (
 .cond 89 (.skip) (.exit 2)) (c_sha_mix_p14))
def c_sha_mix_p15 : ACode :=
 .seq (.ops (O 100 (.load 8 true 2) ::
 S (.store 8 4 100) ::
 [])) (
 .ret)
def c_sha_mix_p12 : ACode :=
 .seq (
 .seq (.ops (O 88 (.mv (I 0)) ::
 [])) (
 .block 2 (
 .loop (c_sha_mix_p13)))) (c_sha_mix_p15)
def c_sha_mix : AFunc := ⟨101, (
 .seq (.ops (O 2 (.box 218 0) ::
 O 4 (.alloc 218 (List.replicate 8 (.nat .u32 0))) ::
 [])) (
 .seq (.ops (O 13 (.load 8 true 2) ::
 O 5 (.alloc 218 (List.replicate 8 (.nat .u32 0))) ::
 S (.store 8 5 13) ::
 [])) (
 .seq (
 .seq (.ops (O 14 (.mv 1) ::
 C 15 230 [14] ::
 c_sha_mix_p0)) (
 .block 0 (
 .loop (c_sha_mix_p1)))) (c_sha_mix_p12)))), [.cell 4 8 true]⟩
theorem is_sha_mix : IsFun Go.Proofs.Tryz.prog f_sha_mix c_sha_mix := cFunc_is (obj := false) (by kernel_rfl)

abbrev f_merkle_Width : Nat := 187
def c_merkle_Width : AFunc := ⟨6, (
 .seq (.ops (O 2 (.mv (I 0)) ::
 [])) (
 .seq (.ops (O 3 (.mv 0) ::
 O 4 (.mm true 3 [(I 1)]) ::
 O 5 (.mm false 4 [(I 32)]) ::
 O 2 (.mv 5) ::
 [])) (
 .ret))), [.t 2]⟩
theorem is_merkle_Width : IsFun Go.Proofs.Tryz.prog f_merkle_Width c_merkle_Width := cFunc_is (obj := false) (by kernel_rfl)

abbrev f_slices_Clone_api_File : Nat := 190
def c_slices_Clone_api_File_p0 : ACode :=
 .seq (.ops (O 2 (.mv (.c (.nils))) ::
 [])) (
 .ret)
def c_slices_Clone_api_File_p1 : ACode :=
 .seq (.ops (O 5 (.lit false 61 0 2 [.str (bytesOf []), .str (bytesOf [])] []) ::
 O 6 (.mv 0) ::
 O 7 (.app 61 2 32 5 6) ::
 O 2 (.mv 7) ::
 [])) (
 .ret)
def c_slices_Clone_api_File : AFunc := ⟨8, (
 .seq (.ops (O 2 (.mv (.c (.nils))) ::
 [])) (
 .seq (
 .seq (.ops (O 3 (.mv 0) ::
 O 4 (.eqn .slice .eql 3 (.c (.nils))) ::
 [])) (
 .cond 4 (c_slices_Clone_api_File_p0) (.skip))) (c_slices_Clone_api_File_p1))), [.t 2]⟩
theorem is_slices_Clone_api_File : IsFun Go.Proofs.Tryz.prog f_slices_Clone_api_File c_slices_Clone_api_File := cFunc_is (obj := false) (by kernel_rfl)

abbrev f_slices_SortStableFunc_api_File : Nat := 191
def c_slices_SortStableFunc_api_File : AFunc := ⟨9, (.ops (O 4 (.mv 0) ::
 O 5 (.mv 0) ::
 O 6 (.lenS 5) ::
 O 7 (.mv 1) ::
 C 8 233 [4, 6, 7] ::
 [])), []⟩
theorem is_slices_SortStableFunc_api_File : IsFun Go.Proofs.Tryz.prog f_slices_SortStableFunc_api_File c_slices_SortStableFunc_api_File := cFunc_is (obj := false) (by kernel_rfl)

abbrev f_filemap_Sort_fn1 : Nat := 192
def c_filemap_Sort_fn1_p0 : List AOper :=
 O 4 (.mv 9) ::
 []
def c_filemap_Sort_fn1 : AFunc := ⟨10, (
 .seq (.ops (O 2 (.box 61 0) ::
 O 3 (.box 61 1) ::
 O 4 (.mv (I 0)) ::
 [])) (
 .seq (.ops (O 5 (.faddr 0 2) ::
 O 6 (.load 1 false 5) ::
 O 7 (.faddr 0 3) ::
 O 8 (.load 1 false 7) ::
 C 9 121 [6, 8] ::
 c_filemap_Sort_fn1_p0)) (
 .ret))), [.t 4]⟩
theorem is_filemap_Sort_fn1 : IsFun Go.Proofs.Tryz.prog f_filemap_Sort_fn1 c_filemap_Sort_fn1 := cFunc_is (obj := false) (by kernel_rfl)

abbrev f_flate_head : Nat := 193
def c_flate_head_p0 : ACode :=
 .ops (
 O 6 (.mv (I 1)) ::
 [])
def c_flate_head_p1 : ACode :=
 .seq (.ops (O 8 (.mv 0) ::
 O 9 (.mv 6) ::
 C 10 195 [8, 9, (I 1)] ::
 [])) (.ops (O 11 (.mv 0) ::
 O 12 (.mv 2) ::
 C 13 195 [11, 12, (I 2)] ::
 []))
def c_flate_head : AFunc := ⟨14, (
 .seq (.ops (O 6 (.mv (I 0)) ::
 [])) (
 .seq (
 .seq (.ops (O 7 (.mv 1) ::
 [])) (
 .cond 7 (c_flate_head_p0) (.skip))) (c_flate_head_p1))), []⟩
theorem is_flate_head : IsFun Go.Proofs.Tryz.prog f_flate_head c_flate_head := cFunc_is (obj := false) (by kernel_rfl)

abbrev f_bits_Writer_Align : Nat := 194
def c_bits_Writer_Align_p0 : ACode :=
 .ops (
 O 4 (.mv 0) ::
 O 5 (.mv 0) ::
 O 6 (.nilck 5) ::
 O 7 (.faddr 0 6) ::
 O 8 (.load 1 false 7) ::
 O 9 (.lenS 8) ::
 O 10 (.bin .mul (I 8) 9) ::
 O 11 (.nilck 4) ::
 O 12 (.faddr 1 11) ::
 S (.store 1 12 10) ::
 [])
def c_bits_Writer_Align : AFunc := ⟨13, (
 .seq (.ops (O 2 (.mv 0) ::
 O 3 (.eqn .ptr .neq 2 (.c (.nilp))) ::
 [])) (
 .cond 3 (c_bits_Writer_Align_p0) (.skip))), []⟩
theorem is_bits_Writer_Align : IsFun Go.Proofs.Tryz.prog f_bits_Writer_Align c_bits_Writer_Align := cFunc_is (obj := false) (by kernel_rfl)

abbrev f_bits_Writer_Put : Nat := 195
def c_bits_Writer_Put_p2 : ACode :=
 .seq (
 .block 1 (
 .seq (.ops (O 14 (.mv 12) ::
 O 6 (.mv 14) ::
 [])) (.ops (O 15 (.mv 0) ::
 O 16 (.mv 1) ::
 O 17 (.mv 6) ::
 O 18 (.bin .shr 16 17) ::
 O 19 (.bin .and 18 (I 1)) ::
 C 20 234 [15, 19] ::
 [])))) (.ops (O 21 (.bin .add 12 (I 1)) ::
 O 12 (.mv 21) ::
 []))
def c_bits_Writer_Put_p1 : ACode :=
 .seq (.ops (O 13 (.bin .lss 12 11) ::
 [])) (
 .seq (
 .cond 13 (.skip) (.exit 0)) (c_bits_Writer_Put_p2))
def c_bits_Writer_Put_p0 : ACode :=
 .seq (.ops (O 9 (.mv 2) ::
 O 10 (.mm true 9 [(I 0)]) ::
 O 11 (.mm false 10 [(I 62)]) ::
 O 12 (.mv (I 0)) ::
 [])) (
 .block 0 (
 .loop (c_bits_Writer_Put_p1)))
def c_bits_Writer_Put : AFunc := ⟨22, (
 .seq (
 .seq (.ops (O 7 (.mv 0) ::
 O 8 (.eqn .ptr .eql 7 (.c (.nilp))) ::
 [])) (
 .cond 8 (.ret) (.skip))) (c_bits_Writer_Put_p0)), []⟩
theorem is_bits_Writer_Put : IsFun Go.Proofs.Tryz.prog f_bits_Writer_Put c_bits_Writer_Put := cFunc_is (obj := false) (by kernel_rfl)

abbrev f_bits_Writer_Text : Nat := 196
def c_bits_Writer_Text_p0 : ACode :=
 .seq (.ops (O 6 (.mv 0) ::
 C 7 194 [6] ::
 [])) (
 .seq (.ops (O 8 (.mv 0) ::
 O 9 (.mv 0) ::
 O 10 (.nilck 9) ::
 O 11 (.faddr 0 10) ::
 O 12 (.load 1 false 11) ::
 O 13 (.mv 1) ::
 O 14 (.app 5 1 1 12 13) ::
 O 15 (.nilck 8) ::
 O 16 (.faddr 0 15) ::
 S (.store 1 16 14) ::
 [])) (.ops (O 17 (.mv 0) ::
 C 18 194 [17] ::
 [])))
def c_bits_Writer_Text : AFunc := ⟨19, (
 .seq (.ops (O 4 (.mv 0) ::
 O 5 (.eqn .ptr .neq 4 (.c (.nilp))) ::
 [])) (
 .cond 5 (c_bits_Writer_Text_p0) (.skip))), []⟩
theorem is_bits_Writer_Text : IsFun Go.Proofs.Tryz.prog f_bits_Writer_Text c_bits_Writer_Text := cFunc_is (obj := false) (by kernel_rfl)

abbrev f_bits_Writer_Bytes : Nat := 197
def c_bits_Writer_Bytes_p0 : ACode :=
 .seq (.ops (O 2 (.mv (.c (.str (bytesOf [])))) ::
 [])) (
 .ret)
def c_bits_Writer_Bytes_p1 : ACode :=
 .seq (.ops (O 5 (.mv 0) ::
 O 6 (.nilck 5) ::
 O 7 (.faddr 0 6) ::
 O 8 (.load 1 false 7) ::
 O 9 (.b2s 8) ::
 O 2 (.mv 9) ::
 [])) (
 .ret)
def c_bits_Writer_Bytes : AFunc := ⟨10, (
 .seq (.ops (O 2 (.mv (.c (.str (bytesOf [])))) ::
 [])) (
 .seq (
 .seq (.ops (O 3 (.mv 0) ::
 O 4 (.eqn .ptr .eql 3 (.c (.nilp))) ::
 [])) (
 .cond 4 (c_bits_Writer_Bytes_p0) (.skip))) (c_bits_Writer_Bytes_p1))), [.t 2]⟩
theorem is_bits_Writer_Bytes : IsFun Go.Proofs.Tryz.prog f_bits_Writer_Bytes c_bits_Writer_Bytes := cFunc_is (obj := false) (by kernel_rfl)

abbrev f_flate_Block : Nat := 198
def c_flate_Block_p1 : List AOper :=
 O 15 (.mv 16) ::
 O 17 (.ext 15 0) ::
 O 18 (.ext 15 1) ::
 O 8 (.mv 17) ::
 O 9 (.mv 18) ::
 []
def c_flate_Block_p3 : List AOper :=
 C 25 236 [19, 20, 22, 24] ::
 []
def c_flate_Block_p2 : List AOper :=
 O 23 (.mv 9) ::
 C 24 237 [23] ::
 c_flate_Block_p3
def c_flate_Block_p0 : ACode :=
 .seq (.ops (O 12 (.mv 0) ::
 O 13 (.mv 3) ::
 C 14 193 [12, 13, (I 1)] ::
 [])) (
 .seq (.ops (C 16 235 [] ::
 c_flate_Block_p1)) (
 .seq (.ops (O 19 (.mv 0) ::
 O 20 (.mv 1) ::
 O 21 (.mv 8) ::
 C 22 237 [21] ::
 c_flate_Block_p2)) (
 .ret)))
def c_flate_Block_p4 : ACode :=
 .ops (
 O 26 (.mv 0) ::
 O 27 (.mv 1) ::
 O 28 (.mv 3) ::
 C 29 238 [26, 27, 28] ::
 [])
def c_flate_Block : AFunc := ⟨30, (
 .seq (
 .seq (.ops (O 10 (.mv 2) ::
 O 11 (.bin .eql 10 (I 1)) ::
 [])) (
 .cond 11 (c_flate_Block_p0) (.skip))) (c_flate_Block_p4)), []⟩
theorem is_flate_Block : IsFun Go.Proofs.Tryz.prog f_flate_Block c_flate_Block := cFunc_is (obj := false) (by kernel_rfl)

abbrev f_lz_Parse : Nat := 199
def c_lz_Parse_p2 : List AOper :=
 O 20 (.mv 23) ::
 O 24 (.ext 20 0) ::
 O 25 (.ext 20 1) ::
 O 6 (.mv 24) ::
 O 7 (.mv 25) ::
 []
def c_lz_Parse_p3 : ACode :=
 .seq (.ops (O 6 (.mv (I 1)) ::
 [])) (.ops (O 31 (.mv 0) ::
 O 32 (.mv 5) ::
 O 33 (.idxS 31 32) ::
 O 34 (.toInt .i64 33) ::
 O 35 (.build [.nat .i64 0, .nat .i64 0, .nat .i64 0] [(2, 1, 34)]) ::
 S (.store 3 8 35) ::
 []))
def c_lz_Parse_p6 : ACode :=
 .seq (
 .block 3 (
 .seq (.ops (O 39 (.mv 3) ::
 O 40 (.mv 5) ::
 C 41 240 [39, 40] ::
 [])) (.ops (O 42 (.mv 5) ::
 O 43 (.bin .add 42 (I 1)) ::
 O 5 (.mv 43) ::
 [])))) (.ops (O 44 (.bin .add 37 (I 1)) ::
 O 37 (.mv 44) ::
 []))
def c_lz_Parse_p5 : ACode :=
 .seq (.ops (O 38 (.bin .lss 37 36) ::
 [])) (
 .seq (
 .cond 38 (.skip) (.exit 2)) (c_lz_Parse_p6))
def c_lz_Parse_p7 : ACode :=
 .ops (
 O 45 (.mv 4) ::
 O 46 (.load 3 true 8) ::
 O 47 (.lit false 278 1 3 [.nat .i64 0, .nat .i64 0, .nat .i64 0] [(0, 3, 46)]) ::
 O 48 (.app 278 3 24 45 47) ::
 O 4 (.mv 48) ::
 [])
def c_lz_Parse_p4 : ACode :=
 .seq (
 .seq (.ops (O 36 (.mv 6) ::
 O 37 (.mv (I 0)) ::
 [])) (
 .block 2 (
 .loop (c_lz_Parse_p5)))) (c_lz_Parse_p7)
def c_lz_Parse_p1 : ACode :=
 .block 1 (
 .seq (.ops (O 21 (.mv 3) ::
 O 22 (.mv 5) ::
 C 23 239 [21, 22] ::
 c_lz_Parse_p2)) (
 .seq (.ops (O 26 (.mv 6) ::
 O 27 (.mv 7) ::
 O 28 (.build [.nat .i64 0, .nat .i64 0, .nat .i64 0] [(0, 1, 26), (1, 1, 27)]) ::
 O 8 (.alloc 278 [.nat .i64 0, .nat .i64 0, .nat .i64 0]) ::
 S (.store 3 8 28) ::
 [])) (
 .seq (
 .seq (.ops (O 29 (.mv 6) ::
 O 30 (.bin .lss 29 (I 3)) ::
 [])) (
 .cond 30 (c_lz_Parse_p3) (.skip))) (c_lz_Parse_p4))))
def c_lz_Parse_p0 : ACode :=
 .seq (
 .seq (.ops (O 16 (.mv 5) ::
 O 17 (.mv 0) ::
 O 18 (.lenT 17) ::
 O 19 (.bin .lss 16 18) ::
 [])) (
 .cond 19 (.skip) (.exit 0))) (c_lz_Parse_p1)
def c_lz_Parse_p8 : ACode :=
 .seq (.ops (O 49 (.mv 4) ::
 O 2 (.mv 49) ::
 [])) (
 .ret)
def c_lz_Parse : AFunc := ⟨50, (
 .seq (.ops (O 2 (.mv (.c (.nils))) ::
 [])) (
 .seq (.ops (O 9 (.mv 0) ::
 O 10 (.mkmap) ::
 O 11 (.mv 0) ::
 O 12 (.lenT 11) ::
 O 13 (.mks 3 1 8 [.nat .i64 0] 12 12) ::
 O 14 (.build [.str (bytesOf []), .nilm, .nils] [(0, 1, 9), (1, 1, 10), (2, 1, 13)]) ::
 O 15 (.box 274 14) ::
 O 3 (.mv 15) ::
 [])) (
 .seq (.ops (O 4 (.mv (.c (.nils))) ::
 [])) (
 .seq (
 .seq (.ops (O 5 (.mv (I 0)) ::
 [])) (
 .block 0 (
 .loop (c_lz_Parse_p0)))) (c_lz_Parse_p8))))), [.t 2]⟩
theorem is_lz_Parse : IsFun Go.Proofs.Tryz.prog f_lz_Parse c_lz_Parse := cFunc_is (obj := false) (by kernel_rfl)

abbrev f_math_bits_Mul32 : Nat := 200
def c_math_bits_Mul32 : AFunc := ⟨17, (
 .seq (.ops (O 4 (.mv (U32 0)) ::
 O 5 (.mv (U32 0)) ::
 [])) (
 .seq (.ops (O 7 (.mv 0) ::
 O 8 (.toInt .u64 7) ::
 O 9 (.mv 1) ::
 O 10 (.toInt .u64 9) ::
 O 11 (.bin .mul 8 10) ::
 O 6 (.mv 11) ::
 [])) (
 .seq (.ops (O 12 (.mv 6) ::
 O 13 (.bin .shr 12 (U64 32)) ::
 O 14 (.toInt .u32 13) ::
 O 15 (.mv 6) ::
 O 16 (.toInt .u32 15) ::
 O 4 (.mv 14) ::
 O 5 (.mv 16) ::
 [])) (
 .ret)))), [.t 4, .t 5]⟩
theorem is_math_bits_Mul32 : IsFun Go.Proofs.Tryz.prog f_math_bits_Mul32 c_math_bits_Mul32 := cFunc_is (obj := false) (by kernel_rfl)

abbrev f_math_bits_Mul64 : Nat := 201
def c_math_bits_Mul64 : AFunc := ⟨51, (
 .seq (.ops (O 4 (.mv (U64 0)) ::
 O 5 (.mv (U64 0)) ::
 [])) (
 .seq (.ops (O 14 (.mv 0) ::
 O 15 (.bin .and 14 (U64 4294967295)) ::
 O 6 (.mv 15) ::
 [])) (
 .seq (.ops (O 16 (.mv 0) ::
 O 17 (.bin .shr 16 (U64 32)) ::
 O 7 (.mv 17) ::
 [])) (
 .seq (.ops (O 18 (.mv 1) ::
 O 19 (.bin .and 18 (U64 4294967295)) ::
 O 8 (.mv 19) ::
 [])) (
 .seq (.ops (O 20 (.mv 1) ::
 O 21 (.bin .shr 20 (U64 32)) ::
 O 9 (.mv 21) ::
 [])) (
 .seq (.ops (O 22 (.mv 6) ::
 O 23 (.mv 8) ::
 O 24 (.bin .mul 22 23) ::
 O 10 (.mv 24) ::
 [])) (
 .seq (.ops (O 25 (.mv 7) ::
 O 26 (.mv 8) ::
 O 27 (.bin .mul 25 26) ::
 O 28 (.mv 10) ::
 O 29 (.bin .shr 28 (U64 32)) ::
 O 30 (.bin .add 27 29) ::
 O 11 (.mv 30) ::
 [])) (
 .seq (.ops (O 31 (.mv 11) ::
 O 32 (.bin .and 31 (U64 4294967295)) ::
 O 12 (.mv 32) ::
 [])) (
 .seq (.ops (O 33 (.mv 11) ::
 O 34 (.bin .shr 33 (U64 32)) ::
 O 13 (.mv 34) ::
 [])) (
 .seq (.ops (O 35 (.mv 12) ::
 O 36 (.mv 6) ::
 O 37 (.mv 9) ::
 O 38 (.bin .mul 36 37) ::
 O 39 (.bin .add 35 38) ::
 O 12 (.mv 39) ::
 [])) (
 .seq (.ops (O 40 (.mv 7) ::
 O 41 (.mv 9) ::
 O 42 (.bin .mul 40 41) ::
 O 43 (.mv 13) ::
 O 44 (.bin .add 42 43) ::
 O 45 (.mv 12) ::
 O 46 (.bin .shr 45 (U64 32)) ::
 O 47 (.bin .add 44 46) ::
 O 4 (.mv 47) ::
 [])) (
 .seq (.ops (O 48 (.mv 0) ::
 O 49 (.mv 1) ::
 O 50 (.bin .mul 48 49) ::
 O 5 (.mv 50) ::
 [])) (
 .ret))))))))))))), [.t 4, .t 5]⟩
theorem is_math_bits_Mul64 : IsFun Go.Proofs.Tryz.prog f_math_bits_Mul64 c_math_bits_Mul64 := cFunc_is (obj := false) (by kernel_rfl)

abbrev f_internal_stringslite_HasPrefix : Nat := 202
def c_internal_stringslite_HasPrefix_p0 : List AOper :=
 OT 10 11 (.mv 0) ::
 OT 10 12 (.mv 1) ::
 OT 10 13 (.lenT 12) ::
 OT 10 14 (.sliceT 11 none (some 13)) ::
 OT 10 15 (.mv 1) ::
 OT 10 16 (.bin .eql 14 15) ::
 O 17 (.pick 10 16 (.c (.bool false))) ::
 O 4 (.mv 17) ::
 []
def c_internal_stringslite_HasPrefix : AFunc := ⟨18, (
 .seq (.ops (O 4 (.mv (.c (.bool false))) ::
 [])) (
 .seq (.ops (O 5 (.mv 0) ::
 O 6 (.lenT 5) ::
 O 7 (.mv 1) ::
 O 8 (.lenT 7) ::
 O 9 (.bin .geq 6 8) ::
 O 10 (.mv 9) ::
 c_internal_stringslite_HasPrefix_p0)) (
 .ret))), [.t 4]⟩
theorem is_internal_stringslite_HasPrefix : IsFun Go.Proofs.Tryz.prog f_internal_stringslite_HasPrefix c_internal_stringslite_HasPrefix := cFunc_is (obj := false) (by kernel_rfl)

abbrev f_chacha_word : Nat := 203
def c_chacha_word : AFunc := ⟨34, (
 .seq (.ops (O 4 (.mv (U32 0)) ::
 [])) (
 .seq (.ops (O 5 (.mv 0) ::
 O 6 (.mv 1) ::
 O 7 (.bin .mul (I 4) 6) ::
 O 8 (.idxS 5 7) ::
 O 9 (.toInt .u32 8) ::
 O 10 (.mv 0) ::
 O 11 (.mv 1) ::
 O 12 (.bin .mul (I 4) 11) ::
 O 13 (.bin .add 12 (I 1)) ::
 O 14 (.idxS 10 13) ::
 O 15 (.toInt .u32 14) ::
 O 16 (.bin .shl 15 (U64 8)) ::
 O 17 (.bin .or 9 16) ::
 O 18 (.mv 0) ::
 O 19 (.mv 1) ::
 O 20 (.bin .mul (I 4) 19) ::
 O 21 (.bin .add 20 (I 2)) ::
 O 22 (.idxS 18 21) ::
 O 23 (.toInt .u32 22) ::
 O 24 (.bin .shl 23 (U64 16)) ::
 O 25 (.bin .or 17 24) ::
 O 26 (.mv 0) ::
 O 27 (.mv 1) ::
 O 28 (.bin .mul (I 4) 27) ::
 O 29 (.bin .add 28 (I 3)) ::
 O 30 (.idxS 26 29) ::
 O 31 (.toInt .u32 30) ::
 O 32 (.bin .shl 31 (U64 24)) ::
 O 33 (.bin .or 25 32) ::
 O 4 (.mv 33) ::
 [])) (
 .ret))), [.t 4]⟩
theorem is_chacha_word : IsFun Go.Proofs.Tryz.prog f_chacha_word c_chacha_word := cFunc_is (obj := false) (by kernel_rfl)

abbrev f_chacha_quarter : Nat := 204
def c_chacha_quarter_p0 : List AOper :=
 O 3 (.mv 18) ::
 []
def c_chacha_quarter_p1 : List AOper :=
 O 1 (.mv 25) ::
 []
def c_chacha_quarter_p2 : List AOper :=
 O 3 (.mv 32) ::
 []
def c_chacha_quarter_p3 : List AOper :=
 O 1 (.mv 39) ::
 []
def c_chacha_quarter : AFunc := ⟨44, (
 .seq (.ops (O 8 (.mv (U32 0)) ::
 O 9 (.mv (U32 0)) ::
 O 10 (.mv (U32 0)) ::
 O 11 (.mv (U32 0)) ::
 [])) (
 .seq (.ops (O 12 (.mv 0) ::
 O 13 (.mv 1) ::
 O 14 (.bin .add 12 13) ::
 O 0 (.mv 14) ::
 [])) (
 .seq (.ops (O 15 (.mv 3) ::
 O 16 (.mv 0) ::
 O 17 (.bin .xor 15 16) ::
 C 18 241 [17, (I 16)] ::
 c_chacha_quarter_p0)) (
 .seq (.ops (O 19 (.mv 2) ::
 O 20 (.mv 3) ::
 O 21 (.bin .add 19 20) ::
 O 2 (.mv 21) ::
 [])) (
 .seq (.ops (O 22 (.mv 1) ::
 O 23 (.mv 2) ::
 O 24 (.bin .xor 22 23) ::
 C 25 241 [24, (I 12)] ::
 c_chacha_quarter_p1)) (
 .seq (.ops (O 26 (.mv 0) ::
 O 27 (.mv 1) ::
 O 28 (.bin .add 26 27) ::
 O 0 (.mv 28) ::
 [])) (
 .seq (.ops (O 29 (.mv 3) ::
 O 30 (.mv 0) ::
 O 31 (.bin .xor 29 30) ::
 C 32 241 [31, (I 8)] ::
 c_chacha_quarter_p2)) (
 .seq (.ops (O 33 (.mv 2) ::
 O 34 (.mv 3) ::
 O 35 (.bin .add 33 34) ::
 O 2 (.mv 35) ::
 [])) (
 .seq (.ops (O 36 (.mv 1) ::
 O 37 (.mv 2) ::
 O 38 (.bin .xor 36 37) ::
 C 39 241 [38, (I 7)] ::
 c_chacha_quarter_p3)) (
 .seq (.ops (O 40 (.mv 0) ::
 O 41 (.mv 1) ::
 O 42 (.mv 2) ::
 O 43 (.mv 3) ::
 O 8 (.mv 40) ::
 O 9 (.mv 41) ::
 O 10 (.mv 42) ::
 O 11 (.mv 43) ::
 [])) (
 .ret))))))))))), [.t 8, .t 9, .t 10, .t 11]⟩
theorem is_chacha_quarter : IsFun Go.Proofs.Tryz.prog f_chacha_quarter c_chacha_quarter := cFunc_is (obj := false) (by kernel_rfl)

abbrev f_unicode_utf8_decodeRuneInStringSlow : Nat := 205
def c_unicode_utf8_decodeRuneInStringSlow_p0 : ACode :=
 .seq (.ops (O 2 (.mv (.c (.nat .i32 65533))) ::
 O 3 (.mv (I 0)) ::
 [])) (
 .ret)
def c_unicode_utf8_decodeRuneInStringSlow_p2 : List AOper :=
 O 21 (.load 1 false 20) ::
 O 6 (.mv 21) ::
 []
def c_unicode_utf8_decodeRuneInStringSlow_p3 : ACode :=
 .seq (.ops (O 24 (.mv 6) ::
 O 25 (.toInt .i32 24) ::
 O 26 (.bin .shl 25 (U64 31)) ::
 O 27 (.bin .shr 26 (U64 31)) ::
 O 7 (.mv 27) ::
 [])) (
 .seq (.ops (O 28 (.mv 0) ::
 O 29 (.idxS 28 (I 0)) ::
 O 30 (.toInt .i32 29) ::
 O 31 (.mv 7) ::
 O 32 (.bin .andNot 30 31) ::
 O 33 (.mv 7) ::
 O 34 (.bin .and (.c (.nat .i32 65533)) 33) ::
 O 35 (.bin .or 32 34) ::
 O 2 (.mv 35) ::
 O 3 (.mv (I 1)) ::
 [])) (
 .ret))
def c_unicode_utf8_decodeRuneInStringSlow_p5 : List AOper :=
 O 42 (.load 2 true 41) ::
 O 9 (.alloc 281 [.nat .u8 0, .nat .u8 0]) ::
 S (.store 2 9 42) ::
 []
def c_unicode_utf8_decodeRuneInStringSlow_p6 : ACode :=
 .seq (.ops (O 2 (.mv (.c (.nat .i32 65533))) ::
 O 3 (.mv (I 1)) ::
 [])) (
 .ret)
def c_unicode_utf8_decodeRuneInStringSlow_p8 : List AOper :=
 OF 52 53 (.faddr 1 9) ::
 OF 52 54 (.load 1 false 53) ::
 OF 52 55 (.mv 10) ::
 OF 52 56 (.bin .lss 54 55) ::
 O 57 (.pick 52 (.c (.bool true)) 56) ::
 []
def c_unicode_utf8_decodeRuneInStringSlow_p9 : ACode :=
 .seq (.ops (O 2 (.mv (.c (.nat .i32 65533))) ::
 O 3 (.mv (I 1)) ::
 [])) (
 .ret)
def c_unicode_utf8_decodeRuneInStringSlow_p11 : ACode :=
 .seq (.ops (O 60 (.mv 5) ::
 O 61 (.bin .and 60 (U8 31)) ::
 O 62 (.toInt .i32 61) ::
 O 63 (.bin .shl 62 (U64 6)) ::
 O 64 (.mv 10) ::
 O 65 (.bin .and 64 (U8 63)) ::
 O 66 (.toInt .i32 65) ::
 O 67 (.bin .or 63 66) ::
 O 2 (.mv 67) ::
 O 3 (.mv (I 2)) ::
 [])) (
 .ret)
def c_unicode_utf8_decodeRuneInStringSlow_p13 : List AOper :=
 OF 72 73 (.mv 11) ::
 OF 72 74 (.bin .lss (U8 191) 73) ::
 O 75 (.pick 72 (.c (.bool true)) 74) ::
 []
def c_unicode_utf8_decodeRuneInStringSlow_p14 : ACode :=
 .seq (.ops (O 2 (.mv (.c (.nat .i32 65533))) ::
 O 3 (.mv (I 1)) ::
 [])) (
 .ret)
def c_unicode_utf8_decodeRuneInStringSlow_p16 : ACode :=
 .seq (.ops (O 78 (.mv 5) ::
 O 79 (.bin .and 78 (U8 15)) ::
 O 80 (.toInt .i32 79) ::
 O 81 (.bin .shl 80 (U64 12)) ::
 O 82 (.mv 10) ::
 O 83 (.bin .and 82 (U8 63)) ::
 O 84 (.toInt .i32 83) ::
 O 85 (.bin .shl 84 (U64 6)) ::
 O 86 (.bin .or 81 85) ::
 O 87 (.mv 11) ::
 O 88 (.bin .and 87 (U8 63)) ::
 O 89 (.toInt .i32 88) ::
 O 90 (.bin .or 86 89) ::
 O 2 (.mv 90) ::
 O 3 (.mv (I 3)) ::
 [])) (
 .ret)
def c_unicode_utf8_decodeRuneInStringSlow_p18 : List AOper :=
 OF 95 96 (.mv 12) ::
 OF 95 97 (.bin .lss (U8 191) 96) ::
 O 98 (.pick 95 (.c (.bool true)) 97) ::
 []
def c_unicode_utf8_decodeRuneInStringSlow_p19 : ACode :=
 .seq (.ops (O 2 (.mv (.c (.nat .i32 65533))) ::
 O 3 (.mv (I 1)) ::
 [])) (
 .ret)
def c_unicode_utf8_decodeRuneInStringSlow_p20 : ACode :=
 .seq (.ops (O 99 (.mv 5) ::
 O 100 (.bin .and 99 (U8 7)) ::
 O 101 (.toInt .i32 100) ::
 O 102 (.bin .shl 101 (U64 18)) ::
 O 103 (.mv 10) ::
 O 104 (.bin .and 103 (U8 63)) ::
 O 105 (.toInt .i32 104) ::
 O 106 (.bin .shl 105 (U64 12)) ::
 O 107 (.bin .or 102 106) ::
 O 108 (.mv 11) ::
 O 109 (.bin .and 108 (U8 63)) ::
 O 110 (.toInt .i32 109) ::
 O 111 (.bin .shl 110 (U64 6)) ::
 O 112 (.bin .or 107 111) ::
 O 113 (.mv 12) ::
 O 114 (.bin .and 113 (U8 63)) ::
 O 115 (.toInt .i32 114) ::
 O 116 (.bin .or 112 115) ::
 O 2 (.mv 116) ::
 O 3 (.mv (I 4)) ::
 [])) (
 .ret)
def c_unicode_utf8_decodeRuneInStringSlow_p17 : ACode :=
 .seq (.ops (O 91 (.mv 0) ::
 O 92 (.idxS 91 (I 3)) ::
 O 12 (.mv 92) ::
 [])) (
 .seq (
 .seq (.ops (O 93 (.mv 12) ::
 O 94 (.bin .lss 93 (U8 128)) ::
 O 95 (.mv 94) ::
 c_unicode_utf8_decodeRuneInStringSlow_p18)) (
 .cond 98 (c_unicode_utf8_decodeRuneInStringSlow_p19) (.skip))) (c_unicode_utf8_decodeRuneInStringSlow_p20))
def c_unicode_utf8_decodeRuneInStringSlow_p15 : ACode :=
 .seq (
 .seq (.ops (O 76 (.mv 8) ::
 O 77 (.bin .leq 76 (I 3)) ::
 [])) (
 .cond 77 (c_unicode_utf8_decodeRuneInStringSlow_p16) (.skip))) (c_unicode_utf8_decodeRuneInStringSlow_p17)
def c_unicode_utf8_decodeRuneInStringSlow_p12 : ACode :=
 .seq (.ops (O 68 (.mv 0) ::
 O 69 (.idxS 68 (I 2)) ::
 O 11 (.mv 69) ::
 [])) (
 .seq (
 .seq (.ops (O 70 (.mv 11) ::
 O 71 (.bin .lss 70 (U8 128)) ::
 O 72 (.mv 71) ::
 c_unicode_utf8_decodeRuneInStringSlow_p13)) (
 .cond 75 (c_unicode_utf8_decodeRuneInStringSlow_p14) (.skip))) (c_unicode_utf8_decodeRuneInStringSlow_p15))
def c_unicode_utf8_decodeRuneInStringSlow_p10 : ACode :=
 .seq (
 .seq (.ops (O 58 (.mv 8) ::
 O 59 (.bin .leq 58 (I 2)) ::
 [])) (
 .cond 59 (c_unicode_utf8_decodeRuneInStringSlow_p11) (.skip))) (c_unicode_utf8_decodeRuneInStringSlow_p12)
def c_unicode_utf8_decodeRuneInStringSlow_p7 : ACode :=
 .seq (.ops (O 46 (.mv 0) ::
 O 47 (.idxS 46 (I 1)) ::
 O 10 (.mv 47) ::
 [])) (
 .seq (
 .seq (.ops (O 48 (.mv 10) ::
 O 49 (.faddr 0 9) ::
 O 50 (.load 1 false 49) ::
 O 51 (.bin .lss 48 50) ::
 O 52 (.mv 51) ::
 c_unicode_utf8_decodeRuneInStringSlow_p8)) (
 .cond 57 (c_unicode_utf8_decodeRuneInStringSlow_p9) (.skip))) (c_unicode_utf8_decodeRuneInStringSlow_p10))
def c_unicode_utf8_decodeRuneInStringSlow_p4 : ACode :=
 .seq (.ops (O 36 (.mv 6) ::
 O 37 (.bin .and 36 (U8 7)) ::
 O 38 (.toInt .i64 37) ::
 O 8 (.mv 38) ::
 [])) (
 .seq (.ops (O 39 (.mv 6) ::
 O 40 (.bin .shr 39 (U64 4)) ::
 ⟨(some 41), .bad, none⟩ ::
 c_unicode_utf8_decodeRuneInStringSlow_p5)) (
 .seq (
 .seq (.ops (O 43 (.mv 4) ::
 O 44 (.mv 8) ::
 O 45 (.bin .lss 43 44) ::
 [])) (
 .cond 45 (c_unicode_utf8_decodeRuneInStringSlow_p6) (.skip))) (c_unicode_utf8_decodeRuneInStringSlow_p7)))
def c_unicode_utf8_decodeRuneInStringSlow_p1 : ACode :=
 .seq (.ops (O 17 (.mv 0) ::
 O 18 (.idxS 17 (I 0)) ::
 O 5 (.mv 18) ::
 [])) (
 .seq (.ops (O 19 (.mv 5) ::
 ⟨(some 20), .bad, none⟩ ::
 c_unicode_utf8_decodeRuneInStringSlow_p2)) (
 .seq (
 .seq (.ops (O 22 (.mv 6) ::
 O 23 (.bin .geq 22 (U8 240)) ::
 [])) (
 .cond 23 (c_unicode_utf8_decodeRuneInStringSlow_p3) (.skip))) (c_unicode_utf8_decodeRuneInStringSlow_p4)))
def c_unicode_utf8_decodeRuneInStringSlow : AFunc := ⟨117, (
 .seq (.ops (O 2 (.mv (.c (.nat .i32 0))) ::
 O 3 (.mv (I 0)) ::
 [])) (
 .seq (.ops (O 13 (.mv 0) ::
 O 14 (.lenT 13) ::
 O 4 (.mv 14) ::
 [])) (
 .seq (
 .seq (.ops (O 15 (.mv 4) ::
 O 16 (.bin .lss 15 (I 1)) ::
 [])) (
 .cond 16 (c_unicode_utf8_decodeRuneInStringSlow_p0) (.skip))) (c_unicode_utf8_decodeRuneInStringSlow_p1)))), [.t 2, .t 3]⟩
theorem is_unicode_utf8_decodeRuneInStringSlow : IsFun Go.Proofs.Tryz.prog f_unicode_utf8_decodeRuneInStringSlow c_unicode_utf8_decodeRuneInStringSlow := cFunc_is (obj := false) (by kernel_rfl)

end Go.Proofs.Ah
