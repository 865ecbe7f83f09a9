/- The code of 35 functions, as the abstract machine reads it; that it is the program's. -/
import Derived.Test.YtncghckcdhfhjaaGreatDoorProg
import Derived.Test.YtncghckcdhfhjaaGreatDoorAh16
import Derived.KernelRfl
set_option maxRecDepth 100000
set_option maxHeartbeats 40000000
set_option linter.unusedVariables false
namespace Go.Proofs.Ah
open Go

abbrev f_huff_Lengths : Nat := 262
def c_huff_Lengths_p3 : List AOper :=
 O 38 (.pick 34 (.c (.bool true)) 37) ::
 []
def c_huff_Lengths_p2 : List AOper :=
 OF 34 35 (.load 1 false 2) ::
 OF 34 36 (.mv 6) ::
 CF 34 37 274 [35, 36] ::
 c_huff_Lengths_p3
def c_huff_Lengths_p1 : List AOper :=
 OF 29 30 (.load 1 false 2) ::
 OF 29 31 (.lenS 30) ::
 OF 29 32 (.bin .gtr 31 (I 320)) ::
 O 33 (.pick 29 (.c (.bool true)) 32) ::
 O 34 (.mv 33) ::
 c_huff_Lengths_p2
def c_huff_Lengths_p0 : List AOper :=
 OF 25 26 (.mv 1) ::
 OF 25 27 (.bin .gtr 26 (I 15)) ::
 O 28 (.pick 25 (.c (.bool true)) 27) ::
 O 29 (.mv 28) ::
 c_huff_Lengths_p1
def c_huff_Lengths_p4 : ACode :=
 .seq (.ops (O 4 (.mv (.c (.nils))) ::
 O 5 (.mv (I 1)) ::
 [])) (
 .ret)
def c_huff_Lengths_p8 : ACode :=
 .ops (
 O 48 (.mv 7) ::
 O 49 (.mv 8) ::
 O 50 (.lit false 3 1 1 [.nat .i64 0] [(0, 1, 49)]) ::
 O 51 (.app 3 1 8 48 50) ::
 O 7 (.mv 51) ::
 [])
def c_huff_Lengths_p9 : ACode :=
 .ops (
 O 52 (.bin .add 41 (I 1)) ::
 O 41 (.mv 52) ::
 [])
def c_huff_Lengths_p7 : ACode :=
 .seq (
 .block 1 (
 .seq (.ops (O 43 (.mv 41) ::
 O 44 (.iadS 1 39 41) ::
 O 45 (.load 1 false 44) ::
 O 8 (.mv 43) ::
 O 9 (.mv 45) ::
 [])) (
 .seq (.ops (O 46 (.mv 9) ::
 O 47 (.bin .gtr 46 (I 0)) ::
 [])) (
 .cond 47 (c_huff_Lengths_p8) (.skip))))) (c_huff_Lengths_p9)
def c_huff_Lengths_p6 : ACode :=
 .seq (.ops (O 42 (.bin .lss 41 40) ::
 [])) (
 .seq (
 .cond 42 (.skip) (.exit 0)) (c_huff_Lengths_p7))
def c_huff_Lengths_p11 : ACode :=
 .seq (.ops (O 4 (.mv (.c (.nils))) ::
 O 5 (.mv (I 3)) ::
 [])) (
 .ret)
def c_huff_Lengths_p15 : ACode :=
 .seq (
 .block 3 (
 .seq (.ops (O 71 (.iadS 1 67 69) ::
 O 72 (.load 1 false 71) ::
 O 12 (.mv 72) ::
 [])) (.ops (O 73 (.mv 10) ::
 O 74 (.mv 12) ::
 O 75 (.iadS 1 73 74) ::
 S (.store 1 75 (I 1)) ::
 [])))) (.ops (O 76 (.bin .add 69 (I 1)) ::
 O 69 (.mv 76) ::
 []))
def c_huff_Lengths_p14 : ACode :=
 .seq (.ops (O 70 (.bin .lss 69 68) ::
 [])) (
 .seq (
 .cond 70 (.skip) (.exit 2)) (c_huff_Lengths_p15))
def c_huff_Lengths_p16 : ACode :=
 .seq (.ops (O 77 (.mv 10) ::
 O 4 (.mv 77) ::
 O 5 (.mv (I 0)) ::
 [])) (
 .ret)
def c_huff_Lengths_p13 : ACode :=
 .seq (
 .seq (.ops (O 67 (.mv 7) ::
 O 68 (.lenS 67) ::
 O 69 (.mv (I 0)) ::
 [])) (
 .block 2 (
 .loop (c_huff_Lengths_p14)))) (c_huff_Lengths_p16)
def c_huff_Lengths_p19 : ACode :=
 .seq (
 .block 5 (
 .seq (.ops (O 82 (.iadS 1 78 80) ::
 O 83 (.load 1 false 82) ::
 O 15 (.mv 83) ::
 [])) (.ops (O 84 (.mv 13) ::
 O 85 (.load 1 false 2) ::
 O 86 (.mv 15) ::
 O 87 (.iadS 1 85 86) ::
 O 88 (.load 1 false 87) ::
 O 89 (.build [.nat .i64 0, .bool false] [(0, 1, 88), (1, 1, (.c (.bool false)))]) ::
 O 90 (.lit false 310 1 2 [.nat .i64 0, .bool false] [(0, 2, 89)]) ::
 O 91 (.app 310 2 16 84 90) ::
 O 13 (.mv 91) ::
 [])))) (.ops (O 92 (.bin .add 80 (I 1)) ::
 O 80 (.mv 92) ::
 []))
def c_huff_Lengths_p18 : ACode :=
 .seq (.ops (O 81 (.bin .lss 80 79) ::
 [])) (
 .seq (
 .cond 81 (.skip) (.exit 4)) (c_huff_Lengths_p19))
def c_huff_Lengths_p23 : List AOper :=
 O 108 (.lit false 308 1 1 [.nils] [(0, 1, 107)]) ::
 O 109 (.app 308 1 24 99 108) ::
 O 16 (.mv 109) ::
 []
def c_huff_Lengths_p22 : ACode :=
 .seq (
 .block 7 (.ops (O 99 (.mv 16) ::
 O 100 (.mv 13) ::
 O 101 (.mv 16) ::
 O 102 (.mv 16) ::
 O 103 (.lenS 102) ::
 O 104 (.bin .sub 103 (I 1)) ::
 O 105 (.iadS 1 101 104) ::
 O 106 (.load 1 false 105) ::
 C 107 278 [100, 106] ::
 c_huff_Lengths_p23))) (.ops (O 110 (.bin .add 97 (I 1)) ::
 O 97 (.mv 110) ::
 []))
def c_huff_Lengths_p21 : ACode :=
 .seq (.ops (O 98 (.bin .lss 97 96) ::
 [])) (
 .seq (
 .cond 98 (.skip) (.exit 6)) (c_huff_Lengths_p22))
def c_huff_Lengths_p27 : List AOper :=
 O 122 (.mv 128) ::
 O 129 (.ext 122 0) ::
 O 130 (.ext 122 1) ::
 O 19 (.mv 129) ::
 O 20 (.mv 130) ::
 []
def c_huff_Lengths_p29 : ACode :=
 .seq (
 .block 11 (
 .seq (.ops (O 137 (.iadS 1 133 135) ::
 O 138 (.load 1 false 137) ::
 O 22 (.mv 138) ::
 [])) (.ops (O 139 (.mv 10) ::
 O 140 (.mv 22) ::
 O 141 (.iadS 1 139 140) ::
 O 142 (.load 1 false 141) ::
 O 143 (.bin .add 142 (I 1)) ::
 O 144 (.iadS 1 139 140) ::
 S (.store 1 144 143) ::
 [])))) (.ops (O 145 (.bin .add 135 (I 1)) ::
 O 135 (.mv 145) ::
 []))
def c_huff_Lengths_p28 : ACode :=
 .seq (.ops (O 136 (.bin .lss 135 134) ::
 [])) (
 .seq (
 .cond 136 (.skip) (.exit 10)) (c_huff_Lengths_p29))
def c_huff_Lengths_p30 : ACode :=
 .ops (
 O 146 (.mv 20) ::
 O 147 (.bin .mul (I 2) 146) ::
 O 17 (.mv 147) ::
 [])
def c_huff_Lengths_p31 : ACode :=
 .ops (
 O 120 (.mv 18) ::
 O 121 (.bin .sub 120 (I 1)) ::
 O 18 (.mv 121) ::
 [])
def c_huff_Lengths_p26 : ACode :=
 .seq (
 .block 9 (
 .seq (.ops (O 123 (.mv 16) ::
 O 124 (.mv 18) ::
 O 125 (.iadS 1 123 124) ::
 O 126 (.load 1 false 125) ::
 O 127 (.mv 17) ::
 C 128 279 [126, 127] ::
 c_huff_Lengths_p27)) (
 .seq (
 .seq (.ops (O 131 (.mv 7) ::
 O 132 (.mv 19) ::
 O 133 (.sliceS 1 131 none (some 132)) ::
 O 134 (.lenS 133) ::
 O 135 (.mv (I 0)) ::
 [])) (
 .block 10 (
 .loop (c_huff_Lengths_p28)))) (c_huff_Lengths_p30)))) (c_huff_Lengths_p31)
def c_huff_Lengths_p25 : ACode :=
 .seq (
 .seq (.ops (O 118 (.mv 18) ::
 O 119 (.bin .geq 118 (I 0)) ::
 [])) (
 .cond 119 (.skip) (.exit 8))) (c_huff_Lengths_p26)
def c_huff_Lengths_p32 : ACode :=
 .seq (.ops (O 148 (.mv 10) ::
 O 4 (.mv 148) ::
 O 5 (.mv (I 0)) ::
 [])) (
 .ret)
def c_huff_Lengths_p24 : ACode :=
 .seq (.ops (O 111 (.mv 13) ::
 O 112 (.lenS 111) ::
 O 113 (.bin .mul (I 2) 112) ::
 O 114 (.bin .sub 113 (I 2)) ::
 O 17 (.mv 114) ::
 [])) (
 .seq (
 .seq (.ops (O 115 (.mv 16) ::
 O 116 (.lenS 115) ::
 O 117 (.bin .sub 116 (I 1)) ::
 O 18 (.mv 117) ::
 [])) (
 .block 8 (
 .loop (c_huff_Lengths_p25)))) (c_huff_Lengths_p32))
def c_huff_Lengths_p20 : ACode :=
 .seq (.ops (O 93 (.mv 13) ::
 O 94 (.lit false 308 1 1 [.nils] [(0, 1, 93)]) ::
 O 16 (.mv 94) ::
 [])) (
 .seq (
 .seq (.ops (O 95 (.mv 1) ::
 O 96 (.bin .sub 95 (I 1)) ::
 O 97 (.mv (I 0)) ::
 [])) (
 .block 6 (
 .loop (c_huff_Lengths_p21)))) (c_huff_Lengths_p24))
def c_huff_Lengths_p17 : ACode :=
 .seq (.ops (O 13 (.mv (.c (.nils))) ::
 [])) (
 .seq (
 .seq (.ops (O 78 (.mv 7) ::
 O 79 (.lenS 78) ::
 O 80 (.mv (I 0)) ::
 [])) (
 .block 4 (
 .loop (c_huff_Lengths_p18)))) (c_huff_Lengths_p20))
def c_huff_Lengths_p12 : ACode :=
 .seq (.ops (O 58 (.mv 7) ::
 O 59 (.mkfn 276 [2]) ::
 C 60 275 [58, 59] ::
 [])) (
 .seq (.ops (O 61 (.load 1 false 2) ::
 O 62 (.lenS 61) ::
 O 63 (.mks 3 1 8 [.nat .i64 0] 62 62) ::
 O 10 (.mv 63) ::
 [])) (
 .seq (
 .seq (.ops (O 64 (.mv 7) ::
 O 65 (.lenS 64) ::
 O 66 (.bin .lss 65 (I 2)) ::
 [])) (
 .cond 66 (c_huff_Lengths_p13) (.skip))) (c_huff_Lengths_p17)))
def c_huff_Lengths_p10 : ACode :=
 .seq (
 .seq (.ops (O 53 (.mv 7) ::
 O 54 (.lenS 53) ::
 O 55 (.mv 1) ::
 O 56 (.bin .shl (I 1) 55) ::
 O 57 (.bin .gtr 54 56) ::
 [])) (
 .cond 57 (c_huff_Lengths_p11) (.skip))) (c_huff_Lengths_p12)
def c_huff_Lengths_p5 : ACode :=
 .seq (.ops (O 7 (.mv (.c (.nils))) ::
 [])) (
 .seq (
 .seq (.ops (O 39 (.load 1 false 2) ::
 O 40 (.lenS 39) ::
 O 41 (.mv (I 0)) ::
 [])) (
 .block 0 (
 .loop (c_huff_Lengths_p6)))) (c_huff_Lengths_p10))
def c_huff_Lengths : AFunc := ⟨149, (
 .seq (.ops (O 2 (.box 124 0) ::
 O 4 (.mv (.c (.nils))) ::
 O 5 (.mv (I 0)) ::
 [])) (
 .seq (.ops (O 6 (.mv (.c (.fn 273 []))) ::
 [])) (
 .seq (
 .seq (.ops (O 23 (.mv 1) ::
 O 24 (.bin .lss 23 (I 1)) ::
 O 25 (.mv 24) ::
 c_huff_Lengths_p0)) (
 .cond 38 (c_huff_Lengths_p4) (.skip))) (c_huff_Lengths_p5)))), [.t 4, .t 5]⟩
theorem is_huff_Lengths : IsFun Go.Proofs.Tryz.prog f_huff_Lengths c_huff_Lengths := cFunc_is (obj := false) (by kernel_rfl)

abbrev f_flate_trim : Nat := 263
def c_flate_trim_p1 : List AOper :=
 OT 9 10 (.mv 0) ::
 OT 9 11 (.mv 0) ::
 OT 9 12 (.lenS 11) ::
 OT 9 13 (.bin .sub 12 (I 1)) ::
 OT 9 14 (.iadS 1 10 13) ::
 OT 9 15 (.load 1 false 14) ::
 OT 9 16 (.bin .eql 15 (I 0)) ::
 O 17 (.pick 9 16 (.c (.bool false))) ::
 []
def c_flate_trim_p2 : ACode :=
 .block 1 (.ops (O 18 (.mv 0) ::
 O 19 (.mv 0) ::
 O 20 (.lenS 19) ::
 O 21 (.bin .sub 20 (I 1)) ::
 O 22 (.sliceS 1 18 none (some 21)) ::
 O 0 (.mv 22) ::
 []))
def c_flate_trim_p0 : ACode :=
 .seq (
 .seq (.ops (O 5 (.mv 0) ::
 O 6 (.lenS 5) ::
 O 7 (.mv 1) ::
 O 8 (.bin .gtr 6 7) ::
 O 9 (.mv 8) ::
 c_flate_trim_p1)) (
 .cond 17 (.skip) (.exit 0))) (c_flate_trim_p2)
def c_flate_trim_p3 : ACode :=
 .seq (.ops (O 23 (.mv 0) ::
 O 4 (.mv 23) ::
 [])) (
 .ret)
def c_flate_trim : AFunc := ⟨24, (
 .seq (.ops (O 4 (.mv (.c (.nils))) ::
 [])) (
 .seq (
 .block 0 (
 .loop (c_flate_trim_p0))) (c_flate_trim_p3))), [.t 4]⟩
theorem is_flate_trim : IsFun Go.Proofs.Tryz.prog f_flate_trim c_flate_trim := cFunc_is (obj := false) (by kernel_rfl)

abbrev f_flate_runs : Nat := 264
def c_flate_runs_p3 : List AOper :=
 OT 12 13 (.mv 0) ::
 OT 12 14 (.mv 4) ::
 OT 12 15 (.iadS 1 13 14) ::
 OT 12 16 (.load 1 false 15) ::
 OT 12 17 (.mv 0) ::
 OT 12 18 (.iadS 1 17 (I 0)) ::
 OT 12 19 (.load 1 false 18) ::
 OT 12 20 (.bin .eql 16 19) ::
 O 21 (.pick 12 20 (.c (.bool false))) ::
 []
def c_flate_runs_p4 : ACode :=
 .block 3 (.ops (O 22 (.mv 4) ::
 O 23 (.bin .add 22 (I 1)) ::
 O 4 (.mv 23) ::
 []))
def c_flate_runs_p2 : ACode :=
 .seq (
 .seq (.ops (O 8 (.mv 4) ::
 O 9 (.mv 0) ::
 O 10 (.lenS 9) ::
 O 11 (.bin .lss 8 10) ::
 O 12 (.mv 11) ::
 c_flate_runs_p3)) (
 .cond 21 (.skip) (.exit 2))) (c_flate_runs_p4)
def c_flate_runs_p6 : List AOper :=
 OT 36 37 (.mv 4) ::
 OT 36 38 (.bin .gtr 37 (I 10)) ::
 O 39 (.pick 36 38 (.c (.bool false))) ::
 O 31 (.mv 39) ::
 []
def c_flate_runs_p7 : ACode :=
 .seq (.ops (O 40 (.mv 4) ::
 O 41 (.mm false 40 [(I 138)]) ::
 O 4 (.mv 41) ::
 [])) (.ops (O 42 (.mv 3) ::
 O 43 (.mv 4) ::
 O 44 (.bin .sub 43 (I 11)) ::
 O 45 (.build [.nat .i64 0, .nat .i64 0, .nat .i64 0] [(0, 1, (I 18)), (1, 1, (I 7)), (2, 1, 44)]) ::
 O 46 (.lit false 301 1 3 [.nat .i64 0, .nat .i64 0, .nat .i64 0] [(0, 3, 45)]) ::
 O 47 (.app 301 3 24 42 46) ::
 O 3 (.mv 47) ::
 []))
def c_flate_runs_p9 : List AOper :=
 OT 53 54 (.mv 4) ::
 OT 53 55 (.bin .gtr 54 (I 2)) ::
 O 56 (.pick 53 55 (.c (.bool false))) ::
 O 48 (.mv 56) ::
 []
def c_flate_runs_p10 : ACode :=
 .ops (
 O 57 (.mv 3) ::
 O 58 (.mv 4) ::
 O 59 (.bin .sub 58 (I 3)) ::
 O 60 (.build [.nat .i64 0, .nat .i64 0, .nat .i64 0] [(0, 1, (I 17)), (1, 1, (I 3)), (2, 1, 59)]) ::
 O 61 (.lit false 301 1 3 [.nat .i64 0, .nat .i64 0, .nat .i64 0] [(0, 3, 60)]) ::
 O 62 (.app 301 3 24 57 61) ::
 O 3 (.mv 62) ::
 [])
def c_flate_runs_p12 : ACode :=
 .seq (.ops (O 66 (.mv 4) ::
 O 67 (.mm false 66 [(I 7)]) ::
 O 4 (.mv 67) ::
 [])) (.ops (O 68 (.mv 3) ::
 O 69 (.mv 0) ::
 O 70 (.iadS 1 69 (I 0)) ::
 O 71 (.load 1 false 70) ::
 O 72 (.build [.nat .i64 0, .nat .i64 0, .nat .i64 0] [(0, 1, 71), (1, 1, (I 0)), (2, 1, (I 0))]) ::
 O 73 (.mv 4) ::
 O 74 (.bin .sub 73 (I 4)) ::
 O 75 (.build [.nat .i64 0, .nat .i64 0, .nat .i64 0] [(0, 1, (I 16)), (1, 1, (I 2)), (2, 1, 74)]) ::
 O 76 (.lit false 301 2 3 [.nat .i64 0, .nat .i64 0, .nat .i64 0] [(0, 3, 72), (3, 3, 75)]) ::
 O 77 (.app 301 3 24 68 76) ::
 O 3 (.mv 77) ::
 []))
def c_flate_runs_p13 : ACode :=
 .seq (.ops (O 4 (.mv (I 1)) ::
 [])) (.ops (O 24 (.mv 3) ::
 O 25 (.mv 0) ::
 O 26 (.iadS 1 25 (I 0)) ::
 O 27 (.load 1 false 26) ::
 O 28 (.build [.nat .i64 0, .nat .i64 0, .nat .i64 0] [(0, 1, 27), (1, 1, (I 0)), (2, 1, (I 0))]) ::
 O 29 (.lit false 301 1 3 [.nat .i64 0, .nat .i64 0, .nat .i64 0] [(0, 3, 28)]) ::
 O 30 (.app 301 3 24 24 29) ::
 O 3 (.mv 30) ::
 []))
def c_flate_runs_p11 : ACode :=
 .seq (.ops (O 64 (.mv 4) ::
 O 65 (.bin .gtr 64 (I 3)) ::
 O 63 (.mv 65) ::
 [])) (
 .cond 63 (c_flate_runs_p12) (c_flate_runs_p13))
def c_flate_runs_p8 : ACode :=
 .seq (.ops (O 49 (.mv 0) ::
 O 50 (.iadS 1 49 (I 0)) ::
 O 51 (.load 1 false 50) ::
 O 52 (.bin .eql 51 (I 0)) ::
 O 53 (.mv 52) ::
 c_flate_runs_p9)) (
 .cond 48 (c_flate_runs_p10) (c_flate_runs_p11))
def c_flate_runs_p14 : ACode :=
 .ops (
 O 78 (.mv 0) ::
 O 79 (.mv 4) ::
 O 80 (.sliceS 1 78 (some 79) none) ::
 O 0 (.mv 80) ::
 [])
def c_flate_runs_p5 : ACode :=
 .seq (
 .block 4 (
 .seq (.ops (O 32 (.mv 0) ::
 O 33 (.iadS 1 32 (I 0)) ::
 O 34 (.load 1 false 33) ::
 O 35 (.bin .eql 34 (I 0)) ::
 O 36 (.mv 35) ::
 c_flate_runs_p6)) (
 .cond 31 (c_flate_runs_p7) (c_flate_runs_p8)))) (c_flate_runs_p14)
def c_flate_runs_p1 : ACode :=
 .block 1 (
 .seq (.ops (O 4 (.mv (I 1)) ::
 [])) (
 .seq (
 .block 2 (
 .loop (c_flate_runs_p2))) (c_flate_runs_p5)))
def c_flate_runs_p0 : ACode :=
 .seq (
 .seq (.ops (O 5 (.mv 0) ::
 O 6 (.lenS 5) ::
 O 7 (.bin .gtr 6 (I 0)) ::
 [])) (
 .cond 7 (.skip) (.exit 0))) (c_flate_runs_p1)
def c_flate_runs_p15 : ACode :=
 .seq (.ops (O 81 (.mv 3) ::
 O 2 (.mv 81) ::
 [])) (
 .ret)
def c_flate_runs : AFunc := ⟨82, (
 .seq (.ops (O 2 (.mv (.c (.nils))) ::
 [])) (
 .seq (.ops (O 3 (.mv (.c (.nils))) ::
 [])) (
 .seq (
 .block 0 (
 .loop (c_flate_runs_p0))) (c_flate_runs_p15)))), [.t 2]⟩
theorem is_flate_runs : IsFun Go.Proofs.Tryz.prog f_flate_runs c_flate_runs := cFunc_is (obj := false) (by kernel_rfl)

abbrev f_flate_order : Nat := 265
def c_flate_order : AFunc := ⟨2, (
 .seq (.ops (O 0 (.alloc 204 (List.replicate 19 (.nat .i64 0))) ::
 [])) (
 .seq (.ops (O 1 (.build (List.replicate 19 (.nat .i64 0)) [(0, 1, (I 16)), (1, 1, (I 17)), (2, 1, (I 18)), (3, 1, (I 0)), (4, 1, (I 8)), (5, 1, (I 7)), (6, 1, (I 9)), (7, 1, (I 6)), (8, 1, (I 10)), (9, 1, (I 5)), (10, 1, (I 11)), (11, 1, (I 4)), (12, 1, (I 12)), (13, 1, (I 3)), (14, 1, (I 13)), (15, 1, (I 2)), (16, 1, (I 14)), (17, 1, (I 1)), (18, 1, (I 15))]) ::
 S (.store 19 0 1) ::
 [])) (
 .ret))), [.cell 0 19 true]⟩
theorem is_flate_order : IsFun Go.Proofs.Tryz.prog f_flate_order c_flate_order := cFunc_is (obj := false) (by kernel_rfl)

abbrev f_lz_finder_key : Nat := 266
def c_lz_finder_key : AFunc := ⟨26, (
 .seq (.ops (O 4 (.alloc 303 [.nat .u8 0, .nat .u8 0, .nat .u8 0]) ::
 [])) (
 .seq (.ops (O 5 (.mv 0) ::
 O 6 (.nilck 5) ::
 O 7 (.faddr 0 6) ::
 O 8 (.load 1 false 7) ::
 O 9 (.mv 1) ::
 O 10 (.idxS 8 9) ::
 O 11 (.mv 0) ::
 O 12 (.nilck 11) ::
 O 13 (.faddr 0 12) ::
 O 14 (.load 1 false 13) ::
 O 15 (.mv 1) ::
 O 16 (.bin .add 15 (I 1)) ::
 O 17 (.idxS 14 16) ::
 O 18 (.mv 0) ::
 O 19 (.nilck 18) ::
 O 20 (.faddr 0 19) ::
 O 21 (.load 1 false 20) ::
 O 22 (.mv 1) ::
 O 23 (.bin .add 22 (I 2)) ::
 O 24 (.idxS 21 23) ::
 O 25 (.build [.nat .u8 0, .nat .u8 0, .nat .u8 0] [(0, 1, 10), (1, 1, 17), (2, 1, 24)]) ::
 S (.store 3 4 25) ::
 [])) (
 .ret))), [.cell 4 3 true]⟩
theorem is_lz_finder_key : IsFun Go.Proofs.Tryz.prog f_lz_finder_key c_lz_finder_key := cFunc_is (obj := false) (by kernel_rfl)

abbrev f_lz_finder_same : Nat := 267
def c_lz_finder_same_p2 : List AOper :=
 OT 21 22 (.mv 0) ::
 OT 21 23 (.nilck 22) ::
 OT 21 24 (.faddr 0 23) ::
 OT 21 25 (.load 1 false 24) ::
 OT 21 26 (.mv 1) ::
 OT 21 27 (.mv 7) ::
 OT 21 28 (.bin .add 26 27) ::
 OT 21 29 (.idxS 25 28) ::
 OT 21 30 (.mv 0) ::
 OT 21 31 (.nilck 30) ::
 OT 21 32 (.faddr 0 31) ::
 OT 21 33 (.load 1 false 32) ::
 OT 21 34 (.mv 2) ::
 OT 21 35 (.mv 7) ::
 OT 21 36 (.bin .add 34 35) ::
 OT 21 37 (.idxS 33 36) ::
 OT 21 38 (.bin .eql 29 37) ::
 O 39 (.pick 21 38 (.c (.bool false))) ::
 []
def c_lz_finder_same_p1 : List AOper :=
 OT 10 11 (.mv 2) ::
 OT 10 12 (.mv 7) ::
 OT 10 13 (.bin .add 11 12) ::
 OT 10 14 (.mv 0) ::
 OT 10 15 (.nilck 14) ::
 OT 10 16 (.faddr 0 15) ::
 OT 10 17 (.load 1 false 16) ::
 OT 10 18 (.lenT 17) ::
 OT 10 19 (.bin .lss 13 18) ::
 O 20 (.pick 10 19 (.c (.bool false))) ::
 O 21 (.mv 20) ::
 c_lz_finder_same_p2
def c_lz_finder_same_p3 : ACode :=
 .block 1 (.ops (O 40 (.mv 7) ::
 O 41 (.bin .add 40 (I 1)) ::
 O 7 (.mv 41) ::
 []))
def c_lz_finder_same_p0 : ACode :=
 .seq (
 .seq (.ops (O 8 (.mv 7) ::
 O 9 (.bin .lss 8 (I 258)) ::
 O 10 (.mv 9) ::
 c_lz_finder_same_p1)) (
 .cond 39 (.skip) (.exit 0))) (c_lz_finder_same_p3)
def c_lz_finder_same_p4 : ACode :=
 .seq (.ops (O 42 (.mv 7) ::
 O 6 (.mv 42) ::
 [])) (
 .ret)
def c_lz_finder_same : AFunc := ⟨43, (
 .seq (.ops (O 6 (.mv (I 0)) ::
 [])) (
 .seq (.ops (O 7 (.mv (I 0)) ::
 [])) (
 .seq (
 .block 0 (
 .loop (c_lz_finder_same_p0))) (c_lz_finder_same_p4)))), [.t 6]⟩
theorem is_lz_finder_same : IsFun Go.Proofs.Tryz.prog f_lz_finder_same c_lz_finder_same := cFunc_is (obj := false) (by kernel_rfl)

abbrev f_internal_stringslite_IndexByte : Nat := 268
def c_internal_stringslite_IndexByte_p0 : List AOper :=
 O 4 (.mv 7) ::
 []
def c_internal_stringslite_IndexByte : AFunc := ⟨8, (
 .seq (.ops (O 4 (.mv (I 0)) ::
 [])) (
 .seq (.ops (O 5 (.mv 0) ::
 O 6 (.mv 1) ::
 C 7 280 [5, 6] ::
 c_internal_stringslite_IndexByte_p0)) (
 .ret))), [.t 4]⟩
theorem is_internal_stringslite_IndexByte : IsFun Go.Proofs.Tryz.prog f_internal_stringslite_IndexByte c_internal_stringslite_IndexByte := cFunc_is (obj := false) (by kernel_rfl)

abbrev f_internal_bytealg_IndexRabinKarp_string : Nat := 269
def c_internal_bytealg_IndexRabinKarp_string_p0 : List AOper :=
 O 11 (.mv 13) ::
 O 14 (.ext 11 0) ::
 O 15 (.ext 11 1) ::
 O 5 (.mv 14) ::
 O 6 (.mv 15) ::
 []
def c_internal_bytealg_IndexRabinKarp_string_p2 : ACode :=
 .seq (
 .block 1 (.ops (O 23 (.mv 8) ::
 O 24 (.bin .mul 23 (U32 16777619)) ::
 O 25 (.mv 0) ::
 O 26 (.mv 9) ::
 O 27 (.idxS 25 26) ::
 O 28 (.toInt .u32 27) ::
 O 29 (.bin .add 24 28) ::
 O 8 (.mv 29) ::
 []))) (.ops (O 21 (.mv 9) ::
 O 22 (.bin .add 21 (I 1)) ::
 O 9 (.mv 22) ::
 []))
def c_internal_bytealg_IndexRabinKarp_string_p1 : ACode :=
 .seq (
 .seq (.ops (O 18 (.mv 9) ::
 O 19 (.mv 7) ::
 O 20 (.bin .lss 18 19) ::
 [])) (
 .cond 20 (.skip) (.exit 0))) (c_internal_bytealg_IndexRabinKarp_string_p2)
def c_internal_bytealg_IndexRabinKarp_string_p4 : List AOper :=
 OT 33 34 (.mv 0) ::
 OT 33 35 (.mv 7) ::
 OT 33 36 (.sliceT 34 none (some 35)) ::
 OT 33 37 (.mv 1) ::
 OT 33 38 (.bin .eql 36 37) ::
 O 39 (.pick 33 38 (.c (.bool false))) ::
 []
def c_internal_bytealg_IndexRabinKarp_string_p5 : ACode :=
 .seq (.ops (O 4 (.mv (I 0)) ::
 [])) (
 .ret)
def c_internal_bytealg_IndexRabinKarp_string_p9 : List AOper :=
 OT 68 69 (.mv 0) ::
 OT 68 70 (.mv 10) ::
 OT 68 71 (.mv 7) ::
 OT 68 72 (.bin .sub 70 71) ::
 OT 68 73 (.mv 10) ::
 OT 68 74 (.sliceT 69 (some 72) (some 73)) ::
 OT 68 75 (.mv 1) ::
 OT 68 76 (.bin .eql 74 75) ::
 O 77 (.pick 68 76 (.c (.bool false))) ::
 []
def c_internal_bytealg_IndexRabinKarp_string_p10 : ACode :=
 .seq (.ops (O 78 (.mv 10) ::
 O 79 (.mv 7) ::
 O 80 (.bin .sub 78 79) ::
 O 4 (.mv 80) ::
 [])) (
 .ret)
def c_internal_bytealg_IndexRabinKarp_string_p8 : ACode :=
 .block 3 (
 .seq (.ops (O 45 (.mv 8) ::
 O 46 (.bin .mul 45 (U32 16777619)) ::
 O 8 (.mv 46) ::
 [])) (
 .seq (.ops (O 47 (.mv 8) ::
 O 48 (.mv 0) ::
 O 49 (.mv 10) ::
 O 50 (.idxS 48 49) ::
 O 51 (.toInt .u32 50) ::
 O 52 (.bin .add 47 51) ::
 O 8 (.mv 52) ::
 [])) (
 .seq (.ops (O 53 (.mv 8) ::
 O 54 (.mv 6) ::
 O 55 (.mv 0) ::
 O 56 (.mv 10) ::
 O 57 (.mv 7) ::
 O 58 (.bin .sub 56 57) ::
 O 59 (.idxS 55 58) ::
 O 60 (.toInt .u32 59) ::
 O 61 (.bin .mul 54 60) ::
 O 62 (.bin .sub 53 61) ::
 O 8 (.mv 62) ::
 [])) (
 .seq (.ops (O 63 (.mv 10) ::
 O 64 (.bin .add 63 (I 1)) ::
 O 10 (.mv 64) ::
 [])) (
 .seq (.ops (O 65 (.mv 8) ::
 O 66 (.mv 5) ::
 O 67 (.bin .eql 65 66) ::
 O 68 (.mv 67) ::
 c_internal_bytealg_IndexRabinKarp_string_p9)) (
 .cond 77 (c_internal_bytealg_IndexRabinKarp_string_p10) (.skip)))))))
def c_internal_bytealg_IndexRabinKarp_string_p7 : ACode :=
 .seq (
 .seq (.ops (O 41 (.mv 10) ::
 O 42 (.mv 0) ::
 O 43 (.lenT 42) ::
 O 44 (.bin .lss 41 43) ::
 [])) (
 .cond 44 (.skip) (.exit 2))) (c_internal_bytealg_IndexRabinKarp_string_p8)
def c_internal_bytealg_IndexRabinKarp_string_p11 : ACode :=
 .seq (.ops (O 4 (.mv (.c (.int .i64 (-1)))) ::
 [])) (
 .ret)
def c_internal_bytealg_IndexRabinKarp_string_p6 : ACode :=
 .seq (
 .seq (.ops (O 40 (.mv 7) ::
 O 10 (.mv 40) ::
 [])) (
 .block 2 (
 .loop (c_internal_bytealg_IndexRabinKarp_string_p7)))) (c_internal_bytealg_IndexRabinKarp_string_p11)
def c_internal_bytealg_IndexRabinKarp_string_p3 : ACode :=
 .seq (
 .seq (.ops (O 30 (.mv 8) ::
 O 31 (.mv 5) ::
 O 32 (.bin .eql 30 31) ::
 O 33 (.mv 32) ::
 c_internal_bytealg_IndexRabinKarp_string_p4)) (
 .cond 39 (c_internal_bytealg_IndexRabinKarp_string_p5) (.skip))) (c_internal_bytealg_IndexRabinKarp_string_p6)
def c_internal_bytealg_IndexRabinKarp_string : AFunc := ⟨81, (
 .seq (.ops (O 4 (.mv (I 0)) ::
 [])) (
 .seq (.ops (O 12 (.mv 1) ::
 C 13 281 [12] ::
 c_internal_bytealg_IndexRabinKarp_string_p0)) (
 .seq (.ops (O 16 (.mv 1) ::
 O 17 (.lenT 16) ::
 O 7 (.mv 17) ::
 [])) (
 .seq (.ops (O 8 (.mv (U32 0)) ::
 [])) (
 .seq (
 .seq (.ops (O 9 (.mv (I 0)) ::
 [])) (
 .block 0 (
 .loop (c_internal_bytealg_IndexRabinKarp_string_p1)))) (c_internal_bytealg_IndexRabinKarp_string_p3)))))), [.t 4]⟩
theorem is_internal_bytealg_IndexRabinKarp_string : IsFun Go.Proofs.Tryz.prog f_internal_bytealg_IndexRabinKarp_string c_internal_bytealg_IndexRabinKarp_string := cFunc_is (obj := false) (by kernel_rfl)

abbrev f_slices_rotateCmpFunc_apiFile : Nat := 270
def c_slices_rotateCmpFunc_apiFile_p2 : ACode :=
 .seq (.ops (O 24 (.mv 0) ::
 O 25 (.mv 2) ::
 O 26 (.mv 10) ::
 O 27 (.bin .sub 25 26) ::
 O 28 (.mv 2) ::
 O 29 (.mv 11) ::
 O 30 (.mv 4) ::
 C 31 282 [24, 27, 28, 29, 30] ::
 [])) (.ops (O 32 (.mv 10) ::
 O 33 (.mv 11) ::
 O 34 (.bin .sub 32 33) ::
 O 10 (.mv 34) ::
 []))
def c_slices_rotateCmpFunc_apiFile_p3 : ACode :=
 .seq (.ops (O 35 (.mv 0) ::
 O 36 (.mv 2) ::
 O 37 (.mv 10) ::
 O 38 (.bin .sub 36 37) ::
 O 39 (.mv 2) ::
 O 40 (.mv 11) ::
 O 41 (.bin .add 39 40) ::
 O 42 (.mv 10) ::
 O 43 (.bin .sub 41 42) ::
 O 44 (.mv 10) ::
 O 45 (.mv 4) ::
 C 46 282 [35, 38, 43, 44, 45] ::
 [])) (.ops (O 47 (.mv 11) ::
 O 48 (.mv 10) ::
 O 49 (.bin .sub 47 48) ::
 O 11 (.mv 49) ::
 []))
def c_slices_rotateCmpFunc_apiFile_p1 : ACode :=
 .block 1 (
 .seq (.ops (O 21 (.mv 10) ::
 O 22 (.mv 11) ::
 O 23 (.bin .gtr 21 22) ::
 [])) (
 .cond 23 (c_slices_rotateCmpFunc_apiFile_p2) (c_slices_rotateCmpFunc_apiFile_p3)))
def c_slices_rotateCmpFunc_apiFile_p0 : ACode :=
 .seq (
 .seq (.ops (O 18 (.mv 10) ::
 O 19 (.mv 11) ::
 O 20 (.bin .neq 18 19) ::
 [])) (
 .cond 20 (.skip) (.exit 0))) (c_slices_rotateCmpFunc_apiFile_p1)
def c_slices_rotateCmpFunc_apiFile_p4 : ACode :=
 .ops (
 O 50 (.mv 0) ::
 O 51 (.mv 2) ::
 O 52 (.mv 10) ::
 O 53 (.bin .sub 51 52) ::
 O 54 (.mv 2) ::
 O 55 (.mv 10) ::
 O 56 (.mv 4) ::
 C 57 282 [50, 53, 54, 55, 56] ::
 [])
def c_slices_rotateCmpFunc_apiFile : AFunc := ⟨58, (
 .seq (.ops (O 12 (.mv 2) ::
 O 13 (.mv 1) ::
 O 14 (.bin .sub 12 13) ::
 O 10 (.mv 14) ::
 [])) (
 .seq (.ops (O 15 (.mv 3) ::
 O 16 (.mv 2) ::
 O 17 (.bin .sub 15 16) ::
 O 11 (.mv 17) ::
 [])) (
 .seq (
 .block 0 (
 .loop (c_slices_rotateCmpFunc_apiFile_p0))) (c_slices_rotateCmpFunc_apiFile_p4)))), []⟩
theorem is_slices_rotateCmpFunc_apiFile : IsFun Go.Proofs.Tryz.prog f_slices_rotateCmpFunc_apiFile c_slices_rotateCmpFunc_apiFile := cFunc_is (obj := false) (by kernel_rfl)

abbrev f_bits_Writer_Code : Nat := 271
def c_bits_Writer_Code_p2 : ACode :=
 .seq (
 .block 1 (.ops (O 17 (.mv 0) ::
 O 18 (.mv 1) ::
 O 19 (.mv 6) ::
 O 20 (.bin .shr 18 19) ::
 O 21 (.bin .and 20 (I 1)) ::
 C 22 234 [17, 21] ::
 []))) (.ops (O 15 (.mv 6) ::
 O 16 (.bin .sub 15 (I 1)) ::
 O 6 (.mv 16) ::
 []))
def c_bits_Writer_Code_p1 : ACode :=
 .seq (
 .seq (.ops (O 13 (.mv 6) ::
 O 14 (.bin .geq 13 (I 0)) ::
 [])) (
 .cond 14 (.skip) (.exit 0))) (c_bits_Writer_Code_p2)
def c_bits_Writer_Code_p0 : ACode :=
 .seq (.ops (O 9 (.mv 2) ::
 O 10 (.mm true 9 [(I 0)]) ::
 O 11 (.mm false 10 [(I 62)]) ::
 O 12 (.bin .sub 11 (I 1)) ::
 O 6 (.mv 12) ::
 [])) (
 .block 0 (
 .loop (c_bits_Writer_Code_p1)))
def c_bits_Writer_Code : AFunc := ⟨23, (
 .seq (
 .seq (.ops (O 7 (.mv 0) ::
 O 8 (.eqn .ptr .eql 7 (.c (.nilp))) ::
 [])) (
 .cond 8 (.ret) (.skip))) (c_bits_Writer_Code_p0)), []⟩
theorem is_bits_Writer_Code : IsFun Go.Proofs.Tryz.prog f_bits_Writer_Code c_bits_Writer_Code := cFunc_is (obj := false) (by kernel_rfl)

abbrev f_flate_band : Nat := 272
def c_flate_band_p1 : ACode :=
 .block 1 (.ops (O 14 (.mv 7) ::
 O 15 (.bin .add 14 (I 1)) ::
 O 7 (.mv 15) ::
 []))
def c_flate_band_p0 : ACode :=
 .seq (
 .seq (.ops (O 8 (.mv 0) ::
 O 9 (.mv 7) ::
 O 10 (.bin .shr 8 9) ::
 O 11 (.mv 1) ::
 O 12 (.bin .shl (I 2) 11) ::
 O 13 (.bin .geq 10 12) ::
 [])) (
 .cond 13 (.skip) (.exit 0))) (c_flate_band_p1)
def c_flate_band_p2 : ACode :=
 .seq (.ops (O 16 (.mv 7) ::
 O 17 (.mv 1) ::
 O 18 (.bin .shl 16 17) ::
 O 19 (.mv 0) ::
 O 20 (.mv 7) ::
 O 21 (.bin .shr 19 20) ::
 O 22 (.bin .add 18 21) ::
 O 23 (.mv 7) ::
 O 24 (.mv 0) ::
 O 25 (.mv 7) ::
 O 26 (.bin .shl (I 1) 25) ::
 O 27 (.bin .sub 26 (I 1)) ::
 O 28 (.bin .and 24 27) ::
 O 4 (.mv 22) ::
 O 5 (.mv 23) ::
 O 6 (.mv 28) ::
 [])) (
 .ret)
def c_flate_band : AFunc := ⟨29, (
 .seq (.ops (O 4 (.mv (I 0)) ::
 O 5 (.mv (I 0)) ::
 O 6 (.mv (I 0)) ::
 [])) (
 .seq (.ops (O 7 (.mv (I 0)) ::
 [])) (
 .seq (
 .block 0 (
 .loop (c_flate_band_p0))) (c_flate_band_p2)))), [.t 4, .t 5, .t 6]⟩
theorem is_flate_band : IsFun Go.Proofs.Tryz.prog f_flate_band c_flate_band := cFunc_is (obj := false) (by kernel_rfl)

abbrev f_huff_Lengths_fn1 : Nat := 273
def c_huff_Lengths_fn1_p0 : List AOper :=
 OF 5 6 (.mv 0) ::
 OF 5 7 (.bin .gtr 6 (I 4294967296)) ::
 O 8 (.pick 5 (.c (.bool true)) 7) ::
 O 2 (.mv 8) ::
 []
def c_huff_Lengths_fn1 : AFunc := ⟨9, (
 .seq (.ops (O 2 (.mv (.c (.bool false))) ::
 [])) (
 .seq (.ops (O 3 (.mv 0) ::
 O 4 (.bin .lss 3 (I 0)) ::
 O 5 (.mv 4) ::
 c_huff_Lengths_fn1_p0)) (
 .ret))), [.t 2]⟩
theorem is_huff_Lengths_fn1 : IsFun Go.Proofs.Tryz.prog f_huff_Lengths_fn1 c_huff_Lengths_fn1 := cFunc_is (obj := false) (by kernel_rfl)

abbrev f_slices_ContainsFunc_int : Nat := 274
def c_slices_ContainsFunc_int_p0 : List AOper :=
 O 8 (.bin .geq 7 (I 0)) ::
 O 4 (.mv 8) ::
 []
def c_slices_ContainsFunc_int : AFunc := ⟨9, (
 .seq (.ops (O 4 (.mv (.c (.bool false))) ::
 [])) (
 .seq (.ops (O 5 (.mv 0) ::
 O 6 (.mv 1) ::
 C 7 283 [5, 6] ::
 c_slices_ContainsFunc_int_p0)) (
 .ret))), [.t 4]⟩
theorem is_slices_ContainsFunc_int : IsFun Go.Proofs.Tryz.prog f_slices_ContainsFunc_int c_slices_ContainsFunc_int := cFunc_is (obj := false) (by kernel_rfl)

abbrev f_slices_SortStableFunc_int : Nat := 275
def c_slices_SortStableFunc_int : AFunc := ⟨9, (.ops (O 4 (.mv 0) ::
 O 5 (.mv 0) ::
 O 6 (.lenS 5) ::
 O 7 (.mv 1) ::
 C 8 284 [4, 6, 7] ::
 [])), []⟩
theorem is_slices_SortStableFunc_int : IsFun Go.Proofs.Tryz.prog f_slices_SortStableFunc_int c_slices_SortStableFunc_int := cFunc_is (obj := false) (by kernel_rfl)

abbrev f_huff_Lengths_fn2 : Nat := 276
def c_huff_Lengths_fn2_p0 : List AOper :=
 O 5 (.mv 14) ::
 []
def c_huff_Lengths_fn2 : AFunc := ⟨15, (
 .seq (.ops (O 5 (.mv (I 0)) ::
 [])) (
 .seq (.ops (O 6 (.load 1 false 2) ::
 O 7 (.mv 0) ::
 O 8 (.iadS 1 6 7) ::
 O 9 (.load 1 false 8) ::
 O 10 (.load 1 false 2) ::
 O 11 (.mv 1) ::
 O 12 (.iadS 1 10 11) ::
 O 13 (.load 1 false 12) ::
 C 14 277 [9, 13] ::
 c_huff_Lengths_fn2_p0)) (
 .ret))), [.t 5]⟩
theorem is_huff_Lengths_fn2 : IsFun Go.Proofs.Tryz.prog f_huff_Lengths_fn2 c_huff_Lengths_fn2 := cFunc_is (obj := false) (by kernel_rfl)

abbrev f_cmp_Compare_int : Nat := 277
def c_cmp_Compare_int_p0 : List AOper :=
 O 5 (.mv 8) ::
 []
def c_cmp_Compare_int_p1 : List AOper :=
 O 6 (.mv 10) ::
 []
def c_cmp_Compare_int_p3 : ACode :=
 .seq (.ops (O 4 (.mv (I 0)) ::
 [])) (
 .ret)
def c_cmp_Compare_int_p4 : ACode :=
 .seq (.ops (O 4 (.mv (.c (.int .i64 (-1)))) ::
 [])) (
 .ret)
def c_cmp_Compare_int_p2 : ACode :=
 .seq (
 .seq (.ops (O 12 (.mv 6) ::
 [])) (
 .cond 12 (c_cmp_Compare_int_p3) (.skip))) (c_cmp_Compare_int_p4)
def c_cmp_Compare_int_p6 : ACode :=
 .seq (.ops (O 4 (.mv (I 1)) ::
 [])) (
 .ret)
def c_cmp_Compare_int_p8 : ACode :=
 .seq (.ops (O 4 (.mv (.c (.int .i64 (-1)))) ::
 [])) (
 .ret)
def c_cmp_Compare_int_p10 : ACode :=
 .seq (.ops (O 4 (.mv (I 1)) ::
 [])) (
 .ret)
def c_cmp_Compare_int_p11 : ACode :=
 .seq (.ops (O 4 (.mv (I 0)) ::
 [])) (
 .ret)
def c_cmp_Compare_int_p9 : ACode :=
 .seq (
 .seq (.ops (O 17 (.mv 0) ::
 O 18 (.mv 1) ::
 O 19 (.bin .gtr 17 18) ::
 [])) (
 .cond 19 (c_cmp_Compare_int_p10) (.skip))) (c_cmp_Compare_int_p11)
def c_cmp_Compare_int_p7 : ACode :=
 .seq (
 .seq (.ops (O 14 (.mv 0) ::
 O 15 (.mv 1) ::
 O 16 (.bin .lss 14 15) ::
 [])) (
 .cond 16 (c_cmp_Compare_int_p8) (.skip))) (c_cmp_Compare_int_p9)
def c_cmp_Compare_int_p5 : ACode :=
 .seq (
 .seq (.ops (O 13 (.mv 6) ::
 [])) (
 .cond 13 (c_cmp_Compare_int_p6) (.skip))) (c_cmp_Compare_int_p7)
def c_cmp_Compare_int : AFunc := ⟨20, (
 .seq (.ops (O 4 (.mv (I 0)) ::
 [])) (
 .seq (.ops (O 7 (.mv 0) ::
 C 8 285 [7] ::
 c_cmp_Compare_int_p0)) (
 .seq (.ops (O 9 (.mv 1) ::
 C 10 285 [9] ::
 c_cmp_Compare_int_p1)) (
 .seq (
 .seq (.ops (O 11 (.mv 5) ::
 [])) (
 .cond 11 (c_cmp_Compare_int_p2) (.skip))) (c_cmp_Compare_int_p5))))), [.t 4]⟩
theorem is_cmp_Compare_int : IsFun Go.Proofs.Tryz.prog f_cmp_Compare_int c_cmp_Compare_int := cFunc_is (obj := false) (by kernel_rfl)

abbrev f_huff_row : Nat := 278
def c_huff_row_p0 : List AOper :=
 O 5 (.mv 7) ::
 []
def c_huff_row_p2 : ACode :=
 .seq (
 .block 1 (.ops (O 13 (.mv 5) ::
 O 14 (.mv 1) ::
 O 15 (.iadS 2 14 (I 0)) ::
 O 16 (.faddr 0 15) ::
 O 17 (.load 1 false 16) ::
 O 18 (.mv 1) ::
 O 19 (.iadS 2 18 (I 1)) ::
 O 20 (.faddr 0 19) ::
 O 21 (.load 1 false 20) ::
 O 22 (.bin .add 17 21) ::
 O 23 (.build [.nat .i64 0, .bool false] [(0, 1, 22), (1, 1, (.c (.bool true)))]) ::
 O 24 (.lit false 310 1 2 [.nat .i64 0, .bool false] [(0, 2, 23)]) ::
 O 25 (.app 310 2 16 13 24) ::
 O 5 (.mv 25) ::
 []))) (.ops (O 11 (.mv 1) ::
 O 12 (.sliceS 2 11 (some (I 2)) none) ::
 O 1 (.mv 12) ::
 []))
def c_huff_row_p1 : ACode :=
 .seq (
 .seq (.ops (O 8 (.mv 1) ::
 O 9 (.lenS 8) ::
 O 10 (.bin .geq 9 (I 2)) ::
 [])) (
 .cond 10 (.skip) (.exit 0))) (c_huff_row_p2)
def c_huff_row_p3 : ACode :=
 .seq (.ops (O 26 (.mv 5) ::
 C 27 287 [26, (.c (.fn 288 []))] ::
 [])) (
 .seq (.ops (O 28 (.mv 5) ::
 O 4 (.mv 28) ::
 [])) (
 .ret))
def c_huff_row : AFunc := ⟨29, (
 .seq (.ops (O 4 (.mv (.c (.nils))) ::
 [])) (
 .seq (.ops (O 6 (.mv 0) ::
 C 7 286 [6] ::
 c_huff_row_p0)) (
 .seq (
 .block 0 (
 .loop (c_huff_row_p1))) (c_huff_row_p3)))), [.t 4]⟩
theorem is_huff_row : IsFun Go.Proofs.Tryz.prog f_huff_row c_huff_row := cFunc_is (obj := false) (by kernel_rfl)

abbrev f_huff_counted : Nat := 279
def c_huff_counted_p2 : ACode :=
 .ops (
 O 19 (.mv 6) ::
 O 20 (.bin .add 19 (I 1)) ::
 O 6 (.mv 20) ::
 [])
def c_huff_counted_p3 : ACode :=
 .ops (
 O 21 (.bin .add 13 (I 1)) ::
 O 13 (.mv 21) ::
 [])
def c_huff_counted_p1 : ACode :=
 .seq (
 .block 1 (
 .seq (.ops (O 15 (.iadS 2 11 13) ::
 O 16 (.load 2 true 15) ::
 O 8 (.alloc 310 [.nat .i64 0, .bool false]) ::
 S (.store 2 8 16) ::
 [])) (
 .seq (.ops (O 17 (.faddr 1 8) ::
 O 18 (.load 1 false 17) ::
 [])) (
 .cond 18 (c_huff_counted_p2) (.skip))))) (c_huff_counted_p3)
def c_huff_counted_p0 : ACode :=
 .seq (.ops (O 14 (.bin .lss 13 12) ::
 [])) (
 .seq (
 .cond 14 (.skip) (.exit 0)) (c_huff_counted_p1))
def c_huff_counted_p4 : ACode :=
 .seq (.ops (O 22 (.mv 1) ::
 O 23 (.mv 6) ::
 O 24 (.bin .sub 22 23) ::
 O 25 (.mv 6) ::
 O 4 (.mv 24) ::
 O 5 (.mv 25) ::
 [])) (
 .ret)
def c_huff_counted : AFunc := ⟨26, (
 .seq (.ops (O 4 (.mv (I 0)) ::
 O 5 (.mv (I 0)) ::
 [])) (
 .seq (.ops (O 6 (.mv (I 0)) ::
 [])) (
 .seq (
 .seq (.ops (O 9 (.mv 0) ::
 O 10 (.mv 1) ::
 O 11 (.sliceS 2 9 none (some 10)) ::
 O 12 (.lenS 11) ::
 O 13 (.mv (I 0)) ::
 [])) (
 .block 0 (
 .loop (c_huff_counted_p0)))) (c_huff_counted_p4)))), [.t 4, .t 5]⟩
theorem is_huff_counted : IsFun Go.Proofs.Tryz.prog f_huff_counted c_huff_counted := cFunc_is (obj := false) (by kernel_rfl)

abbrev f_internal_bytealg_hashStr_string : Nat := 281
def c_internal_bytealg_hashStr_string_p1 : ACode :=
 .seq (
 .block 1 (.ops (O 15 (.mv 4) ::
 O 16 (.bin .mul 15 (U32 16777619)) ::
 O 17 (.mv 0) ::
 O 18 (.mv 5) ::
 O 19 (.idxS 17 18) ::
 O 20 (.toInt .u32 19) ::
 O 21 (.bin .add 16 20) ::
 O 4 (.mv 21) ::
 []))) (.ops (O 13 (.mv 5) ::
 O 14 (.bin .add 13 (I 1)) ::
 O 5 (.mv 14) ::
 []))
def c_internal_bytealg_hashStr_string_p0 : ACode :=
 .seq (
 .seq (.ops (O 9 (.mv 5) ::
 O 10 (.mv 0) ::
 O 11 (.lenT 10) ::
 O 12 (.bin .lss 9 11) ::
 [])) (
 .cond 12 (.skip) (.exit 0))) (c_internal_bytealg_hashStr_string_p1)
def c_internal_bytealg_hashStr_string_p5 : ACode :=
 .ops (
 O 31 (.mv 6) ::
 O 32 (.mv 7) ::
 O 33 (.bin .mul 31 32) ::
 O 6 (.mv 33) ::
 [])
def c_internal_bytealg_hashStr_string_p6 : ACode :=
 .ops (
 O 34 (.mv 7) ::
 O 35 (.mv 7) ::
 O 36 (.bin .mul 34 35) ::
 O 7 (.mv 36) ::
 [])
def c_internal_bytealg_hashStr_string_p7 : ACode :=
 .ops (
 O 26 (.mv 8) ::
 O 27 (.bin .shr 26 (U64 1)) ::
 O 8 (.mv 27) ::
 [])
def c_internal_bytealg_hashStr_string_p4 : ACode :=
 .seq (
 .block 3 (
 .seq (
 .seq (.ops (O 28 (.mv 8) ::
 O 29 (.bin .and 28 (I 1)) ::
 O 30 (.bin .neq 29 (I 0)) ::
 [])) (
 .cond 30 (c_internal_bytealg_hashStr_string_p5) (.skip))) (c_internal_bytealg_hashStr_string_p6))) (c_internal_bytealg_hashStr_string_p7)
def c_internal_bytealg_hashStr_string_p3 : ACode :=
 .seq (
 .seq (.ops (O 24 (.mv 8) ::
 O 25 (.bin .gtr 24 (I 0)) ::
 [])) (
 .cond 25 (.skip) (.exit 2))) (c_internal_bytealg_hashStr_string_p4)
def c_internal_bytealg_hashStr_string_p8 : ACode :=
 .seq (.ops (O 37 (.mv 4) ::
 O 38 (.mv 6) ::
 O 2 (.mv 37) ::
 O 3 (.mv 38) ::
 [])) (
 .ret)
def c_internal_bytealg_hashStr_string_p2 : ACode :=
 .seq (.ops (O 6 (.mv (U32 1)) ::
 O 7 (.mv (U32 16777619)) ::
 [])) (
 .seq (
 .seq (.ops (O 22 (.mv 0) ::
 O 23 (.lenT 22) ::
 O 8 (.mv 23) ::
 [])) (
 .block 2 (
 .loop (c_internal_bytealg_hashStr_string_p3)))) (c_internal_bytealg_hashStr_string_p8))
def c_internal_bytealg_hashStr_string : AFunc := ⟨39, (
 .seq (.ops (O 2 (.mv (U32 0)) ::
 O 3 (.mv (U32 0)) ::
 [])) (
 .seq (.ops (O 4 (.mv (U32 0)) ::
 [])) (
 .seq (
 .seq (.ops (O 5 (.mv (I 0)) ::
 [])) (
 .block 0 (
 .loop (c_internal_bytealg_hashStr_string_p0)))) (c_internal_bytealg_hashStr_string_p2)))), [.t 2, .t 3]⟩
theorem is_internal_bytealg_hashStr_string : IsFun Go.Proofs.Tryz.prog f_internal_bytealg_hashStr_string c_internal_bytealg_hashStr_string := cFunc_is (obj := false) (by kernel_rfl)

abbrev f_slices_swapRangeCmpFunc_apiFile : Nat := 282
def c_slices_swapRangeCmpFunc_apiFile_p1 : ACode :=
 .seq (
 .block 1 (.ops (O 16 (.mv 0) ::
 O 17 (.mv 1) ::
 O 18 (.mv 10) ::
 O 19 (.bin .add 17 18) ::
 O 20 (.mv 0) ::
 O 21 (.mv 2) ::
 O 22 (.mv 10) ::
 O 23 (.bin .add 21 22) ::
 O 24 (.mv 0) ::
 O 25 (.mv 2) ::
 O 26 (.mv 10) ::
 O 27 (.bin .add 25 26) ::
 O 28 (.iadS 2 24 27) ::
 O 29 (.load 2 true 28) ::
 O 30 (.mv 0) ::
 O 31 (.mv 1) ::
 O 32 (.mv 10) ::
 O 33 (.bin .add 31 32) ::
 O 34 (.iadS 2 30 33) ::
 O 35 (.load 2 true 34) ::
 O 36 (.iadS 2 16 19) ::
 S (.store 2 36 29) ::
 O 37 (.iadS 2 20 23) ::
 S (.store 2 37 35) ::
 []))) (.ops (O 14 (.mv 10) ::
 O 15 (.bin .add 14 (I 1)) ::
 O 10 (.mv 15) ::
 []))
def c_slices_swapRangeCmpFunc_apiFile_p0 : ACode :=
 .seq (
 .seq (.ops (O 11 (.mv 10) ::
 O 12 (.mv 3) ::
 O 13 (.bin .lss 11 12) ::
 [])) (
 .cond 13 (.skip) (.exit 0))) (c_slices_swapRangeCmpFunc_apiFile_p1)
def c_slices_swapRangeCmpFunc_apiFile : AFunc := ⟨38, (
 .seq (.ops (O 10 (.mv (I 0)) ::
 [])) (
 .block 0 (
 .loop (c_slices_swapRangeCmpFunc_apiFile_p0)))), []⟩
theorem is_slices_swapRangeCmpFunc_apiFile : IsFun Go.Proofs.Tryz.prog f_slices_swapRangeCmpFunc_apiFile c_slices_swapRangeCmpFunc_apiFile := cFunc_is (obj := false) (by kernel_rfl)

abbrev f_slices_IndexFunc_int : Nat := 283
def c_slices_IndexFunc_int_p2 : ACode :=
 .seq (.ops (O 17 (.mv 5) ::
 O 4 (.mv 17) ::
 [])) (
 .ret)
def c_slices_IndexFunc_int_p3 : ACode :=
 .ops (
 O 18 (.bin .add 8 (I 1)) ::
 O 8 (.mv 18) ::
 [])
def c_slices_IndexFunc_int_p1 : ACode :=
 .seq (
 .block 1 (
 .seq (.ops (O 10 (.mv 8) ::
 O 5 (.mv 10) ::
 [])) (
 .seq (.ops (O 11 (.mv 1) ::
 O 12 (.mv 0) ::
 O 13 (.mv 5) ::
 O 14 (.iadS 1 12 13) ::
 O 15 (.load 1 false 14) ::
 CV 16 11 [15] ::
 [])) (
 .cond 16 (c_slices_IndexFunc_int_p2) (.skip))))) (c_slices_IndexFunc_int_p3)
def c_slices_IndexFunc_int_p0 : ACode :=
 .seq (.ops (O 9 (.bin .lss 8 7) ::
 [])) (
 .seq (
 .cond 9 (.skip) (.exit 0)) (c_slices_IndexFunc_int_p1))
def c_slices_IndexFunc_int_p4 : ACode :=
 .seq (.ops (O 4 (.mv (.c (.int .i64 (-1)))) ::
 [])) (
 .ret)
def c_slices_IndexFunc_int : AFunc := ⟨19, (
 .seq (.ops (O 4 (.mv (I 0)) ::
 [])) (
 .seq (
 .seq (.ops (O 6 (.mv 0) ::
 O 7 (.lenS 6) ::
 O 8 (.mv (I 0)) ::
 [])) (
 .block 0 (
 .loop (c_slices_IndexFunc_int_p0)))) (c_slices_IndexFunc_int_p4))), [.t 4]⟩
theorem is_slices_IndexFunc_int : IsFun Go.Proofs.Tryz.prog f_slices_IndexFunc_int c_slices_IndexFunc_int := cFunc_is (obj := false) (by kernel_rfl)

abbrev f_slices_stableCmpFunc_int : Nat := 284
def c_slices_stableCmpFunc_int_p1 : ACode :=
 .block 1 (
 .seq (.ops (O 14 (.mv 0) ::
 O 15 (.mv 7) ::
 O 16 (.mv 8) ::
 O 17 (.mv 2) ::
 C 18 289 [14, 15, 16, 17] ::
 [])) (
 .seq (.ops (O 19 (.mv 8) ::
 O 7 (.mv 19) ::
 [])) (.ops (O 20 (.mv 8) ::
 O 21 (.mv 6) ::
 O 22 (.bin .add 20 21) ::
 O 8 (.mv 22) ::
 []))))
def c_slices_stableCmpFunc_int_p0 : ACode :=
 .seq (
 .seq (.ops (O 11 (.mv 8) ::
 O 12 (.mv 1) ::
 O 13 (.bin .leq 11 12) ::
 [])) (
 .cond 13 (.skip) (.exit 0))) (c_slices_stableCmpFunc_int_p1)
def c_slices_stableCmpFunc_int_p6 : ACode :=
 .block 5 (
 .seq (.ops (O 36 (.mv 0) ::
 O 37 (.mv 7) ::
 O 38 (.mv 7) ::
 O 39 (.mv 6) ::
 O 40 (.bin .add 38 39) ::
 O 41 (.mv 8) ::
 O 42 (.mv 2) ::
 C 43 290 [36, 37, 40, 41, 42] ::
 [])) (
 .seq (.ops (O 44 (.mv 8) ::
 O 7 (.mv 44) ::
 [])) (.ops (O 45 (.mv 8) ::
 O 46 (.mv 6) ::
 O 47 (.bin .mul (I 2) 46) ::
 O 48 (.bin .add 45 47) ::
 O 8 (.mv 48) ::
 []))))
def c_slices_stableCmpFunc_int_p5 : ACode :=
 .seq (
 .seq (.ops (O 33 (.mv 8) ::
 O 34 (.mv 1) ::
 O 35 (.bin .leq 33 34) ::
 [])) (
 .cond 35 (.skip) (.exit 4))) (c_slices_stableCmpFunc_int_p6)
def c_slices_stableCmpFunc_int_p8 : ACode :=
 .ops (
 O 55 (.mv 0) ::
 O 56 (.mv 7) ::
 O 57 (.mv 9) ::
 O 58 (.mv 1) ::
 O 59 (.mv 2) ::
 C 60 290 [55, 56, 57, 58, 59] ::
 [])
def c_slices_stableCmpFunc_int_p9 : ACode :=
 .ops (
 O 61 (.mv 6) ::
 O 62 (.bin .mul 61 (I 2)) ::
 O 6 (.mv 62) ::
 [])
def c_slices_stableCmpFunc_int_p7 : ACode :=
 .seq (
 .seq (.ops (O 49 (.mv 7) ::
 O 50 (.mv 6) ::
 O 51 (.bin .add 49 50) ::
 O 9 (.mv 51) ::
 [])) (
 .seq (.ops (O 52 (.mv 9) ::
 O 53 (.mv 1) ::
 O 54 (.bin .lss 52 53) ::
 [])) (
 .cond 54 (c_slices_stableCmpFunc_int_p8) (.skip)))) (c_slices_stableCmpFunc_int_p9)
def c_slices_stableCmpFunc_int_p4 : ACode :=
 .block 3 (
 .seq (.ops (O 31 (.mv 6) ::
 O 32 (.bin .mul (I 2) 31) ::
 O 7 (.mv (I 0)) ::
 O 8 (.mv 32) ::
 [])) (
 .seq (
 .block 4 (
 .loop (c_slices_stableCmpFunc_int_p5))) (c_slices_stableCmpFunc_int_p7)))
def c_slices_stableCmpFunc_int_p3 : ACode :=
 .seq (
 .seq (.ops (O 28 (.mv 6) ::
 O 29 (.mv 1) ::
 O 30 (.bin .lss 28 29) ::
 [])) (
 .cond 30 (.skip) (.exit 2))) (c_slices_stableCmpFunc_int_p4)
def c_slices_stableCmpFunc_int_p2 : ACode :=
 .seq (.ops (O 23 (.mv 0) ::
 O 24 (.mv 7) ::
 O 25 (.mv 1) ::
 O 26 (.mv 2) ::
 C 27 289 [23, 24, 25, 26] ::
 [])) (
 .block 2 (
 .loop (c_slices_stableCmpFunc_int_p3)))
def c_slices_stableCmpFunc_int : AFunc := ⟨63, (
 .seq (.ops (O 6 (.mv (I 20)) ::
 [])) (
 .seq (.ops (O 10 (.mv 6) ::
 O 7 (.mv (I 0)) ::
 O 8 (.mv 10) ::
 [])) (
 .seq (
 .block 0 (
 .loop (c_slices_stableCmpFunc_int_p0))) (c_slices_stableCmpFunc_int_p2)))), []⟩
theorem is_slices_stableCmpFunc_int : IsFun Go.Proofs.Tryz.prog f_slices_stableCmpFunc_int c_slices_stableCmpFunc_int := cFunc_is (obj := false) (by kernel_rfl)

abbrev f_cmp_isNaN_int : Nat := 285
def c_cmp_isNaN_int : AFunc := ⟨6, (
 .seq (.ops (O 2 (.mv (.c (.bool false))) ::
 [])) (
 .seq (.ops (O 3 (.mv 0) ::
 O 4 (.mv 0) ::
 O 5 (.bin .neq 3 4) ::
 O 2 (.mv 5) ::
 [])) (
 .ret))), [.t 2]⟩
theorem is_cmp_isNaN_int : IsFun Go.Proofs.Tryz.prog f_cmp_isNaN_int c_cmp_isNaN_int := cFunc_is (obj := false) (by kernel_rfl)

abbrev f_slices_Clone_huff_coin : Nat := 286
def c_slices_Clone_huff_coin_p0 : ACode :=
 .seq (.ops (O 2 (.mv (.c (.nils))) ::
 [])) (
 .ret)
def c_slices_Clone_huff_coin_p1 : ACode :=
 .seq (.ops (O 5 (.lit false 310 0 2 [.nat .i64 0, .bool false] []) ::
 O 6 (.mv 0) ::
 O 7 (.app 310 2 16 5 6) ::
 O 2 (.mv 7) ::
 [])) (
 .ret)
def c_slices_Clone_huff_coin : AFunc := ⟨8, (
 .seq (.ops (O 2 (.mv (.c (.nils))) ::
 [])) (
 .seq (
 .seq (.ops (O 3 (.mv 0) ::
 O 4 (.eqn .slice .eql 3 (.c (.nils))) ::
 [])) (
 .cond 4 (c_slices_Clone_huff_coin_p0) (.skip))) (c_slices_Clone_huff_coin_p1))), [.t 2]⟩
theorem is_slices_Clone_huff_coin : IsFun Go.Proofs.Tryz.prog f_slices_Clone_huff_coin c_slices_Clone_huff_coin := cFunc_is (obj := false) (by kernel_rfl)

abbrev f_slices_SortStableFunc_huff_coin : Nat := 287
def c_slices_SortStableFunc_huff_coin : AFunc := ⟨9, (.ops (O 4 (.mv 0) ::
 O 5 (.mv 0) ::
 O 6 (.lenS 5) ::
 O 7 (.mv 1) ::
 C 8 291 [4, 6, 7] ::
 [])), []⟩
theorem is_slices_SortStableFunc_huff_coin : IsFun Go.Proofs.Tryz.prog f_slices_SortStableFunc_huff_coin c_slices_SortStableFunc_huff_coin := cFunc_is (obj := false) (by kernel_rfl)

abbrev f_huff_lighter : Nat := 288
def c_huff_lighter_p0 : List AOper :=
 O 4 (.mv 9) ::
 []
def c_huff_lighter : AFunc := ⟨10, (
 .seq (.ops (O 2 (.box 310 0) ::
 O 3 (.box 310 1) ::
 O 4 (.mv (I 0)) ::
 [])) (
 .seq (.ops (O 5 (.faddr 0 2) ::
 O 6 (.load 1 false 5) ::
 O 7 (.faddr 0 3) ::
 O 8 (.load 1 false 7) ::
 C 9 277 [6, 8] ::
 c_huff_lighter_p0)) (
 .ret))), [.t 4]⟩
theorem is_huff_lighter : IsFun Go.Proofs.Tryz.prog f_huff_lighter c_huff_lighter := cFunc_is (obj := false) (by kernel_rfl)

abbrev f_slices_insertionSortCmpFunc_int : Nat := 289
def c_slices_insertionSortCmpFunc_int_p4 : List AOper :=
 OT 21 33 (.bin .lss 32 (I 0)) ::
 O 34 (.pick 21 33 (.c (.bool false))) ::
 []
def c_slices_insertionSortCmpFunc_int_p3 : List AOper :=
 OT 21 22 (.mv 3) ::
 OT 21 23 (.mv 0) ::
 OT 21 24 (.mv 9) ::
 OT 21 25 (.iadS 1 23 24) ::
 OT 21 26 (.load 1 false 25) ::
 OT 21 27 (.mv 0) ::
 OT 21 28 (.mv 9) ::
 OT 21 29 (.bin .sub 28 (I 1)) ::
 OT 21 30 (.iadS 1 27 29) ::
 OT 21 31 (.load 1 false 30) ::
 ⟨(some 32), .callv 22 [26, 31], (some (21, true))⟩ ::
 c_slices_insertionSortCmpFunc_int_p4
def c_slices_insertionSortCmpFunc_int_p5 : ACode :=
 .seq (
 .block 3 (.ops (O 37 (.mv 0) ::
 O 38 (.mv 9) ::
 O 39 (.mv 0) ::
 O 40 (.mv 9) ::
 O 41 (.bin .sub 40 (I 1)) ::
 O 42 (.mv 0) ::
 O 43 (.mv 9) ::
 O 44 (.bin .sub 43 (I 1)) ::
 O 45 (.iadS 1 42 44) ::
 O 46 (.load 1 false 45) ::
 O 47 (.mv 0) ::
 O 48 (.mv 9) ::
 O 49 (.iadS 1 47 48) ::
 O 50 (.load 1 false 49) ::
 O 51 (.iadS 1 37 38) ::
 S (.store 1 51 46) ::
 O 52 (.iadS 1 39 41) ::
 S (.store 1 52 50) ::
 []))) (.ops (O 35 (.mv 9) ::
 O 36 (.bin .sub 35 (I 1)) ::
 O 9 (.mv 36) ::
 []))
def c_slices_insertionSortCmpFunc_int_p2 : ACode :=
 .seq (
 .seq (.ops (O 18 (.mv 9) ::
 O 19 (.mv 1) ::
 O 20 (.bin .gtr 18 19) ::
 O 21 (.mv 20) ::
 c_slices_insertionSortCmpFunc_int_p3)) (
 .cond 34 (.skip) (.exit 2))) (c_slices_insertionSortCmpFunc_int_p5)
def c_slices_insertionSortCmpFunc_int_p6 : ACode :=
 .ops (
 O 15 (.mv 8) ::
 O 16 (.bin .add 15 (I 1)) ::
 O 8 (.mv 16) ::
 [])
def c_slices_insertionSortCmpFunc_int_p1 : ACode :=
 .seq (
 .block 1 (
 .seq (.ops (O 17 (.mv 8) ::
 O 9 (.mv 17) ::
 [])) (
 .block 2 (
 .loop (c_slices_insertionSortCmpFunc_int_p2))))) (c_slices_insertionSortCmpFunc_int_p6)
def c_slices_insertionSortCmpFunc_int_p0 : ACode :=
 .seq (
 .seq (.ops (O 12 (.mv 8) ::
 O 13 (.mv 2) ::
 O 14 (.bin .lss 12 13) ::
 [])) (
 .cond 14 (.skip) (.exit 0))) (c_slices_insertionSortCmpFunc_int_p1)
def c_slices_insertionSortCmpFunc_int : AFunc := ⟨53, (
 .seq (.ops (O 10 (.mv 1) ::
 O 11 (.bin .add 10 (I 1)) ::
 O 8 (.mv 11) ::
 [])) (
 .block 0 (
 .loop (c_slices_insertionSortCmpFunc_int_p0)))), []⟩
theorem is_slices_insertionSortCmpFunc_int : IsFun Go.Proofs.Tryz.prog f_slices_insertionSortCmpFunc_int c_slices_insertionSortCmpFunc_int := cFunc_is (obj := false) (by kernel_rfl)

abbrev f_slices_symMergeCmpFunc_int : Nat := 290
def c_slices_symMergeCmpFunc_int_p3 : List AOper :=
 O 50 (.bin .lss 49 (I 0)) ::
 []
def c_slices_symMergeCmpFunc_int_p4 : ACode :=
 .ops (
 O 51 (.mv 12) ::
 O 52 (.bin .add 51 (I 1)) ::
 O 10 (.mv 52) ::
 [])
def c_slices_symMergeCmpFunc_int_p5 : ACode :=
 .ops (
 O 53 (.mv 12) ::
 O 11 (.mv 53) ::
 [])
def c_slices_symMergeCmpFunc_int_p2 : ACode :=
 .block 1 (
 .seq (.ops (O 34 (.mv 10) ::
 O 35 (.mv 11) ::
 O 36 (.bin .add 34 35) ::
 O 37 (.toInt .u64 36) ::
 O 38 (.bin .shr 37 (U64 1)) ::
 O 39 (.toInt .i64 38) ::
 O 12 (.mv 39) ::
 [])) (
 .seq (.ops (O 40 (.mv 4) ::
 O 41 (.mv 0) ::
 O 42 (.mv 12) ::
 O 43 (.iadS 1 41 42) ::
 O 44 (.load 1 false 43) ::
 O 45 (.mv 0) ::
 O 46 (.mv 1) ::
 O 47 (.iadS 1 45 46) ::
 O 48 (.load 1 false 47) ::
 CV 49 40 [44, 48] ::
 c_slices_symMergeCmpFunc_int_p3)) (
 .cond 50 (c_slices_symMergeCmpFunc_int_p4) (c_slices_symMergeCmpFunc_int_p5))))
def c_slices_symMergeCmpFunc_int_p1 : ACode :=
 .seq (
 .seq (.ops (O 31 (.mv 10) ::
 O 32 (.mv 11) ::
 O 33 (.bin .lss 31 32) ::
 [])) (
 .cond 33 (.skip) (.exit 0))) (c_slices_symMergeCmpFunc_int_p2)
def c_slices_symMergeCmpFunc_int_p8 : ACode :=
 .seq (
 .block 3 (.ops (O 61 (.mv 0) ::
 O 62 (.mv 13) ::
 O 63 (.mv 0) ::
 O 64 (.mv 13) ::
 O 65 (.bin .add 64 (I 1)) ::
 O 66 (.mv 0) ::
 O 67 (.mv 13) ::
 O 68 (.bin .add 67 (I 1)) ::
 O 69 (.iadS 1 66 68) ::
 O 70 (.load 1 false 69) ::
 O 71 (.mv 0) ::
 O 72 (.mv 13) ::
 O 73 (.iadS 1 71 72) ::
 O 74 (.load 1 false 73) ::
 O 75 (.iadS 1 61 62) ::
 S (.store 1 75 70) ::
 O 76 (.iadS 1 63 65) ::
 S (.store 1 76 74) ::
 []))) (.ops (O 59 (.mv 13) ::
 O 60 (.bin .add 59 (I 1)) ::
 O 13 (.mv 60) ::
 []))
def c_slices_symMergeCmpFunc_int_p7 : ACode :=
 .seq (
 .seq (.ops (O 55 (.mv 13) ::
 O 56 (.mv 10) ::
 O 57 (.bin .sub 56 (I 1)) ::
 O 58 (.bin .lss 55 57) ::
 [])) (
 .cond 58 (.skip) (.exit 2))) (c_slices_symMergeCmpFunc_int_p8)
def c_slices_symMergeCmpFunc_int_p6 : ACode :=
 .seq (
 .seq (.ops (O 54 (.mv 1) ::
 O 13 (.mv 54) ::
 [])) (
 .block 2 (
 .loop (c_slices_symMergeCmpFunc_int_p7)))) (.ret)
def c_slices_symMergeCmpFunc_int_p0 : ACode :=
 .seq (.ops (O 29 (.mv 2) ::
 O 10 (.mv 29) ::
 [])) (
 .seq (.ops (O 30 (.mv 3) ::
 O 11 (.mv 30) ::
 [])) (
 .seq (
 .block 0 (
 .loop (c_slices_symMergeCmpFunc_int_p1))) (c_slices_symMergeCmpFunc_int_p6)))
def c_slices_symMergeCmpFunc_int_p13 : List AOper :=
 O 102 (.bin .lss 101 (I 0)) ::
 O 103 (.un .not 102) ::
 []
def c_slices_symMergeCmpFunc_int_p14 : ACode :=
 .ops (
 O 104 (.mv 16) ::
 O 105 (.bin .add 104 (I 1)) ::
 O 14 (.mv 105) ::
 [])
def c_slices_symMergeCmpFunc_int_p15 : ACode :=
 .ops (
 O 106 (.mv 16) ::
 O 15 (.mv 106) ::
 [])
def c_slices_symMergeCmpFunc_int_p12 : ACode :=
 .block 5 (
 .seq (.ops (O 86 (.mv 14) ::
 O 87 (.mv 15) ::
 O 88 (.bin .add 86 87) ::
 O 89 (.toInt .u64 88) ::
 O 90 (.bin .shr 89 (U64 1)) ::
 O 91 (.toInt .i64 90) ::
 O 16 (.mv 91) ::
 [])) (
 .seq (.ops (O 92 (.mv 4) ::
 O 93 (.mv 0) ::
 O 94 (.mv 2) ::
 O 95 (.iadS 1 93 94) ::
 O 96 (.load 1 false 95) ::
 O 97 (.mv 0) ::
 O 98 (.mv 16) ::
 O 99 (.iadS 1 97 98) ::
 O 100 (.load 1 false 99) ::
 CV 101 92 [96, 100] ::
 c_slices_symMergeCmpFunc_int_p13)) (
 .cond 103 (c_slices_symMergeCmpFunc_int_p14) (c_slices_symMergeCmpFunc_int_p15))))
def c_slices_symMergeCmpFunc_int_p11 : ACode :=
 .seq (
 .seq (.ops (O 83 (.mv 14) ::
 O 84 (.mv 15) ::
 O 85 (.bin .lss 83 84) ::
 [])) (
 .cond 85 (.skip) (.exit 4))) (c_slices_symMergeCmpFunc_int_p12)
def c_slices_symMergeCmpFunc_int_p18 : ACode :=
 .seq (
 .block 7 (.ops (O 113 (.mv 0) ::
 O 114 (.mv 17) ::
 O 115 (.mv 0) ::
 O 116 (.mv 17) ::
 O 117 (.bin .sub 116 (I 1)) ::
 O 118 (.mv 0) ::
 O 119 (.mv 17) ::
 O 120 (.bin .sub 119 (I 1)) ::
 O 121 (.iadS 1 118 120) ::
 O 122 (.load 1 false 121) ::
 O 123 (.mv 0) ::
 O 124 (.mv 17) ::
 O 125 (.iadS 1 123 124) ::
 O 126 (.load 1 false 125) ::
 O 127 (.iadS 1 113 114) ::
 S (.store 1 127 122) ::
 O 128 (.iadS 1 115 117) ::
 S (.store 1 128 126) ::
 []))) (.ops (O 111 (.mv 17) ::
 O 112 (.bin .sub 111 (I 1)) ::
 O 17 (.mv 112) ::
 []))
def c_slices_symMergeCmpFunc_int_p17 : ACode :=
 .seq (
 .seq (.ops (O 108 (.mv 17) ::
 O 109 (.mv 14) ::
 O 110 (.bin .gtr 108 109) ::
 [])) (
 .cond 110 (.skip) (.exit 6))) (c_slices_symMergeCmpFunc_int_p18)
def c_slices_symMergeCmpFunc_int_p16 : ACode :=
 .seq (
 .seq (.ops (O 107 (.mv 2) ::
 O 17 (.mv 107) ::
 [])) (
 .block 6 (
 .loop (c_slices_symMergeCmpFunc_int_p17)))) (.ret)
def c_slices_symMergeCmpFunc_int_p10 : ACode :=
 .seq (.ops (O 81 (.mv 1) ::
 O 14 (.mv 81) ::
 [])) (
 .seq (.ops (O 82 (.mv 2) ::
 O 15 (.mv 82) ::
 [])) (
 .seq (
 .block 4 (
 .loop (c_slices_symMergeCmpFunc_int_p11))) (c_slices_symMergeCmpFunc_int_p16)))
def c_slices_symMergeCmpFunc_int_p20 : ACode :=
 .seq (.ops (O 141 (.mv 19) ::
 O 142 (.mv 3) ::
 O 143 (.bin .sub 141 142) ::
 O 20 (.mv 143) ::
 [])) (.ops (O 144 (.mv 18) ::
 O 21 (.mv 144) ::
 []))
def c_slices_symMergeCmpFunc_int_p21 : ACode :=
 .seq (.ops (O 145 (.mv 1) ::
 O 20 (.mv 145) ::
 [])) (.ops (O 146 (.mv 2) ::
 O 21 (.mv 146) ::
 []))
def c_slices_symMergeCmpFunc_int_p25 : List AOper :=
 O 170 (.bin .lss 169 (I 0)) ::
 O 171 (.un .not 170) ::
 []
def c_slices_symMergeCmpFunc_int_p26 : ACode :=
 .ops (
 O 172 (.mv 23) ::
 O 173 (.bin .add 172 (I 1)) ::
 O 20 (.mv 173) ::
 [])
def c_slices_symMergeCmpFunc_int_p27 : ACode :=
 .ops (
 O 174 (.mv 23) ::
 O 21 (.mv 174) ::
 [])
def c_slices_symMergeCmpFunc_int_p24 : ACode :=
 .block 9 (
 .seq (.ops (O 152 (.mv 20) ::
 O 153 (.mv 21) ::
 O 154 (.bin .add 152 153) ::
 O 155 (.toInt .u64 154) ::
 O 156 (.bin .shr 155 (U64 1)) ::
 O 157 (.toInt .i64 156) ::
 O 23 (.mv 157) ::
 [])) (
 .seq (.ops (O 158 (.mv 4) ::
 O 159 (.mv 0) ::
 O 160 (.mv 22) ::
 O 161 (.mv 23) ::
 O 162 (.bin .sub 160 161) ::
 O 163 (.iadS 1 159 162) ::
 O 164 (.load 1 false 163) ::
 O 165 (.mv 0) ::
 O 166 (.mv 23) ::
 O 167 (.iadS 1 165 166) ::
 O 168 (.load 1 false 167) ::
 CV 169 158 [164, 168] ::
 c_slices_symMergeCmpFunc_int_p25)) (
 .cond 171 (c_slices_symMergeCmpFunc_int_p26) (c_slices_symMergeCmpFunc_int_p27))))
def c_slices_symMergeCmpFunc_int_p23 : ACode :=
 .seq (
 .seq (.ops (O 149 (.mv 20) ::
 O 150 (.mv 21) ::
 O 151 (.bin .lss 149 150) ::
 [])) (
 .cond 151 (.skip) (.exit 8))) (c_slices_symMergeCmpFunc_int_p24)
def c_slices_symMergeCmpFunc_int_p29 : List AOper :=
 OT 181 182 (.mv 2) ::
 OT 181 183 (.mv 24) ::
 OT 181 184 (.bin .lss 182 183) ::
 O 185 (.pick 181 184 (.c (.bool false))) ::
 []
def c_slices_symMergeCmpFunc_int_p30 : ACode :=
 .ops (
 O 186 (.mv 0) ::
 O 187 (.mv 20) ::
 O 188 (.mv 2) ::
 O 189 (.mv 24) ::
 O 190 (.mv 4) ::
 C 191 292 [186, 187, 188, 189, 190] ::
 [])
def c_slices_symMergeCmpFunc_int_p32 : List AOper :=
 OT 195 196 (.mv 20) ::
 OT 195 197 (.mv 18) ::
 OT 195 198 (.bin .lss 196 197) ::
 O 199 (.pick 195 198 (.c (.bool false))) ::
 []
def c_slices_symMergeCmpFunc_int_p33 : ACode :=
 .ops (
 O 200 (.mv 0) ::
 O 201 (.mv 1) ::
 O 202 (.mv 20) ::
 O 203 (.mv 18) ::
 O 204 (.mv 4) ::
 C 205 290 [200, 201, 202, 203, 204] ::
 [])
def c_slices_symMergeCmpFunc_int_p35 : List AOper :=
 OT 209 210 (.mv 24) ::
 OT 209 211 (.mv 3) ::
 OT 209 212 (.bin .lss 210 211) ::
 O 213 (.pick 209 212 (.c (.bool false))) ::
 []
def c_slices_symMergeCmpFunc_int_p36 : ACode :=
 .ops (
 O 214 (.mv 0) ::
 O 215 (.mv 18) ::
 O 216 (.mv 24) ::
 O 217 (.mv 3) ::
 O 218 (.mv 4) ::
 C 219 290 [214, 215, 216, 217, 218] ::
 [])
def c_slices_symMergeCmpFunc_int_p34 : ACode :=
 .seq (.ops (O 206 (.mv 18) ::
 O 207 (.mv 24) ::
 O 208 (.bin .lss 206 207) ::
 O 209 (.mv 208) ::
 c_slices_symMergeCmpFunc_int_p35)) (
 .cond 213 (c_slices_symMergeCmpFunc_int_p36) (.skip))
def c_slices_symMergeCmpFunc_int_p31 : ACode :=
 .seq (
 .seq (.ops (O 192 (.mv 1) ::
 O 193 (.mv 20) ::
 O 194 (.bin .lss 192 193) ::
 O 195 (.mv 194) ::
 c_slices_symMergeCmpFunc_int_p32)) (
 .cond 199 (c_slices_symMergeCmpFunc_int_p33) (.skip))) (c_slices_symMergeCmpFunc_int_p34)
def c_slices_symMergeCmpFunc_int_p28 : ACode :=
 .seq (.ops (O 175 (.mv 19) ::
 O 176 (.mv 20) ::
 O 177 (.bin .sub 175 176) ::
 O 24 (.mv 177) ::
 [])) (
 .seq (
 .seq (.ops (O 178 (.mv 20) ::
 O 179 (.mv 2) ::
 O 180 (.bin .lss 178 179) ::
 O 181 (.mv 180) ::
 c_slices_symMergeCmpFunc_int_p29)) (
 .cond 185 (c_slices_symMergeCmpFunc_int_p30) (.skip))) (c_slices_symMergeCmpFunc_int_p31))
def c_slices_symMergeCmpFunc_int_p22 : ACode :=
 .seq (.ops (O 147 (.mv 19) ::
 O 148 (.bin .sub 147 (I 1)) ::
 O 22 (.mv 148) ::
 [])) (
 .seq (
 .block 8 (
 .loop (c_slices_symMergeCmpFunc_int_p23))) (c_slices_symMergeCmpFunc_int_p28))
def c_slices_symMergeCmpFunc_int_p19 : ACode :=
 .seq (.ops (O 129 (.mv 1) ::
 O 130 (.mv 3) ::
 O 131 (.bin .add 129 130) ::
 O 132 (.toInt .u64 131) ::
 O 133 (.bin .shr 132 (U64 1)) ::
 O 134 (.toInt .i64 133) ::
 O 18 (.mv 134) ::
 [])) (
 .seq (.ops (O 135 (.mv 18) ::
 O 136 (.mv 2) ::
 O 137 (.bin .add 135 136) ::
 O 19 (.mv 137) ::
 [])) (
 .seq (.ops (O 20 (.mv (I 0)) ::
 O 21 (.mv (I 0)) ::
 [])) (
 .seq (
 .seq (.ops (O 138 (.mv 2) ::
 O 139 (.mv 18) ::
 O 140 (.bin .gtr 138 139) ::
 [])) (
 .cond 140 (c_slices_symMergeCmpFunc_int_p20) (c_slices_symMergeCmpFunc_int_p21))) (c_slices_symMergeCmpFunc_int_p22))))
def c_slices_symMergeCmpFunc_int_p9 : ACode :=
 .seq (
 .seq (.ops (O 77 (.mv 3) ::
 O 78 (.mv 2) ::
 O 79 (.bin .sub 77 78) ::
 O 80 (.bin .eql 79 (I 1)) ::
 [])) (
 .cond 80 (c_slices_symMergeCmpFunc_int_p10) (.skip))) (c_slices_symMergeCmpFunc_int_p19)
def c_slices_symMergeCmpFunc_int : AFunc := ⟨220, (
 .seq (
 .seq (.ops (O 25 (.mv 2) ::
 O 26 (.mv 1) ::
 O 27 (.bin .sub 25 26) ::
 O 28 (.bin .eql 27 (I 1)) ::
 [])) (
 .cond 28 (c_slices_symMergeCmpFunc_int_p0) (.skip))) (c_slices_symMergeCmpFunc_int_p9)), []⟩
theorem is_slices_symMergeCmpFunc_int : IsFun Go.Proofs.Tryz.prog f_slices_symMergeCmpFunc_int c_slices_symMergeCmpFunc_int := cFunc_is (obj := false) (by kernel_rfl)

abbrev f_slices_stableCmpFunc_huffcoin : Nat := 291
def c_slices_stableCmpFunc_huffcoin_p1 : ACode :=
 .block 1 (
 .seq (.ops (O 14 (.mv 0) ::
 O 15 (.mv 7) ::
 O 16 (.mv 8) ::
 O 17 (.mv 2) ::
 C 18 293 [14, 15, 16, 17] ::
 [])) (
 .seq (.ops (O 19 (.mv 8) ::
 O 7 (.mv 19) ::
 [])) (.ops (O 20 (.mv 8) ::
 O 21 (.mv 6) ::
 O 22 (.bin .add 20 21) ::
 O 8 (.mv 22) ::
 []))))
def c_slices_stableCmpFunc_huffcoin_p0 : ACode :=
 .seq (
 .seq (.ops (O 11 (.mv 8) ::
 O 12 (.mv 1) ::
 O 13 (.bin .leq 11 12) ::
 [])) (
 .cond 13 (.skip) (.exit 0))) (c_slices_stableCmpFunc_huffcoin_p1)
def c_slices_stableCmpFunc_huffcoin_p6 : ACode :=
 .block 5 (
 .seq (.ops (O 36 (.mv 0) ::
 O 37 (.mv 7) ::
 O 38 (.mv 7) ::
 O 39 (.mv 6) ::
 O 40 (.bin .add 38 39) ::
 O 41 (.mv 8) ::
 O 42 (.mv 2) ::
 C 43 294 [36, 37, 40, 41, 42] ::
 [])) (
 .seq (.ops (O 44 (.mv 8) ::
 O 7 (.mv 44) ::
 [])) (.ops (O 45 (.mv 8) ::
 O 46 (.mv 6) ::
 O 47 (.bin .mul (I 2) 46) ::
 O 48 (.bin .add 45 47) ::
 O 8 (.mv 48) ::
 []))))
def c_slices_stableCmpFunc_huffcoin_p5 : ACode :=
 .seq (
 .seq (.ops (O 33 (.mv 8) ::
 O 34 (.mv 1) ::
 O 35 (.bin .leq 33 34) ::
 [])) (
 .cond 35 (.skip) (.exit 4))) (c_slices_stableCmpFunc_huffcoin_p6)
def c_slices_stableCmpFunc_huffcoin_p8 : ACode :=
 .ops (
 O 55 (.mv 0) ::
 O 56 (.mv 7) ::
 O 57 (.mv 9) ::
 O 58 (.mv 1) ::
 O 59 (.mv 2) ::
 C 60 294 [55, 56, 57, 58, 59] ::
 [])
def c_slices_stableCmpFunc_huffcoin_p9 : ACode :=
 .ops (
 O 61 (.mv 6) ::
 O 62 (.bin .mul 61 (I 2)) ::
 O 6 (.mv 62) ::
 [])
def c_slices_stableCmpFunc_huffcoin_p7 : ACode :=
 .seq (
 .seq (.ops (O 49 (.mv 7) ::
 O 50 (.mv 6) ::
 O 51 (.bin .add 49 50) ::
 O 9 (.mv 51) ::
 [])) (
 .seq (.ops (O 52 (.mv 9) ::
 O 53 (.mv 1) ::
 O 54 (.bin .lss 52 53) ::
 [])) (
 .cond 54 (c_slices_stableCmpFunc_huffcoin_p8) (.skip)))) (c_slices_stableCmpFunc_huffcoin_p9)
def c_slices_stableCmpFunc_huffcoin_p4 : ACode :=
 .block 3 (
 .seq (.ops (O 31 (.mv 6) ::
 O 32 (.bin .mul (I 2) 31) ::
 O 7 (.mv (I 0)) ::
 O 8 (.mv 32) ::
 [])) (
 .seq (
 .block 4 (
 .loop (c_slices_stableCmpFunc_huffcoin_p5))) (c_slices_stableCmpFunc_huffcoin_p7)))
def c_slices_stableCmpFunc_huffcoin_p3 : ACode :=
 .seq (
 .seq (.ops (O 28 (.mv 6) ::
 O 29 (.mv 1) ::
 O 30 (.bin .lss 28 29) ::
 [])) (
 .cond 30 (.skip) (.exit 2))) (c_slices_stableCmpFunc_huffcoin_p4)
def c_slices_stableCmpFunc_huffcoin_p2 : ACode :=
 .seq (.ops (O 23 (.mv 0) ::
 O 24 (.mv 7) ::
 O 25 (.mv 1) ::
 O 26 (.mv 2) ::
 C 27 293 [23, 24, 25, 26] ::
 [])) (
 .block 2 (
 .loop (c_slices_stableCmpFunc_huffcoin_p3)))
def c_slices_stableCmpFunc_huffcoin : AFunc := ⟨63, (
 .seq (.ops (O 6 (.mv (I 20)) ::
 [])) (
 .seq (.ops (O 10 (.mv 6) ::
 O 7 (.mv (I 0)) ::
 O 8 (.mv 10) ::
 [])) (
 .seq (
 .block 0 (
 .loop (c_slices_stableCmpFunc_huffcoin_p0))) (c_slices_stableCmpFunc_huffcoin_p2)))), []⟩
theorem is_slices_stableCmpFunc_huffcoin : IsFun Go.Proofs.Tryz.prog f_slices_stableCmpFunc_huffcoin c_slices_stableCmpFunc_huffcoin := cFunc_is (obj := false) (by kernel_rfl)

abbrev f_slices_rotateCmpFunc_int : Nat := 292
def c_slices_rotateCmpFunc_int_p2 : ACode :=
 .seq (.ops (O 24 (.mv 0) ::
 O 25 (.mv 2) ::
 O 26 (.mv 10) ::
 O 27 (.bin .sub 25 26) ::
 O 28 (.mv 2) ::
 O 29 (.mv 11) ::
 O 30 (.mv 4) ::
 C 31 295 [24, 27, 28, 29, 30] ::
 [])) (.ops (O 32 (.mv 10) ::
 O 33 (.mv 11) ::
 O 34 (.bin .sub 32 33) ::
 O 10 (.mv 34) ::
 []))
def c_slices_rotateCmpFunc_int_p3 : ACode :=
 .seq (.ops (O 35 (.mv 0) ::
 O 36 (.mv 2) ::
 O 37 (.mv 10) ::
 O 38 (.bin .sub 36 37) ::
 O 39 (.mv 2) ::
 O 40 (.mv 11) ::
 O 41 (.bin .add 39 40) ::
 O 42 (.mv 10) ::
 O 43 (.bin .sub 41 42) ::
 O 44 (.mv 10) ::
 O 45 (.mv 4) ::
 C 46 295 [35, 38, 43, 44, 45] ::
 [])) (.ops (O 47 (.mv 11) ::
 O 48 (.mv 10) ::
 O 49 (.bin .sub 47 48) ::
 O 11 (.mv 49) ::
 []))
def c_slices_rotateCmpFunc_int_p1 : ACode :=
 .block 1 (
 .seq (.ops (O 21 (.mv 10) ::
 O 22 (.mv 11) ::
 O 23 (.bin .gtr 21 22) ::
 [])) (
 .cond 23 (c_slices_rotateCmpFunc_int_p2) (c_slices_rotateCmpFunc_int_p3)))
def c_slices_rotateCmpFunc_int_p0 : ACode :=
 .seq (
 .seq (.ops (O 18 (.mv 10) ::
 O 19 (.mv 11) ::
 O 20 (.bin .neq 18 19) ::
 [])) (
 .cond 20 (.skip) (.exit 0))) (c_slices_rotateCmpFunc_int_p1)
def c_slices_rotateCmpFunc_int_p4 : ACode :=
 .ops (
 O 50 (.mv 0) ::
 O 51 (.mv 2) ::
 O 52 (.mv 10) ::
 O 53 (.bin .sub 51 52) ::
 O 54 (.mv 2) ::
 O 55 (.mv 10) ::
 O 56 (.mv 4) ::
 C 57 295 [50, 53, 54, 55, 56] ::
 [])
def c_slices_rotateCmpFunc_int : AFunc := ⟨58, (
 .seq (.ops (O 12 (.mv 2) ::
 O 13 (.mv 1) ::
 O 14 (.bin .sub 12 13) ::
 O 10 (.mv 14) ::
 [])) (
 .seq (.ops (O 15 (.mv 3) ::
 O 16 (.mv 2) ::
 O 17 (.bin .sub 15 16) ::
 O 11 (.mv 17) ::
 [])) (
 .seq (
 .block 0 (
 .loop (c_slices_rotateCmpFunc_int_p0))) (c_slices_rotateCmpFunc_int_p4)))), []⟩
theorem is_slices_rotateCmpFunc_int : IsFun Go.Proofs.Tryz.prog f_slices_rotateCmpFunc_int c_slices_rotateCmpFunc_int := cFunc_is (obj := false) (by kernel_rfl)

abbrev f_slices_insertionSortCmpFunc_huffcoin : Nat := 293
def c_slices_insertionSortCmpFunc_huffcoin_p4 : List AOper :=
 OT 21 33 (.bin .lss 32 (I 0)) ::
 O 34 (.pick 21 33 (.c (.bool false))) ::
 []
def c_slices_insertionSortCmpFunc_huffcoin_p3 : List AOper :=
 OT 21 22 (.mv 3) ::
 OT 21 23 (.mv 0) ::
 OT 21 24 (.mv 9) ::
 OT 21 25 (.iadS 2 23 24) ::
 OT 21 26 (.load 2 true 25) ::
 OT 21 27 (.mv 0) ::
 OT 21 28 (.mv 9) ::
 OT 21 29 (.bin .sub 28 (I 1)) ::
 OT 21 30 (.iadS 2 27 29) ::
 OT 21 31 (.load 2 true 30) ::
 ⟨(some 32), .callv 22 [26, 31], (some (21, true))⟩ ::
 c_slices_insertionSortCmpFunc_huffcoin_p4
def c_slices_insertionSortCmpFunc_huffcoin_p5 : ACode :=
 .seq (
 .block 3 (.ops (O 37 (.mv 0) ::
 O 38 (.mv 9) ::
 O 39 (.mv 0) ::
 O 40 (.mv 9) ::
 O 41 (.bin .sub 40 (I 1)) ::
 O 42 (.mv 0) ::
 O 43 (.mv 9) ::
 O 44 (.bin .sub 43 (I 1)) ::
 O 45 (.iadS 2 42 44) ::
 O 46 (.load 2 true 45) ::
 O 47 (.mv 0) ::
 O 48 (.mv 9) ::
 O 49 (.iadS 2 47 48) ::
 O 50 (.load 2 true 49) ::
 O 51 (.iadS 2 37 38) ::
 S (.store 2 51 46) ::
 O 52 (.iadS 2 39 41) ::
 S (.store 2 52 50) ::
 []))) (.ops (O 35 (.mv 9) ::
 O 36 (.bin .sub 35 (I 1)) ::
 O 9 (.mv 36) ::
 []))
def c_slices_insertionSortCmpFunc_huffcoin_p2 : ACode :=
 .seq (
 .seq (.ops (O 18 (.mv 9) ::
 O 19 (.mv 1) ::
 O 20 (.bin .gtr 18 19) ::
 O 21 (.mv 20) ::
 c_slices_insertionSortCmpFunc_huffcoin_p3)) (
 .cond 34 (.skip) (.exit 2))) (c_slices_insertionSortCmpFunc_huffcoin_p5)
def c_slices_insertionSortCmpFunc_huffcoin_p6 : ACode :=
 .ops (
 O 15 (.mv 8) ::
 O 16 (.bin .add 15 (I 1)) ::
 O 8 (.mv 16) ::
 [])
def c_slices_insertionSortCmpFunc_huffcoin_p1 : ACode :=
 .seq (
 .block 1 (
 .seq (.ops (O 17 (.mv 8) ::
 O 9 (.mv 17) ::
 [])) (
 .block 2 (
 .loop (c_slices_insertionSortCmpFunc_huffcoin_p2))))) (c_slices_insertionSortCmpFunc_huffcoin_p6)
def c_slices_insertionSortCmpFunc_huffcoin_p0 : ACode :=
 .seq (
 .seq (.ops (O 12 (.mv 8) ::
 O 13 (.mv 2) ::
 O 14 (.bin .lss 12 13) ::
 [])) (
 .cond 14 (.skip) (.exit 0))) (c_slices_insertionSortCmpFunc_huffcoin_p1)
def c_slices_insertionSortCmpFunc_huffcoin : AFunc := ⟨53, (
 .seq (.ops (O 10 (.mv 1) ::
 O 11 (.bin .add 10 (I 1)) ::
 O 8 (.mv 11) ::
 [])) (
 .block 0 (
 .loop (c_slices_insertionSortCmpFunc_huffcoin_p0)))), []⟩
theorem is_slices_insertionSortCmpFunc_huffcoin : IsFun Go.Proofs.Tryz.prog f_slices_insertionSortCmpFunc_huffcoin c_slices_insertionSortCmpFunc_huffcoin := cFunc_is (obj := false) (by kernel_rfl)

abbrev f_slices_symMergeCmpFunc_huffcoin : Nat := 294
def c_slices_symMergeCmpFunc_huffcoin_p3 : List AOper :=
 O 50 (.bin .lss 49 (I 0)) ::
 []
def c_slices_symMergeCmpFunc_huffcoin_p4 : ACode :=
 .ops (
 O 51 (.mv 12) ::
 O 52 (.bin .add 51 (I 1)) ::
 O 10 (.mv 52) ::
 [])
def c_slices_symMergeCmpFunc_huffcoin_p5 : ACode :=
 .ops (
 O 53 (.mv 12) ::
 O 11 (.mv 53) ::
 [])
def c_slices_symMergeCmpFunc_huffcoin_p2 : ACode :=
 .block 1 (
 .seq (.ops (O 34 (.mv 10) ::
 O 35 (.mv 11) ::
 O 36 (.bin .add 34 35) ::
 O 37 (.toInt .u64 36) ::
 O 38 (.bin .shr 37 (U64 1)) ::
 O 39 (.toInt .i64 38) ::
 O 12 (.mv 39) ::
 [])) (
 .seq (.ops (O 40 (.mv 4) ::
 O 41 (.mv 0) ::
 O 42 (.mv 12) ::
 O 43 (.iadS 2 41 42) ::
 O 44 (.load 2 true 43) ::
 O 45 (.mv 0) ::
 O 46 (.mv 1) ::
 O 47 (.iadS 2 45 46) ::
 O 48 (.load 2 true 47) ::
 CV 49 40 [44, 48] ::
 c_slices_symMergeCmpFunc_huffcoin_p3)) (
 .cond 50 (c_slices_symMergeCmpFunc_huffcoin_p4) (c_slices_symMergeCmpFunc_huffcoin_p5))))
def c_slices_symMergeCmpFunc_huffcoin_p1 : ACode :=
 .seq (
 .seq (.ops (O 31 (.mv 10) ::
 O 32 (.mv 11) ::
 O 33 (.bin .lss 31 32) ::
 [])) (
 .cond 33 (.skip) (.exit 0))) (c_slices_symMergeCmpFunc_huffcoin_p2)
def c_slices_symMergeCmpFunc_huffcoin_p8 : ACode :=
 .seq (
 .block 3 (.ops (O 61 (.mv 0) ::
 O 62 (.mv 13) ::
 O 63 (.mv 0) ::
 O 64 (.mv 13) ::
 O 65 (.bin .add 64 (I 1)) ::
 O 66 (.mv 0) ::
 O 67 (.mv 13) ::
 O 68 (.bin .add 67 (I 1)) ::
 O 69 (.iadS 2 66 68) ::
 O 70 (.load 2 true 69) ::
 O 71 (.mv 0) ::
 O 72 (.mv 13) ::
 O 73 (.iadS 2 71 72) ::
 O 74 (.load 2 true 73) ::
 O 75 (.iadS 2 61 62) ::
 S (.store 2 75 70) ::
 O 76 (.iadS 2 63 65) ::
 S (.store 2 76 74) ::
 []))) (.ops (O 59 (.mv 13) ::
 O 60 (.bin .add 59 (I 1)) ::
 O 13 (.mv 60) ::
 []))
def c_slices_symMergeCmpFunc_huffcoin_p7 : ACode :=
 .seq (
 .seq (.ops (O 55 (.mv 13) ::
 O 56 (.mv 10) ::
 O 57 (.bin .sub 56 (I 1)) ::
 O 58 (.bin .lss 55 57) ::
 [])) (
 .cond 58 (.skip) (.exit 2))) (c_slices_symMergeCmpFunc_huffcoin_p8)
def c_slices_symMergeCmpFunc_huffcoin_p6 : ACode :=
 .seq (
 .seq (.ops (O 54 (.mv 1) ::
 O 13 (.mv 54) ::
 [])) (
 .block 2 (
 .loop (c_slices_symMergeCmpFunc_huffcoin_p7)))) (.ret)
def c_slices_symMergeCmpFunc_huffcoin_p0 : ACode :=
 .seq (.ops (O 29 (.mv 2) ::
 O 10 (.mv 29) ::
 [])) (
 .seq (.ops (O 30 (.mv 3) ::
 O 11 (.mv 30) ::
 [])) (
 .seq (
 .block 0 (
 .loop (c_slices_symMergeCmpFunc_huffcoin_p1))) (c_slices_symMergeCmpFunc_huffcoin_p6)))
def c_slices_symMergeCmpFunc_huffcoin_p13 : List AOper :=
 O 102 (.bin .lss 101 (I 0)) ::
 O 103 (.un .not 102) ::
 []
def c_slices_symMergeCmpFunc_huffcoin_p14 : ACode :=
 .ops (
 O 104 (.mv 16) ::
 O 105 (.bin .add 104 (I 1)) ::
 O 14 (.mv 105) ::
 [])
def c_slices_symMergeCmpFunc_huffcoin_p15 : ACode :=
 .ops (
 O 106 (.mv 16) ::
 O 15 (.mv 106) ::
 [])
def c_slices_symMergeCmpFunc_huffcoin_p12 : ACode :=
 .block 5 (
 .seq (.ops (O 86 (.mv 14) ::
 O 87 (.mv 15) ::
 O 88 (.bin .add 86 87) ::
 O 89 (.toInt .u64 88) ::
 O 90 (.bin .shr 89 (U64 1)) ::
 O 91 (.toInt .i64 90) ::
 O 16 (.mv 91) ::
 [])) (
 .seq (.ops (O 92 (.mv 4) ::
 O 93 (.mv 0) ::
 O 94 (.mv 2) ::
 O 95 (.iadS 2 93 94) ::
 O 96 (.load 2 true 95) ::
 O 97 (.mv 0) ::
 O 98 (.mv 16) ::
 O 99 (.iadS 2 97 98) ::
 O 100 (.load 2 true 99) ::
 CV 101 92 [96, 100] ::
 c_slices_symMergeCmpFunc_huffcoin_p13)) (
 .cond 103 (c_slices_symMergeCmpFunc_huffcoin_p14) (c_slices_symMergeCmpFunc_huffcoin_p15))))
def c_slices_symMergeCmpFunc_huffcoin_p11 : ACode :=
 .seq (
 .seq (.ops (O 83 (.mv 14) ::
 O 84 (.mv 15) ::
 O 85 (.bin .lss 83 84) ::
 [])) (
 .cond 85 (.skip) (.exit 4))) (c_slices_symMergeCmpFunc_huffcoin_p12)
def c_slices_symMergeCmpFunc_huffcoin_p18 : ACode :=
 .seq (
 .block 7 (.ops (O 113 (.mv 0) ::
 O 114 (.mv 17) ::
 O 115 (.mv 0) ::
 O 116 (.mv 17) ::
 O 117 (.bin .sub 116 (I 1)) ::
 O 118 (.mv 0) ::
 O 119 (.mv 17) ::
 O 120 (.bin .sub 119 (I 1)) ::
 O 121 (.iadS 2 118 120) ::
 O 122 (.load 2 true 121) ::
 O 123 (.mv 0) ::
 O 124 (.mv 17) ::
 O 125 (.iadS 2 123 124) ::
 O 126 (.load 2 true 125) ::
 O 127 (.iadS 2 113 114) ::
 S (.store 2 127 122) ::
 O 128 (.iadS 2 115 117) ::
 S (.store 2 128 126) ::
 []))) (.ops (O 111 (.mv 17) ::
 O 112 (.bin .sub 111 (I 1)) ::
 O 17 (.mv 112) ::
 []))
def c_slices_symMergeCmpFunc_huffcoin_p17 : ACode :=
 .seq (
 .seq (.ops (O 108 (.mv 17) ::
 O 109 (.mv 14) ::
 O 110 (.bin .gtr 108 109) ::
 [])) (
 .cond 110 (.skip) (.exit 6))) (c_slices_symMergeCmpFunc_huffcoin_p18)
def c_slices_symMergeCmpFunc_huffcoin_p16 : ACode :=
 .seq (
 .seq (.ops (O 107 (.mv 2) ::
 O 17 (.mv 107) ::
 [])) (
 .block 6 (
 .loop (c_slices_symMergeCmpFunc_huffcoin_p17)))) (.ret)
def c_slices_symMergeCmpFunc_huffcoin_p10 : ACode :=
 .seq (.ops (O 81 (.mv 1) ::
 O 14 (.mv 81) ::
 [])) (
 .seq (.ops (O 82 (.mv 2) ::
 O 15 (.mv 82) ::
 [])) (
 .seq (
 .block 4 (
 .loop (c_slices_symMergeCmpFunc_huffcoin_p11))) (c_slices_symMergeCmpFunc_huffcoin_p16)))
def c_slices_symMergeCmpFunc_huffcoin_p20 : ACode :=
 .seq (.ops (O 141 (.mv 19) ::
 O 142 (.mv 3) ::
 O 143 (.bin .sub 141 142) ::
 O 20 (.mv 143) ::
 [])) (.ops (O 144 (.mv 18) ::
 O 21 (.mv 144) ::
 []))
def c_slices_symMergeCmpFunc_huffcoin_p21 : ACode :=
 .seq (.ops (O 145 (.mv 1) ::
 O 20 (.mv 145) ::
 [])) (.ops (O 146 (.mv 2) ::
 O 21 (.mv 146) ::
 []))
def c_slices_symMergeCmpFunc_huffcoin_p25 : List AOper :=
 O 170 (.bin .lss 169 (I 0)) ::
 O 171 (.un .not 170) ::
 []
def c_slices_symMergeCmpFunc_huffcoin_p26 : ACode :=
 .ops (
 O 172 (.mv 23) ::
 O 173 (.bin .add 172 (I 1)) ::
 O 20 (.mv 173) ::
 [])
def c_slices_symMergeCmpFunc_huffcoin_p27 : ACode :=
 .ops (
 O 174 (.mv 23) ::
 O 21 (.mv 174) ::
 [])
def c_slices_symMergeCmpFunc_huffcoin_p24 : ACode :=
 .block 9 (
 .seq (.ops (O 152 (.mv 20) ::
 O 153 (.mv 21) ::
 O 154 (.bin .add 152 153) ::
 O 155 (.toInt .u64 154) ::
 O 156 (.bin .shr 155 (U64 1)) ::
 O 157 (.toInt .i64 156) ::
 O 23 (.mv 157) ::
 [])) (
 .seq (.ops (O 158 (.mv 4) ::
 O 159 (.mv 0) ::
 O 160 (.mv 22) ::
 O 161 (.mv 23) ::
 O 162 (.bin .sub 160 161) ::
 O 163 (.iadS 2 159 162) ::
 O 164 (.load 2 true 163) ::
 O 165 (.mv 0) ::
 O 166 (.mv 23) ::
 O 167 (.iadS 2 165 166) ::
 O 168 (.load 2 true 167) ::
 CV 169 158 [164, 168] ::
 c_slices_symMergeCmpFunc_huffcoin_p25)) (
 .cond 171 (c_slices_symMergeCmpFunc_huffcoin_p26) (c_slices_symMergeCmpFunc_huffcoin_p27))))
def c_slices_symMergeCmpFunc_huffcoin_p23 : ACode :=
 .seq (
 .seq (.ops (O 149 (.mv 20) ::
 O 150 (.mv 21) ::
 O 151 (.bin .lss 149 150) ::
 [])) (
 .cond 151 (.skip) (.exit 8))) (c_slices_symMergeCmpFunc_huffcoin_p24)
def c_slices_symMergeCmpFunc_huffcoin_p29 : List AOper :=
 OT 181 182 (.mv 2) ::
 OT 181 183 (.mv 24) ::
 OT 181 184 (.bin .lss 182 183) ::
 O 185 (.pick 181 184 (.c (.bool false))) ::
 []
def c_slices_symMergeCmpFunc_huffcoin_p30 : ACode :=
 .ops (
 O 186 (.mv 0) ::
 O 187 (.mv 20) ::
 O 188 (.mv 2) ::
 O 189 (.mv 24) ::
 O 190 (.mv 4) ::
 C 191 296 [186, 187, 188, 189, 190] ::
 [])
def c_slices_symMergeCmpFunc_huffcoin_p32 : List AOper :=
 OT 195 196 (.mv 20) ::
 OT 195 197 (.mv 18) ::
 OT 195 198 (.bin .lss 196 197) ::
 O 199 (.pick 195 198 (.c (.bool false))) ::
 []
def c_slices_symMergeCmpFunc_huffcoin_p33 : ACode :=
 .ops (
 O 200 (.mv 0) ::
 O 201 (.mv 1) ::
 O 202 (.mv 20) ::
 O 203 (.mv 18) ::
 O 204 (.mv 4) ::
 C 205 294 [200, 201, 202, 203, 204] ::
 [])
def c_slices_symMergeCmpFunc_huffcoin_p35 : List AOper :=
 OT 209 210 (.mv 24) ::
 OT 209 211 (.mv 3) ::
 OT 209 212 (.bin .lss 210 211) ::
 O 213 (.pick 209 212 (.c (.bool false))) ::
 []
def c_slices_symMergeCmpFunc_huffcoin_p36 : ACode :=
 .ops (
 O 214 (.mv 0) ::
 O 215 (.mv 18) ::
 O 216 (.mv 24) ::
 O 217 (.mv 3) ::
 O 218 (.mv 4) ::
 C 219 294 [214, 215, 216, 217, 218] ::
 [])
def c_slices_symMergeCmpFunc_huffcoin_p34 : ACode :=
 .seq (.ops (O 206 (.mv 18) ::
 O 207 (.mv 24) ::
 O 208 (.bin .lss 206 207) ::
 O 209 (.mv 208) ::
 c_slices_symMergeCmpFunc_huffcoin_p35)) (
 .cond 213 (c_slices_symMergeCmpFunc_huffcoin_p36) (.skip))
def c_slices_symMergeCmpFunc_huffcoin_p31 : ACode :=
 .seq (
 .seq (.ops (O 192 (.mv 1) ::
 O 193 (.mv 20) ::
 O 194 (.bin .lss 192 193) ::
 O 195 (.mv 194) ::
 c_slices_symMergeCmpFunc_huffcoin_p32)) (
 .cond 199 (c_slices_symMergeCmpFunc_huffcoin_p33) (.skip))) (c_slices_symMergeCmpFunc_huffcoin_p34)
def c_slices_symMergeCmpFunc_huffcoin_p28 : ACode :=
 .seq (.ops (O 175 (.mv 19) ::
 O 176 (.mv 20) ::
 O 177 (.bin .sub 175 176) ::
 O 24 (.mv 177) ::
 [])) (
 .seq (
 .seq (.ops (O 178 (.mv 20) ::
 O 179 (.mv 2) ::
 O 180 (.bin .lss 178 179) ::
 O 181 (.mv 180) ::
 c_slices_symMergeCmpFunc_huffcoin_p29)) (
 .cond 185 (c_slices_symMergeCmpFunc_huffcoin_p30) (.skip))) (c_slices_symMergeCmpFunc_huffcoin_p31))
def c_slices_symMergeCmpFunc_huffcoin_p22 : ACode :=
 .seq (.ops (O 147 (.mv 19) ::
 O 148 (.bin .sub 147 (I 1)) ::
 O 22 (.mv 148) ::
 [])) (
 .seq (
 .block 8 (
 .loop (c_slices_symMergeCmpFunc_huffcoin_p23))) (c_slices_symMergeCmpFunc_huffcoin_p28))
def c_slices_symMergeCmpFunc_huffcoin_p19 : ACode :=
 .seq (.ops (O 129 (.mv 1) ::
 O 130 (.mv 3) ::
 O 131 (.bin .add 129 130) ::
 O 132 (.toInt .u64 131) ::
 O 133 (.bin .shr 132 (U64 1)) ::
 O 134 (.toInt .i64 133) ::
 O 18 (.mv 134) ::
 [])) (
 .seq (.ops (O 135 (.mv 18) ::
 O 136 (.mv 2) ::
 O 137 (.bin .add 135 136) ::
 O 19 (.mv 137) ::
 [])) (
 .seq (.ops (O 20 (.mv (I 0)) ::
 O 21 (.mv (I 0)) ::
 [])) (
 .seq (
 .seq (.ops (O 138 (.mv 2) ::
 O 139 (.mv 18) ::
 O 140 (.bin .gtr 138 139) ::
 [])) (
 .cond 140 (c_slices_symMergeCmpFunc_huffcoin_p20) (c_slices_symMergeCmpFunc_huffcoin_p21))) (c_slices_symMergeCmpFunc_huffcoin_p22))))
def c_slices_symMergeCmpFunc_huffcoin_p9 : ACode :=
 .seq (
 .seq (.ops (O 77 (.mv 3) ::
 O 78 (.mv 2) ::
 O 79 (.bin .sub 77 78) ::
 O 80 (.bin .eql 79 (I 1)) ::
 [])) (
 .cond 80 (c_slices_symMergeCmpFunc_huffcoin_p10) (.skip))) (c_slices_symMergeCmpFunc_huffcoin_p19)
def c_slices_symMergeCmpFunc_huffcoin : AFunc := ⟨220, (
 .seq (
 .seq (.ops (O 25 (.mv 2) ::
 O 26 (.mv 1) ::
 O 27 (.bin .sub 25 26) ::
 O 28 (.bin .eql 27 (I 1)) ::
 [])) (
 .cond 28 (c_slices_symMergeCmpFunc_huffcoin_p0) (.skip))) (c_slices_symMergeCmpFunc_huffcoin_p9)), []⟩
theorem is_slices_symMergeCmpFunc_huffcoin : IsFun Go.Proofs.Tryz.prog f_slices_symMergeCmpFunc_huffcoin c_slices_symMergeCmpFunc_huffcoin := cFunc_is (obj := false) (by kernel_rfl)

abbrev f_slices_swapRangeCmpFunc_int : Nat := 295
def c_slices_swapRangeCmpFunc_int_p1 : ACode :=
 .seq (
 .block 1 (.ops (O 16 (.mv 0) ::
 O 17 (.mv 1) ::
 O 18 (.mv 10) ::
 O 19 (.bin .add 17 18) ::
 O 20 (.mv 0) ::
 O 21 (.mv 2) ::
 O 22 (.mv 10) ::
 O 23 (.bin .add 21 22) ::
 O 24 (.mv 0) ::
 O 25 (.mv 2) ::
 O 26 (.mv 10) ::
 O 27 (.bin .add 25 26) ::
 O 28 (.iadS 1 24 27) ::
 O 29 (.load 1 false 28) ::
 O 30 (.mv 0) ::
 O 31 (.mv 1) ::
 O 32 (.mv 10) ::
 O 33 (.bin .add 31 32) ::
 O 34 (.iadS 1 30 33) ::
 O 35 (.load 1 false 34) ::
 O 36 (.iadS 1 16 19) ::
 S (.store 1 36 29) ::
 O 37 (.iadS 1 20 23) ::
 S (.store 1 37 35) ::
 []))) (.ops (O 14 (.mv 10) ::
 O 15 (.bin .add 14 (I 1)) ::
 O 10 (.mv 15) ::
 []))
def c_slices_swapRangeCmpFunc_int_p0 : ACode :=
 .seq (
 .seq (.ops (O 11 (.mv 10) ::
 O 12 (.mv 3) ::
 O 13 (.bin .lss 11 12) ::
 [])) (
 .cond 13 (.skip) (.exit 0))) (c_slices_swapRangeCmpFunc_int_p1)
def c_slices_swapRangeCmpFunc_int : AFunc := ⟨38, (
 .seq (.ops (O 10 (.mv (I 0)) ::
 [])) (
 .block 0 (
 .loop (c_slices_swapRangeCmpFunc_int_p0)))), []⟩
theorem is_slices_swapRangeCmpFunc_int : IsFun Go.Proofs.Tryz.prog f_slices_swapRangeCmpFunc_int c_slices_swapRangeCmpFunc_int := cFunc_is (obj := false) (by kernel_rfl)

abbrev f_slices_rotateCmpFunc_huffcoin : Nat := 296
def c_slices_rotateCmpFunc_huffcoin_p2 : ACode :=
 .seq (.ops (O 24 (.mv 0) ::
 O 25 (.mv 2) ::
 O 26 (.mv 10) ::
 O 27 (.bin .sub 25 26) ::
 O 28 (.mv 2) ::
 O 29 (.mv 11) ::
 O 30 (.mv 4) ::
 C 31 297 [24, 27, 28, 29, 30] ::
 [])) (.ops (O 32 (.mv 10) ::
 O 33 (.mv 11) ::
 O 34 (.bin .sub 32 33) ::
 O 10 (.mv 34) ::
 []))
def c_slices_rotateCmpFunc_huffcoin_p3 : ACode :=
 .seq (.ops (O 35 (.mv 0) ::
 O 36 (.mv 2) ::
 O 37 (.mv 10) ::
 O 38 (.bin .sub 36 37) ::
 O 39 (.mv 2) ::
 O 40 (.mv 11) ::
 O 41 (.bin .add 39 40) ::
 O 42 (.mv 10) ::
 O 43 (.bin .sub 41 42) ::
 O 44 (.mv 10) ::
 O 45 (.mv 4) ::
 C 46 297 [35, 38, 43, 44, 45] ::
 [])) (.ops (O 47 (.mv 11) ::
 O 48 (.mv 10) ::
 O 49 (.bin .sub 47 48) ::
 O 11 (.mv 49) ::
 []))
def c_slices_rotateCmpFunc_huffcoin_p1 : ACode :=
 .block 1 (
 .seq (.ops (O 21 (.mv 10) ::
 O 22 (.mv 11) ::
 O 23 (.bin .gtr 21 22) ::
 [])) (
 .cond 23 (c_slices_rotateCmpFunc_huffcoin_p2) (c_slices_rotateCmpFunc_huffcoin_p3)))
def c_slices_rotateCmpFunc_huffcoin_p0 : ACode :=
 .seq (
 .seq (.ops (O 18 (.mv 10) ::
 O 19 (.mv 11) ::
 O 20 (.bin .neq 18 19) ::
 [])) (
 .cond 20 (.skip) (.exit 0))) (c_slices_rotateCmpFunc_huffcoin_p1)
def c_slices_rotateCmpFunc_huffcoin_p4 : ACode :=
 .ops (
 O 50 (.mv 0) ::
 O 51 (.mv 2) ::
 O 52 (.mv 10) ::
 O 53 (.bin .sub 51 52) ::
 O 54 (.mv 2) ::
 O 55 (.mv 10) ::
 O 56 (.mv 4) ::
 C 57 297 [50, 53, 54, 55, 56] ::
 [])
def c_slices_rotateCmpFunc_huffcoin : AFunc := ⟨58, (
 .seq (.ops (O 12 (.mv 2) ::
 O 13 (.mv 1) ::
 O 14 (.bin .sub 12 13) ::
 O 10 (.mv 14) ::
 [])) (
 .seq (.ops (O 15 (.mv 3) ::
 O 16 (.mv 2) ::
 O 17 (.bin .sub 15 16) ::
 O 11 (.mv 17) ::
 [])) (
 .seq (
 .block 0 (
 .loop (c_slices_rotateCmpFunc_huffcoin_p0))) (c_slices_rotateCmpFunc_huffcoin_p4)))), []⟩
theorem is_slices_rotateCmpFunc_huffcoin : IsFun Go.Proofs.Tryz.prog f_slices_rotateCmpFunc_huffcoin c_slices_rotateCmpFunc_huffcoin := cFunc_is (obj := false) (by kernel_rfl)

abbrev f_slices_swapRangeCmpFunc_huffcoin : Nat := 297
def c_slices_swapRangeCmpFunc_huffcoin_p1 : ACode :=
 .seq (
 .block 1 (.ops (O 16 (.mv 0) ::
 O 17 (.mv 1) ::
 O 18 (.mv 10) ::
 O 19 (.bin .add 17 18) ::
 O 20 (.mv 0) ::
 O 21 (.mv 2) ::
 O 22 (.mv 10) ::
 O 23 (.bin .add 21 22) ::
 O 24 (.mv 0) ::
 O 25 (.mv 2) ::
 O 26 (.mv 10) ::
 O 27 (.bin .add 25 26) ::
 O 28 (.iadS 2 24 27) ::
 O 29 (.load 2 true 28) ::
 O 30 (.mv 0) ::
 O 31 (.mv 1) ::
 O 32 (.mv 10) ::
 O 33 (.bin .add 31 32) ::
 O 34 (.iadS 2 30 33) ::
 O 35 (.load 2 true 34) ::
 O 36 (.iadS 2 16 19) ::
 S (.store 2 36 29) ::
 O 37 (.iadS 2 20 23) ::
 S (.store 2 37 35) ::
 []))) (.ops (O 14 (.mv 10) ::
 O 15 (.bin .add 14 (I 1)) ::
 O 10 (.mv 15) ::
 []))
def c_slices_swapRangeCmpFunc_huffcoin_p0 : ACode :=
 .seq (
 .seq (.ops (O 11 (.mv 10) ::
 O 12 (.mv 3) ::
 O 13 (.bin .lss 11 12) ::
 [])) (
 .cond 13 (.skip) (.exit 0))) (c_slices_swapRangeCmpFunc_huffcoin_p1)
def c_slices_swapRangeCmpFunc_huffcoin : AFunc := ⟨38, (
 .seq (.ops (O 10 (.mv (I 0)) ::
 [])) (
 .block 0 (
 .loop (c_slices_swapRangeCmpFunc_huffcoin_p0)))), []⟩
theorem is_slices_swapRangeCmpFunc_huffcoin : IsFun Go.Proofs.Tryz.prog f_slices_swapRangeCmpFunc_huffcoin c_slices_swapRangeCmpFunc_huffcoin := cFunc_is (obj := false) (by kernel_rfl)

end Go.Proofs.Ah
