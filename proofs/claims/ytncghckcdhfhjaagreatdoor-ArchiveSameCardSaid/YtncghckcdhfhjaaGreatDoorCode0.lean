/- The code of 59 functions, as the abstract machine reads it; that it is the program's. -/
import Derived.Test.YtncghckcdhfhjaaGreatDoorProg
import Derived.Test.YtncghckcdhfhjaaGreatDoorAh16
import Derived.KernelRfl
set_option maxRecDepth 100000
set_option maxHeartbeats 40000000
set_option linter.unusedVariables false
namespace Go.Proofs.Ah
open Go

abbrev f_gosem_cut_init : Nat := 2
def c_gosem_cut_init : AFunc := ⟨1, (.ops (C 0 1 [] ::
 [])), []⟩
theorem is_gosem_cut_init : IsFun Go.Proofs.Tryz.prog f_gosem_cut_init c_gosem_cut_init := cFunc_is (obj := false) (by kernel_rfl)

abbrev f_law19_ArchiveExtracts : Nat := 3
def c_law19_ArchiveExtracts_p1 : List AOper :=
 OF 13 14 (.faddr 0 3) ::
 OF 13 15 (.faddr 4 14) ::
 OF 13 16 (.load 1 false 15) ::
 OF 13 17 (.bin .gtr 16 (I 20000)) ::
 O 18 (.pick 13 (.c (.bool true)) 17) ::
 []
def c_law19_ArchiveExtracts_p0 : List AOper :=
 O 12 (.un .not 11) ::
 O 13 (.mv 12) ::
 c_law19_ArchiveExtracts_p1
def c_law19_ArchiveExtracts_p3 : List AOper :=
 O 4 (.mv 19) ::
 []
def c_law19_ArchiveExtracts_p2 : ACode :=
 .seq (.ops (C 19 8 [] ::
 c_law19_ArchiveExtracts_p3)) (
 .ret)
def c_law19_ArchiveExtracts_p5 : List AOper :=
 O 20 (.mv 23) ::
 O 24 (.ext 20 0) ::
 O 25 (.ext 20 1) ::
 O 5 (.mv 24) ::
 O 6 (.mv 25) ::
 []
def c_law19_ArchiveExtracts_p6 : List AOper :=
 O 26 (.mv 29) ::
 O 30 (.ext 26 0) ::
 O 31 (.ext 26 1) ::
 O 7 (.mv 30) ::
 O 8 (.mv 31) ::
 []
def c_law19_ArchiveExtracts_p14 : List (AOper × List Nat) :=
 (O 51 (.pick 49 50 (.c (.bool false))), []) ::
 (O 4 (.mv 51), []) ::
 []
def c_law19_ArchiveExtracts_p13 : List (AOper × List Nat) :=
 (CT 49 50 8 [], []) ::
 c_law19_ArchiveExtracts_p14
def c_law19_ArchiveExtracts_p12 : List (AOper × List Nat) :=
 (OT 40 47 (.bin .eql 43 46), []) ::
 (O 48 (.pick 40 47 (.c (.bool false))), []) ::
 (O 49 (.mv 48), []) ::
 c_law19_ArchiveExtracts_p13
def c_law19_ArchiveExtracts_p11 : List (AOper × List Nat) :=
 (OT 40 44 (.mv 0), []) ::
 (OT 40 45 (.load 8 true 3), [11]) ::
 (CT 40 46 13 [44, 45], []) ::
 c_law19_ArchiveExtracts_p12
def c_law19_ArchiveExtracts_p10 : List (AOper × List Nat) :=
 (OT 40 41 (.mv 0), []) ::
 (OT 40 42 (.load 8 true 3), []) ::
 (CT 40 43 12 [41, 42], []) ::
 c_law19_ArchiveExtracts_p11
def c_law19_ArchiveExtracts_p9 : List (AOper × List Nat) :=
 (OT 35 36 (.mv 6), []) ::
 (OT 35 37 (.mv 8), []) ::
 (OT 35 38 (.bin .eql 36 37), []) ::
 (O 39 (.pick 35 38 (.c (.bool false))), []) ::
 (O 40 (.mv 39), []) ::
 c_law19_ArchiveExtracts_p10
def c_law19_ArchiveExtracts_p8 : List (AOper × List Nat) :=
 (O 35 (.mv 34), []) ::
 c_law19_ArchiveExtracts_p9
def c_law19_ArchiveExtracts_p7 : List (AOper × List Nat) :=
 (O 32 (.mv 5), []) ::
 (O 33 (.mv 7), []) ::
 (C 34 11 [32, 33], []) ::
 c_law19_ArchiveExtracts_p8
def c_law19_ArchiveExtracts_p7a : List AOper := fstsOf c_law19_ArchiveExtracts_p7
def c_law19_ArchiveExtracts_p4 : ACode :=
 .seq (.ops (O 21 (.mv 0) ::
 O 22 (.load 8 true 3) ::
 C 23 9 [21, 22] ::
 c_law19_ArchiveExtracts_p5)) (
 .seq (.ops (O 27 (.mv 0) ::
 O 28 (.load 8 true 3) ::
 C 29 10 [27, 28] ::
 c_law19_ArchiveExtracts_p6)) (
 .seq (
 .draw c_law19_ArchiveExtracts_p7a c_law19_ArchiveExtracts_p7) (
 .ret)))
def c_law19_ArchiveExtracts : AFunc := ⟨52, (
 .seq (.ops (O 3 (.box 26 1) ::
 O 4 (.mv (.c (.bool false))) ::
 [])) (
 .seq (
 .seq (.ops (O 9 (.mv 0) ::
 O 10 (.load 8 true 3) ::
 C 11 7 [9, 10] ::
 c_law19_ArchiveExtracts_p0)) (
 .cond 18 (c_law19_ArchiveExtracts_p2) (.skip))) (c_law19_ArchiveExtracts_p4))), [.t 4]⟩
theorem is_law19_ArchiveExtracts : IsFun Go.Proofs.Tryz.prog f_law19_ArchiveExtracts c_law19_ArchiveExtracts := cFunc_is (obj := false) (by kernel_rfl)

abbrev f_law19_ArchiveSame : Nat := 4
def c_law19_ArchiveSame_p9 : List (AOper × List Nat) :=
 (O 28 (.pick 26 27 (.c (.bool false))), []) ::
 (O 4 (.mv 28), []) ::
 []
def c_law19_ArchiveSame_p8 : List (AOper × List Nat) :=
 (CT 26 27 8 [], []) ::
 c_law19_ArchiveSame_p9
def c_law19_ArchiveSame_p7 : List (AOper × List Nat) :=
 (OT 17 24 (.eqb false 20 23), []) ::
 (O 25 (.pick 17 24 (.c (.bool false))), []) ::
 (O 26 (.mv 25), []) ::
 c_law19_ArchiveSame_p8
def c_law19_ArchiveSame_p6 : List (AOper × List Nat) :=
 (OT 17 21 (.load 8 true 2), [15]) ::
 (OT 17 22 (.load 8 true 3), [15]) ::
 (CT 17 23 14 [21, 22], []) ::
 c_law19_ArchiveSame_p7
def c_law19_ArchiveSame_p5 : List (AOper × List Nat) :=
 (OT 17 18 (.load 8 true 3), []) ::
 (OT 17 19 (.load 8 true 2), []) ::
 (CT 17 20 14 [18, 19], []) ::
 c_law19_ArchiveSame_p6
def c_law19_ArchiveSame_p4 : List (AOper × List Nat) :=
 (O 16 (.pick 12 15 (.c (.bool false))), []) ::
 (O 17 (.mv 16), []) ::
 c_law19_ArchiveSame_p5
def c_law19_ArchiveSame_p3 : List (AOper × List Nat) :=
 (OT 12 13 (.load 8 true 2), []) ::
 (OT 12 14 (.load 8 true 2), []) ::
 (CT 12 15 14 [13, 14], []) ::
 c_law19_ArchiveSame_p4
def c_law19_ArchiveSame_p2 : List (AOper × List Nat) :=
 (O 11 (.eqb false 7 10), []) ::
 (O 12 (.mv 11), []) ::
 c_law19_ArchiveSame_p3
def c_law19_ArchiveSame_p1 : List (AOper × List Nat) :=
 (O 8 (.load 8 true 2), [2]) ::
 (O 9 (.load 8 true 3), [2]) ::
 (C 10 15 [8, 9], []) ::
 c_law19_ArchiveSame_p2
def c_law19_ArchiveSame_p0 : List (AOper × List Nat) :=
 (O 5 (.load 8 true 2), []) ::
 (O 6 (.load 8 true 3), []) ::
 (C 7 14 [5, 6], []) ::
 c_law19_ArchiveSame_p1
def c_law19_ArchiveSame_p0a : List AOper := fstsOf c_law19_ArchiveSame_p0
def c_law19_ArchiveSame : AFunc := ⟨29, (
 .seq (.ops (O 2 (.box 26 0) ::
 O 3 (.box 26 1) ::
 O 4 (.mv (.c (.bool false))) ::
 [])) (
 .seq (
 .draw c_law19_ArchiveSame_p0a c_law19_ArchiveSame_p0) (
 .ret))), [.t 4]⟩
theorem is_law19_ArchiveSame : IsFun Go.Proofs.Tryz.prog f_law19_ArchiveSame c_law19_ArchiveSame := cFunc_is (obj := false) (by kernel_rfl)

abbrev f_law19_ArchiveBytes : Nat := 5
def c_law19_ArchiveBytes_p1 : List AOper :=
 OF 20 21 (.mv 1) ::
 OF 20 22 (.lenT 21) ::
 OF 20 23 (.bin .gtr 22 (I 10000)) ::
 O 24 (.pick 20 (.c (.bool true)) 23) ::
 []
def c_law19_ArchiveBytes_p0 : List AOper :=
 O 19 (.un .not 18) ::
 O 20 (.mv 19) ::
 c_law19_ArchiveBytes_p1
def c_law19_ArchiveBytes_p3 : List AOper :=
 O 4 (.mv 25) ::
 []
def c_law19_ArchiveBytes_p2 : ACode :=
 .seq (.ops (C 25 8 [] ::
 c_law19_ArchiveBytes_p3)) (
 .ret)
def c_law19_ArchiveBytes_p5 : List AOper :=
 O 26 (.mv 28) ::
 O 29 (.ext 26 0) ::
 O 30 (.ext 26 1) ::
 O 5 (.mv 29) ::
 O 6 (.mv 30) ::
 []
def c_law19_ArchiveBytes_p6 : List AOper :=
 O 31 (.mv 33) ::
 O 34 (.ext 31 0) ::
 O 35 (.ext 31 1) ::
 O 7 (.mv 34) ::
 O 8 (.mv 35) ::
 []
def c_law19_ArchiveBytes_p7 : List AOper :=
 O 36 (.mv 38) ::
 O 39 (.ext 36 0) ::
 O 40 (.ext 36 1) ::
 O 9 (.alloc 26 [.nat .i64 0, .str (bytesOf []), .nat .i64 0, .nat .i64 0, .nat .i64 0, .str (bytesOf []), .str (bytesOf []), .nils]) ::
 S (.store 8 9 39) ::
 O 10 (.mv 40) ::
 []
def c_law19_ArchiveBytes_p8 : List AOper :=
 O 41 (.mv 43) ::
 O 44 (.ext 41 0) ::
 O 45 (.ext 41 1) ::
 O 11 (.alloc 26 [.nat .i64 0, .str (bytesOf []), .nat .i64 0, .nat .i64 0, .nat .i64 0, .str (bytesOf []), .str (bytesOf []), .nils]) ::
 S (.store 8 11 44) ::
 O 12 (.mv 45) ::
 []
def c_law19_ArchiveBytes_p12 : List AOper :=
 OF 60 61 (.mv 10) ::
 OF 60 62 (.mv 12) ::
 OF 60 63 (.bin .neq 61 62) ::
 O 64 (.pick 60 (.c (.bool true)) 63) ::
 []
def c_law19_ArchiveBytes_p11 : List AOper :=
 OF 54 58 (.un .not 57) ::
 O 59 (.pick 54 (.c (.bool true)) 58) ::
 O 60 (.mv 59) ::
 c_law19_ArchiveBytes_p12
def c_law19_ArchiveBytes_p10 : List AOper :=
 OF 54 55 (.load 8 true 9) ::
 OF 54 56 (.load 8 true 11) ::
 CF 54 57 15 [55, 56] ::
 c_law19_ArchiveBytes_p11
def c_law19_ArchiveBytes_p9 : List AOper :=
 OF 49 50 (.mv 6) ::
 OF 49 51 (.mv 8) ::
 OF 49 52 (.bin .neq 50 51) ::
 O 53 (.pick 49 (.c (.bool true)) 52) ::
 O 54 (.mv 53) ::
 c_law19_ArchiveBytes_p10
def c_law19_ArchiveBytes_p13 : ACode :=
 .seq (.ops (O 4 (.mv (.c (.bool false))) ::
 [])) (
 .ret)
def c_law19_ArchiveBytes_p16 : List AOper :=
 O 67 (.mv 69) ::
 O 70 (.ext 67 0) ::
 O 71 (.ext 67 1) ::
 O 13 (.alloc 26 [.nat .i64 0, .str (bytesOf []), .nat .i64 0, .nat .i64 0, .nat .i64 0, .str (bytesOf []), .str (bytesOf []), .nils]) ::
 S (.store 8 13 70) ::
 O 14 (.mv 71) ::
 []
def c_law19_ArchiveBytes_p18 : List AOper :=
 OF 74 78 (.un .not 77) ::
 O 79 (.pick 74 (.c (.bool true)) 78) ::
 []
def c_law19_ArchiveBytes_p17 : List AOper :=
 OF 74 75 (.load 8 true 13) ::
 OF 74 76 (.load 8 true 2) ::
 CF 74 77 15 [75, 76] ::
 c_law19_ArchiveBytes_p18
def c_law19_ArchiveBytes_p19 : ACode :=
 .seq (.ops (O 4 (.mv (.c (.bool false))) ::
 [])) (
 .ret)
def c_law19_ArchiveBytes_p15 : ACode :=
 .seq (.ops (O 68 (.mv 5) ::
 C 69 18 [68] ::
 c_law19_ArchiveBytes_p16)) (
 .seq (.ops (O 72 (.mv 14) ::
 O 73 (.bin .neq 72 (I 0)) ::
 O 74 (.mv 73) ::
 c_law19_ArchiveBytes_p17)) (
 .cond 79 (c_law19_ArchiveBytes_p19) (.skip)))
def c_law19_ArchiveBytes_p22 : List AOper :=
 O 82 (.mv 84) ::
 O 85 (.ext 82 0) ::
 O 86 (.ext 82 1) ::
 O 15 (.mv 85) ::
 O 16 (.mv 86) ::
 []
def c_law19_ArchiveBytes_p25 : List AOper :=
 O 96 (.pick 94 95 (.c (.bool false))) ::
 O 4 (.mv 96) ::
 []
def c_law19_ArchiveBytes_p24 : List AOper :=
 CT 94 95 8 [] ::
 c_law19_ArchiveBytes_p25
def c_law19_ArchiveBytes_p23 : List AOper :=
 OT 90 91 (.mv 16) ::
 OT 90 92 (.bin .eql 91 (I 0)) ::
 O 93 (.pick 90 92 (.c (.bool false))) ::
 O 94 (.mv 93) ::
 c_law19_ArchiveBytes_p24
def c_law19_ArchiveBytes_p21 : ACode :=
 .seq (.ops (O 83 (.load 8 true 9) ::
 C 84 16 [83] ::
 c_law19_ArchiveBytes_p22)) (
 .seq (.ops (O 87 (.mv 15) ::
 O 88 (.mv 1) ::
 O 89 (.bin .eql 87 88) ::
 O 90 (.mv 89) ::
 c_law19_ArchiveBytes_p23)) (
 .ret))
def c_law19_ArchiveBytes_p27 : List AOper :=
 O 4 (.mv 97) ::
 []
def c_law19_ArchiveBytes_p26 : ACode :=
 .seq (.ops (C 97 8 [] ::
 c_law19_ArchiveBytes_p27)) (
 .ret)
def c_law19_ArchiveBytes_p20 : ACode :=
 .seq (
 .seq (.ops (O 80 (.mv 10) ::
 O 81 (.bin .eql 80 (I 0)) ::
 [])) (
 .cond 81 (c_law19_ArchiveBytes_p21) (.skip))) (c_law19_ArchiveBytes_p26)
def c_law19_ArchiveBytes_p14 : ACode :=
 .seq (
 .seq (.ops (O 65 (.mv 6) ::
 O 66 (.bin .eql 65 (I 0)) ::
 [])) (
 .cond 66 (c_law19_ArchiveBytes_p15) (.skip))) (c_law19_ArchiveBytes_p20)
def c_law19_ArchiveBytes_p4 : ACode :=
 .seq (.ops (O 27 (.load 8 true 2) ::
 C 28 16 [27] ::
 c_law19_ArchiveBytes_p5)) (
 .seq (.ops (O 32 (.load 8 true 2) ::
 C 33 17 [32] ::
 c_law19_ArchiveBytes_p6)) (
 .seq (.ops (O 37 (.mv 1) ::
 C 38 18 [37] ::
 c_law19_ArchiveBytes_p7)) (
 .seq (.ops (O 42 (.mv 1) ::
 C 43 19 [42] ::
 c_law19_ArchiveBytes_p8)) (
 .seq (
 .seq (.ops (O 46 (.mv 5) ::
 O 47 (.mv 7) ::
 O 48 (.bin .neq 46 47) ::
 O 49 (.mv 48) ::
 c_law19_ArchiveBytes_p9)) (
 .cond 64 (c_law19_ArchiveBytes_p13) (.skip))) (c_law19_ArchiveBytes_p14)))))
def c_law19_ArchiveBytes : AFunc := ⟨98, (
 .seq (.ops (O 2 (.box 26 0) ::
 O 4 (.mv (.c (.bool false))) ::
 [])) (
 .seq (
 .seq (.ops (O 17 (.load 8 true 2) ::
 C 18 7 [(.c (.str (bytesOf []))), 17] ::
 c_law19_ArchiveBytes_p0)) (
 .cond 24 (c_law19_ArchiveBytes_p2) (.skip))) (c_law19_ArchiveBytes_p4))), [.t 4]⟩
theorem is_law19_ArchiveBytes : IsFun Go.Proofs.Tryz.prog f_law19_ArchiveBytes c_law19_ArchiveBytes := cFunc_is (obj := false) (by kernel_rfl)

abbrev f_law19_ArchiveTurned : Nat := 6
def c_law19_ArchiveTurned_p0 : List AOper :=
 O 2 (.mv 27) ::
 []
def c_law19_ArchiveTurned_p1 : List AOper :=
 OF 31 32 (.mv 4) ::
 OF 31 33 (.bin .eql 32 (U8 0)) ::
 O 34 (.pick 31 (.c (.bool true)) 33) ::
 []
def c_law19_ArchiveTurned_p3 : List AOper :=
 O 10 (.mv 35) ::
 []
def c_law19_ArchiveTurned_p2 : ACode :=
 .seq (.ops (C 35 8 [] ::
 c_law19_ArchiveTurned_p3)) (
 .ret)
def c_law19_ArchiveTurned_p6 : List AOper :=
 O 36 (.mv 41) ::
 O 42 (.ext 36 0) ::
 O 43 (.ext 36 1) ::
 O 11 (.alloc 26 [.nat .i64 0, .str (bytesOf []), .nat .i64 0, .nat .i64 0, .nat .i64 0, .str (bytesOf []), .str (bytesOf []), .nils]) ::
 S (.store 8 11 42) ::
 O 12 (.mv 43) ::
 []
def c_law19_ArchiveTurned_p5 : List AOper :=
 O 40 (.mv 2) ::
 C 41 21 [37, 39, (I 1), 40] ::
 c_law19_ArchiveTurned_p6
def c_law19_ArchiveTurned_p8 : List AOper :=
 O 10 (.mv 46) ::
 []
def c_law19_ArchiveTurned_p7 : ACode :=
 .seq (.ops (C 46 8 [] ::
 c_law19_ArchiveTurned_p8)) (
 .ret)
def c_law19_ArchiveTurned_p10 : List AOper :=
 O 47 (.mv 49) ::
 O 50 (.ext 47 0) ::
 O 51 (.ext 47 1) ::
 O 13 (.mv 50) ::
 O 14 (.mv 51) ::
 []
def c_law19_ArchiveTurned_p11 : List AOper :=
 OF 54 55 (.mv 13) ::
 OF 54 56 (.lenT 55) ::
 OF 54 57 (.bin .lss 56 (I 98)) ::
 O 58 (.pick 54 (.c (.bool true)) 57) ::
 []
def c_law19_ArchiveTurned_p12 : ACode :=
 .seq (.ops (O 10 (.mv (.c (.bool false))) ::
 [])) (
 .ret)
def c_law19_ArchiveTurned_p14 : List AOper :=
 O 80 (.mv 83) ::
 O 84 (.ext 80 0) ::
 O 85 (.ext 80 1) ::
 O 16 (.alloc 26 [.nat .i64 0, .str (bytesOf []), .nat .i64 0, .nat .i64 0, .nat .i64 0, .str (bytesOf []), .str (bytesOf []), .nils]) ::
 S (.store 8 16 84) ::
 O 17 (.mv 85) ::
 []
def c_law19_ArchiveTurned_p17 : List AOper :=
 O 92 (.pick 90 91 (.c (.bool false))) ::
 O 10 (.mv 92) ::
 []
def c_law19_ArchiveTurned_p16 : List AOper :=
 CT 90 91 8 [] ::
 c_law19_ArchiveTurned_p17
def c_law19_ArchiveTurned_p15 : ACode :=
 .seq (.ops (O 88 (.mv 17) ::
 O 89 (.bin .eql 88 (I 2)) ::
 O 90 (.mv 89) ::
 c_law19_ArchiveTurned_p16)) (
 .ret)
def c_law19_ArchiveTurned_p19 : List AOper :=
 O 93 (.mv 96) ::
 O 97 (.ext 93 0) ::
 O 98 (.ext 93 1) ::
 O 18 (.mv 97) ::
 O 19 (.mv 98) ::
 []
def c_law19_ArchiveTurned_p21 : List AOper :=
 O 10 (.mv 101) ::
 []
def c_law19_ArchiveTurned_p20 : ACode :=
 .seq (.ops (C 101 8 [] ::
 c_law19_ArchiveTurned_p21)) (
 .ret)
def c_law19_ArchiveTurned_p23 : List AOper :=
 O 104 (.field 2 1 false 103) ::
 O 20 (.mv 104) ::
 []
def c_law19_ArchiveTurned_p26 : List (AOper × List Nat) :=
 (O 21 (.mv 107), []) ::
 (O 22 (.mv 110), []) ::
 []
def c_law19_ArchiveTurned_p25 : List (AOper × List Nat) :=
 (O 108 (.faddr 0 16), []) ::
 (O 109 (.load 7 true 108), [2]) ::
 (C 110 24 [109], []) ::
 c_law19_ArchiveTurned_p26
def c_law19_ArchiveTurned_p24 : List (AOper × List Nat) :=
 (O 105 (.faddr 0 11), []) ::
 (O 106 (.load 7 true 105), []) ::
 (C 107 24 [106], []) ::
 c_law19_ArchiveTurned_p25
def c_law19_ArchiveTurned_p24a : List AOper := fstsOf c_law19_ArchiveTurned_p24
def c_law19_ArchiveTurned_p27 : List AOper :=
 O 111 (.mv 116) ::
 O 117 (.ext 111 0) ::
 O 118 (.ext 111 1) ::
 O 119 (.ext 111 2) ::
 O 23 (.mv 117) ::
 O 24 (.mv 118) ::
 O 25 (.mv 119) ::
 []
def c_law19_ArchiveTurned_p33 : List AOper :=
 O 137 (.pick 135 136 (.c (.bool false))) ::
 O 10 (.mv 137) ::
 []
def c_law19_ArchiveTurned_p32 : List AOper :=
 CT 135 136 8 [] ::
 c_law19_ArchiveTurned_p33
def c_law19_ArchiveTurned_p31 : List AOper :=
 OF 132 133 (.mv 25) ::
 O 134 (.pick 132 (.c (.bool true)) 133) ::
 O 135 (.mv 134) ::
 c_law19_ArchiveTurned_p32
def c_law19_ArchiveTurned_p30 : List AOper :=
 OT 123 130 (.bin .eql 126 129) ::
 O 131 (.pick 123 130 (.c (.bool false))) ::
 O 132 (.mv 131) ::
 c_law19_ArchiveTurned_p31
def c_law19_ArchiveTurned_p29 : List AOper :=
 OT 123 127 (.mv 20) ::
 OT 123 128 (.mv 22) ::
 CT 123 129 26 [127, 128] ::
 c_law19_ArchiveTurned_p30
def c_law19_ArchiveTurned_p28 : List AOper :=
 OT 123 124 (.mv 20) ::
 OT 123 125 (.mv 21) ::
 CT 123 126 26 [124, 125] ::
 c_law19_ArchiveTurned_p29
def c_law19_ArchiveTurned_p22 : ACode :=
 .seq (.ops (O 102 (.mv 0) ::
 C 103 23 [102, (.c (.str (bytesOf [])))] ::
 c_law19_ArchiveTurned_p23)) (
 .seq (
 .draw c_law19_ArchiveTurned_p24a c_law19_ArchiveTurned_p24) (
 .seq (.ops (O 112 (.faddr 7 11) ::
 O 113 (.load 1 false 112) ::
 O 114 (.faddr 7 16) ::
 O 115 (.load 1 false 114) ::
 C 116 25 [(I 32), 113, 115] ::
 c_law19_ArchiveTurned_p27)) (
 .seq (.ops (O 120 (.mv 21) ::
 O 121 (.mv 22) ::
 O 122 (.bin .neq 120 121) ::
 O 123 (.mv 122) ::
 c_law19_ArchiveTurned_p28)) (
 .ret))))
def c_law19_ArchiveTurned_p18 : ACode :=
 .seq (.ops (O 94 (.mv 0) ::
 O 95 (.load 8 true 16) ::
 C 96 9 [94, 95] ::
 c_law19_ArchiveTurned_p19)) (
 .seq (
 .seq (.ops (O 99 (.mv 19) ::
 O 100 (.bin .neq 99 (I 0)) ::
 [])) (
 .cond 100 (c_law19_ArchiveTurned_p20) (.skip))) (c_law19_ArchiveTurned_p22))
def c_law19_ArchiveTurned_p13 : ACode :=
 .seq (.ops (O 59 (.mv 3) ::
 O 60 (.mv 13) ::
 O 61 (.lenT 60) ::
 O 62 (.bin .rem 59 61) ::
 O 63 (.mv 13) ::
 O 64 (.lenT 63) ::
 O 65 (.bin .add 62 64) ::
 O 66 (.mv 13) ::
 O 67 (.lenT 66) ::
 O 68 (.bin .rem 65 67) ::
 O 3 (.mv 68) ::
 [])) (
 .seq (.ops (O 69 (.mv 13) ::
 O 70 (.s2b 5 69) ::
 O 15 (.mv 70) ::
 [])) (
 .seq (.ops (O 71 (.mv 15) ::
 O 72 (.mv 3) ::
 O 73 (.mv 15) ::
 O 74 (.mv 3) ::
 O 75 (.iadS 1 73 74) ::
 O 76 (.load 1 false 75) ::
 O 77 (.mv 4) ::
 O 78 (.bin .xor 76 77) ::
 O 79 (.iadS 1 71 72) ::
 S (.store 1 79 78) ::
 [])) (
 .seq (.ops (O 81 (.mv 15) ::
 O 82 (.b2s 81) ::
 C 83 18 [82] ::
 c_law19_ArchiveTurned_p14)) (
 .seq (
 .seq (.ops (O 86 (.mv 17) ::
 O 87 (.bin .neq 86 (I 0)) ::
 [])) (
 .cond 87 (c_law19_ArchiveTurned_p15) (.skip))) (c_law19_ArchiveTurned_p18)))))
def c_law19_ArchiveTurned_p9 : ACode :=
 .seq (.ops (O 48 (.load 8 true 11) ::
 C 49 16 [48] ::
 c_law19_ArchiveTurned_p10)) (
 .seq (
 .seq (.ops (O 52 (.mv 14) ::
 O 53 (.bin .neq 52 (I 0)) ::
 O 54 (.mv 53) ::
 c_law19_ArchiveTurned_p11)) (
 .cond 58 (c_law19_ArchiveTurned_p12) (.skip))) (c_law19_ArchiveTurned_p13))
def c_law19_ArchiveTurned_p4 : ACode :=
 .seq (.ops (O 37 (.mv 0) ::
 O 38 (.mv 1) ::
 C 39 22 [38] ::
 c_law19_ArchiveTurned_p5)) (
 .seq (
 .seq (.ops (O 44 (.mv 12) ::
 O 45 (.bin .neq 44 (I 0)) ::
 [])) (
 .cond 45 (c_law19_ArchiveTurned_p7) (.skip))) (c_law19_ArchiveTurned_p9))
def c_law19_ArchiveTurned : AFunc := ⟨138, (
 .seq (.ops (O 10 (.mv (.c (.bool false))) ::
 [])) (
 .seq (.ops (O 26 (.mv 2) ::
 C 27 20 [26] ::
 c_law19_ArchiveTurned_p0)) (
 .seq (
 .seq (.ops (O 28 (.mv 0) ::
 O 29 (.lenT 28) ::
 O 30 (.bin .gtr 29 (I 500)) ::
 O 31 (.mv 30) ::
 c_law19_ArchiveTurned_p1)) (
 .cond 34 (c_law19_ArchiveTurned_p2) (.skip))) (c_law19_ArchiveTurned_p4)))), [.t 10]⟩
theorem is_law19_ArchiveTurned : IsFun Go.Proofs.Tryz.prog f_law19_ArchiveTurned c_law19_ArchiveTurned := cFunc_is (obj := false) (by kernel_rfl)

abbrev f_law19_light : Nat := 7
def c_law19_light_p3 : List AOper :=
 OF 29 30 (.faddr 0 3) ::
 OF 29 31 (.faddr 6 30) ::
 OF 29 32 (.load 1 false 31) ::
 OF 29 33 (.lenT 32) ::
 OF 29 34 (.bin .gtr 33 (I 500)) ::
 O 35 (.pick 29 (.c (.bool true)) 34) ::
 []
def c_law19_light_p2 : List AOper :=
 OF 22 23 (.faddr 0 3) ::
 OF 22 24 (.faddr 5 23) ::
 OF 22 25 (.load 1 false 24) ::
 OF 22 26 (.lenT 25) ::
 OF 22 27 (.bin .gtr 26 (I 500)) ::
 O 28 (.pick 22 (.c (.bool true)) 27) ::
 O 29 (.mv 28) ::
 c_law19_light_p3
def c_law19_light_p1 : List AOper :=
 OF 15 16 (.faddr 0 3) ::
 OF 15 17 (.faddr 1 16) ::
 OF 15 18 (.load 1 false 17) ::
 OF 15 19 (.lenT 18) ::
 OF 15 20 (.bin .gtr 19 (I 500)) ::
 O 21 (.pick 15 (.c (.bool true)) 20) ::
 O 22 (.mv 21) ::
 c_law19_light_p2
def c_law19_light_p0 : List AOper :=
 OF 9 10 (.faddr 7 3) ::
 OF 9 11 (.load 1 false 10) ::
 OF 9 12 (.lenS 11) ::
 OF 9 13 (.bin .gtr 12 (I 40)) ::
 O 14 (.pick 9 (.c (.bool true)) 13) ::
 O 15 (.mv 14) ::
 c_law19_light_p1
def c_law19_light_p4 : ACode :=
 .seq (.ops (O 4 (.mv (.c (.bool false))) ::
 [])) (
 .ret)
def c_law19_light_p8 : ACode :=
 .seq (.ops (O 4 (.mv (.c (.bool false))) ::
 [])) (
 .ret)
def c_law19_light_p9 : ACode :=
 .ops (
 O 41 (.mv 5) ::
 O 42 (.bin .add 41 (I 1)) ::
 O 5 (.mv 42) ::
 [])
def c_law19_light_p7 : ACode :=
 .seq (
 .block 1 (
 .seq (.ops (O 43 (.faddr 7 3) ::
 O 44 (.load 1 false 43) ::
 O 45 (.mv 5) ::
 O 46 (.iadS 1 44 45) ::
 O 47 (.load 1 false 46) ::
 O 48 (.lenT 47) ::
 O 49 (.bin .gtr 48 (I 500)) ::
 [])) (
 .cond 49 (c_law19_light_p8) (.skip)))) (c_law19_light_p9)
def c_law19_light_p6 : ACode :=
 .seq (
 .seq (.ops (O 36 (.mv 5) ::
 O 37 (.faddr 7 3) ::
 O 38 (.load 1 false 37) ::
 O 39 (.lenS 38) ::
 O 40 (.bin .lss 36 39) ::
 [])) (
 .cond 40 (.skip) (.exit 0))) (c_law19_light_p7)
def c_law19_light_p10 : ACode :=
 .seq (.ops (O 4 (.mv (.c (.bool true))) ::
 [])) (
 .ret)
def c_law19_light_p5 : ACode :=
 .seq (
 .seq (.ops (O 5 (.mv (I 0)) ::
 [])) (
 .block 0 (
 .loop (c_law19_light_p6)))) (c_law19_light_p10)
def c_law19_light : AFunc := ⟨50, (
 .seq (.ops (O 3 (.box 26 1) ::
 O 4 (.mv (.c (.bool false))) ::
 [])) (
 .seq (
 .seq (.ops (O 6 (.mv 0) ::
 O 7 (.lenT 6) ::
 O 8 (.bin .gtr 7 (I 500)) ::
 O 9 (.mv 8) ::
 c_law19_light_p0)) (
 .cond 35 (c_law19_light_p4) (.skip))) (c_law19_light_p5))), [.t 4]⟩
theorem is_law19_light : IsFun Go.Proofs.Tryz.prog f_law19_light c_law19_light := cFunc_is (obj := false) (by kernel_rfl)

abbrev f_law19_Awake : Nat := 8
def c_law19_Awake_p1 : List AOper :=
 O 5 (.mv 9) ::
 O 10 (.ext 5 0) ::
 O 11 (.ext 5 1) ::
 O 1 (.alloc 26 [.nat .i64 0, .str (bytesOf []), .nat .i64 0, .nat .i64 0, .nat .i64 0, .str (bytesOf []), .str (bytesOf []), .nils]) ::
 S (.store 8 1 10) ::
 O 2 (.mv 11) ::
 []
def c_law19_Awake_p0 : List AOper :=
 O 7 (.build [.str (bytesOf []), .str (bytesOf [])] [(0, 1, (.c (.str (bytesOf [97])))), (1, 1, (.c (.str (bytesOf [120]))))]) ::
 O 8 (.lit false 61 1 2 [.str (bytesOf []), .str (bytesOf [])] [(0, 2, 7)]) ::
 C 9 21 [(.c (.str (bytesOf [115]))), 6, (I 1), 8] ::
 c_law19_Awake_p1
def c_law19_Awake_p2 : List AOper :=
 O 12 (.mv 14) ::
 O 15 (.ext 12 0) ::
 O 16 (.ext 12 1) ::
 O 3 (.mv 15) ::
 O 4 (.mv 16) ::
 []
def c_law19_Awake_p6 : List AOper :=
 OT 34 35 (.mv 3) ::
 OT 34 36 (.iadS 2 35 (I 0)) ::
 OT 34 37 (.load 2 true 36) ::
 OT 34 38 (.build [.str (bytesOf []), .str (bytesOf [])] [(0, 1, (.c (.str (bytesOf [97])))), (1, 1, (.c (.str (bytesOf [120]))))]) ::
 OT 34 39 (.eqg false [.str, .str] 37 38) ::
 O 40 (.pick 34 39 (.c (.bool false))) ::
 O 0 (.mv 40) ::
 []
def c_law19_Awake_p5 : List AOper :=
 OT 29 30 (.mv 3) ::
 OT 29 31 (.lenS 30) ::
 OT 29 32 (.bin .eql 31 (I 1)) ::
 O 33 (.pick 29 32 (.c (.bool false))) ::
 O 34 (.mv 33) ::
 c_law19_Awake_p6
def c_law19_Awake_p4 : List AOper :=
 OT 25 26 (.mv 4) ::
 OT 25 27 (.bin .eql 26 (I 0)) ::
 O 28 (.pick 25 27 (.c (.bool false))) ::
 O 29 (.mv 28) ::
 c_law19_Awake_p5
def c_law19_Awake_p3 : List AOper :=
 OT 19 20 (.faddr 7 1) ::
 OT 19 21 (.load 1 false 20) ::
 OT 19 22 (.lenS 21) ::
 OT 19 23 (.bin .eql 22 (I 1)) ::
 O 24 (.pick 19 23 (.c (.bool false))) ::
 O 25 (.mv 24) ::
 c_law19_Awake_p4
def c_law19_Awake : AFunc := ⟨41, (
 .seq (.ops (O 0 (.mv (.c (.bool false))) ::
 [])) (
 .seq (.ops (C 6 22 [(.c (.str (bytesOf [115, 97, 108, 116])))] ::
 c_law19_Awake_p0)) (
 .seq (.ops (O 13 (.load 8 true 1) ::
 C 14 9 [(.c (.str (bytesOf [115]))), 13] ::
 c_law19_Awake_p2)) (
 .seq (.ops (O 17 (.mv 2) ::
 O 18 (.bin .eql 17 (I 0)) ::
 O 19 (.mv 18) ::
 c_law19_Awake_p3)) (
 .ret))))), [.t 0]⟩
theorem is_law19_Awake : IsFun Go.Proofs.Tryz.prog f_law19_Awake c_law19_Awake := cFunc_is (obj := false) (by kernel_rfl)

abbrev f_archive_Extract : Nat := 9
def c_archive_Extract_p0 : List AOper :=
 O 6 (.mv 17) ::
 []
def c_archive_Extract_p1 : ACode :=
 .seq (.ops (O 20 (.mv 6) ::
 O 4 (.mv (.c (.nils))) ::
 O 5 (.mv 20) ::
 [])) (
 .ret)
def c_archive_Extract_p3 : List AOper :=
 O 7 (.alloc 53 [.str (bytesOf []), .str (bytesOf []), .str (bytesOf [])]) ::
 S (.store 3 7 25) ::
 []
def c_archive_Extract_p6 : List AOper :=
 O 34 (.mv 38) ::
 O 39 (.ext 34 0) ::
 O 40 (.ext 34 1) ::
 O 11 (.mv 39) ::
 O 12 (.mv 40) ::
 []
def c_archive_Extract_p7 : ACode :=
 .seq (.ops (O 43 (.mv 12) ::
 O 4 (.mv (.c (.nils))) ::
 O 5 (.mv 43) ::
 [])) (
 .ret)
def c_archive_Extract_p8 : ACode :=
 .ops (
 O 44 (.mv 8) ::
 O 45 (.mv 11) ::
 O 46 (.lit false 9 1 1 [.str (bytesOf [])] [(0, 1, 45)]) ::
 O 47 (.app 9 1 16 44 46) ::
 O 8 (.mv 47) ::
 [])
def c_archive_Extract_p9 : ACode :=
 .ops (
 O 48 (.bin .add 29 (I 1)) ::
 O 29 (.mv 48) ::
 [])
def c_archive_Extract_p5 : ACode :=
 .seq (
 .block 1 (
 .seq (.ops (O 31 (.mv 29) ::
 O 32 (.iadS 1 27 29) ::
 O 33 (.load 1 false 32) ::
 O 9 (.mv 31) ::
 O 10 (.mv 33) ::
 [])) (
 .seq (.ops (O 35 (.load 3 true 7) ::
 O 36 (.mv 9) ::
 O 37 (.mv 10) ::
 C 38 28 [35, 36, 37] ::
 c_archive_Extract_p6)) (
 .seq (
 .seq (.ops (O 41 (.mv 12) ::
 O 42 (.bin .neq 41 (I 0)) ::
 [])) (
 .cond 42 (c_archive_Extract_p7) (.skip))) (c_archive_Extract_p8))))) (c_archive_Extract_p9)
def c_archive_Extract_p4 : ACode :=
 .seq (.ops (O 30 (.bin .lss 29 28) ::
 [])) (
 .seq (
 .cond 30 (.skip) (.exit 0)) (c_archive_Extract_p5))
def c_archive_Extract_p11 : List AOper :=
 O 49 (.mv 54) ::
 O 55 (.ext 49 0) ::
 O 56 (.ext 49 1) ::
 O 13 (.mv 55) ::
 O 14 (.mv 56) ::
 []
def c_archive_Extract_p12 : ACode :=
 .seq (.ops (O 59 (.mv 14) ::
 O 4 (.mv (.c (.nils))) ::
 O 5 (.mv 59) ::
 [])) (
 .ret)
def c_archive_Extract_p14 : List AOper :=
 O 65 (.ext 64 0) ::
 O 66 (.ext 64 1) ::
 O 4 (.mv 65) ::
 O 5 (.mv 66) ::
 []
def c_archive_Extract_p13 : ACode :=
 .seq (.ops (O 60 (.mv 13) ::
 O 61 (.faddr 0 3) ::
 O 62 (.faddr 4 61) ::
 O 63 (.load 1 false 62) ::
 C 64 30 [60, 63] ::
 c_archive_Extract_p14)) (
 .ret)
def c_archive_Extract_p10 : ACode :=
 .seq (.ops (O 50 (.faddr 0 3) ::
 O 51 (.faddr 3 50) ::
 O 52 (.load 1 false 51) ::
 O 53 (.mv 8) ::
 C 54 29 [52, 53] ::
 c_archive_Extract_p11)) (
 .seq (
 .seq (.ops (O 57 (.mv 14) ::
 O 58 (.bin .neq 57 (I 0)) ::
 [])) (
 .cond 58 (c_archive_Extract_p12) (.skip))) (c_archive_Extract_p13))
def c_archive_Extract_p2 : ACode :=
 .seq (.ops (O 21 (.mv 0) ::
 O 22 (.faddr 0 3) ::
 O 23 (.faddr 1 22) ::
 O 24 (.load 1 false 23) ::
 C 25 27 [21, 24] ::
 c_archive_Extract_p3)) (
 .seq (.ops (O 8 (.mv (.c (.nils))) ::
 [])) (
 .seq (
 .seq (.ops (O 26 (.faddr 7 3) ::
 O 27 (.load 1 false 26) ::
 O 28 (.lenS 27) ::
 O 29 (.mv (I 0)) ::
 [])) (
 .block 0 (
 .loop (c_archive_Extract_p4)))) (c_archive_Extract_p10)))
def c_archive_Extract : AFunc := ⟨67, (
 .seq (.ops (O 3 (.box 26 1) ::
 O 4 (.mv (.c (.nils))) ::
 O 5 (.mv (I 0)) ::
 [])) (
 .seq (
 .seq (.ops (O 15 (.mv 0) ::
 O 16 (.load 8 true 3) ::
 C 17 12 [15, 16] ::
 c_archive_Extract_p0)) (
 .seq (.ops (O 18 (.mv 6) ::
 O 19 (.bin .neq 18 (I 0)) ::
 [])) (
 .cond 19 (c_archive_Extract_p1) (.skip)))) (c_archive_Extract_p2))), [.t 4, .t 5]⟩
theorem is_archive_Extract : IsFun Go.Proofs.Tryz.prog f_archive_Extract c_archive_Extract := cFunc_is (obj := false) (by kernel_rfl)

abbrev f_r19_Extract : Nat := 10
def c_r19_Extract_p0 : List AOper :=
 O 6 (.mv 16) ::
 []
def c_r19_Extract_p1 : ACode :=
 .seq (.ops (O 19 (.mv 6) ::
 O 4 (.mv (.c (.nils))) ::
 O 5 (.mv 19) ::
 [])) (
 .ret)
def c_r19_Extract_p3 : List AOper :=
 O 7 (.alloc 53 [.str (bytesOf []), .str (bytesOf []), .str (bytesOf [])]) ::
 S (.store 3 7 24) ::
 []
def c_r19_Extract_p6 : List AOper :=
 O 32 (.mv 40) ::
 O 41 (.ext 32 0) ::
 O 42 (.ext 32 1) ::
 O 10 (.mv 41) ::
 O 11 (.mv 42) ::
 []
def c_r19_Extract_p7 : ACode :=
 .seq (.ops (O 45 (.mv 11) ::
 O 4 (.mv (.c (.nils))) ::
 O 5 (.mv 45) ::
 [])) (
 .ret)
def c_r19_Extract_p8 : ACode :=
 .ops (
 O 46 (.mv 8) ::
 O 47 (.mv 10) ::
 O 48 (.lit false 9 1 1 [.str (bytesOf [])] [(0, 1, 47)]) ::
 O 49 (.app 9 1 16 46 48) ::
 O 8 (.mv 49) ::
 [])
def c_r19_Extract_p9 : ACode :=
 .ops (
 O 30 (.mv 9) ::
 O 31 (.bin .add 30 (I 1)) ::
 O 9 (.mv 31) ::
 [])
def c_r19_Extract_p5 : ACode :=
 .seq (
 .block 1 (
 .seq (.ops (O 33 (.load 3 true 7) ::
 O 34 (.mv 9) ::
 O 35 (.faddr 7 3) ::
 O 36 (.load 1 false 35) ::
 O 37 (.mv 9) ::
 O 38 (.iadS 1 36 37) ::
 O 39 (.load 1 false 38) ::
 C 40 31 [33, 34, 39] ::
 c_r19_Extract_p6)) (
 .seq (
 .seq (.ops (O 43 (.mv 11) ::
 O 44 (.bin .neq 43 (I 0)) ::
 [])) (
 .cond 44 (c_r19_Extract_p7) (.skip))) (c_r19_Extract_p8)))) (c_r19_Extract_p9)
def c_r19_Extract_p4 : ACode :=
 .seq (
 .seq (.ops (O 25 (.mv 9) ::
 O 26 (.faddr 7 3) ::
 O 27 (.load 1 false 26) ::
 O 28 (.lenS 27) ::
 O 29 (.bin .lss 25 28) ::
 [])) (
 .cond 29 (.skip) (.exit 0))) (c_r19_Extract_p5)
def c_r19_Extract_p11 : List AOper :=
 O 50 (.mv 55) ::
 O 56 (.ext 50 0) ::
 O 57 (.ext 50 1) ::
 O 12 (.mv 56) ::
 O 13 (.mv 57) ::
 []
def c_r19_Extract_p12 : ACode :=
 .seq (.ops (O 60 (.mv 13) ::
 O 4 (.mv (.c (.nils))) ::
 O 5 (.mv 60) ::
 [])) (
 .ret)
def c_r19_Extract_p14 : List AOper :=
 O 66 (.ext 65 0) ::
 O 67 (.ext 65 1) ::
 O 4 (.mv 66) ::
 O 5 (.mv 67) ::
 []
def c_r19_Extract_p13 : ACode :=
 .seq (.ops (O 61 (.mv 12) ::
 O 62 (.faddr 0 3) ::
 O 63 (.faddr 4 62) ::
 O 64 (.load 1 false 63) ::
 C 65 33 [61, 64] ::
 c_r19_Extract_p14)) (
 .ret)
def c_r19_Extract_p10 : ACode :=
 .seq (.ops (O 51 (.faddr 0 3) ::
 O 52 (.faddr 3 51) ::
 O 53 (.load 1 false 52) ::
 O 54 (.mv 8) ::
 C 55 32 [53, 54] ::
 c_r19_Extract_p11)) (
 .seq (
 .seq (.ops (O 58 (.mv 13) ::
 O 59 (.bin .neq 58 (I 0)) ::
 [])) (
 .cond 59 (c_r19_Extract_p12) (.skip))) (c_r19_Extract_p13))
def c_r19_Extract_p2 : ACode :=
 .seq (.ops (O 20 (.mv 0) ::
 O 21 (.faddr 0 3) ::
 O 22 (.faddr 1 21) ::
 O 23 (.load 1 false 22) ::
 C 24 23 [20, 23] ::
 c_r19_Extract_p3)) (
 .seq (.ops (O 8 (.mv (.c (.nils))) ::
 [])) (
 .seq (
 .seq (.ops (O 9 (.mv (I 0)) ::
 [])) (
 .block 0 (
 .loop (c_r19_Extract_p4)))) (c_r19_Extract_p10)))
def c_r19_Extract : AFunc := ⟨68, (
 .seq (.ops (O 3 (.box 26 1) ::
 O 4 (.mv (.c (.nils))) ::
 O 5 (.mv (I 0)) ::
 [])) (
 .seq (.ops (O 14 (.mv 0) ::
 O 15 (.load 8 true 3) ::
 C 16 13 [14, 15] ::
 c_r19_Extract_p0)) (
 .seq (
 .seq (.ops (O 17 (.mv 6) ::
 O 18 (.bin .neq 17 (I 0)) ::
 [])) (
 .cond 18 (c_r19_Extract_p1) (.skip))) (c_r19_Extract_p2)))), [.t 4, .t 5]⟩
theorem is_r19_Extract : IsFun Go.Proofs.Tryz.prog f_r19_Extract c_r19_Extract := cFunc_is (obj := false) (by kernel_rfl)

abbrev f_r12_Same : Nat := 11
def c_r12_Same_p0 : ACode :=
 .seq (.ops (O 4 (.mv (.c (.bool false))) ::
 [])) (
 .ret)
def c_r12_Same_p4 : List AOper :=
 OF 28 29 (.mv 0) ::
 OF 28 30 (.mv 5) ::
 OF 28 31 (.iadS 2 29 30) ::
 OF 28 32 (.faddr 1 31) ::
 OF 28 33 (.load 1 false 32) ::
 OF 28 34 (.mv 1) ::
 OF 28 35 (.mv 5) ::
 OF 28 36 (.iadS 2 34 35) ::
 OF 28 37 (.faddr 1 36) ::
 OF 28 38 (.load 1 false 37) ::
 OF 28 39 (.bin .neq 33 38) ::
 O 40 (.pick 28 (.c (.bool true)) 39) ::
 []
def c_r12_Same_p5 : ACode :=
 .seq (.ops (O 4 (.mv (.c (.bool false))) ::
 [])) (
 .ret)
def c_r12_Same_p6 : ACode :=
 .ops (
 O 15 (.mv 5) ::
 O 16 (.bin .add 15 (I 1)) ::
 O 5 (.mv 16) ::
 [])
def c_r12_Same_p3 : ACode :=
 .seq (
 .block 1 (
 .seq (.ops (O 17 (.mv 0) ::
 O 18 (.mv 5) ::
 O 19 (.iadS 2 17 18) ::
 O 20 (.faddr 0 19) ::
 O 21 (.load 1 false 20) ::
 O 22 (.mv 1) ::
 O 23 (.mv 5) ::
 O 24 (.iadS 2 22 23) ::
 O 25 (.faddr 0 24) ::
 O 26 (.load 1 false 25) ::
 O 27 (.bin .neq 21 26) ::
 O 28 (.mv 27) ::
 c_r12_Same_p4)) (
 .cond 40 (c_r12_Same_p5) (.skip)))) (c_r12_Same_p6)
def c_r12_Same_p2 : ACode :=
 .seq (
 .seq (.ops (O 11 (.mv 5) ::
 O 12 (.mv 0) ::
 O 13 (.lenS 12) ::
 O 14 (.bin .lss 11 13) ::
 [])) (
 .cond 14 (.skip) (.exit 0))) (c_r12_Same_p3)
def c_r12_Same_p7 : ACode :=
 .seq (.ops (O 4 (.mv (.c (.bool true))) ::
 [])) (
 .ret)
def c_r12_Same_p1 : ACode :=
 .seq (
 .seq (.ops (O 5 (.mv (I 0)) ::
 [])) (
 .block 0 (
 .loop (c_r12_Same_p2)))) (c_r12_Same_p7)
def c_r12_Same : AFunc := ⟨41, (
 .seq (.ops (O 4 (.mv (.c (.bool false))) ::
 [])) (
 .seq (
 .seq (.ops (O 6 (.mv 0) ::
 O 7 (.lenS 6) ::
 O 8 (.mv 1) ::
 O 9 (.lenS 8) ::
 O 10 (.bin .neq 7 9) ::
 [])) (
 .cond 10 (c_r12_Same_p0) (.skip))) (c_r12_Same_p1))), [.t 4]⟩
theorem is_r12_Same : IsFun Go.Proofs.Tryz.prog f_r12_Same c_r12_Same := cFunc_is (obj := false) (by kernel_rfl)

abbrev f_archive_Check : Nat := 12
def c_archive_Check_p2 : List (AOper × List Nat) :=
 (O 5 (.mv 12), []) ::
 []
def c_archive_Check_p1 : List (AOper × List Nat) :=
 (O 9 (.field 2 1 false 8), []) ::
 (O 10 (.faddr 0 3), []) ::
 (O 11 (.load 7 true 10), [1]) ::
 (C 12 34 [9, 11], []) ::
 c_archive_Check_p2
def c_archive_Check_p0 : List (AOper × List Nat) :=
 (O 7 (.mv 0), []) ::
 (C 8 27 [7, (.c (.str (bytesOf [])))], []) ::
 c_archive_Check_p1
def c_archive_Check_p0a : List AOper := fstsOf c_archive_Check_p0
def c_archive_Check_p3 : ACode :=
 .seq (.ops (O 15 (.mv 5) ::
 O 4 (.mv 15) ::
 [])) (
 .ret)
def c_archive_Check_p5 : List AOper :=
 O 6 (.mv 17) ::
 []
def c_archive_Check_p6 : ACode :=
 .seq (.ops (O 20 (.mv 6) ::
 O 4 (.mv 20) ::
 [])) (
 .ret)
def c_archive_Check_p9 : List (AOper × List Nat) :=
 (O 24 (.faddr 0 3), []) ::
 (O 25 (.faddr 5 24), []) ::
 (O 26 (.load 1 false 25), [2]) ::
 (O 27 (.bin .neq 23 26), []) ::
 []
def c_archive_Check_p8 : List (AOper × List Nat) :=
 (O 21 (.faddr 7 3), []) ::
 (O 22 (.load 1 false 21), []) ::
 (C 23 36 [22], []) ::
 c_archive_Check_p9
def c_archive_Check_p8a : List AOper := fstsOf c_archive_Check_p8
def c_archive_Check_p10 : ACode :=
 .seq (.ops (O 4 (.mv (I 11)) ::
 [])) (
 .ret)
def c_archive_Check_p11 : ACode :=
 .seq (.ops (O 4 (.mv (I 0)) ::
 [])) (
 .ret)
def c_archive_Check_p7 : ACode :=
 .seq (
 .seq (
 .draw c_archive_Check_p8a c_archive_Check_p8) (
 .cond 27 (c_archive_Check_p10) (.skip))) (c_archive_Check_p11)
def c_archive_Check_p4 : ACode :=
 .seq (
 .seq (.ops (O 16 (.load 8 true 3) ::
 C 17 35 [16] ::
 c_archive_Check_p5)) (
 .seq (.ops (O 18 (.mv 6) ::
 O 19 (.bin .neq 18 (I 0)) ::
 [])) (
 .cond 19 (c_archive_Check_p6) (.skip)))) (c_archive_Check_p7)
def c_archive_Check : AFunc := ⟨28, (
 .seq (.ops (O 3 (.box 26 1) ::
 O 4 (.mv (I 0)) ::
 [])) (
 .seq (
 .seq (
 .draw c_archive_Check_p0a c_archive_Check_p0) (
 .seq (.ops (O 13 (.mv 5) ::
 O 14 (.bin .neq 13 (I 0)) ::
 [])) (
 .cond 14 (c_archive_Check_p3) (.skip)))) (c_archive_Check_p4))), [.t 4]⟩
theorem is_archive_Check : IsFun Go.Proofs.Tryz.prog f_archive_Check c_archive_Check := cFunc_is (obj := false) (by kernel_rfl)

abbrev f_r19_Check : Nat := 13
def c_r19_Check_p2 : List (AOper × List Nat) :=
 (O 5 (.mv 11), []) ::
 []
def c_r19_Check_p1 : List (AOper × List Nat) :=
 (O 8 (.field 2 1 false 7), []) ::
 (O 9 (.faddr 0 3), []) ::
 (O 10 (.load 7 true 9), [1]) ::
 (C 11 37 [8, 10], []) ::
 c_r19_Check_p2
def c_r19_Check_p0 : List (AOper × List Nat) :=
 (O 6 (.mv 0), []) ::
 (C 7 23 [6, (.c (.str (bytesOf [])))], []) ::
 c_r19_Check_p1
def c_r19_Check_p0a : List AOper := fstsOf c_r19_Check_p0
def c_r19_Check_p3 : ACode :=
 .seq (.ops (O 14 (.mv 5) ::
 O 4 (.mv 14) ::
 [])) (
 .ret)
def c_r19_Check_p5 : List AOper :=
 O 17 (.un .not 16) ::
 []
def c_r19_Check_p6 : ACode :=
 .seq (.ops (O 4 (.mv (I 2)) ::
 [])) (
 .ret)
def c_r19_Check_p9 : List (AOper × List Nat) :=
 (O 21 (.faddr 0 3), []) ::
 (O 22 (.faddr 5 21), []) ::
 (O 23 (.load 1 false 22), [2]) ::
 (O 24 (.bin .neq 20 23), []) ::
 []
def c_r19_Check_p8 : List (AOper × List Nat) :=
 (O 18 (.faddr 7 3), []) ::
 (O 19 (.load 1 false 18), []) ::
 (C 20 39 [19], []) ::
 c_r19_Check_p9
def c_r19_Check_p8a : List AOper := fstsOf c_r19_Check_p8
def c_r19_Check_p10 : ACode :=
 .seq (.ops (O 4 (.mv (I 11)) ::
 [])) (
 .ret)
def c_r19_Check_p11 : ACode :=
 .seq (.ops (O 4 (.mv (I 0)) ::
 [])) (
 .ret)
def c_r19_Check_p7 : ACode :=
 .seq (
 .seq (
 .draw c_r19_Check_p8a c_r19_Check_p8) (
 .cond 24 (c_r19_Check_p10) (.skip))) (c_r19_Check_p11)
def c_r19_Check_p4 : ACode :=
 .seq (
 .seq (.ops (O 15 (.load 8 true 3) ::
 C 16 38 [15] ::
 c_r19_Check_p5)) (
 .cond 17 (c_r19_Check_p6) (.skip))) (c_r19_Check_p7)
def c_r19_Check : AFunc := ⟨25, (
 .seq (.ops (O 3 (.box 26 1) ::
 O 4 (.mv (I 0)) ::
 [])) (
 .seq (
 .draw c_r19_Check_p0a c_r19_Check_p0) (
 .seq (
 .seq (.ops (O 12 (.mv 5) ::
 O 13 (.bin .neq 12 (I 0)) ::
 [])) (
 .cond 13 (c_r19_Check_p3) (.skip))) (c_r19_Check_p4)))), [.t 4]⟩
theorem is_r19_Check : IsFun Go.Proofs.Tryz.prog f_r19_Check c_r19_Check := cFunc_is (obj := false) (by kernel_rfl)

abbrev f_archive_Same : Nat := 14
def c_archive_Same_p0 : List AOper :=
 OF 12 13 (.faddr 7 2) ::
 OF 12 14 (.load 1 false 13) ::
 OF 12 15 (.lenS 14) ::
 OF 12 16 (.faddr 7 3) ::
 OF 12 17 (.load 1 false 16) ::
 OF 12 18 (.lenS 17) ::
 OF 12 19 (.bin .neq 15 18) ::
 O 20 (.pick 12 (.c (.bool true)) 19) ::
 []
def c_archive_Same_p1 : ACode :=
 .seq (.ops (O 4 (.mv (.c (.bool false))) ::
 [])) (
 .ret)
def c_archive_Same_p5 : ACode :=
 .seq (.ops (O 4 (.mv (.c (.bool false))) ::
 [])) (
 .ret)
def c_archive_Same_p6 : ACode :=
 .ops (
 O 36 (.bin .add 24 (I 1)) ::
 O 24 (.mv 36) ::
 [])
def c_archive_Same_p4 : ACode :=
 .seq (
 .block 1 (
 .seq (.ops (O 26 (.mv 24) ::
 O 27 (.iadS 1 22 24) ::
 O 28 (.load 1 false 27) ::
 O 5 (.mv 26) ::
 O 6 (.mv 28) ::
 [])) (
 .seq (.ops (O 29 (.mv 6) ::
 O 30 (.faddr 7 3) ::
 O 31 (.load 1 false 30) ::
 O 32 (.mv 5) ::
 O 33 (.iadS 1 31 32) ::
 O 34 (.load 1 false 33) ::
 O 35 (.bin .neq 29 34) ::
 [])) (
 .cond 35 (c_archive_Same_p5) (.skip))))) (c_archive_Same_p6)
def c_archive_Same_p3 : ACode :=
 .seq (.ops (O 25 (.bin .lss 24 23) ::
 [])) (
 .seq (
 .cond 25 (.skip) (.exit 0)) (c_archive_Same_p4))
def c_archive_Same_p7 : ACode :=
 .seq (.ops (O 4 (.mv (.c (.bool true))) ::
 [])) (
 .ret)
def c_archive_Same_p2 : ACode :=
 .seq (
 .seq (.ops (O 21 (.faddr 7 2) ::
 O 22 (.load 1 false 21) ::
 O 23 (.lenS 22) ::
 O 24 (.mv (I 0)) ::
 [])) (
 .block 0 (
 .loop (c_archive_Same_p3)))) (c_archive_Same_p7)
def c_archive_Same : AFunc := ⟨37, (
 .seq (.ops (O 2 (.box 26 0) ::
 O 3 (.box 26 1) ::
 O 4 (.mv (.c (.bool false))) ::
 [])) (
 .seq (
 .seq (.ops (O 7 (.faddr 0 2) ::
 O 8 (.load 7 true 7) ::
 O 9 (.faddr 0 3) ::
 O 10 (.load 7 true 9) ::
 O 11 (.eqg true [.int, .str, .int, .int, .int, .str, .str] 8 10) ::
 O 12 (.mv 11) ::
 c_archive_Same_p0)) (
 .cond 20 (c_archive_Same_p1) (.skip))) (c_archive_Same_p2))), [.t 4]⟩
theorem is_archive_Same : IsFun Go.Proofs.Tryz.prog f_archive_Same c_archive_Same := cFunc_is (obj := false) (by kernel_rfl)

abbrev f_r19_Same : Nat := 15
def c_r19_Same_p1 : List AOper :=
 O 16 (.pick 10 15 (.c (.bool false))) ::
 O 4 (.mv 16) ::
 []
def c_r19_Same_p0 : List AOper :=
 OT 10 11 (.faddr 7 2) ::
 OT 10 12 (.load 1 false 11) ::
 OT 10 13 (.faddr 7 3) ::
 OT 10 14 (.load 1 false 13) ::
 CT 10 15 40 [12, 14] ::
 c_r19_Same_p1
def c_r19_Same : AFunc := ⟨17, (
 .seq (.ops (O 2 (.box 26 0) ::
 O 3 (.box 26 1) ::
 O 4 (.mv (.c (.bool false))) ::
 [])) (
 .seq (.ops (O 5 (.faddr 0 2) ::
 O 6 (.load 7 true 5) ::
 O 7 (.faddr 0 3) ::
 O 8 (.load 7 true 7) ::
 O 9 (.eqg false [.int, .str, .int, .int, .int, .str, .str] 6 8) ::
 O 10 (.mv 9) ::
 c_r19_Same_p0)) (
 .ret))), [.t 4]⟩
theorem is_r19_Same : IsFun Go.Proofs.Tryz.prog f_r19_Same c_r19_Same := cFunc_is (obj := false) (by kernel_rfl)

abbrev f_archive_Put : Nat := 16
def c_archive_Put_p0 : List AOper :=
 O 6 (.mv 9) ::
 O 10 (.ext 6 0) ::
 O 11 (.ext 6 1) ::
 O 4 (.mv 10) ::
 O 5 (.mv 11) ::
 []
def c_archive_Put_p2 : List AOper :=
 O 5 (.mv 15) ::
 []
def c_archive_Put_p1 : ACode :=
 .ops (
 O 14 (.load 8 true 1) ::
 C 15 35 [14] ::
 c_archive_Put_p2)
def c_archive_Put_p4 : ACode :=
 .seq (.ops (O 18 (.mv 5) ::
 O 2 (.mv (.c (.str (bytesOf [])))) ::
 O 3 (.mv 18) ::
 [])) (
 .ret)
def c_archive_Put_p6 : List AOper :=
 O 23 (.bin .add 19 22) ::
 O 2 (.mv 23) ::
 O 3 (.mv (I 0)) ::
 []
def c_archive_Put_p5 : ACode :=
 .seq (.ops (O 19 (.mv 4) ::
 O 20 (.faddr 7 1) ::
 O 21 (.load 1 false 20) ::
 C 22 42 [21, (.c (.str (bytesOf [])))] ::
 c_archive_Put_p6)) (
 .ret)
def c_archive_Put_p3 : ACode :=
 .seq (
 .seq (.ops (O 16 (.mv 5) ::
 O 17 (.bin .neq 16 (I 0)) ::
 [])) (
 .cond 17 (c_archive_Put_p4) (.skip))) (c_archive_Put_p5)
def c_archive_Put : AFunc := ⟨24, (
 .seq (.ops (O 1 (.box 26 0) ::
 O 2 (.mv (.c (.str (bytesOf [])))) ::
 O 3 (.mv (I 0)) ::
 [])) (
 .seq (.ops (O 7 (.faddr 0 1) ::
 O 8 (.load 7 true 7) ::
 C 9 41 [8] ::
 c_archive_Put_p0)) (
 .seq (
 .seq (.ops (O 12 (.mv 5) ::
 O 13 (.bin .eql 12 (I 0)) ::
 [])) (
 .cond 13 (c_archive_Put_p1) (.skip))) (c_archive_Put_p3)))), [.t 2, .t 3]⟩
theorem is_archive_Put : IsFun Go.Proofs.Tryz.prog f_archive_Put c_archive_Put := cFunc_is (obj := false) (by kernel_rfl)

abbrev f_r19_Put : Nat := 17
def c_r19_Put_p0 : List AOper :=
 O 7 (.mv 10) ::
 O 11 (.ext 7 0) ::
 O 12 (.ext 7 1) ::
 O 4 (.mv 11) ::
 O 5 (.mv 12) ::
 []
def c_r19_Put_p1 : ACode :=
 .seq (.ops (O 15 (.mv 5) ::
 O 2 (.mv (.c (.str (bytesOf [])))) ::
 O 3 (.mv 15) ::
 [])) (
 .ret)
def c_r19_Put_p3 : List AOper :=
 O 18 (.un .not 17) ::
 []
def c_r19_Put_p4 : ACode :=
 .seq (.ops (O 2 (.mv (.c (.str (bytesOf [])))) ::
 O 3 (.mv (I 2)) ::
 [])) (
 .ret)
def c_r19_Put_p7 : ACode :=
 .seq (
 .block 1 (.ops (O 26 (.mv 4) ::
 O 27 (.faddr 7 1) ::
 O 28 (.load 1 false 27) ::
 O 29 (.mv 6) ::
 O 30 (.iadS 1 28 29) ::
 O 31 (.load 1 false 30) ::
 O 32 (.bin .add 26 31) ::
 O 4 (.mv 32) ::
 []))) (.ops (O 24 (.mv 6) ::
 O 25 (.bin .add 24 (I 1)) ::
 O 6 (.mv 25) ::
 []))
def c_r19_Put_p6 : ACode :=
 .seq (
 .seq (.ops (O 19 (.mv 6) ::
 O 20 (.faddr 7 1) ::
 O 21 (.load 1 false 20) ::
 O 22 (.lenS 21) ::
 O 23 (.bin .lss 19 22) ::
 [])) (
 .cond 23 (.skip) (.exit 0))) (c_r19_Put_p7)
def c_r19_Put_p8 : ACode :=
 .seq (.ops (O 33 (.mv 4) ::
 O 2 (.mv 33) ::
 O 3 (.mv (I 0)) ::
 [])) (
 .ret)
def c_r19_Put_p5 : ACode :=
 .seq (
 .seq (.ops (O 6 (.mv (I 0)) ::
 [])) (
 .block 0 (
 .loop (c_r19_Put_p6)))) (c_r19_Put_p8)
def c_r19_Put_p2 : ACode :=
 .seq (
 .seq (.ops (O 16 (.load 8 true 1) ::
 C 17 38 [16] ::
 c_r19_Put_p3)) (
 .cond 18 (c_r19_Put_p4) (.skip))) (c_r19_Put_p5)
def c_r19_Put : AFunc := ⟨34, (
 .seq (.ops (O 1 (.box 26 0) ::
 O 2 (.mv (.c (.str (bytesOf [])))) ::
 O 3 (.mv (I 0)) ::
 [])) (
 .seq (.ops (O 8 (.faddr 0 1) ::
 O 9 (.load 7 true 8) ::
 C 10 43 [9] ::
 c_r19_Put_p0)) (
 .seq (
 .seq (.ops (O 13 (.mv 5) ::
 O 14 (.bin .neq 13 (I 0)) ::
 [])) (
 .cond 14 (c_r19_Put_p1) (.skip))) (c_r19_Put_p2)))), [.t 2, .t 3]⟩
theorem is_r19_Put : IsFun Go.Proofs.Tryz.prog f_r19_Put c_r19_Put := cFunc_is (obj := false) (by kernel_rfl)

abbrev f_archive_Take : Nat := 18
def c_archive_Take_p0 : ACode :=
 .seq (.ops (O 10 (.build [.nat .i64 0, .str (bytesOf []), .nat .i64 0, .nat .i64 0, .nat .i64 0, .str (bytesOf []), .str (bytesOf []), .nils] []) ::
 S (.store 8 2 10) ::
 O 3 (.mv (I 2)) ::
 [])) (
 .ret)
def c_archive_Take_p2 : List AOper :=
 O 11 (.mv 14) ::
 O 15 (.ext 11 0) ::
 O 16 (.ext 11 1) ::
 O 4 (.alloc 23 [.nat .i64 0, .str (bytesOf []), .nat .i64 0, .nat .i64 0, .nat .i64 0, .str (bytesOf []), .str (bytesOf [])]) ::
 S (.store 7 4 15) ::
 O 5 (.mv 16) ::
 []
def c_archive_Take_p3 : List AOper :=
 OT 21 22 (.mv 0) ::
 OT 21 23 (.lenT 22) ::
 OT 21 24 (.faddr 2 4) ::
 OT 21 25 (.load 1 false 24) ::
 OT 21 26 (.bin .mul 25 (I 224)) ::
 OT 21 27 (.bin .neq 23 26) ::
 O 28 (.pick 21 27 (.c (.bool false))) ::
 []
def c_archive_Take_p4 : ACode :=
 .ops (
 O 5 (.mv (I 2)) ::
 [])
def c_archive_Take_p6 : ACode :=
 .seq (.ops (O 31 (.build [.nat .i64 0, .str (bytesOf []), .nat .i64 0, .nat .i64 0, .nat .i64 0, .str (bytesOf []), .str (bytesOf []), .nils] []) ::
 O 32 (.mv 5) ::
 S (.store 8 2 31) ::
 O 3 (.mv 32) ::
 [])) (
 .ret)
def c_archive_Take_p9 : ACode :=
 .seq (
 .block 1 (.ops (O 39 (.faddr 7 6) ::
 O 40 (.load 1 false 39) ::
 O 41 (.mv 0) ::
 O 42 (.sliceT 41 none (some (I 224))) ::
 O 43 (.lit false 9 1 1 [.str (bytesOf [])] [(0, 1, 42)]) ::
 O 44 (.app 9 1 16 40 43) ::
 O 45 (.faddr 7 6) ::
 S (.store 1 45 44) ::
 []))) (.ops (O 37 (.mv 0) ::
 O 38 (.sliceT 37 (some (I 224)) none) ::
 O 0 (.mv 38) ::
 []))
def c_archive_Take_p8 : ACode :=
 .seq (
 .seq (.ops (O 35 (.mv 0) ::
 O 36 (.bin .neq 35 (.c (.str (bytesOf [])))) ::
 [])) (
 .cond 36 (.skip) (.exit 0))) (c_archive_Take_p9)
def c_archive_Take_p10 : ACode :=
 .seq (.ops (O 46 (.load 8 true 6) ::
 S (.store 8 2 46) ::
 O 3 (.mv (I 0)) ::
 [])) (
 .ret)
def c_archive_Take_p7 : ACode :=
 .seq (.ops (O 33 (.load 7 true 4) ::
 O 34 (.build [.nat .i64 0, .str (bytesOf []), .nat .i64 0, .nat .i64 0, .nat .i64 0, .str (bytesOf []), .str (bytesOf []), .nils] [(0, 7, 33)]) ::
 O 6 (.alloc 26 [.nat .i64 0, .str (bytesOf []), .nat .i64 0, .nat .i64 0, .nat .i64 0, .str (bytesOf []), .str (bytesOf []), .nils]) ::
 S (.store 8 6 34) ::
 [])) (
 .seq (
 .block 0 (
 .loop (c_archive_Take_p8))) (c_archive_Take_p10))
def c_archive_Take_p5 : ACode :=
 .seq (
 .seq (.ops (O 29 (.mv 5) ::
 O 30 (.bin .neq 29 (I 0)) ::
 [])) (
 .cond 30 (c_archive_Take_p6) (.skip))) (c_archive_Take_p7)
def c_archive_Take_p1 : ACode :=
 .seq (.ops (O 12 (.mv 0) ::
 O 13 (.sliceT 12 none (some (I 98))) ::
 C 14 44 [13] ::
 c_archive_Take_p2)) (
 .seq (.ops (O 17 (.mv 0) ::
 O 18 (.sliceT 17 (some (I 98)) none) ::
 O 0 (.mv 18) ::
 [])) (
 .seq (
 .seq (.ops (O 19 (.mv 5) ::
 O 20 (.bin .eql 19 (I 0)) ::
 O 21 (.mv 20) ::
 c_archive_Take_p3)) (
 .cond 28 (c_archive_Take_p4) (.skip))) (c_archive_Take_p5)))
def c_archive_Take : AFunc := ⟨47, (
 .seq (.ops (O 2 (.alloc 26 [.nat .i64 0, .str (bytesOf []), .nat .i64 0, .nat .i64 0, .nat .i64 0, .str (bytesOf []), .str (bytesOf []), .nils]) ::
 O 3 (.mv (I 0)) ::
 [])) (
 .seq (
 .seq (.ops (O 7 (.mv 0) ::
 O 8 (.lenT 7) ::
 O 9 (.bin .lss 8 (I 98)) ::
 [])) (
 .cond 9 (c_archive_Take_p0) (.skip))) (c_archive_Take_p1))), [.cell 2 8 true, .t 3]⟩
theorem is_archive_Take : IsFun Go.Proofs.Tryz.prog f_archive_Take c_archive_Take := cFunc_is (obj := false) (by kernel_rfl)

abbrev f_r19_Take : Nat := 19
def c_r19_Take_p0 : ACode :=
 .seq (.ops (O 12 (.build [.nat .i64 0, .str (bytesOf []), .nat .i64 0, .nat .i64 0, .nat .i64 0, .str (bytesOf []), .str (bytesOf []), .nils] []) ::
 S (.store 8 2 12) ::
 O 3 (.mv (I 2)) ::
 [])) (
 .ret)
def c_r19_Take_p2 : List AOper :=
 O 13 (.mv 16) ::
 O 17 (.ext 13 0) ::
 O 18 (.ext 13 1) ::
 O 4 (.alloc 23 [.nat .i64 0, .str (bytesOf []), .nat .i64 0, .nat .i64 0, .nat .i64 0, .str (bytesOf []), .str (bytesOf [])]) ::
 S (.store 7 4 17) ::
 O 5 (.mv 18) ::
 []
def c_r19_Take_p3 : List AOper :=
 OF 21 22 (.mv 0) ::
 OF 21 23 (.lenT 22) ::
 OF 21 24 (.faddr 2 4) ::
 OF 21 25 (.load 1 false 24) ::
 OF 21 26 (.bin .mul (I 224) 25) ::
 OF 21 27 (.bin .add (I 98) 26) ::
 OF 21 28 (.bin .neq 23 27) ::
 O 29 (.pick 21 (.c (.bool true)) 28) ::
 []
def c_r19_Take_p4 : ACode :=
 .seq (.ops (O 30 (.build [.nat .i64 0, .str (bytesOf []), .nat .i64 0, .nat .i64 0, .nat .i64 0, .str (bytesOf []), .str (bytesOf []), .nils] []) ::
 S (.store 8 2 30) ::
 O 3 (.mv (I 2)) ::
 [])) (
 .ret)
def c_r19_Take_p7 : ACode :=
 .seq (
 .block 1 (
 .seq (.ops (O 39 (.mv 7) ::
 O 40 (.bin .mul (I 224) 39) ::
 O 41 (.bin .add (I 98) 40) ::
 O 8 (.mv 41) ::
 [])) (.ops (O 42 (.faddr 7 6) ::
 O 43 (.load 1 false 42) ::
 O 44 (.mv 0) ::
 O 45 (.mv 8) ::
 O 46 (.mv 8) ::
 O 47 (.bin .add 46 (I 224)) ::
 O 48 (.sliceT 44 (some 45) (some 47)) ::
 O 49 (.lit false 9 1 1 [.str (bytesOf [])] [(0, 1, 48)]) ::
 O 50 (.app 9 1 16 43 49) ::
 O 51 (.faddr 7 6) ::
 S (.store 1 51 50) ::
 [])))) (.ops (O 37 (.mv 7) ::
 O 38 (.bin .add 37 (I 1)) ::
 O 7 (.mv 38) ::
 []))
def c_r19_Take_p6 : ACode :=
 .seq (
 .seq (.ops (O 33 (.mv 7) ::
 O 34 (.faddr 2 4) ::
 O 35 (.load 1 false 34) ::
 O 36 (.bin .lss 33 35) ::
 [])) (
 .cond 36 (.skip) (.exit 0))) (c_r19_Take_p7)
def c_r19_Take_p8 : ACode :=
 .seq (.ops (O 52 (.load 8 true 6) ::
 S (.store 8 2 52) ::
 O 3 (.mv (I 0)) ::
 [])) (
 .ret)
def c_r19_Take_p5 : ACode :=
 .seq (.ops (O 31 (.load 7 true 4) ::
 O 32 (.build [.nat .i64 0, .str (bytesOf []), .nat .i64 0, .nat .i64 0, .nat .i64 0, .str (bytesOf []), .str (bytesOf []), .nils] [(0, 7, 31)]) ::
 O 6 (.alloc 26 [.nat .i64 0, .str (bytesOf []), .nat .i64 0, .nat .i64 0, .nat .i64 0, .str (bytesOf []), .str (bytesOf []), .nils]) ::
 S (.store 8 6 32) ::
 [])) (
 .seq (
 .seq (.ops (O 7 (.mv (I 0)) ::
 [])) (
 .block 0 (
 .loop (c_r19_Take_p6)))) (c_r19_Take_p8))
def c_r19_Take_p1 : ACode :=
 .seq (.ops (O 14 (.mv 0) ::
 O 15 (.sliceT 14 none (some (I 98))) ::
 C 16 45 [15] ::
 c_r19_Take_p2)) (
 .seq (
 .seq (.ops (O 19 (.mv 5) ::
 O 20 (.bin .neq 19 (I 0)) ::
 O 21 (.mv 20) ::
 c_r19_Take_p3)) (
 .cond 29 (c_r19_Take_p4) (.skip))) (c_r19_Take_p5))
def c_r19_Take : AFunc := ⟨53, (
 .seq (.ops (O 2 (.alloc 26 [.nat .i64 0, .str (bytesOf []), .nat .i64 0, .nat .i64 0, .nat .i64 0, .str (bytesOf []), .str (bytesOf []), .nils]) ::
 O 3 (.mv (I 0)) ::
 [])) (
 .seq (
 .seq (.ops (O 9 (.mv 0) ::
 O 10 (.lenT 9) ::
 O 11 (.bin .lss 10 (I 98)) ::
 [])) (
 .cond 11 (c_r19_Take_p0) (.skip))) (c_r19_Take_p1))), [.cell 2 8 true, .t 3]⟩
theorem is_r19_Take : IsFun Go.Proofs.Tryz.prog f_r19_Take c_r19_Take := cFunc_is (obj := false) (by kernel_rfl)

abbrev f_law19_Files : Nat := 20
def c_law19_Files_p0 : List AOper :=
 O 0 (.mv 6) ::
 []
def c_law19_Files_p3 : ACode :=
 .seq (.ops (O 30 (.mv 0) ::
 O 31 (.mv 4) ::
 O 32 (.sliceS 2 30 none (some 31)) ::
 O 2 (.mv 32) ::
 [])) (
 .ret)
def c_law19_Files_p4 : ACode :=
 .ops (
 O 11 (.mv 4) ::
 O 12 (.bin .add 11 (I 1)) ::
 O 4 (.mv 12) ::
 [])
def c_law19_Files_p2 : ACode :=
 .seq (
 .block 1 (
 .seq (.ops (O 13 (.mv 3) ::
 O 14 (.mv 0) ::
 O 15 (.mv 4) ::
 O 16 (.iadS 2 14 15) ::
 O 17 (.faddr 0 16) ::
 O 18 (.load 1 false 17) ::
 O 19 (.lenT 18) ::
 O 20 (.bin .add 13 19) ::
 O 21 (.mv 0) ::
 O 22 (.mv 4) ::
 O 23 (.iadS 2 21 22) ::
 O 24 (.faddr 1 23) ::
 O 25 (.load 1 false 24) ::
 O 26 (.lenT 25) ::
 O 27 (.bin .add 20 26) ::
 O 3 (.mv 27) ::
 [])) (
 .seq (.ops (O 28 (.mv 3) ::
 O 29 (.bin .gtr 28 (I 2500)) ::
 [])) (
 .cond 29 (c_law19_Files_p3) (.skip))))) (c_law19_Files_p4)
def c_law19_Files_p1 : ACode :=
 .seq (
 .seq (.ops (O 7 (.mv 4) ::
 O 8 (.mv 0) ::
 O 9 (.lenS 8) ::
 O 10 (.bin .lss 7 9) ::
 [])) (
 .cond 10 (.skip) (.exit 0))) (c_law19_Files_p2)
def c_law19_Files_p5 : ACode :=
 .seq (.ops (O 33 (.mv 0) ::
 O 2 (.mv 33) ::
 [])) (
 .ret)
def c_law19_Files : AFunc := ⟨34, (
 .seq (.ops (O 2 (.mv (.c (.nils))) ::
 [])) (
 .seq (.ops (O 5 (.mv 0) ::
 C 6 46 [5] ::
 c_law19_Files_p0)) (
 .seq (.ops (O 3 (.mv (I 0)) ::
 [])) (
 .seq (
 .seq (.ops (O 4 (.mv (I 0)) ::
 [])) (
 .block 0 (
 .loop (c_law19_Files_p1)))) (c_law19_Files_p5))))), [.t 2]⟩
theorem is_law19_Files : IsFun Go.Proofs.Tryz.prog f_law19_Files c_law19_Files := cFunc_is (obj := false) (by kernel_rfl)

abbrev f_archive_Pack : Nat := 21
def c_archive_Pack_p1 : List AOper :=
 OF 26 27 (.mv 2) ::
 OF 26 28 (.bin .gtr 27 (I 4294967295)) ::
 O 29 (.pick 26 (.c (.bool true)) 28) ::
 []
def c_archive_Pack_p0 : List AOper :=
 OF 22 23 (.mv 2) ::
 OF 22 24 (.bin .lss 23 (I 1)) ::
 O 25 (.pick 22 (.c (.bool true)) 24) ::
 O 26 (.mv 25) ::
 c_archive_Pack_p1
def c_archive_Pack_p2 : ACode :=
 .seq (.ops (O 30 (.build [.nat .i64 0, .str (bytesOf []), .nat .i64 0, .nat .i64 0, .nat .i64 0, .str (bytesOf []), .str (bytesOf []), .nils] []) ::
 S (.store 8 8 30) ::
 O 9 (.mv (I 1)) ::
 [])) (
 .ret)
def c_archive_Pack_p4 : List AOper :=
 O 31 (.mv 33) ::
 O 34 (.ext 31 0) ::
 O 35 (.ext 31 1) ::
 O 36 (.ext 31 2) ::
 O 10 (.mv 34) ::
 O 11 (.mv 35) ::
 O 12 (.mv 36) ::
 []
def c_archive_Pack_p5 : ACode :=
 .seq (.ops (O 39 (.build [.nat .i64 0, .str (bytesOf []), .nat .i64 0, .nat .i64 0, .nat .i64 0, .str (bytesOf []), .str (bytesOf []), .nils] []) ::
 O 40 (.mv 12) ::
 S (.store 8 8 39) ::
 O 9 (.mv 40) ::
 [])) (
 .ret)
def c_archive_Pack_p7 : List AOper :=
 O 13 (.alloc 53 [.str (bytesOf []), .str (bytesOf []), .str (bytesOf [])]) ::
 S (.store 3 13 43) ::
 []
def c_archive_Pack_p8 : List AOper :=
 O 46 (.lenS 45) ::
 O 47 (.mv (I 0)) ::
 []
def c_archive_Pack_p11 : List AOper :=
 O 52 (.mv 56) ::
 O 57 (.ext 52 0) ::
 O 58 (.ext 52 1) ::
 O 17 (.mv 57) ::
 O 18 (.mv 58) ::
 []
def c_archive_Pack_p10 : ACode :=
 .seq (
 .block 1 (
 .seq (.ops (O 49 (.mv 47) ::
 O 50 (.iadS 1 45 47) ::
 O 51 (.load 1 false 50) ::
 O 15 (.mv 49) ::
 O 16 (.mv 51) ::
 [])) (
 .seq (.ops (O 53 (.load 3 true 13) ::
 O 54 (.mv 15) ::
 O 55 (.mv 16) ::
 C 56 49 [53, 54, 55] ::
 c_archive_Pack_p11)) (.ops (O 59 (.faddr 7 14) ::
 O 60 (.load 1 false 59) ::
 O 61 (.mv 17) ::
 O 62 (.lit false 9 1 1 [.str (bytesOf [])] [(0, 1, 61)]) ::
 O 63 (.app 9 1 16 60 62) ::
 O 64 (.faddr 7 14) ::
 S (.store 1 64 63) ::
 []))))) (.ops (O 65 (.bin .add 47 (I 1)) ::
 O 47 (.mv 65) ::
 []))
def c_archive_Pack_p9 : ACode :=
 .seq (.ops (O 48 (.bin .lss 47 46) ::
 [])) (
 .seq (
 .cond 48 (.skip) (.exit 0)) (c_archive_Pack_p10))
def c_archive_Pack_p15 : List (AOper × List Nat) :=
 (O 81 (.faddr 0 14), []) ::
 (S (.store 7 81 80), []) ::
 []
def c_archive_Pack_p14 : List (AOper × List Nat) :=
 (O 79 (.build [.nat .i64 0, .str (bytesOf []), .nat .i64 0, .nat .i64 0, .nat .i64 0, .str (bytesOf []), .str (bytesOf [])] [(0, 1, 68), (1, 1, 69), (2, 1, 72), (3, 1, 74), (4, 1, 75), (5, 1, 78)]), []) ::
 (C 80 50 [67, 79], []) ::
 c_archive_Pack_p15
def c_archive_Pack_p13 : List (AOper × List Nat) :=
 (O 66 (.faddr 2 13), []) ::
 (O 67 (.load 1 false 66), []) ::
 (O 68 (.mv 2), []) ::
 (O 69 (.mv 1), []) ::
 (O 70 (.faddr 7 14), []) ::
 (O 71 (.load 1 false 70), []) ::
 (O 72 (.lenS 71), []) ::
 (O 73 (.mv 10), []) ::
 (O 74 (.lenT 73), []) ::
 (O 75 (.mv 11), []) ::
 (O 76 (.faddr 7 14), []) ::
 (O 77 (.load 1 false 76), []) ::
 (C 78 36 [77], [1, 5]) ::
 c_archive_Pack_p14
def c_archive_Pack_p13a : List AOper := fstsOf c_archive_Pack_p13
def c_archive_Pack_p12 : ACode :=
 .seq (
 .draw c_archive_Pack_p13a c_archive_Pack_p13) (
 .seq (.ops (O 82 (.load 8 true 14) ::
 S (.store 8 8 82) ::
 O 9 (.mv (I 0)) ::
 [])) (
 .ret))
def c_archive_Pack_p6 : ACode :=
 .seq (.ops (O 41 (.mv 0) ::
 O 42 (.mv 1) ::
 C 43 27 [41, 42] ::
 c_archive_Pack_p7)) (
 .seq (.ops (O 14 (.alloc 26 [.nat .i64 0, .str (bytesOf []), .nat .i64 0, .nat .i64 0, .nat .i64 0, .str (bytesOf []), .str (bytesOf []), .nils]) ::
 [])) (
 .seq (
 .seq (.ops (O 44 (.mv 10) ::
 C 45 48 [44] ::
 c_archive_Pack_p8)) (
 .block 0 (
 .loop (c_archive_Pack_p9)))) (c_archive_Pack_p12)))
def c_archive_Pack_p3 : ACode :=
 .seq (.ops (O 32 (.mv 3) ::
 C 33 47 [32] ::
 c_archive_Pack_p4)) (
 .seq (
 .seq (.ops (O 37 (.mv 12) ::
 O 38 (.bin .neq 37 (I 0)) ::
 [])) (
 .cond 38 (c_archive_Pack_p5) (.skip))) (c_archive_Pack_p6))
def c_archive_Pack : AFunc := ⟨83, (
 .seq (.ops (O 8 (.alloc 26 [.nat .i64 0, .str (bytesOf []), .nat .i64 0, .nat .i64 0, .nat .i64 0, .str (bytesOf []), .str (bytesOf []), .nils]) ::
 O 9 (.mv (I 0)) ::
 [])) (
 .seq (
 .seq (.ops (O 19 (.mv 1) ::
 O 20 (.lenT 19) ::
 O 21 (.bin .neq 20 (I 16)) ::
 O 22 (.mv 21) ::
 c_archive_Pack_p0)) (
 .cond 29 (c_archive_Pack_p2) (.skip))) (c_archive_Pack_p3))), [.cell 8 8 true, .t 9]⟩
theorem is_archive_Pack : IsFun Go.Proofs.Tryz.prog f_archive_Pack c_archive_Pack := cFunc_is (obj := false) (by kernel_rfl)

abbrev f_law19_Salt : Nat := 22
def c_law19_Salt_p1 : ACode :=
 .block 1 (.ops (O 9 (.mv 3) ::
 O 10 (.mv 3) ::
 O 11 (.lenS 10) ::
 O 12 (.toInt .u8 11) ::
 O 13 (.lit false 5 1 1 [.nat .u8 0] [(0, 1, 12)]) ::
 O 14 (.app 5 1 1 9 13) ::
 O 3 (.mv 14) ::
 []))
def c_law19_Salt_p0 : ACode :=
 .seq (
 .seq (.ops (O 6 (.mv 3) ::
 O 7 (.lenS 6) ::
 O 8 (.bin .lss 7 (I 16)) ::
 [])) (
 .cond 8 (.skip) (.exit 0))) (c_law19_Salt_p1)
def c_law19_Salt_p2 : ACode :=
 .seq (.ops (O 15 (.mv 3) ::
 O 16 (.sliceS 1 15 none (some (I 16))) ::
 O 17 (.b2s 16) ::
 O 2 (.mv 17) ::
 [])) (
 .ret)
def c_law19_Salt : AFunc := ⟨18, (
 .seq (.ops (O 2 (.mv (.c (.str (bytesOf [])))) ::
 [])) (
 .seq (.ops (O 4 (.mv 0) ::
 O 5 (.s2b 5 4) ::
 O 3 (.mv 5) ::
 [])) (
 .seq (
 .block 0 (
 .loop (c_law19_Salt_p0))) (c_law19_Salt_p2)))), [.t 2]⟩
theorem is_law19_Salt : IsFun Go.Proofs.Tryz.prog f_law19_Salt c_law19_Salt := cFunc_is (obj := false) (by kernel_rfl)

abbrev f_r05_Keys : Nat := 23
def c_r05_Keys_p0 : List AOper :=
 O 5 (.mv 14) ::
 []
def c_r05_Keys_p1 : List AOper :=
 O 15 (.mv 17) ::
 O 18 (.ext 15 0) ::
 O 19 (.ext 15 1) ::
 O 6 (.mv 18) ::
 O 7 (.mv 19) ::
 []
def c_r05_Keys_p2 : List AOper :=
 O 20 (.mv 22) ::
 O 23 (.ext 20 0) ::
 O 24 (.ext 20 1) ::
 O 8 (.mv 23) ::
 O 9 (.mv 24) ::
 []
def c_r05_Keys_p4 : List AOper :=
 O 25 (.mv 28) ::
 O 29 (.ext 25 0) ::
 O 30 (.ext 25 1) ::
 O 10 (.mv 29) ::
 O 11 (.mv 30) ::
 []
def c_r05_Keys_p3 : List AOper :=
 C 28 51 [27, (.c (.str (bytesOf [115, 108, 101, 100, 103, 101, 32, 104, 101, 97, 100, 115]))), (I 32)] ::
 c_r05_Keys_p4
def c_r05_Keys : AFunc := ⟨35, (
 .seq (.ops (O 4 (.alloc 53 [.str (bytesOf []), .str (bytesOf []), .str (bytesOf [])]) ::
 [])) (
 .seq (.ops (O 12 (.mv 1) ::
 O 13 (.mv 0) ::
 C 14 26 [12, 13] ::
 c_r05_Keys_p0)) (
 .seq (.ops (O 16 (.mv 5) ::
 C 17 51 [16, (.c (.str (bytesOf [115, 108, 101, 100, 103, 101, 32, 98, 121, 116, 101, 115]))), (I 32)] ::
 c_r05_Keys_p1)) (
 .seq (.ops (O 21 (.mv 5) ::
 C 22 51 [21, (.c (.str (bytesOf [115, 108, 101, 100, 103, 101, 32, 116, 97, 103, 115]))), (I 32)] ::
 c_r05_Keys_p2)) (
 .seq (.ops (O 26 (.mv 0) ::
 C 27 26 [(.c (.str (bytesOf []))), 26] ::
 c_r05_Keys_p3)) (
 .seq (.ops (O 31 (.mv 6) ::
 O 32 (.mv 8) ::
 O 33 (.mv 10) ::
 O 34 (.build [.str (bytesOf []), .str (bytesOf []), .str (bytesOf [])] [(0, 1, 31), (1, 1, 32), (2, 1, 33)]) ::
 S (.store 3 4 34) ::
 [])) (
 .ret))))))), [.cell 4 3 true]⟩
theorem is_r05_Keys : IsFun Go.Proofs.Tryz.prog f_r05_Keys c_r05_Keys := cFunc_is (obj := false) (by kernel_rfl)

abbrev f_r18_Fields : Nat := 24
def c_r18_Fields_p4 : List (AOper × List Nat) :=
 (O 21 (.bin .add 17 20), []) ::
 (O 22 (.faddr 5 1), []) ::
 (O 23 (.load 1 false 22), [2, 9, 13, 17]) ::
 (O 24 (.bin .add 21 23), []) ::
 (O 2 (.mv 24), []) ::
 []
def c_r18_Fields_p3 : List (AOper × List Nat) :=
 (O 17 (.bin .add 13 16), []) ::
 (O 18 (.faddr 4 1), []) ::
 (O 19 (.load 1 false 18), [2, 9, 13]) ::
 (C 20 52 [19, (I 4)], [5]) ::
 c_r18_Fields_p4
def c_r18_Fields_p2 : List (AOper × List Nat) :=
 (O 13 (.bin .add 9 12), []) ::
 (O 14 (.faddr 3 1), []) ::
 (O 15 (.load 1 false 14), [2, 9]) ::
 (C 16 52 [15, (I 4)], [5]) ::
 c_r18_Fields_p3
def c_r18_Fields_p1 : List (AOper × List Nat) :=
 (O 6 (.bin .add (.c (.str (bytesOf [83, 76, 71, 49]))) 5), []) ::
 (O 7 (.faddr 1 1), []) ::
 (O 8 (.load 1 false 7), [2]) ::
 (O 9 (.bin .add 6 8), []) ::
 (O 10 (.faddr 2 1), []) ::
 (O 11 (.load 1 false 10), [2]) ::
 (C 12 52 [11, (I 2)], [5]) ::
 c_r18_Fields_p2
def c_r18_Fields_p0 : List (AOper × List Nat) :=
 (O 3 (.faddr 0 1), []) ::
 (O 4 (.load 1 false 3), []) ::
 (C 5 52 [4, (I 4)], []) ::
 c_r18_Fields_p1
def c_r18_Fields_p0a : List AOper := fstsOf c_r18_Fields_p0
def c_r18_Fields : AFunc := ⟨25, (
 .seq (.ops (O 1 (.box 23 0) ::
 O 2 (.mv (.c (.str (bytesOf [])))) ::
 [])) (
 .seq (
 .draw c_r18_Fields_p0a c_r18_Fields_p0) (
 .ret))), [.t 2]⟩
theorem is_r18_Fields : IsFun Go.Proofs.Tryz.prog f_r18_Fields c_r18_Fields := cFunc_is (obj := false) (by kernel_rfl)

abbrev f_r17_Leaves : Nat := 25
def c_r17_Leaves_p1 : List AOper :=
 O 9 (.mv 18) ::
 O 10 (.mv 21) ::
 []
def c_r17_Leaves_p0 : List AOper :=
 O 19 (.mv 0) ::
 O 20 (.mv 2) ::
 C 21 53 [19, 20] ::
 c_r17_Leaves_p1
def c_r17_Leaves_p3 : List AOper :=
 O 28 (.bin .neq 24 27) ::
 []
def c_r17_Leaves_p2 : List AOper :=
 O 25 (.mv 0) ::
 O 26 (.mv 10) ::
 C 27 54 [25, 26] ::
 c_r17_Leaves_p3
def c_r17_Leaves_p4 : ACode :=
 .seq (.ops (O 6 (.mv (.c (.str (bytesOf [])))) ::
 O 7 (.mv (.c (.str (bytesOf [])))) ::
 O 8 (.mv (.c (.bool false))) ::
 [])) (
 .ret)
def c_r17_Leaves_p6 : ACode :=
 .seq (.ops (O 32 (.mv 9) ::
 O 33 (.mv 10) ::
 O 6 (.mv 32) ::
 O 7 (.mv 33) ::
 O 8 (.mv (.c (.bool true))) ::
 [])) (
 .ret)
def c_r17_Leaves_p8 : ACode :=
 .seq (.ops (O 6 (.mv (.c (.str (bytesOf [])))) ::
 O 7 (.mv (.c (.str (bytesOf [])))) ::
 O 8 (.mv (.c (.bool false))) ::
 [])) (
 .ret)
def c_r17_Leaves_p11 : List AOper :=
 O 11 (.mv 39) ::
 O 12 (.mv 42) ::
 []
def c_r17_Leaves_p10 : List AOper :=
 O 40 (.mv 2) ::
 O 41 (.lenS 40) ::
 C 42 55 [41] ::
 c_r17_Leaves_p11
def c_r17_Leaves_p12 : List AOper :=
 O 43 (.mv 51) ::
 O 52 (.ext 43 0) ::
 O 53 (.ext 43 1) ::
 O 54 (.ext 43 2) ::
 O 13 (.mv 52) ::
 O 14 (.mv 53) ::
 O 15 (.mv 54) ::
 []
def c_r17_Leaves_p13 : ACode :=
 .seq (.ops (O 56 (.mv 13) ::
 O 57 (.mv 14) ::
 O 6 (.mv 56) ::
 O 7 (.mv 57) ::
 O 8 (.mv (.c (.bool true))) ::
 [])) (
 .ret)
def c_r17_Leaves_p15 : List AOper :=
 O 66 (.ext 65 0) ::
 O 67 (.ext 65 1) ::
 O 68 (.ext 65 2) ::
 O 6 (.mv 66) ::
 O 7 (.mv 67) ::
 O 8 (.mv 68) ::
 []
def c_r17_Leaves_p14 : ACode :=
 .seq (.ops (O 58 (.mv 0) ::
 O 59 (.mv 1) ::
 O 60 (.mv 11) ::
 O 61 (.sliceS 1 59 (some 60) none) ::
 O 62 (.mv 2) ::
 O 63 (.mv 12) ::
 O 64 (.sliceS 1 62 (some 63) none) ::
 C 65 25 [58, 61, 64] ::
 c_r17_Leaves_p15)) (
 .ret)
def c_r17_Leaves_p9 : ACode :=
 .seq (.ops (O 37 (.mv 1) ::
 O 38 (.lenS 37) ::
 C 39 55 [38] ::
 c_r17_Leaves_p10)) (
 .seq (.ops (O 44 (.mv 0) ::
 O 45 (.mv 1) ::
 O 46 (.mv 11) ::
 O 47 (.sliceS 1 45 none (some 46)) ::
 O 48 (.mv 2) ::
 O 49 (.mv 12) ::
 O 50 (.sliceS 1 48 none (some 49)) ::
 C 51 25 [44, 47, 50] ::
 c_r17_Leaves_p12)) (
 .seq (
 .seq (.ops (O 55 (.mv 15) ::
 [])) (
 .cond 55 (c_r17_Leaves_p13) (.skip))) (c_r17_Leaves_p14)))
def c_r17_Leaves_p7 : ACode :=
 .seq (
 .seq (.ops (O 34 (.mv 1) ::
 O 35 (.lenS 34) ::
 O 36 (.bin .lss 35 (I 2)) ::
 [])) (
 .cond 36 (c_r17_Leaves_p8) (.skip))) (c_r17_Leaves_p9)
def c_r17_Leaves_p5 : ACode :=
 .seq (
 .seq (.ops (O 29 (.mv 9) ::
 O 30 (.mv 10) ::
 O 31 (.bin .neq 29 30) ::
 [])) (
 .cond 31 (c_r17_Leaves_p6) (.skip))) (c_r17_Leaves_p7)
def c_r17_Leaves : AFunc := ⟨69, (
 .seq (.ops (O 6 (.mv (.c (.str (bytesOf [])))) ::
 O 7 (.mv (.c (.str (bytesOf [])))) ::
 O 8 (.mv (.c (.bool false))) ::
 [])) (
 .seq (.ops (O 16 (.mv 0) ::
 O 17 (.mv 1) ::
 C 18 53 [16, 17] ::
 c_r17_Leaves_p0)) (
 .seq (
 .seq (.ops (O 22 (.mv 0) ::
 O 23 (.mv 9) ::
 C 24 54 [22, 23] ::
 c_r17_Leaves_p2)) (
 .cond 28 (c_r17_Leaves_p4) (.skip))) (c_r17_Leaves_p5)))), [.t 6, .t 7, .t 8]⟩
theorem is_r17_Leaves : IsFun Go.Proofs.Tryz.prog f_r17_Leaves c_r17_Leaves := cFunc_is (obj := false) (by kernel_rfl)

abbrev f_r03_Tag : Nat := 26
def c_r03_Tag_p3 : List AOper :=
 O 4 (.mv 13) ::
 []
def c_r03_Tag_p2 : List AOper :=
 O 12 (.bin .add 6 11) ::
 C 13 56 [12] ::
 c_r03_Tag_p3
def c_r03_Tag_p1 : List AOper :=
 O 9 (.mv 1) ::
 O 10 (.bin .add 8 9) ::
 C 11 56 [10] ::
 c_r03_Tag_p2
def c_r03_Tag_p0 : List AOper :=
 O 7 (.mv 0) ::
 C 8 57 [7, (I 54)] ::
 c_r03_Tag_p1
def c_r03_Tag : AFunc := ⟨14, (
 .seq (.ops (O 4 (.mv (.c (.str (bytesOf [])))) ::
 [])) (
 .seq (.ops (O 5 (.mv 0) ::
 C 6 57 [5, (I 92)] ::
 c_r03_Tag_p0)) (
 .ret))), [.t 4]⟩
theorem is_r03_Tag : IsFun Go.Proofs.Tryz.prog f_r03_Tag c_r03_Tag := cFunc_is (obj := false) (by kernel_rfl)

abbrev f_kdf_Keys : Nat := 27
def c_kdf_Keys_p0 : List AOper :=
 O 5 (.mv 8) ::
 []
def c_kdf_Keys_p4 : List AOper :=
 O 16 (.build [.str (bytesOf []), .str (bytesOf []), .str (bytesOf [])] [(0, 1, 10), (1, 1, 12), (2, 1, 15)]) ::
 S (.store 3 4 16) ::
 []
def c_kdf_Keys_p3 : List AOper :=
 C 15 59 [(.c (.str (bytesOf [115, 108, 101, 100, 103, 101, 32, 104, 101, 97, 100, 115]))), 14] ::
 c_kdf_Keys_p4
def c_kdf_Keys_p2 : List AOper :=
 O 13 (.mv 0) ::
 C 14 58 [(.c (.str (bytesOf []))), 13] ::
 c_kdf_Keys_p3
def c_kdf_Keys_p1 : List AOper :=
 O 11 (.mv 5) ::
 C 12 59 [(.c (.str (bytesOf [115, 108, 101, 100, 103, 101, 32, 116, 97, 103, 115]))), 11] ::
 c_kdf_Keys_p2
def c_kdf_Keys : AFunc := ⟨17, (
 .seq (.ops (O 4 (.alloc 53 [.str (bytesOf []), .str (bytesOf []), .str (bytesOf [])]) ::
 [])) (
 .seq (.ops (O 6 (.mv 1) ::
 O 7 (.mv 0) ::
 C 8 58 [6, 7] ::
 c_kdf_Keys_p0)) (
 .seq (.ops (O 9 (.mv 5) ::
 C 10 59 [(.c (.str (bytesOf [115, 108, 101, 100, 103, 101, 32, 98, 121, 116, 101, 115]))), 9] ::
 c_kdf_Keys_p1)) (
 .ret)))), [.cell 4 3 true]⟩
theorem is_kdf_Keys : IsFun Go.Proofs.Tryz.prog f_kdf_Keys c_kdf_Keys := cFunc_is (obj := false) (by kernel_rfl)

abbrev f_block_Open : Nat := 28
def c_block_Open_p0 : List AOper :=
 O 14 (.un .not 13) ::
 []
def c_block_Open_p1 : ACode :=
 .seq (.ops (O 6 (.mv (.c (.str (bytesOf [])))) ::
 O 7 (.mv (I 1)) ::
 [])) (
 .ret)
def c_block_Open_p3 : ACode :=
 .seq (.ops (O 6 (.mv (.c (.str (bytesOf [])))) ::
 O 7 (.mv (I 2)) ::
 [])) (
 .ret)
def c_block_Open_p6 : List AOper :=
 O 20 (.mv 27) ::
 O 28 (.ext 20 0) ::
 O 29 (.ext 20 1) ::
 O 9 (.mv 28) ::
 O 10 (.mv 29) ::
 []
def c_block_Open_p5 : List AOper :=
 O 25 (.mv 2) ::
 O 26 (.sliceT 25 (some (I 192)) none) ::
 C 27 61 [24, 26] ::
 c_block_Open_p6
def c_block_Open_p7 : ACode :=
 .seq (.ops (O 6 (.mv (.c (.str (bytesOf [])))) ::
 O 7 (.mv (I 4)) ::
 [])) (
 .ret)
def c_block_Open_p11 : List (AOper × List Nat) :=
 (O 38 (.ext 37 0), []) ::
 (O 39 (.ext 37 1), []) ::
 (O 6 (.mv 38), []) ::
 (O 7 (.mv 39), []) ::
 []
def c_block_Open_p10 : List (AOper × List Nat) :=
 (O 36 (.mv 8), []) ::
 (C 37 63 [33, 35, (I 1), 36], []) ::
 c_block_Open_p11
def c_block_Open_p9 : List (AOper × List Nat) :=
 (O 32 (.faddr 0 3), []) ::
 (O 33 (.load 1 false 32), []) ::
 (O 34 (.mv 1), []) ::
 (C 35 64 [34], [1]) ::
 c_block_Open_p10
def c_block_Open_p9a : List AOper := fstsOf c_block_Open_p9
def c_block_Open_p8 : ACode :=
 .seq (
 .draw c_block_Open_p9a c_block_Open_p9) (
 .ret)
def c_block_Open_p4 : ACode :=
 .seq (.ops (O 18 (.mv 2) ::
 O 19 (.sliceT 18 none (some (I 192))) ::
 O 8 (.mv 19) ::
 [])) (
 .seq (
 .seq (.ops (O 21 (.load 3 true 3) ::
 O 22 (.mv 1) ::
 O 23 (.mv 8) ::
 C 24 62 [21, 22, 23] ::
 c_block_Open_p5)) (
 .seq (.ops (O 30 (.mv 9) ::
 O 31 (.un .not 30) ::
 [])) (
 .cond 31 (c_block_Open_p7) (.skip)))) (c_block_Open_p8))
def c_block_Open_p2 : ACode :=
 .seq (
 .seq (.ops (O 15 (.mv 2) ::
 O 16 (.lenT 15) ::
 O 17 (.bin .neq 16 (I 224)) ::
 [])) (
 .cond 17 (c_block_Open_p3) (.skip))) (c_block_Open_p4)
def c_block_Open : AFunc := ⟨40, (
 .seq (.ops (O 3 (.box 53 0) ::
 O 6 (.mv (.c (.str (bytesOf [])))) ::
 O 7 (.mv (I 0)) ::
 [])) (
 .seq (
 .seq (.ops (O 11 (.load 3 true 3) ::
 O 12 (.mv 1) ::
 C 13 60 [11, 12] ::
 c_block_Open_p0)) (
 .cond 14 (c_block_Open_p1) (.skip))) (c_block_Open_p2))), [.t 6, .t 7]⟩
theorem is_block_Open : IsFun Go.Proofs.Tryz.prog f_block_Open c_block_Open := cFunc_is (obj := false) (by kernel_rfl)

abbrev f_solid_Join : Nat := 29
def c_solid_Join_p1 : List AOper :=
 OF 20 21 (.mv 0) ::
 OF 20 22 (.bin .gtr 21 (I 49152)) ::
 O 23 (.pick 20 (.c (.bool true)) 22) ::
 []
def c_solid_Join_p0 : List AOper :=
 OF 11 12 (.mv 0) ::
 OF 11 13 (.bin .add 12 (I 192)) ::
 OF 11 14 (.bin .sub 13 (I 1)) ::
 OF 11 15 (.bin .quo 14 (I 192)) ::
 OF 11 16 (.mv 1) ::
 OF 11 17 (.lenS 16) ::
 OF 11 18 (.bin .neq 15 17) ::
 O 19 (.pick 11 (.c (.bool true)) 18) ::
 O 20 (.mv 19) ::
 c_solid_Join_p1
def c_solid_Join_p2 : ACode :=
 .seq (.ops (O 4 (.mv (.c (.str (bytesOf [])))) ::
 O 5 (.mv (I 1)) ::
 [])) (
 .ret)
def c_solid_Join_p6 : ACode :=
 .seq (.ops (O 4 (.mv (.c (.str (bytesOf [])))) ::
 O 5 (.mv (I 1)) ::
 [])) (
 .ret)
def c_solid_Join_p7 : ACode :=
 .ops (
 O 33 (.bin .add 26 (I 1)) ::
 O 26 (.mv 33) ::
 [])
def c_solid_Join_p5 : ACode :=
 .seq (
 .block 1 (
 .seq (.ops (O 28 (.iadS 1 24 26) ::
 O 29 (.load 1 false 28) ::
 O 7 (.mv 29) ::
 [])) (
 .seq (.ops (O 30 (.mv 7) ::
 O 31 (.lenT 30) ::
 O 32 (.bin .neq 31 (I 192)) ::
 [])) (
 .cond 32 (c_solid_Join_p6) (.skip))))) (c_solid_Join_p7)
def c_solid_Join_p4 : ACode :=
 .seq (.ops (O 27 (.bin .lss 26 25) ::
 [])) (
 .seq (
 .cond 27 (.skip) (.exit 0)) (c_solid_Join_p5))
def c_solid_Join_p9 : List AOper :=
 O 8 (.mv 35) ::
 []
def c_solid_Join_p10 : List AOper :=
 O 40 (.bin .neq 39 (.c (.str (bytesOf [])))) ::
 []
def c_solid_Join_p11 : ACode :=
 .seq (.ops (O 4 (.mv (.c (.str (bytesOf [])))) ::
 O 5 (.mv (I 2)) ::
 [])) (
 .ret)
def c_solid_Join_p12 : ACode :=
 .seq (.ops (O 41 (.mv 8) ::
 O 42 (.mv 0) ::
 O 43 (.sliceT 41 none (some 42)) ::
 O 4 (.mv 43) ::
 O 5 (.mv (I 0)) ::
 [])) (
 .ret)
def c_solid_Join_p8 : ACode :=
 .seq (.ops (O 34 (.mv 1) ::
 C 35 42 [34, (.c (.str (bytesOf [])))] ::
 c_solid_Join_p9)) (
 .seq (
 .seq (.ops (O 36 (.mv 8) ::
 O 37 (.mv 0) ::
 O 38 (.sliceT 36 (some 37) none) ::
 C 39 65 [38, (.c (.str (bytesOf [0])))] ::
 c_solid_Join_p10)) (
 .cond 40 (c_solid_Join_p11) (.skip))) (c_solid_Join_p12))
def c_solid_Join_p3 : ACode :=
 .seq (
 .seq (.ops (O 24 (.mv 1) ::
 O 25 (.lenS 24) ::
 O 26 (.mv (I 0)) ::
 [])) (
 .block 0 (
 .loop (c_solid_Join_p4)))) (c_solid_Join_p8)
def c_solid_Join : AFunc := ⟨44, (
 .seq (.ops (O 4 (.mv (.c (.str (bytesOf [])))) ::
 O 5 (.mv (I 0)) ::
 [])) (
 .seq (
 .seq (.ops (O 9 (.mv 0) ::
 O 10 (.bin .lss 9 (I 0)) ::
 O 11 (.mv 10) ::
 c_solid_Join_p0)) (
 .cond 23 (c_solid_Join_p2) (.skip))) (c_solid_Join_p3))), [.t 4, .t 5]⟩
theorem is_solid_Join : IsFun Go.Proofs.Tryz.prog f_solid_Join c_solid_Join := cFunc_is (obj := false) (by kernel_rfl)

abbrev f_solid_Open : Nat := 30
def c_solid_Open_p0 : ACode :=
 .seq (.ops (O 4 (.mv (.c (.nils))) ::
 O 5 (.mv (I 3)) ::
 [])) (
 .ret)
def c_solid_Open_p2 : List AOper :=
 O 12 (.mv 15) ::
 O 16 (.ext 12 0) ::
 O 17 (.ext 12 1) ::
 O 18 (.ext 12 2) ::
 O 6 (.mv 16) ::
 O 7 (.mv 17) ::
 O 8 (.mv 18) ::
 []
def c_solid_Open_p3 : ACode :=
 .seq (.ops (O 22 (.mv 8) ::
 O 4 (.mv (.c (.nils))) ::
 O 5 (.mv 22) ::
 [])) (
 .ret)
def c_solid_Open_p5 : List AOper :=
 OF 28 29 (.mv 6) ::
 OF 28 30 (.lenT 29) ::
 OF 28 31 (.mv 1) ::
 OF 28 32 (.bin .neq 30 31) ::
 O 33 (.pick 28 (.c (.bool true)) 32) ::
 O 23 (.mv 33) ::
 []
def c_solid_Open_p6 : ACode :=
 .seq (.ops (O 4 (.mv (.c (.nils))) ::
 O 5 (.mv (I 2)) ::
 [])) (
 .ret)
def c_solid_Open_p4 : ACode :=
 .seq (.ops (O 24 (.mv 7) ::
 O 25 (.mv 0) ::
 O 26 (.lenT 25) ::
 O 27 (.bin .neq 24 26) ::
 O 28 (.mv 27) ::
 c_solid_Open_p5)) (
 .cond 23 (c_solid_Open_p6) (.skip))
def c_solid_Open_p8 : List AOper :=
 O 36 (.ext 35 0) ::
 O 37 (.ext 35 1) ::
 O 4 (.mv 36) ::
 O 5 (.mv 37) ::
 []
def c_solid_Open_p7 : ACode :=
 .seq (.ops (O 34 (.mv 6) ::
 C 35 67 [34] ::
 c_solid_Open_p8)) (
 .ret)
def c_solid_Open_p1 : ACode :=
 .seq (.ops (O 13 (.mv 0) ::
 O 14 (.mv 1) ::
 C 15 66 [13, 14] ::
 c_solid_Open_p2)) (
 .seq (
 .block 0 (
 .seq (.ops (O 20 (.mv 8) ::
 O 21 (.bin .neq 20 (I 0)) ::
 O 19 (.mv 21) ::
 [])) (
 .cond 19 (c_solid_Open_p3) (c_solid_Open_p4)))) (c_solid_Open_p7))
def c_solid_Open : AFunc := ⟨38, (
 .seq (.ops (O 4 (.mv (.c (.nils))) ::
 O 5 (.mv (I 0)) ::
 [])) (
 .seq (
 .seq (.ops (O 9 (.mv 0) ::
 O 10 (.lenT 9) ::
 O 11 (.bin .gtr 10 (I 49152)) ::
 [])) (
 .cond 11 (c_solid_Open_p0) (.skip))) (c_solid_Open_p1))), [.t 4, .t 5]⟩
theorem is_solid_Open : IsFun Go.Proofs.Tryz.prog f_solid_Open c_solid_Open := cFunc_is (obj := false) (by kernel_rfl)

abbrev f_r14_Open : Nat := 31
def c_r14_Open_p0 : List AOper :=
 O 13 (.un .not 12) ::
 []
def c_r14_Open_p1 : ACode :=
 .seq (.ops (O 6 (.mv (.c (.str (bytesOf [])))) ::
 O 7 (.mv (I 1)) ::
 [])) (
 .ret)
def c_r14_Open_p3 : ACode :=
 .seq (.ops (O 6 (.mv (.c (.str (bytesOf [])))) ::
 O 7 (.mv (I 2)) ::
 [])) (
 .ret)
def c_r14_Open_p7 : List (AOper × List Nat) :=
 (O 25 (.mv 2), []) ::
 (O 26 (.sliceT 25 (some (I 192)) none), []) ::
 (O 27 (.bin .neq 24 26), []) ::
 []
def c_r14_Open_p6 : List (AOper × List Nat) :=
 (O 21 (.mv 2), []) ::
 (O 22 (.sliceT 21 none (some (I 192))), []) ::
 (O 23 (.bin .add 20 22), []) ::
 (C 24 26 [18, 23], []) ::
 c_r14_Open_p7
def c_r14_Open_p5 : List (AOper × List Nat) :=
 (O 17 (.faddr 1 3), []) ::
 (O 18 (.load 1 false 17), []) ::
 (O 19 (.mv 1), []) ::
 (C 20 52 [19, (I 4)], [1]) ::
 c_r14_Open_p6
def c_r14_Open_p5a : List AOper := fstsOf c_r14_Open_p5
def c_r14_Open_p8 : ACode :=
 .seq (.ops (O 6 (.mv (.c (.str (bytesOf [])))) ::
 O 7 (.mv (I 4)) ::
 [])) (
 .ret)
def c_r14_Open_p12 : List (AOper × List Nat) :=
 (O 28 (.mv 36), []) ::
 (O 37 (.ext 28 0), []) ::
 (O 38 (.ext 28 1), []) ::
 (O 8 (.mv 37), []) ::
 (O 9 (.mv 38), []) ::
 []
def c_r14_Open_p11 : List (AOper × List Nat) :=
 (O 33 (.bin .add (.c (.str (bytesOf [83, 76, 68, 71]))) 32), []) ::
 (O 34 (.mv 2), []) ::
 (O 35 (.sliceT 34 none (some (I 192))), []) ::
 (C 36 69 [30, 33, (I 1), 35], []) ::
 c_r14_Open_p12
def c_r14_Open_p10 : List (AOper × List Nat) :=
 (O 29 (.faddr 0 3), []) ::
 (O 30 (.load 1 false 29), []) ::
 (O 31 (.mv 1), []) ::
 (C 32 52 [31, (I 8)], [1]) ::
 c_r14_Open_p11
def c_r14_Open_p10a : List AOper := fstsOf c_r14_Open_p10
def c_r14_Open_p9 : ACode :=
 .seq (
 .draw c_r14_Open_p10a c_r14_Open_p10) (
 .seq (.ops (O 39 (.mv 8) ::
 O 6 (.mv 39) ::
 O 7 (.mv (I 0)) ::
 [])) (
 .ret))
def c_r14_Open_p4 : ACode :=
 .seq (
 .seq (
 .draw c_r14_Open_p5a c_r14_Open_p5) (
 .cond 27 (c_r14_Open_p8) (.skip))) (c_r14_Open_p9)
def c_r14_Open_p2 : ACode :=
 .seq (
 .seq (.ops (O 14 (.mv 2) ::
 O 15 (.lenT 14) ::
 O 16 (.bin .neq 15 (I 224)) ::
 [])) (
 .cond 16 (c_r14_Open_p3) (.skip))) (c_r14_Open_p4)
def c_r14_Open : AFunc := ⟨40, (
 .seq (.ops (O 3 (.box 53 0) ::
 O 6 (.mv (.c (.str (bytesOf [])))) ::
 O 7 (.mv (I 0)) ::
 [])) (
 .seq (
 .seq (.ops (O 10 (.load 3 true 3) ::
 O 11 (.mv 1) ::
 C 12 68 [10, 11] ::
 c_r14_Open_p0)) (
 .cond 13 (c_r14_Open_p1) (.skip))) (c_r14_Open_p2))), [.t 6, .t 7]⟩
theorem is_r14_Open : IsFun Go.Proofs.Tryz.prog f_r14_Open c_r14_Open := cFunc_is (obj := false) (by kernel_rfl)

abbrev f_r13_Join : Nat := 32
def c_r13_Join_p1 : List AOper :=
 OF 15 16 (.mv 1) ::
 OF 15 17 (.lenS 16) ::
 OF 15 18 (.mv 0) ::
 OF 15 19 (.bin .add 18 (I 191)) ::
 OF 15 20 (.bin .quo 19 (I 192)) ::
 OF 15 21 (.bin .neq 17 20) ::
 O 22 (.pick 15 (.c (.bool true)) 21) ::
 []
def c_r13_Join_p0 : List AOper :=
 OF 11 12 (.mv 0) ::
 OF 11 13 (.bin .gtr 12 (I 49152)) ::
 O 14 (.pick 11 (.c (.bool true)) 13) ::
 O 15 (.mv 14) ::
 c_r13_Join_p1
def c_r13_Join_p2 : ACode :=
 .seq (.ops (O 4 (.mv (.c (.str (bytesOf [])))) ::
 O 5 (.mv (I 1)) ::
 [])) (
 .ret)
def c_r13_Join_p6 : ACode :=
 .seq (.ops (O 4 (.mv (.c (.str (bytesOf [])))) ::
 O 5 (.mv (I 1)) ::
 [])) (
 .ret)
def c_r13_Join_p7 : ACode :=
 .ops (
 O 35 (.mv 6) ::
 O 36 (.mv 1) ::
 O 37 (.mv 7) ::
 O 38 (.iadS 1 36 37) ::
 O 39 (.load 1 false 38) ::
 O 40 (.bin .add 35 39) ::
 O 6 (.mv 40) ::
 [])
def c_r13_Join_p8 : ACode :=
 .ops (
 O 27 (.mv 7) ::
 O 28 (.bin .add 27 (I 1)) ::
 O 7 (.mv 28) ::
 [])
def c_r13_Join_p5 : ACode :=
 .seq (
 .block 1 (
 .seq (
 .seq (.ops (O 29 (.mv 1) ::
 O 30 (.mv 7) ::
 O 31 (.iadS 1 29 30) ::
 O 32 (.load 1 false 31) ::
 O 33 (.lenT 32) ::
 O 34 (.bin .neq 33 (I 192)) ::
 [])) (
 .cond 34 (c_r13_Join_p6) (.skip))) (c_r13_Join_p7))) (c_r13_Join_p8)
def c_r13_Join_p4 : ACode :=
 .seq (
 .seq (.ops (O 23 (.mv 7) ::
 O 24 (.mv 1) ::
 O 25 (.lenS 24) ::
 O 26 (.bin .lss 23 25) ::
 [])) (
 .cond 26 (.skip) (.exit 0))) (c_r13_Join_p5)
def c_r13_Join_p12 : ACode :=
 .seq (.ops (O 4 (.mv (.c (.str (bytesOf [])))) ::
 O 5 (.mv (I 2)) ::
 [])) (
 .ret)
def c_r13_Join_p13 : ACode :=
 .ops (
 O 46 (.mv 8) ::
 O 47 (.bin .add 46 (I 1)) ::
 O 8 (.mv 47) ::
 [])
def c_r13_Join_p11 : ACode :=
 .seq (
 .block 3 (
 .seq (.ops (O 48 (.mv 6) ::
 O 49 (.mv 8) ::
 O 50 (.idxS 48 49) ::
 O 51 (.bin .neq 50 (U8 0)) ::
 [])) (
 .cond 51 (c_r13_Join_p12) (.skip)))) (c_r13_Join_p13)
def c_r13_Join_p10 : ACode :=
 .seq (
 .seq (.ops (O 42 (.mv 8) ::
 O 43 (.mv 6) ::
 O 44 (.lenT 43) ::
 O 45 (.bin .lss 42 44) ::
 [])) (
 .cond 45 (.skip) (.exit 2))) (c_r13_Join_p11)
def c_r13_Join_p14 : ACode :=
 .seq (.ops (O 52 (.mv 6) ::
 O 53 (.mv 0) ::
 O 54 (.sliceT 52 none (some 53)) ::
 O 4 (.mv 54) ::
 O 5 (.mv (I 0)) ::
 [])) (
 .ret)
def c_r13_Join_p9 : ACode :=
 .seq (
 .seq (.ops (O 41 (.mv 0) ::
 O 8 (.mv 41) ::
 [])) (
 .block 2 (
 .loop (c_r13_Join_p10)))) (c_r13_Join_p14)
def c_r13_Join_p3 : ACode :=
 .seq (.ops (O 6 (.mv (.c (.str (bytesOf [])))) ::
 [])) (
 .seq (
 .seq (.ops (O 7 (.mv (I 0)) ::
 [])) (
 .block 0 (
 .loop (c_r13_Join_p4)))) (c_r13_Join_p9))
def c_r13_Join : AFunc := ⟨55, (
 .seq (.ops (O 4 (.mv (.c (.str (bytesOf [])))) ::
 O 5 (.mv (I 0)) ::
 [])) (
 .seq (
 .seq (.ops (O 9 (.mv 0) ::
 O 10 (.bin .lss 9 (I 0)) ::
 O 11 (.mv 10) ::
 c_r13_Join_p0)) (
 .cond 22 (c_r13_Join_p2) (.skip))) (c_r13_Join_p3))), [.t 4, .t 5]⟩
theorem is_r13_Join : IsFun Go.Proofs.Tryz.prog f_r13_Join c_r13_Join := cFunc_is (obj := false) (by kernel_rfl)

abbrev f_r13_Open : Nat := 33
def c_r13_Open_p0 : ACode :=
 .seq (.ops (O 4 (.mv (.c (.nils))) ::
 O 5 (.mv (I 3)) ::
 [])) (
 .ret)
def c_r13_Open_p2 : List AOper :=
 O 12 (.mv 15) ::
 O 16 (.ext 12 0) ::
 O 17 (.ext 12 1) ::
 O 18 (.ext 12 2) ::
 O 6 (.mv 16) ::
 O 7 (.mv 17) ::
 O 8 (.mv 18) ::
 []
def c_r13_Open_p3 : ACode :=
 .seq (.ops (O 21 (.mv 8) ::
 O 4 (.mv (.c (.nils))) ::
 O 5 (.mv 21) ::
 [])) (
 .ret)
def c_r13_Open_p5 : List AOper :=
 OF 26 27 (.mv 6) ::
 OF 26 28 (.lenT 27) ::
 OF 26 29 (.mv 1) ::
 OF 26 30 (.bin .lss 28 29) ::
 O 31 (.pick 26 (.c (.bool true)) 30) ::
 []
def c_r13_Open_p6 : ACode :=
 .seq (.ops (O 4 (.mv (.c (.nils))) ::
 O 5 (.mv (I 2)) ::
 [])) (
 .ret)
def c_r13_Open_p8 : List AOper :=
 O 34 (.ext 33 0) ::
 O 35 (.ext 33 1) ::
 O 4 (.mv 34) ::
 O 5 (.mv 35) ::
 []
def c_r13_Open_p7 : ACode :=
 .seq (.ops (O 32 (.mv 6) ::
 C 33 71 [32] ::
 c_r13_Open_p8)) (
 .ret)
def c_r13_Open_p4 : ACode :=
 .seq (
 .seq (.ops (O 22 (.mv 7) ::
 O 23 (.mv 0) ::
 O 24 (.lenT 23) ::
 O 25 (.bin .lss 22 24) ::
 O 26 (.mv 25) ::
 c_r13_Open_p5)) (
 .cond 31 (c_r13_Open_p6) (.skip))) (c_r13_Open_p7)
def c_r13_Open_p1 : ACode :=
 .seq (.ops (O 13 (.mv 0) ::
 O 14 (.mv 1) ::
 C 15 70 [13, 14] ::
 c_r13_Open_p2)) (
 .seq (
 .seq (.ops (O 19 (.mv 8) ::
 O 20 (.bin .neq 19 (I 0)) ::
 [])) (
 .cond 20 (c_r13_Open_p3) (.skip))) (c_r13_Open_p4))
def c_r13_Open : AFunc := ⟨36, (
 .seq (.ops (O 4 (.mv (.c (.nils))) ::
 O 5 (.mv (I 0)) ::
 [])) (
 .seq (
 .seq (.ops (O 9 (.mv 0) ::
 O 10 (.lenT 9) ::
 O 11 (.bin .gtr 10 (I 49152)) ::
 [])) (
 .cond 11 (c_r13_Open_p0) (.skip))) (c_r13_Open_p1))), [.t 4, .t 5]⟩
theorem is_r13_Open : IsFun Go.Proofs.Tryz.prog f_r13_Open c_r13_Open := cFunc_is (obj := false) (by kernel_rfl)

abbrev f_header_Verify : Nat := 34
def c_header_Verify_p0 : List AOper :=
 O 5 (.mv 9) ::
 []
def c_header_Verify_p1 : ACode :=
 .seq (.ops (O 12 (.mv 5) ::
 O 4 (.mv 12) ::
 [])) (
 .ret)
def c_header_Verify_p6 : List (AOper × List Nat) :=
 (O 13 (.mv 21), []) ::
 (O 22 (.ext 13 0), []) ::
 (O 23 (.ext 13 1), []) ::
 (O 6 (.mv 22), []) ::
 (O 7 (.mv 23), []) ::
 []
def c_header_Verify_p5 : List (AOper × List Nat) :=
 (O 19 (.faddr 6 3), []) ::
 (O 20 (.load 1 false 19), [2, 4]) ::
 (C 21 61 [18, 20], []) ::
 c_header_Verify_p6
def c_header_Verify_p4 : List (AOper × List Nat) :=
 (O 17 (.lit false 9 1 1 [.str (bytesOf [])] [(0, 1, 16)]), []) ::
 (C 18 73 [14, 17], []) ::
 c_header_Verify_p5
def c_header_Verify_p3 : List (AOper × List Nat) :=
 (O 14 (.mv 0), []) ::
 (O 15 (.load 7 true 3), []) ::
 (C 16 74 [15], []) ::
 c_header_Verify_p4
def c_header_Verify_p3a : List AOper := fstsOf c_header_Verify_p3
def c_header_Verify_p7 : ACode :=
 .seq (.ops (O 4 (.mv (I 4)) ::
 [])) (
 .ret)
def c_header_Verify_p8 : ACode :=
 .seq (.ops (O 4 (.mv (I 0)) ::
 [])) (
 .ret)
def c_header_Verify_p2 : ACode :=
 .seq (
 .seq (
 .draw c_header_Verify_p3a c_header_Verify_p3) (
 .seq (.ops (O 24 (.mv 6) ::
 O 25 (.un .not 24) ::
 [])) (
 .cond 25 (c_header_Verify_p7) (.skip)))) (c_header_Verify_p8)
def c_header_Verify : AFunc := ⟨26, (
 .seq (.ops (O 3 (.box 23 1) ::
 O 4 (.mv (I 0)) ::
 [])) (
 .seq (
 .seq (.ops (O 8 (.load 7 true 3) ::
 C 9 72 [8] ::
 c_header_Verify_p0)) (
 .seq (.ops (O 10 (.mv 5) ::
 O 11 (.bin .neq 10 (I 0)) ::
 [])) (
 .cond 11 (c_header_Verify_p1) (.skip)))) (c_header_Verify_p2))), [.t 4]⟩
theorem is_header_Verify : IsFun Go.Proofs.Tryz.prog f_header_Verify c_header_Verify := cFunc_is (obj := false) (by kernel_rfl)

abbrev f_archive_shape : Nat := 35
def c_archive_shape_p0 : ACode :=
 .seq (.ops (O 2 (.mv (I 2)) ::
 [])) (
 .ret)
def c_archive_shape_p4 : ACode :=
 .seq (.ops (O 2 (.mv (I 2)) ::
 [])) (
 .ret)
def c_archive_shape_p5 : ACode :=
 .ops (
 O 22 (.bin .add 15 (I 1)) ::
 O 15 (.mv 22) ::
 [])
def c_archive_shape_p3 : ACode :=
 .seq (
 .block 1 (
 .seq (.ops (O 17 (.iadS 1 13 15) ::
 O 18 (.load 1 false 17) ::
 O 4 (.mv 18) ::
 [])) (
 .seq (.ops (O 19 (.mv 4) ::
 O 20 (.lenT 19) ::
 O 21 (.bin .neq 20 (I 224)) ::
 [])) (
 .cond 21 (c_archive_shape_p4) (.skip))))) (c_archive_shape_p5)
def c_archive_shape_p2 : ACode :=
 .seq (.ops (O 16 (.bin .lss 15 14) ::
 [])) (
 .seq (
 .cond 16 (.skip) (.exit 0)) (c_archive_shape_p3))
def c_archive_shape_p6 : ACode :=
 .seq (.ops (O 2 (.mv (I 0)) ::
 [])) (
 .ret)
def c_archive_shape_p1 : ACode :=
 .seq (
 .seq (.ops (O 12 (.faddr 7 1) ::
 O 13 (.load 1 false 12) ::
 O 14 (.lenS 13) ::
 O 15 (.mv (I 0)) ::
 [])) (
 .block 0 (
 .loop (c_archive_shape_p2)))) (c_archive_shape_p6)
def c_archive_shape : AFunc := ⟨23, (
 .seq (.ops (O 1 (.box 26 0) ::
 O 2 (.mv (I 0)) ::
 [])) (
 .seq (
 .seq (.ops (O 5 (.faddr 7 1) ::
 O 6 (.load 1 false 5) ::
 O 7 (.lenS 6) ::
 O 8 (.faddr 0 1) ::
 O 9 (.faddr 2 8) ::
 O 10 (.load 1 false 9) ::
 O 11 (.bin .neq 7 10) ::
 [])) (
 .cond 11 (c_archive_shape_p0) (.skip))) (c_archive_shape_p1))), [.t 2]⟩
theorem is_archive_shape : IsFun Go.Proofs.Tryz.prog f_archive_shape c_archive_shape := cFunc_is (obj := false) (by kernel_rfl)

abbrev f_archive_Root : Nat := 36
def c_archive_Root_p2 : List AOper :=
 O 15 (.lit false 9 1 1 [.str (bytesOf [])] [(0, 1, 14)]) ::
 O 16 (.app 9 1 16 12 15) ::
 O 3 (.mv 16) ::
 []
def c_archive_Root_p1 : ACode :=
 .seq (
 .block 1 (
 .seq (.ops (O 10 (.iadS 1 6 8) ::
 O 11 (.load 1 false 10) ::
 O 5 (.mv 11) ::
 [])) (.ops (O 12 (.mv 3) ::
 O 13 (.mv 5) ::
 C 14 75 [(I 32), 13] ::
 c_archive_Root_p2)))) (.ops (O 17 (.bin .add 8 (I 1)) ::
 O 8 (.mv 17) ::
 []))
def c_archive_Root_p0 : ACode :=
 .seq (.ops (O 9 (.bin .lss 8 7) ::
 [])) (
 .seq (
 .cond 9 (.skip) (.exit 0)) (c_archive_Root_p1))
def c_archive_Root_p4 : List AOper :=
 O 2 (.mv 19) ::
 []
def c_archive_Root_p3 : ACode :=
 .seq (.ops (O 18 (.mv 3) ::
 C 19 76 [(I 32), 18] ::
 c_archive_Root_p4)) (
 .ret)
def c_archive_Root : AFunc := ⟨20, (
 .seq (.ops (O 2 (.mv (.c (.str (bytesOf [])))) ::
 [])) (
 .seq (.ops (O 3 (.mv (.c (.nils))) ::
 [])) (
 .seq (
 .seq (.ops (O 6 (.mv 0) ::
 O 7 (.lenS 6) ::
 O 8 (.mv (I 0)) ::
 [])) (
 .block 0 (
 .loop (c_archive_Root_p0)))) (c_archive_Root_p3)))), [.t 2]⟩
theorem is_archive_Root : IsFun Go.Proofs.Tryz.prog f_archive_Root c_archive_Root := cFunc_is (obj := false) (by kernel_rfl)

abbrev f_r18_Verify : Nat := 37
def c_r18_Verify_p0 : List AOper :=
 O 7 (.un .not 6) ::
 []
def c_r18_Verify_p1 : ACode :=
 .seq (.ops (O 4 (.mv (I 1)) ::
 [])) (
 .ret)
def c_r18_Verify_p5 : List (AOper × List Nat) :=
 (O 12 (.faddr 6 3), []) ::
 (O 13 (.load 1 false 12), [2, 3]) ::
 (O 14 (.bin .neq 11 13), []) ::
 []
def c_r18_Verify_p4 : List (AOper × List Nat) :=
 (C 11 26 [8, 10], []) ::
 c_r18_Verify_p5
def c_r18_Verify_p3 : List (AOper × List Nat) :=
 (O 8 (.mv 0), []) ::
 (O 9 (.load 7 true 3), []) ::
 (C 10 24 [9], []) ::
 c_r18_Verify_p4
def c_r18_Verify_p3a : List AOper := fstsOf c_r18_Verify_p3
def c_r18_Verify_p6 : ACode :=
 .seq (.ops (O 4 (.mv (I 4)) ::
 [])) (
 .ret)
def c_r18_Verify_p7 : ACode :=
 .seq (.ops (O 4 (.mv (I 0)) ::
 [])) (
 .ret)
def c_r18_Verify_p2 : ACode :=
 .seq (
 .seq (
 .draw c_r18_Verify_p3a c_r18_Verify_p3) (
 .cond 14 (c_r18_Verify_p6) (.skip))) (c_r18_Verify_p7)
def c_r18_Verify : AFunc := ⟨15, (
 .seq (.ops (O 3 (.box 23 1) ::
 O 4 (.mv (I 0)) ::
 [])) (
 .seq (
 .seq (.ops (O 5 (.load 7 true 3) ::
 C 6 77 [5] ::
 c_r18_Verify_p0)) (
 .cond 7 (c_r18_Verify_p1) (.skip))) (c_r18_Verify_p2))), [.t 4]⟩
theorem is_r18_Verify : IsFun Go.Proofs.Tryz.prog f_r18_Verify c_r18_Verify := cFunc_is (obj := false) (by kernel_rfl)

abbrev f_r19_shape : Nat := 38
def c_r19_shape_p2 : ACode :=
 .seq (.ops (O 2 (.mv (.c (.bool false))) ::
 [])) (
 .ret)
def c_r19_shape_p3 : ACode :=
 .ops (
 O 9 (.mv 3) ::
 O 10 (.bin .add 9 (I 1)) ::
 O 3 (.mv 10) ::
 [])
def c_r19_shape_p1 : ACode :=
 .seq (
 .block 1 (
 .seq (.ops (O 11 (.faddr 7 1) ::
 O 12 (.load 1 false 11) ::
 O 13 (.mv 3) ::
 O 14 (.iadS 1 12 13) ::
 O 15 (.load 1 false 14) ::
 O 16 (.lenT 15) ::
 O 17 (.bin .neq 16 (I 224)) ::
 [])) (
 .cond 17 (c_r19_shape_p2) (.skip)))) (c_r19_shape_p3)
def c_r19_shape_p0 : ACode :=
 .seq (
 .seq (.ops (O 4 (.mv 3) ::
 O 5 (.faddr 7 1) ::
 O 6 (.load 1 false 5) ::
 O 7 (.lenS 6) ::
 O 8 (.bin .lss 4 7) ::
 [])) (
 .cond 8 (.skip) (.exit 0))) (c_r19_shape_p1)
def c_r19_shape_p4 : ACode :=
 .seq (.ops (O 18 (.faddr 7 1) ::
 O 19 (.load 1 false 18) ::
 O 20 (.lenS 19) ::
 O 21 (.faddr 0 1) ::
 O 22 (.faddr 2 21) ::
 O 23 (.load 1 false 22) ::
 O 24 (.bin .eql 20 23) ::
 O 2 (.mv 24) ::
 [])) (
 .ret)
def c_r19_shape : AFunc := ⟨25, (
 .seq (.ops (O 1 (.box 26 0) ::
 O 2 (.mv (.c (.bool false))) ::
 [])) (
 .seq (
 .seq (.ops (O 3 (.mv (I 0)) ::
 [])) (
 .block 0 (
 .loop (c_r19_shape_p0)))) (c_r19_shape_p4))), [.t 2]⟩
theorem is_r19_shape : IsFun Go.Proofs.Tryz.prog f_r19_shape c_r19_shape := cFunc_is (obj := false) (by kernel_rfl)

abbrev f_r19_Root : Nat := 39
def c_r19_Root_p2 : List AOper :=
 O 17 (.lit false 9 1 1 [.str (bytesOf [])] [(0, 1, 16)]) ::
 O 18 (.app 9 1 16 11 17) ::
 O 3 (.mv 18) ::
 []
def c_r19_Root_p1 : ACode :=
 .seq (
 .block 1 (.ops (O 11 (.mv 3) ::
 O 12 (.mv 0) ::
 O 13 (.mv 4) ::
 O 14 (.iadS 1 12 13) ::
 O 15 (.load 1 false 14) ::
 C 16 78 [(I 32), 15] ::
 c_r19_Root_p2))) (.ops (O 9 (.mv 4) ::
 O 10 (.bin .add 9 (I 1)) ::
 O 4 (.mv 10) ::
 []))
def c_r19_Root_p0 : ACode :=
 .seq (
 .seq (.ops (O 5 (.mv 4) ::
 O 6 (.mv 0) ::
 O 7 (.lenS 6) ::
 O 8 (.bin .lss 5 7) ::
 [])) (
 .cond 8 (.skip) (.exit 0))) (c_r19_Root_p1)
def c_r19_Root_p4 : List AOper :=
 O 2 (.mv 20) ::
 []
def c_r19_Root_p3 : ACode :=
 .seq (.ops (O 19 (.mv 3) ::
 C 20 79 [(I 32), 19] ::
 c_r19_Root_p4)) (
 .ret)
def c_r19_Root : AFunc := ⟨21, (
 .seq (.ops (O 2 (.mv (.c (.str (bytesOf [])))) ::
 [])) (
 .seq (.ops (O 3 (.mv (.c (.nils))) ::
 [])) (
 .seq (
 .seq (.ops (O 4 (.mv (I 0)) ::
 [])) (
 .block 0 (
 .loop (c_r19_Root_p0)))) (c_r19_Root_p3)))), [.t 2]⟩
theorem is_r19_Root : IsFun Go.Proofs.Tryz.prog f_r19_Root c_r19_Root := cFunc_is (obj := false) (by kernel_rfl)

abbrev f_r01_SameTexts : Nat := 40
def c_r01_SameTexts_p0 : ACode :=
 .seq (.ops (O 4 (.mv (.c (.bool false))) ::
 [])) (
 .ret)
def c_r01_SameTexts_p4 : ACode :=
 .seq (.ops (O 4 (.mv (.c (.bool false))) ::
 [])) (
 .ret)
def c_r01_SameTexts_p5 : ACode :=
 .ops (
 O 15 (.mv 5) ::
 O 16 (.bin .add 15 (I 1)) ::
 O 5 (.mv 16) ::
 [])
def c_r01_SameTexts_p3 : ACode :=
 .seq (
 .block 1 (
 .seq (.ops (O 17 (.mv 0) ::
 O 18 (.mv 5) ::
 O 19 (.iadS 1 17 18) ::
 O 20 (.load 1 false 19) ::
 O 21 (.mv 1) ::
 O 22 (.mv 5) ::
 O 23 (.iadS 1 21 22) ::
 O 24 (.load 1 false 23) ::
 O 25 (.bin .neq 20 24) ::
 [])) (
 .cond 25 (c_r01_SameTexts_p4) (.skip)))) (c_r01_SameTexts_p5)
def c_r01_SameTexts_p2 : ACode :=
 .seq (
 .seq (.ops (O 11 (.mv 5) ::
 O 12 (.mv 0) ::
 O 13 (.lenS 12) ::
 O 14 (.bin .lss 11 13) ::
 [])) (
 .cond 14 (.skip) (.exit 0))) (c_r01_SameTexts_p3)
def c_r01_SameTexts_p6 : ACode :=
 .seq (.ops (O 4 (.mv (.c (.bool true))) ::
 [])) (
 .ret)
def c_r01_SameTexts_p1 : ACode :=
 .seq (
 .seq (.ops (O 5 (.mv (I 0)) ::
 [])) (
 .block 0 (
 .loop (c_r01_SameTexts_p2)))) (c_r01_SameTexts_p6)
def c_r01_SameTexts : AFunc := ⟨26, (
 .seq (.ops (O 4 (.mv (.c (.bool false))) ::
 [])) (
 .seq (
 .seq (.ops (O 6 (.mv 0) ::
 O 7 (.lenS 6) ::
 O 8 (.mv 1) ::
 O 9 (.lenS 8) ::
 O 10 (.bin .neq 7 9) ::
 [])) (
 .cond 10 (c_r01_SameTexts_p0) (.skip))) (c_r01_SameTexts_p1))), [.t 4]⟩
theorem is_r01_SameTexts : IsFun Go.Proofs.Tryz.prog f_r01_SameTexts c_r01_SameTexts := cFunc_is (obj := false) (by kernel_rfl)

abbrev f_header_Put : Nat := 41
def c_header_Put_p0 : List AOper :=
 O 4 (.mv 6) ::
 []
def c_header_Put_p1 : ACode :=
 .seq (.ops (O 9 (.mv 4) ::
 O 2 (.mv (.c (.str (bytesOf [])))) ::
 O 3 (.mv 9) ::
 [])) (
 .ret)
def c_header_Put_p4 : List (AOper × List Nat) :=
 (O 12 (.faddr 6 1), []) ::
 (O 13 (.load 1 false 12), [1]) ::
 (O 14 (.bin .add 11 13), []) ::
 (O 2 (.mv 14), []) ::
 (O 3 (.mv (I 0)), []) ::
 []
def c_header_Put_p3 : List (AOper × List Nat) :=
 (O 10 (.load 7 true 1), []) ::
 (C 11 74 [10], []) ::
 c_header_Put_p4
def c_header_Put_p3a : List AOper := fstsOf c_header_Put_p3
def c_header_Put_p2 : ACode :=
 .seq (
 .draw c_header_Put_p3a c_header_Put_p3) (
 .ret)
def c_header_Put : AFunc := ⟨15, (
 .seq (.ops (O 1 (.box 23 0) ::
 O 2 (.mv (.c (.str (bytesOf [])))) ::
 O 3 (.mv (I 0)) ::
 [])) (
 .seq (
 .seq (.ops (O 5 (.load 7 true 1) ::
 C 6 72 [5] ::
 c_header_Put_p0)) (
 .seq (.ops (O 7 (.mv 4) ::
 O 8 (.bin .neq 7 (I 0)) ::
 [])) (
 .cond 8 (c_header_Put_p1) (.skip)))) (c_header_Put_p2))), [.t 2, .t 3]⟩
theorem is_header_Put : IsFun Go.Proofs.Tryz.prog f_header_Put c_header_Put := cFunc_is (obj := false) (by kernel_rfl)

abbrev f_strings_Join : Nat := 42
def c_strings_Join_p0 : ACode :=
 .seq (.ops (O 4 (.mv (.c (.str (bytesOf [])))) ::
 [])) (
 .ret)
def c_strings_Join_p2 : ACode :=
 .seq (.ops (O 17 (.mv 0) ::
 O 18 (.iadS 1 17 (I 0)) ::
 O 19 (.load 1 false 18) ::
 O 4 (.mv 19) ::
 [])) (
 .ret)
def c_strings_Join_p1 : ACode :=
 .seq (.ops (O 16 (.bin .eql 12 (I 1)) ::
 O 15 (.mv 16) ::
 [])) (
 .cond 15 (c_strings_Join_p2) (.skip))
def c_strings_Join_p6 : List AOper :=
 ⟨none, .bad, none⟩ ::
 []
def c_strings_Join_p5 : ACode :=
 .ops (
 ⟨(some 30), .bad, none⟩ ::
 c_strings_Join_p6)
def c_strings_Join_p7 : ACode :=
 .ops (
 O 31 (.mv 5) ::
 O 32 (.mv 1) ::
 O 33 (.lenT 32) ::
 O 34 (.mv 0) ::
 O 35 (.lenS 34) ::
 O 36 (.bin .sub 35 (I 1)) ::
 O 37 (.bin .mul 33 36) ::
 O 38 (.bin .add 31 37) ::
 O 5 (.mv 38) ::
 [])
def c_strings_Join_p4 : ACode :=
 .seq (
 .seq (.ops (O 23 (.mv 1) ::
 O 24 (.lenT 23) ::
 O 25 (.mv 0) ::
 O 26 (.lenS 25) ::
 O 27 (.bin .sub 26 (I 1)) ::
 O 28 (.bin .quo (I 9223372036854775807) 27) ::
 O 29 (.bin .geq 24 28) ::
 [])) (
 .cond 29 (c_strings_Join_p5) (.skip))) (c_strings_Join_p7)
def c_strings_Join_p12 : List AOper :=
 ⟨none, .bad, none⟩ ::
 []
def c_strings_Join_p11 : ACode :=
 .ops (
 ⟨(some 50), .bad, none⟩ ::
 c_strings_Join_p12)
def c_strings_Join_p13 : ACode :=
 .ops (
 O 51 (.mv 5) ::
 O 52 (.mv 7) ::
 O 53 (.lenT 52) ::
 O 54 (.bin .add 51 53) ::
 O 5 (.mv 54) ::
 [])
def c_strings_Join_p14 : ACode :=
 .ops (
 O 55 (.bin .add 41 (I 1)) ::
 O 41 (.mv 55) ::
 [])
def c_strings_Join_p10 : ACode :=
 .seq (
 .block 2 (
 .seq (.ops (O 43 (.iadS 1 39 41) ::
 O 44 (.load 1 false 43) ::
 O 7 (.mv 44) ::
 [])) (
 .seq (
 .seq (.ops (O 45 (.mv 7) ::
 O 46 (.lenT 45) ::
 O 47 (.mv 5) ::
 O 48 (.bin .sub (I 9223372036854775807) 47) ::
 O 49 (.bin .gtr 46 48) ::
 [])) (
 .cond 49 (c_strings_Join_p11) (.skip))) (c_strings_Join_p13)))) (c_strings_Join_p14)
def c_strings_Join_p9 : ACode :=
 .seq (.ops (O 42 (.bin .lss 41 40) ::
 [])) (
 .seq (
 .cond 42 (.skip) (.exit 1)) (c_strings_Join_p10))
def c_strings_Join_p17 : ACode :=
 .seq (
 .block 4 (
 .seq (.ops (O 67 (.iadS 1 63 65) ::
 O 68 (.load 1 false 67) ::
 O 10 (.mv 68) ::
 [])) (
 .seq (.ops (O 69 (.mv 1) ::
 C 70 81 [8, 69] ::
 [])) (.ops (O 71 (.mv 10) ::
 C 72 81 [8, 71] ::
 []))))) (.ops (O 73 (.bin .add 65 (I 1)) ::
 O 65 (.mv 73) ::
 []))
def c_strings_Join_p16 : ACode :=
 .seq (.ops (O 66 (.bin .lss 65 64) ::
 [])) (
 .seq (
 .cond 66 (.skip) (.exit 3)) (c_strings_Join_p17))
def c_strings_Join_p19 : List AOper :=
 O 4 (.mv 74) ::
 []
def c_strings_Join_p18 : ACode :=
 .seq (.ops (C 74 82 [8] ::
 c_strings_Join_p19)) (
 .ret)
def c_strings_Join_p15 : ACode :=
 .seq (.ops (O 8 (.alloc 111 [.nilp, .nils]) ::
 [])) (
 .seq (.ops (O 56 (.mv 5) ::
 C 57 80 [8, 56] ::
 [])) (
 .seq (.ops (O 58 (.mv 0) ::
 O 59 (.iadS 1 58 (I 0)) ::
 O 60 (.load 1 false 59) ::
 C 61 81 [8, 60] ::
 [])) (
 .seq (
 .seq (.ops (O 62 (.mv 0) ::
 O 63 (.sliceS 1 62 (some (I 1)) none) ::
 O 64 (.lenS 63) ::
 O 65 (.mv (I 0)) ::
 [])) (
 .block 3 (
 .loop (c_strings_Join_p16)))) (c_strings_Join_p18))))
def c_strings_Join_p8 : ACode :=
 .seq (
 .seq (.ops (O 39 (.mv 0) ::
 O 40 (.lenS 39) ::
 O 41 (.mv (I 0)) ::
 [])) (
 .block 1 (
 .loop (c_strings_Join_p9)))) (c_strings_Join_p15)
def c_strings_Join_p3 : ACode :=
 .seq (.ops (O 5 (.mv (I 0)) ::
 [])) (
 .seq (
 .seq (.ops (O 20 (.mv 1) ::
 O 21 (.lenT 20) ::
 O 22 (.bin .gtr 21 (I 0)) ::
 [])) (
 .cond 22 (c_strings_Join_p4) (.skip))) (c_strings_Join_p8))
def c_strings_Join : AFunc := ⟨75, (
 .seq (.ops (O 4 (.mv (.c (.str (bytesOf [])))) ::
 [])) (
 .seq (
 .seq (.ops (O 11 (.mv 0) ::
 O 12 (.lenS 11) ::
 [])) (
 .block 0 (
 .seq (.ops (O 14 (.bin .eql 12 (I 0)) ::
 O 13 (.mv 14) ::
 [])) (
 .cond 13 (c_strings_Join_p0) (c_strings_Join_p1))))) (c_strings_Join_p3))), [.t 4]⟩
theorem is_strings_Join : IsFun Go.Proofs.Tryz.prog f_strings_Join c_strings_Join := cFunc_is (obj := false) (by kernel_rfl)

abbrev f_r18_Put : Nat := 43
def c_r18_Put_p0 : List AOper :=
 O 6 (.un .not 5) ::
 []
def c_r18_Put_p1 : ACode :=
 .seq (.ops (O 2 (.mv (.c (.str (bytesOf [])))) ::
 O 3 (.mv (I 1)) ::
 [])) (
 .ret)
def c_r18_Put_p4 : List (AOper × List Nat) :=
 (O 9 (.faddr 6 1), []) ::
 (O 10 (.load 1 false 9), [1]) ::
 (O 11 (.bin .add 8 10), []) ::
 (O 2 (.mv 11), []) ::
 (O 3 (.mv (I 0)), []) ::
 []
def c_r18_Put_p3 : List (AOper × List Nat) :=
 (O 7 (.load 7 true 1), []) ::
 (C 8 24 [7], []) ::
 c_r18_Put_p4
def c_r18_Put_p3a : List AOper := fstsOf c_r18_Put_p3
def c_r18_Put_p2 : ACode :=
 .seq (
 .draw c_r18_Put_p3a c_r18_Put_p3) (
 .ret)
def c_r18_Put : AFunc := ⟨12, (
 .seq (.ops (O 1 (.box 23 0) ::
 O 2 (.mv (.c (.str (bytesOf [])))) ::
 O 3 (.mv (I 0)) ::
 [])) (
 .seq (
 .seq (.ops (O 4 (.load 7 true 1) ::
 C 5 77 [4] ::
 c_r18_Put_p0)) (
 .cond 6 (c_r18_Put_p1) (.skip))) (c_r18_Put_p2))), [.t 2, .t 3]⟩
theorem is_r18_Put : IsFun Go.Proofs.Tryz.prog f_r18_Put c_r18_Put := cFunc_is (obj := false) (by kernel_rfl)

abbrev f_header_Take : Nat := 44
def c_header_Take_p0 : List AOper :=
 OF 10 11 (.load 1 false 1) ::
 OF 10 12 (.sliceT 11 none (some (I 4))) ::
 OF 10 13 (.bin .neq 12 (.c (.str (bytesOf [83, 76, 71, 49])))) ::
 O 14 (.pick 10 (.c (.bool true)) 13) ::
 []
def c_header_Take_p1 : ACode :=
 .seq (.ops (O 15 (.build [.nat .i64 0, .str (bytesOf []), .nat .i64 0, .nat .i64 0, .nat .i64 0, .str (bytesOf []), .str (bytesOf [])] []) ::
 S (.store 7 2 15) ::
 O 3 (.mv (I 2)) ::
 [])) (
 .ret)
def c_header_Take_p3 : List AOper :=
 O 22 (.faddr 0 4) ::
 S (.store 1 22 21) ::
 []
def c_header_Take_p4 : List AOper :=
 O 25 (.faddr 1 4) ::
 S (.store 1 25 24) ::
 []
def c_header_Take_p5 : List AOper :=
 O 28 (.faddr 2 4) ::
 S (.store 1 28 27) ::
 []
def c_header_Take_p6 : List AOper :=
 O 31 (.faddr 3 4) ::
 S (.store 1 31 30) ::
 []
def c_header_Take_p7 : List AOper :=
 O 34 (.faddr 4 4) ::
 S (.store 1 34 33) ::
 []
def c_header_Take_p8 : List AOper :=
 O 37 (.faddr 5 4) ::
 S (.store 1 37 36) ::
 []
def c_header_Take_p9 : List AOper :=
 O 40 (.faddr 6 4) ::
 S (.store 1 40 39) ::
 []
def c_header_Take_p10 : List AOper :=
 O 43 (.bin .neq 42 (I 0)) ::
 []
def c_header_Take_p11 : ACode :=
 .seq (.ops (O 44 (.build [.nat .i64 0, .str (bytesOf []), .nat .i64 0, .nat .i64 0, .nat .i64 0, .str (bytesOf []), .str (bytesOf [])] []) ::
 S (.store 7 2 44) ::
 O 3 (.mv (I 2)) ::
 [])) (
 .ret)
def c_header_Take_p12 : ACode :=
 .seq (.ops (O 45 (.load 7 true 4) ::
 S (.store 7 2 45) ::
 O 3 (.mv (I 0)) ::
 [])) (
 .ret)
def c_header_Take_p2 : ACode :=
 .seq (.ops (O 4 (.alloc 23 [.nat .i64 0, .str (bytesOf []), .nat .i64 0, .nat .i64 0, .nat .i64 0, .str (bytesOf []), .str (bytesOf [])]) ::
 [])) (
 .seq (.ops (O 16 (.load 1 false 1) ::
 O 17 (.sliceT 16 (some (I 4)) none) ::
 S (.store 1 1 17) ::
 [])) (
 .seq (.ops (O 18 (.mkfn 83 [1]) ::
 O 5 (.mv 18) ::
 [])) (
 .seq (.ops (O 19 (.mkfn 85 [1]) ::
 O 6 (.mv 19) ::
 [])) (
 .seq (.ops (O 20 (.mv 5) ::
 CV 21 20 [(I 4)] ::
 c_header_Take_p3)) (
 .seq (.ops (O 23 (.mv 6) ::
 CV 24 23 [(I 16)] ::
 c_header_Take_p4)) (
 .seq (.ops (O 26 (.mv 5) ::
 CV 27 26 [(I 2)] ::
 c_header_Take_p5)) (
 .seq (.ops (O 29 (.mv 5) ::
 CV 30 29 [(I 4)] ::
 c_header_Take_p6)) (
 .seq (.ops (O 32 (.mv 5) ::
 CV 33 32 [(I 4)] ::
 c_header_Take_p7)) (
 .seq (.ops (O 35 (.mv 6) ::
 CV 36 35 [(I 32)] ::
 c_header_Take_p8)) (
 .seq (.ops (O 38 (.mv 6) ::
 CV 39 38 [(I 32)] ::
 c_header_Take_p9)) (
 .seq (
 .seq (.ops (O 41 (.load 7 true 4) ::
 C 42 72 [41] ::
 c_header_Take_p10)) (
 .cond 43 (c_header_Take_p11) (.skip))) (c_header_Take_p12))))))))))))
def c_header_Take : AFunc := ⟨46, (
 .seq (.ops (O 1 (.box 9 0) ::
 O 2 (.alloc 23 [.nat .i64 0, .str (bytesOf []), .nat .i64 0, .nat .i64 0, .nat .i64 0, .str (bytesOf []), .str (bytesOf [])]) ::
 O 3 (.mv (I 0)) ::
 [])) (
 .seq (
 .seq (.ops (O 7 (.load 1 false 1) ::
 O 8 (.lenT 7) ::
 O 9 (.bin .neq 8 (I 98)) ::
 O 10 (.mv 9) ::
 c_header_Take_p0)) (
 .cond 14 (c_header_Take_p1) (.skip))) (c_header_Take_p2))), [.cell 2 7 true, .t 3]⟩
theorem is_header_Take : IsFun Go.Proofs.Tryz.prog f_header_Take c_header_Take := cFunc_is (obj := false) (by kernel_rfl)

abbrev f_r18_Take : Nat := 45
def c_r18_Take_p0 : List AOper :=
 OF 21 22 (.mv 0) ::
 OF 21 23 (.sliceT 22 none (some (I 4))) ::
 OF 21 24 (.bin .neq 23 (.c (.str (bytesOf [83, 76, 71, 49])))) ::
 O 25 (.pick 21 (.c (.bool true)) 24) ::
 []
def c_r18_Take_p1 : ACode :=
 .seq (.ops (O 26 (.build [.nat .i64 0, .str (bytesOf []), .nat .i64 0, .nat .i64 0, .nat .i64 0, .str (bytesOf []), .str (bytesOf [])] []) ::
 S (.store 7 2 26) ::
 O 3 (.mv (I 2)) ::
 [])) (
 .ret)
def c_r18_Take_p3 : List AOper :=
 O 27 (.mv 30) ::
 O 31 (.ext 27 0) ::
 O 32 (.ext 27 1) ::
 O 33 (.ext 27 2) ::
 O 4 (.mv 31) ::
 O 5 (.mv 32) ::
 O 6 (.mv 33) ::
 []
def c_r18_Take_p4 : List AOper :=
 O 36 (.mv 39) ::
 O 40 (.ext 36 0) ::
 O 41 (.ext 36 1) ::
 O 42 (.ext 36 2) ::
 O 8 (.mv 40) ::
 O 9 (.mv 41) ::
 O 10 (.mv 42) ::
 []
def c_r18_Take_p5 : List AOper :=
 O 43 (.mv 45) ::
 O 46 (.ext 43 0) ::
 O 47 (.ext 43 1) ::
 O 48 (.ext 43 2) ::
 O 11 (.mv 46) ::
 O 12 (.mv 47) ::
 O 13 (.mv 48) ::
 []
def c_r18_Take_p6 : List AOper :=
 O 49 (.mv 51) ::
 O 52 (.ext 49 0) ::
 O 53 (.ext 49 1) ::
 O 54 (.ext 49 2) ::
 O 14 (.mv 52) ::
 O 15 (.mv 53) ::
 O 16 (.mv 54) ::
 []
def c_r18_Take_p7 : List AOper :=
 O 67 (.un .not 66) ::
 []
def c_r18_Take_p8 : ACode :=
 .seq (.ops (O 68 (.build [.nat .i64 0, .str (bytesOf []), .nat .i64 0, .nat .i64 0, .nat .i64 0, .str (bytesOf []), .str (bytesOf [])] []) ::
 S (.store 7 2 68) ::
 O 3 (.mv (I 2)) ::
 [])) (
 .ret)
def c_r18_Take_p9 : ACode :=
 .seq (.ops (O 69 (.load 7 true 17) ::
 S (.store 7 2 69) ::
 O 3 (.mv (I 0)) ::
 [])) (
 .ret)
def c_r18_Take_p2 : ACode :=
 .seq (.ops (O 28 (.mv 0) ::
 O 29 (.sliceT 28 (some (I 4)) none) ::
 C 30 86 [29, (I 4)] ::
 c_r18_Take_p3)) (
 .seq (.ops (O 34 (.mv 5) ::
 O 35 (.sliceT 34 none (some (I 16))) ::
 O 7 (.mv 35) ::
 [])) (
 .seq (.ops (O 37 (.mv 5) ::
 O 38 (.sliceT 37 (some (I 16)) none) ::
 C 39 86 [38, (I 2)] ::
 c_r18_Take_p4)) (
 .seq (.ops (O 44 (.mv 9) ::
 C 45 86 [44, (I 4)] ::
 c_r18_Take_p5)) (
 .seq (.ops (O 50 (.mv 12) ::
 C 51 86 [50, (I 4)] ::
 c_r18_Take_p6)) (
 .seq (.ops (O 55 (.mv 4) ::
 O 56 (.mv 7) ::
 O 57 (.mv 8) ::
 O 58 (.mv 11) ::
 O 59 (.mv 14) ::
 O 60 (.mv 15) ::
 O 61 (.sliceT 60 none (some (I 32))) ::
 O 62 (.mv 15) ::
 O 63 (.sliceT 62 (some (I 32)) none) ::
 O 64 (.build [.nat .i64 0, .str (bytesOf []), .nat .i64 0, .nat .i64 0, .nat .i64 0, .str (bytesOf []), .str (bytesOf [])] [(0, 1, 55), (1, 1, 56), (2, 1, 57), (3, 1, 58), (4, 1, 59), (5, 1, 61), (6, 1, 63)]) ::
 O 17 (.alloc 23 [.nat .i64 0, .str (bytesOf []), .nat .i64 0, .nat .i64 0, .nat .i64 0, .str (bytesOf []), .str (bytesOf [])]) ::
 S (.store 7 17 64) ::
 [])) (
 .seq (
 .seq (.ops (O 65 (.load 7 true 17) ::
 C 66 77 [65] ::
 c_r18_Take_p7)) (
 .cond 67 (c_r18_Take_p8) (.skip))) (c_r18_Take_p9)))))))
def c_r18_Take : AFunc := ⟨70, (
 .seq (.ops (O 2 (.alloc 23 [.nat .i64 0, .str (bytesOf []), .nat .i64 0, .nat .i64 0, .nat .i64 0, .str (bytesOf []), .str (bytesOf [])]) ::
 O 3 (.mv (I 0)) ::
 [])) (
 .seq (
 .seq (.ops (O 18 (.mv 0) ::
 O 19 (.lenT 18) ::
 O 20 (.bin .neq 19 (I 98)) ::
 O 21 (.mv 20) ::
 c_r18_Take_p0)) (
 .cond 25 (c_r18_Take_p1) (.skip))) (c_r18_Take_p2))), [.cell 2 7 true, .t 3]⟩
theorem is_r18_Take : IsFun Go.Proofs.Tryz.prog f_r18_Take c_r18_Take := cFunc_is (obj := false) (by kernel_rfl)

abbrev f_law12_Few : Nat := 46
def c_law12_Few_p2 : List AOper :=
 OF 30 31 (.mv 4) ::
 OF 30 32 (.bin .geq 31 (I 70)) ::
 O 33 (.pick 30 (.c (.bool true)) 32) ::
 []
def c_law12_Few_p3 : ACode :=
 .seq (.ops (O 34 (.mv 0) ::
 O 35 (.mv 4) ::
 O 36 (.sliceS 2 34 none (some 35)) ::
 O 2 (.mv 36) ::
 [])) (
 .ret)
def c_law12_Few_p4 : ACode :=
 .ops (
 O 9 (.mv 4) ::
 O 10 (.bin .add 9 (I 1)) ::
 O 4 (.mv 10) ::
 [])
def c_law12_Few_p1 : ACode :=
 .seq (
 .block 1 (
 .seq (.ops (O 11 (.mv 3) ::
 O 12 (.mv 0) ::
 O 13 (.mv 4) ::
 O 14 (.iadS 2 12 13) ::
 O 15 (.faddr 0 14) ::
 O 16 (.load 1 false 15) ::
 O 17 (.lenT 16) ::
 O 18 (.mm false 17 [(I 4194304)]) ::
 O 19 (.bin .add 11 18) ::
 O 20 (.mv 0) ::
 O 21 (.mv 4) ::
 O 22 (.iadS 2 20 21) ::
 O 23 (.faddr 1 22) ::
 O 24 (.load 1 false 23) ::
 O 25 (.lenT 24) ::
 O 26 (.mm false 25 [(I 4194304)]) ::
 O 27 (.bin .add 19 26) ::
 O 3 (.mv 27) ::
 [])) (
 .seq (.ops (O 28 (.mv 3) ::
 O 29 (.bin .gtr 28 (I 3000000)) ::
 O 30 (.mv 29) ::
 c_law12_Few_p2)) (
 .cond 33 (c_law12_Few_p3) (.skip))))) (c_law12_Few_p4)
def c_law12_Few_p0 : ACode :=
 .seq (
 .seq (.ops (O 5 (.mv 4) ::
 O 6 (.mv 0) ::
 O 7 (.lenS 6) ::
 O 8 (.bin .lss 5 7) ::
 [])) (
 .cond 8 (.skip) (.exit 0))) (c_law12_Few_p1)
def c_law12_Few_p5 : ACode :=
 .seq (.ops (O 37 (.mv 0) ::
 O 2 (.mv 37) ::
 [])) (
 .ret)
def c_law12_Few : AFunc := ⟨38, (
 .seq (.ops (O 2 (.mv (.c (.nils))) ::
 [])) (
 .seq (.ops (O 3 (.mv (I 0)) ::
 [])) (
 .seq (
 .seq (.ops (O 4 (.mv (I 0)) ::
 [])) (
 .block 0 (
 .loop (c_law12_Few_p0)))) (c_law12_Few_p5)))), [.t 2]⟩
theorem is_law12_Few : IsFun Go.Proofs.Tryz.prog f_law12_Few c_law12_Few := cFunc_is (obj := false) (by kernel_rfl)

abbrev f_solid_Squeeze : Nat := 47
def c_solid_Squeeze_p0 : List AOper :=
 O 8 (.mv 10) ::
 O 11 (.ext 8 0) ::
 O 12 (.ext 8 1) ::
 O 5 (.mv 11) ::
 O 6 (.mv 12) ::
 []
def c_solid_Squeeze_p1 : ACode :=
 .seq (.ops (O 15 (.mv 6) ::
 O 2 (.mv (.c (.str (bytesOf [])))) ::
 O 3 (.mv (I 0)) ::
 O 4 (.mv 15) ::
 [])) (
 .ret)
def c_solid_Squeeze_p3 : List AOper :=
 O 7 (.mv 17) ::
 []
def c_solid_Squeeze_p4 : ACode :=
 .seq (.ops (O 2 (.mv (.c (.str (bytesOf [])))) ::
 O 3 (.mv (I 0)) ::
 O 4 (.mv (I 3)) ::
 [])) (
 .ret)
def c_solid_Squeeze_p5 : ACode :=
 .seq (.ops (O 21 (.mv 7) ::
 O 22 (.mv 5) ::
 O 23 (.lenT 22) ::
 O 2 (.mv 21) ::
 O 3 (.mv 23) ::
 O 4 (.mv (I 0)) ::
 [])) (
 .ret)
def c_solid_Squeeze_p2 : ACode :=
 .seq (.ops (O 16 (.mv 5) ::
 C 17 88 [16] ::
 c_solid_Squeeze_p3)) (
 .seq (
 .seq (.ops (O 18 (.mv 7) ::
 O 19 (.lenT 18) ::
 O 20 (.bin .gtr 19 (I 49152)) ::
 [])) (
 .cond 20 (c_solid_Squeeze_p4) (.skip))) (c_solid_Squeeze_p5))
def c_solid_Squeeze : AFunc := ⟨24, (
 .seq (.ops (O 2 (.mv (.c (.str (bytesOf [])))) ::
 O 3 (.mv (I 0)) ::
 O 4 (.mv (I 0)) ::
 [])) (
 .seq (.ops (O 9 (.mv 0) ::
 C 10 87 [9] ::
 c_solid_Squeeze_p0)) (
 .seq (
 .seq (.ops (O 13 (.mv 6) ::
 O 14 (.bin .neq 13 (I 0)) ::
 [])) (
 .cond 14 (c_solid_Squeeze_p1) (.skip))) (c_solid_Squeeze_p2)))), [.t 2, .t 3, .t 4]⟩
theorem is_solid_Squeeze : IsFun Go.Proofs.Tryz.prog f_solid_Squeeze c_solid_Squeeze := cFunc_is (obj := false) (by kernel_rfl)

abbrev f_solid_Split : Nat := 48
def c_solid_Split_p2 : List AOper :=
 O 23 (.bin .add 18 22) ::
 O 24 (.lit false 9 1 1 [.str (bytesOf [])] [(0, 1, 23)]) ::
 O 25 (.app 9 1 16 17 24) ::
 O 3 (.mv 25) ::
 []
def c_solid_Split_p1 : ACode :=
 .seq (
 .block 1 (
 .seq (.ops (O 12 (.mv 0) ::
 O 13 (.mv 0) ::
 O 14 (.lenT 13) ::
 O 15 (.mm false (I 192) [14]) ::
 O 16 (.sliceT 12 none (some 15)) ::
 O 4 (.mv 16) ::
 [])) (.ops (O 17 (.mv 3) ::
 O 18 (.mv 4) ::
 O 19 (.mv 4) ::
 O 20 (.lenT 19) ::
 O 21 (.bin .sub (I 192) 20) ::
 C 22 89 [(.c (.str (bytesOf [0]))), 21] ::
 c_solid_Split_p2)))) (.ops (O 7 (.mv 0) ::
 O 8 (.mv 0) ::
 O 9 (.lenT 8) ::
 O 10 (.mm false (I 192) [9]) ::
 O 11 (.sliceT 7 (some 10) none) ::
 O 0 (.mv 11) ::
 []))
def c_solid_Split_p0 : ACode :=
 .seq (
 .seq (.ops (O 5 (.mv 0) ::
 O 6 (.bin .neq 5 (.c (.str (bytesOf [])))) ::
 [])) (
 .cond 6 (.skip) (.exit 0))) (c_solid_Split_p1)
def c_solid_Split_p3 : ACode :=
 .seq (.ops (O 26 (.mv 3) ::
 O 2 (.mv 26) ::
 [])) (
 .ret)
def c_solid_Split : AFunc := ⟨27, (
 .seq (.ops (O 2 (.mv (.c (.nils))) ::
 [])) (
 .seq (.ops (O 3 (.mv (.c (.nils))) ::
 [])) (
 .seq (
 .block 0 (
 .loop (c_solid_Split_p0))) (c_solid_Split_p3)))), [.t 2]⟩
theorem is_solid_Split : IsFun Go.Proofs.Tryz.prog f_solid_Split c_solid_Split := cFunc_is (obj := false) (by kernel_rfl)

abbrev f_block_Seal : Nat := 49
def c_block_Seal_p1 : List AOper :=
 OF 14 15 (.mv 2) ::
 OF 14 16 (.lenT 15) ::
 OF 14 17 (.bin .neq 16 (I 192)) ::
 O 18 (.pick 14 (.c (.bool true)) 17) ::
 []
def c_block_Seal_p0 : List AOper :=
 O 13 (.un .not 12) ::
 O 14 (.mv 13) ::
 c_block_Seal_p1
def c_block_Seal_p2 : ACode :=
 .seq (.ops (O 6 (.mv (.c (.str (bytesOf [])))) ::
 O 7 (.mv (I 1)) ::
 [])) (
 .ret)
def c_block_Seal_p6 : List (AOper × List Nat) :=
 (O 19 (.mv 25), []) ::
 (O 26 (.ext 19 0), []) ::
 (O 27 (.ext 19 1), []) ::
 (O 8 (.mv 26), []) ::
 (O 9 (.mv 27), []) ::
 []
def c_block_Seal_p5 : List (AOper × List Nat) :=
 (O 24 (.mv 2), []) ::
 (C 25 63 [21, 23, (I 1), 24], []) ::
 c_block_Seal_p6
def c_block_Seal_p4 : List (AOper × List Nat) :=
 (O 20 (.faddr 0 3), []) ::
 (O 21 (.load 1 false 20), []) ::
 (O 22 (.mv 1), []) ::
 (C 23 64 [22], [1]) ::
 c_block_Seal_p5
def c_block_Seal_p4a : List AOper := fstsOf c_block_Seal_p4
def c_block_Seal_p7 : List AOper :=
 O 33 (.bin .add 28 32) ::
 O 34 (.mv 9) ::
 O 6 (.mv 33) ::
 O 7 (.mv 34) ::
 []
def c_block_Seal_p3 : ACode :=
 .seq (
 .draw c_block_Seal_p4a c_block_Seal_p4) (
 .seq (.ops (O 28 (.mv 8) ::
 O 29 (.load 3 true 3) ::
 O 30 (.mv 1) ::
 O 31 (.mv 8) ::
 C 32 62 [29, 30, 31] ::
 c_block_Seal_p7)) (
 .ret))
def c_block_Seal : AFunc := ⟨35, (
 .seq (.ops (O 3 (.box 53 0) ::
 O 6 (.mv (.c (.str (bytesOf [])))) ::
 O 7 (.mv (I 0)) ::
 [])) (
 .seq (
 .seq (.ops (O 10 (.load 3 true 3) ::
 O 11 (.mv 1) ::
 C 12 60 [10, 11] ::
 c_block_Seal_p0)) (
 .cond 18 (c_block_Seal_p2) (.skip))) (c_block_Seal_p3))), [.t 6, .t 7]⟩
theorem is_block_Seal : IsFun Go.Proofs.Tryz.prog f_block_Seal c_block_Seal := cFunc_is (obj := false) (by kernel_rfl)

abbrev f_header_Sign : Nat := 50
def c_header_Sign_p1 : List AOper :=
 O 10 (.faddr 6 3) ::
 S (.store 1 10 9) ::
 []
def c_header_Sign_p0 : List AOper :=
 O 8 (.lit false 9 1 1 [.str (bytesOf [])] [(0, 1, 7)]) ::
 C 9 73 [5, 8] ::
 c_header_Sign_p1
def c_header_Sign : AFunc := ⟨12, (
 .seq (.ops (O 3 (.box 23 1) ::
 O 4 (.alloc 23 [.nat .i64 0, .str (bytesOf []), .nat .i64 0, .nat .i64 0, .nat .i64 0, .str (bytesOf []), .str (bytesOf [])]) ::
 [])) (
 .seq (.ops (O 5 (.mv 0) ::
 O 6 (.load 7 true 3) ::
 C 7 74 [6] ::
 c_header_Sign_p0)) (
 .seq (.ops (O 11 (.load 7 true 3) ::
 S (.store 7 4 11) ::
 [])) (
 .ret)))), [.cell 4 7 true]⟩
theorem is_header_Sign : IsFun Go.Proofs.Tryz.prog f_header_Sign c_header_Sign := cFunc_is (obj := false) (by kernel_rfl)

abbrev f_r05_Expand : Nat := 51
def c_r05_Expand_p0 : List AOper :=
 OF 13 14 (.mv 2) ::
 OF 13 15 (.bin .gtr 14 (I 8160)) ::
 O 16 (.pick 13 (.c (.bool true)) 15) ::
 []
def c_r05_Expand_p1 : ACode :=
 .seq (.ops (O 6 (.mv (.c (.str (bytesOf [])))) ::
 O 7 (.mv (I 10)) ::
 [])) (
 .ret)
def c_r05_Expand_p5 : List AOper :=
 O 9 (.mv 32) ::
 []
def c_r05_Expand_p4 : ACode :=
 .seq (
 .block 1 (
 .seq (.ops (O 23 (.mv 0) ::
 O 24 (.mv 9) ::
 O 25 (.mv 1) ::
 O 26 (.bin .add 24 25) ::
 O 27 (.mv 10) ::
 O 28 (.toInt .u8 27) ::
 O 29 (.lit false 5 1 1 [.nat .u8 0] [(0, 1, 28)]) ::
 O 30 (.b2s 29) ::
 O 31 (.bin .add 26 30) ::
 C 32 26 [23, 31] ::
 c_r05_Expand_p5)) (.ops (O 33 (.mv 8) ::
 O 34 (.mv 9) ::
 O 35 (.bin .add 33 34) ::
 O 8 (.mv 35) ::
 [])))) (.ops (O 21 (.mv 10) ::
 O 22 (.bin .add 21 (I 1)) ::
 O 10 (.mv 22) ::
 []))
def c_r05_Expand_p3 : ACode :=
 .seq (
 .seq (.ops (O 17 (.mv 8) ::
 O 18 (.lenT 17) ::
 O 19 (.mv 2) ::
 O 20 (.bin .lss 18 19) ::
 [])) (
 .cond 20 (.skip) (.exit 0))) (c_r05_Expand_p4)
def c_r05_Expand_p6 : ACode :=
 .seq (.ops (O 36 (.mv 8) ::
 O 37 (.mv 2) ::
 O 38 (.sliceT 36 none (some 37)) ::
 O 6 (.mv 38) ::
 O 7 (.mv (I 0)) ::
 [])) (
 .ret)
def c_r05_Expand_p2 : ACode :=
 .seq (.ops (O 8 (.mv (.c (.str (bytesOf [])))) ::
 [])) (
 .seq (.ops (O 9 (.mv (.c (.str (bytesOf [])))) ::
 [])) (
 .seq (
 .seq (.ops (O 10 (.mv (I 1)) ::
 [])) (
 .block 0 (
 .loop (c_r05_Expand_p3)))) (c_r05_Expand_p6)))
def c_r05_Expand : AFunc := ⟨39, (
 .seq (.ops (O 6 (.mv (.c (.str (bytesOf [])))) ::
 O 7 (.mv (I 0)) ::
 [])) (
 .seq (
 .seq (.ops (O 11 (.mv 2) ::
 O 12 (.bin .lss 11 (I 0)) ::
 O 13 (.mv 12) ::
 c_r05_Expand_p0)) (
 .cond 16 (c_r05_Expand_p1) (.skip))) (c_r05_Expand_p2))), [.t 6, .t 7]⟩
theorem is_r05_Expand : IsFun Go.Proofs.Tryz.prog f_r05_Expand c_r05_Expand := cFunc_is (obj := false) (by kernel_rfl)

abbrev f_r01_Fixed : Nat := 52
def c_r01_Fixed_p0 : ACode :=
 .ops (
 O 1 (.mv (I 0)) ::
 [])
def c_r01_Fixed_p2 : ACode :=
 .ops (
 O 1 (.mv (I 8)) ::
 [])
def c_r01_Fixed_p4 : List AOper :=
 O 4 (.mv 11) ::
 []
def c_r01_Fixed_p3 : ACode :=
 .seq (.ops (O 9 (.mv 0) ::
 O 10 (.mv 1) ::
 C 11 90 [9, 10] ::
 c_r01_Fixed_p4)) (
 .ret)
def c_r01_Fixed_p1 : ACode :=
 .seq (
 .seq (.ops (O 7 (.mv 1) ::
 O 8 (.bin .gtr 7 (I 8)) ::
 [])) (
 .cond 8 (c_r01_Fixed_p2) (.skip))) (c_r01_Fixed_p3)
def c_r01_Fixed : AFunc := ⟨12, (
 .seq (.ops (O 4 (.mv (.c (.str (bytesOf [])))) ::
 [])) (
 .seq (
 .seq (.ops (O 5 (.mv 1) ::
 O 6 (.bin .lss 5 (I 0)) ::
 [])) (
 .cond 6 (c_r01_Fixed_p0) (.skip))) (c_r01_Fixed_p1))), [.t 4]⟩
theorem is_r01_Fixed : IsFun Go.Proofs.Tryz.prog f_r01_Fixed c_r01_Fixed := cFunc_is (obj := false) (by kernel_rfl)

abbrev f_r17_top : Nat := 53
def c_r17_top_p0 : ACode :=
 .seq (.ops (O 4 (.mv (.c (.str (bytesOf [])))) ::
 [])) (
 .ret)
def c_r17_top_p2 : ACode :=
 .seq (.ops (O 12 (.mv 1) ::
 O 13 (.iadS 1 12 (I 0)) ::
 O 14 (.load 1 false 13) ::
 O 15 (.bin .add (.c (.str (bytesOf [0]))) 14) ::
 O 4 (.mv 15) ::
 [])) (
 .ret)
def c_r17_top_p4 : List AOper :=
 O 5 (.mv 18) ::
 []
def c_r17_top_p8 : List AOper :=
 O 34 (.bin .add 26 33) ::
 O 4 (.mv 34) ::
 []
def c_r17_top_p7 : List AOper :=
 C 33 54 [27, 32] ::
 c_r17_top_p8
def c_r17_top_p6 : List AOper :=
 O 26 (.bin .add (.c (.str (bytesOf [1]))) 25) ::
 O 27 (.mv 0) ::
 O 28 (.mv 0) ::
 O 29 (.mv 1) ::
 O 30 (.mv 5) ::
 O 31 (.sliceS 1 29 (some 30) none) ::
 C 32 53 [28, 31] ::
 c_r17_top_p7
def c_r17_top_p5 : List AOper :=
 C 25 54 [19, 24] ::
 c_r17_top_p6
def c_r17_top_p3 : ACode :=
 .seq (.ops (O 16 (.mv 1) ::
 O 17 (.lenS 16) ::
 C 18 55 [17] ::
 c_r17_top_p4)) (
 .seq (.ops (O 19 (.mv 0) ::
 O 20 (.mv 0) ::
 O 21 (.mv 1) ::
 O 22 (.mv 5) ::
 O 23 (.sliceS 1 21 none (some 22)) ::
 C 24 53 [20, 23] ::
 c_r17_top_p5)) (
 .ret))
def c_r17_top_p1 : ACode :=
 .seq (
 .seq (.ops (O 9 (.mv 1) ::
 O 10 (.lenS 9) ::
 O 11 (.bin .eql 10 (I 1)) ::
 [])) (
 .cond 11 (c_r17_top_p2) (.skip))) (c_r17_top_p3)
def c_r17_top : AFunc := ⟨35, (
 .seq (.ops (O 4 (.mv (.c (.str (bytesOf [])))) ::
 [])) (
 .seq (
 .seq (.ops (O 6 (.mv 1) ::
 O 7 (.lenS 6) ::
 O 8 (.bin .eql 7 (I 0)) ::
 [])) (
 .cond 8 (c_r17_top_p0) (.skip))) (c_r17_top_p1))), [.t 4]⟩
theorem is_r17_top : IsFun Go.Proofs.Tryz.prog f_r17_top c_r17_top := cFunc_is (obj := false) (by kernel_rfl)

abbrev f_r15_Sum : Nat := 54
def c_r15_Sum_p1 : List AOper :=
 O 9 (.sliceT 6 none (some 8)) ::
 O 4 (.mv 9) ::
 []
def c_r15_Sum_p0 : List AOper :=
 O 7 (.mv 0) ::
 C 8 91 [7] ::
 c_r15_Sum_p1
def c_r15_Sum : AFunc := ⟨10, (
 .seq (.ops (O 4 (.mv (.c (.str (bytesOf [])))) ::
 [])) (
 .seq (.ops (O 5 (.mv 1) ::
 C 6 56 [5] ::
 c_r15_Sum_p0)) (
 .ret))), [.t 4]⟩
theorem is_r15_Sum : IsFun Go.Proofs.Tryz.prog f_r15_Sum c_r15_Sum := cFunc_is (obj := false) (by kernel_rfl)

abbrev f_r15_Cut : Nat := 55
def c_r15_Cut_p1 : ACode :=
 .block 1 (.ops (O 8 (.mv 3) ::
 O 9 (.bin .mul 8 (I 2)) ::
 O 3 (.mv 9) ::
 []))
def c_r15_Cut_p0 : ACode :=
 .seq (
 .seq (.ops (O 4 (.mv 3) ::
 O 5 (.bin .mul 4 (I 2)) ::
 O 6 (.mv 0) ::
 O 7 (.bin .lss 5 6) ::
 [])) (
 .cond 7 (.skip) (.exit 0))) (c_r15_Cut_p1)
def c_r15_Cut_p2 : ACode :=
 .seq (.ops (O 10 (.mv 3) ::
 O 2 (.mv 10) ::
 [])) (
 .ret)
def c_r15_Cut : AFunc := ⟨11, (
 .seq (.ops (O 2 (.mv (I 0)) ::
 [])) (
 .seq (.ops (O 3 (.mv (I 1)) ::
 [])) (
 .seq (
 .block 0 (
 .loop (c_r15_Cut_p0))) (c_r15_Cut_p2)))), [.t 2]⟩
theorem is_r15_Cut : IsFun Go.Proofs.Tryz.prog f_r15_Cut c_r15_Cut := cFunc_is (obj := false) (by kernel_rfl)

abbrev f_r02_Sum : Nat := 56
def c_r02_Sum_p0 : List AOper :=
 O 3 (.mv 25) ::
 []
def c_r02_Sum_p1 : List AOper :=
 O 4 (.mv 26) ::
 []
def c_r02_Sum_p2 : List AOper :=
 O 5 (.mv 27) ::
 []
def c_r02_Sum_p5 : List AOper :=
 O 7 (.mv 39) ::
 []
def c_r02_Sum_p11 : List (AOper × List Nat) :=
 (O 76 (.bin .xor 73 75), []) ::
 (O 77 (.bin .add 68 76), []) ::
 (O 78 (.mv 12), []) ::
 (O 79 (.mv 13), []) ::
 (O 80 (.bin .and 78 79), []) ::
 (O 81 (.mv 12), []) ::
 (O 82 (.bin .sub (I 4294967295) 81), []) ::
 (O 83 (.mv 14), []) ::
 (O 84 (.bin .and 82 83), []) ::
 (O 85 (.bin .xor 80 84), []) ::
 (O 86 (.bin .add 77 85), []) ::
 (O 87 (.mv 5), []) ::
 (O 88 (.mv 16), []) ::
 (O 89 (.iadS 1 87 88), [2, 4, 7]) ::
 (O 90 (.load 1 false 89), [2, 4, 7]) ::
 (O 91 (.bin .add 86 90), []) ::
 (O 92 (.mv 7), []) ::
 (O 93 (.mv 16), []) ::
 (O 94 (.iadS 1 92 93), [2, 4, 7]) ::
 (O 95 (.load 1 false 94), [2, 4, 7]) ::
 (O 96 (.bin .add 91 95), []) ::
 (O 97 (.bin .and 96 (I 4294967295)), []) ::
 (O 17 (.mv 97), []) ::
 []
def c_r02_Sum_p10 : List (AOper × List Nat) :=
 (O 73 (.bin .xor 70 72), []) ::
 (O 74 (.mv 12), []) ::
 (C 75 96 [74, (I 25)], []) ::
 c_r02_Sum_p11
def c_r02_Sum_p9 : List (AOper × List Nat) :=
 (O 71 (.mv 12), []) ::
 (C 72 96 [71, (I 11)], []) ::
 c_r02_Sum_p10
def c_r02_Sum_p8 : List (AOper × List Nat) :=
 (O 68 (.mv 15), []) ::
 (O 69 (.mv 12), []) ::
 (C 70 96 [69, (I 6)], []) ::
 c_r02_Sum_p9
def c_r02_Sum_p8a : List AOper := fstsOf c_r02_Sum_p8
def c_r02_Sum_p14 : List AOper :=
 O 105 (.bin .xor 102 104) ::
 O 106 (.mv 8) ::
 O 107 (.mv 9) ::
 O 108 (.bin .and 106 107) ::
 O 109 (.mv 8) ::
 O 110 (.mv 10) ::
 O 111 (.bin .and 109 110) ::
 O 112 (.bin .xor 108 111) ::
 O 113 (.mv 9) ::
 O 114 (.mv 10) ::
 O 115 (.bin .and 113 114) ::
 O 116 (.bin .xor 112 115) ::
 O 117 (.bin .add 105 116) ::
 O 118 (.bin .and 117 (I 4294967295)) ::
 O 18 (.mv 118) ::
 []
def c_r02_Sum_p13 : List AOper :=
 O 102 (.bin .xor 99 101) ::
 O 103 (.mv 8) ::
 C 104 96 [103, (I 22)] ::
 c_r02_Sum_p14
def c_r02_Sum_p12 : List AOper :=
 O 100 (.mv 8) ::
 C 101 96 [100, (I 13)] ::
 c_r02_Sum_p13
def c_r02_Sum_p7 : ACode :=
 .seq (
 .block 3 (
 .seq (
 .draw c_r02_Sum_p8a c_r02_Sum_p8) (
 .seq (.ops (O 98 (.mv 8) ::
 C 99 96 [98, (I 2)] ::
 c_r02_Sum_p12)) (
 .seq (.ops (O 119 (.mv 14) ::
 O 15 (.mv 119) ::
 [])) (
 .seq (.ops (O 120 (.mv 13) ::
 O 14 (.mv 120) ::
 [])) (
 .seq (.ops (O 121 (.mv 12) ::
 O 13 (.mv 121) ::
 [])) (
 .seq (.ops (O 122 (.mv 11) ::
 O 123 (.mv 17) ::
 O 124 (.bin .add 122 123) ::
 O 125 (.bin .and 124 (I 4294967295)) ::
 O 12 (.mv 125) ::
 [])) (
 .seq (.ops (O 126 (.mv 10) ::
 O 11 (.mv 126) ::
 [])) (
 .seq (.ops (O 127 (.mv 9) ::
 O 10 (.mv 127) ::
 [])) (
 .seq (.ops (O 128 (.mv 8) ::
 O 9 (.mv 128) ::
 [])) (.ops (O 129 (.mv 17) ::
 O 130 (.mv 18) ::
 O 131 (.bin .add 129 130) ::
 O 132 (.bin .and 131 (I 4294967295)) ::
 O 8 (.mv 132) ::
 [])))))))))))) (.ops (O 66 (.mv 16) ::
 O 67 (.bin .add 66 (I 1)) ::
 O 16 (.mv 67) ::
 []))
def c_r02_Sum_p6 : ACode :=
 .seq (
 .seq (.ops (O 64 (.mv 16) ::
 O 65 (.bin .lss 64 (I 64)) ::
 [])) (
 .cond 65 (.skip) (.exit 2))) (c_r02_Sum_p7)
def c_r02_Sum_p17 : ACode :=
 .seq (
 .block 5 (.ops (O 146 (.mv 4) ::
 O 147 (.mv 20) ::
 O 148 (.mv 4) ::
 O 149 (.mv 20) ::
 O 150 (.iadS 1 148 149) ::
 O 151 (.load 1 false 150) ::
 O 152 (.mv 19) ::
 O 153 (.mv 20) ::
 O 154 (.iadS 1 152 153) ::
 O 155 (.load 1 false 154) ::
 O 156 (.bin .add 151 155) ::
 O 157 (.bin .and 156 (I 4294967295)) ::
 O 158 (.iadS 1 146 147) ::
 S (.store 1 158 157) ::
 []))) (.ops (O 144 (.mv 20) ::
 O 145 (.bin .add 144 (I 1)) ::
 O 20 (.mv 145) ::
 []))
def c_r02_Sum_p16 : ACode :=
 .seq (
 .seq (.ops (O 142 (.mv 20) ::
 O 143 (.bin .lss 142 (I 8)) ::
 [])) (
 .cond 143 (.skip) (.exit 4))) (c_r02_Sum_p17)
def c_r02_Sum_p15 : ACode :=
 .seq (.ops (O 133 (.mv 8) ::
 O 134 (.mv 9) ::
 O 135 (.mv 10) ::
 O 136 (.mv 11) ::
 O 137 (.mv 12) ::
 O 138 (.mv 13) ::
 O 139 (.mv 14) ::
 O 140 (.mv 15) ::
 O 141 (.lit false 3 8 1 [.nat .i64 0] [(0, 1, 133), (1, 1, 134), (2, 1, 135), (3, 1, 136), (4, 1, 137), (5, 1, 138), (6, 1, 139), (7, 1, 140)]) ::
 O 19 (.mv 141) ::
 [])) (
 .seq (.ops (O 20 (.mv (I 0)) ::
 [])) (
 .block 4 (
 .loop (c_r02_Sum_p16))))
def c_r02_Sum_p18 : ACode :=
 .ops (
 O 32 (.mv 6) ::
 O 33 (.bin .add 32 (I 64)) ::
 O 6 (.mv 33) ::
 [])
def c_r02_Sum_p4 : ACode :=
 .seq (
 .block 1 (
 .seq (.ops (O 34 (.mv 3) ::
 O 35 (.mv 6) ::
 O 36 (.mv 6) ::
 O 37 (.bin .add 36 (I 64)) ::
 O 38 (.sliceS 1 34 (some 35) (some 37)) ::
 C 39 95 [38] ::
 c_r02_Sum_p5)) (
 .seq (.ops (O 40 (.mv 4) ::
 O 41 (.iadS 1 40 (I 0)) ::
 O 42 (.load 1 false 41) ::
 O 43 (.mv 4) ::
 O 44 (.iadS 1 43 (I 1)) ::
 O 45 (.load 1 false 44) ::
 O 46 (.mv 4) ::
 O 47 (.iadS 1 46 (I 2)) ::
 O 48 (.load 1 false 47) ::
 O 49 (.mv 4) ::
 O 50 (.iadS 1 49 (I 3)) ::
 O 51 (.load 1 false 50) ::
 O 52 (.mv 4) ::
 O 53 (.iadS 1 52 (I 4)) ::
 O 54 (.load 1 false 53) ::
 O 55 (.mv 4) ::
 O 56 (.iadS 1 55 (I 5)) ::
 O 57 (.load 1 false 56) ::
 O 58 (.mv 4) ::
 O 59 (.iadS 1 58 (I 6)) ::
 O 60 (.load 1 false 59) ::
 O 61 (.mv 4) ::
 O 62 (.iadS 1 61 (I 7)) ::
 O 63 (.load 1 false 62) ::
 O 8 (.mv 42) ::
 O 9 (.mv 45) ::
 O 10 (.mv 48) ::
 O 11 (.mv 51) ::
 O 12 (.mv 54) ::
 O 13 (.mv 57) ::
 O 14 (.mv 60) ::
 O 15 (.mv 63) ::
 [])) (
 .seq (
 .seq (.ops (O 16 (.mv (I 0)) ::
 [])) (
 .block 2 (
 .loop (c_r02_Sum_p6)))) (c_r02_Sum_p15))))) (c_r02_Sum_p18)
def c_r02_Sum_p3 : ACode :=
 .seq (
 .seq (.ops (O 28 (.mv 6) ::
 O 29 (.mv 3) ::
 O 30 (.lenS 29) ::
 O 31 (.bin .lss 28 30) ::
 [])) (
 .cond 31 (.skip) (.exit 0))) (c_r02_Sum_p4)
def c_r02_Sum_p23 : ACode :=
 .seq (
 .block 9 (.ops (O 167 (.mv 21) ::
 O 168 (.mv 4) ::
 O 169 (.mv 22) ::
 O 170 (.iadS 1 168 169) ::
 O 171 (.load 1 false 170) ::
 O 172 (.mv 23) ::
 O 173 (.bin .mul (I 8) 172) ::
 O 174 (.bin .shr 171 173) ::
 O 175 (.bin .and 174 (I 255)) ::
 O 176 (.toInt .u8 175) ::
 O 177 (.lit false 5 1 1 [.nat .u8 0] [(0, 1, 176)]) ::
 O 178 (.app 5 1 1 167 177) ::
 O 21 (.mv 178) ::
 []))) (.ops (O 165 (.mv 23) ::
 O 166 (.bin .sub 165 (I 1)) ::
 O 23 (.mv 166) ::
 []))
def c_r02_Sum_p22 : ACode :=
 .seq (
 .seq (.ops (O 163 (.mv 23) ::
 O 164 (.bin .geq 163 (I 0)) ::
 [])) (
 .cond 164 (.skip) (.exit 8))) (c_r02_Sum_p23)
def c_r02_Sum_p24 : ACode :=
 .ops (
 O 161 (.mv 22) ::
 O 162 (.bin .add 161 (I 1)) ::
 O 22 (.mv 162) ::
 [])
def c_r02_Sum_p21 : ACode :=
 .seq (
 .block 7 (
 .seq (.ops (O 23 (.mv (I 3)) ::
 [])) (
 .block 8 (
 .loop (c_r02_Sum_p22))))) (c_r02_Sum_p24)
def c_r02_Sum_p20 : ACode :=
 .seq (
 .seq (.ops (O 159 (.mv 22) ::
 O 160 (.bin .lss 159 (I 8)) ::
 [])) (
 .cond 160 (.skip) (.exit 6))) (c_r02_Sum_p21)
def c_r02_Sum_p25 : ACode :=
 .seq (.ops (O 179 (.mv 21) ::
 O 180 (.b2s 179) ::
 O 2 (.mv 180) ::
 [])) (
 .ret)
def c_r02_Sum_p19 : ACode :=
 .seq (.ops (O 21 (.mv (.c (.nils))) ::
 [])) (
 .seq (
 .seq (.ops (O 22 (.mv (I 0)) ::
 [])) (
 .block 6 (
 .loop (c_r02_Sum_p20)))) (c_r02_Sum_p25))
def c_r02_Sum : AFunc := ⟨181, (
 .seq (.ops (O 2 (.mv (.c (.str (bytesOf [])))) ::
 [])) (
 .seq (.ops (O 24 (.mv 0) ::
 C 25 92 [24] ::
 c_r02_Sum_p0)) (
 .seq (.ops (C 26 93 [] ::
 c_r02_Sum_p1)) (
 .seq (.ops (C 27 94 [] ::
 c_r02_Sum_p2)) (
 .seq (
 .seq (.ops (O 6 (.mv (I 0)) ::
 [])) (
 .block 0 (
 .loop (c_r02_Sum_p3)))) (c_r02_Sum_p19)))))), [.t 2]⟩
theorem is_r02_Sum : IsFun Go.Proofs.Tryz.prog f_r02_Sum c_r02_Sum := cFunc_is (obj := false) (by kernel_rfl)

abbrev f_r03_turned : Nat := 57
def c_r03_turned_p1 : List AOper :=
 O 14 (.s2b 5 13) ::
 O 5 (.mv 14) ::
 []
def c_r03_turned_p0 : ACode :=
 .ops (
 O 12 (.mv 0) ::
 C 13 56 [12] ::
 c_r03_turned_p1)
def c_r03_turned_p4 : ACode :=
 .block 1 (.ops (O 18 (.mv 5) ::
 O 19 (.lit false 5 1 1 [.nat .u8 0] [(0, 1, (U8 0))]) ::
 O 20 (.app 5 1 1 18 19) ::
 O 5 (.mv 20) ::
 []))
def c_r03_turned_p3 : ACode :=
 .seq (
 .seq (.ops (O 15 (.mv 5) ::
 O 16 (.lenS 15) ::
 O 17 (.bin .lss 16 (I 64)) ::
 [])) (
 .cond 17 (.skip) (.exit 0))) (c_r03_turned_p4)
def c_r03_turned_p7 : ACode :=
 .seq (
 .block 3 (.ops (O 25 (.mv 5) ::
 O 26 (.mv 6) ::
 O 27 (.mv 5) ::
 O 28 (.mv 6) ::
 O 29 (.iadS 1 27 28) ::
 O 30 (.load 1 false 29) ::
 O 31 (.toInt .i64 30) ::
 O 32 (.mv 1) ::
 O 33 (.bin .xor 31 32) ::
 O 34 (.toInt .u8 33) ::
 O 35 (.iadS 1 25 26) ::
 S (.store 1 35 34) ::
 []))) (.ops (O 23 (.mv 6) ::
 O 24 (.bin .add 23 (I 1)) ::
 O 6 (.mv 24) ::
 []))
def c_r03_turned_p6 : ACode :=
 .seq (
 .seq (.ops (O 21 (.mv 6) ::
 O 22 (.bin .lss 21 (I 64)) ::
 [])) (
 .cond 22 (.skip) (.exit 2))) (c_r03_turned_p7)
def c_r03_turned_p8 : ACode :=
 .seq (.ops (O 36 (.mv 5) ::
 O 37 (.b2s 36) ::
 O 4 (.mv 37) ::
 [])) (
 .ret)
def c_r03_turned_p5 : ACode :=
 .seq (
 .seq (.ops (O 6 (.mv (I 0)) ::
 [])) (
 .block 2 (
 .loop (c_r03_turned_p6)))) (c_r03_turned_p8)
def c_r03_turned_p2 : ACode :=
 .seq (
 .block 0 (
 .loop (c_r03_turned_p3))) (c_r03_turned_p5)
def c_r03_turned : AFunc := ⟨38, (
 .seq (.ops (O 4 (.mv (.c (.str (bytesOf [])))) ::
 [])) (
 .seq (.ops (O 7 (.mv 0) ::
 O 8 (.s2b 5 7) ::
 O 5 (.mv 8) ::
 [])) (
 .seq (
 .seq (.ops (O 9 (.mv 0) ::
 O 10 (.lenT 9) ::
 O 11 (.bin .gtr 10 (I 64)) ::
 [])) (
 .cond 11 (c_r03_turned_p0) (.skip))) (c_r03_turned_p2)))), [.t 4]⟩
theorem is_r03_turned : IsFun Go.Proofs.Tryz.prog f_r03_turned c_r03_turned := cFunc_is (obj := false) (by kernel_rfl)

abbrev f_kdf_Extract : Nat := 58
def c_kdf_Extract_p0 : List AOper :=
 O 4 (.mv 8) ::
 []
def c_kdf_Extract : AFunc := ⟨9, (
 .seq (.ops (O 4 (.mv (.c (.str (bytesOf [])))) ::
 [])) (
 .seq (.ops (O 5 (.mv 0) ::
 O 6 (.mv 1) ::
 O 7 (.lit false 9 1 1 [.str (bytesOf [])] [(0, 1, 6)]) ::
 C 8 73 [5, 7] ::
 c_kdf_Extract_p0)) (
 .ret))), [.t 4]⟩
theorem is_kdf_Extract : IsFun Go.Proofs.Tryz.prog f_kdf_Extract c_kdf_Extract := cFunc_is (obj := false) (by kernel_rfl)

abbrev f_kdf_name_of : Nat := 59
def c_kdf_name_of_p0 : List AOper :=
 O 7 (.mv 10) ::
 O 11 (.ext 7 0) ::
 O 12 (.ext 7 1) ::
 O 5 (.mv 11) ::
 O 6 (.mv 12) ::
 []
def c_kdf_name_of : AFunc := ⟨14, (
 .seq (.ops (O 4 (.mv (.c (.str (bytesOf [])))) ::
 [])) (
 .seq (.ops (O 8 (.mv 1) ::
 O 9 (.mv 0) ::
 C 10 97 [8, 9, (I 32)] ::
 c_kdf_name_of_p0)) (
 .seq (.ops (O 13 (.mv 5) ::
 O 4 (.mv 13) ::
 [])) (
 .ret)))), [.t 4]⟩
theorem is_kdf_name_of : IsFun Go.Proofs.Tryz.prog f_kdf_name_of c_kdf_name_of := cFunc_is (obj := false) (by kernel_rfl)

abbrev f_block_right : Nat := 60
def c_block_right_p1 : List AOper :=
 OT 13 14 (.mv 1) ::
 OT 13 15 (.bin .lss 14 (I 256)) ::
 O 16 (.pick 13 15 (.c (.bool false))) ::
 O 4 (.mv 16) ::
 []
def c_block_right_p0 : List AOper :=
 OT 9 10 (.mv 1) ::
 OT 9 11 (.bin .geq 10 (I 0)) ::
 O 12 (.pick 9 11 (.c (.bool false))) ::
 O 13 (.mv 12) ::
 c_block_right_p1
def c_block_right : AFunc := ⟨17, (
 .seq (.ops (O 2 (.box 53 0) ::
 O 4 (.mv (.c (.bool false))) ::
 [])) (
 .seq (.ops (O 5 (.faddr 0 2) ::
 O 6 (.load 1 false 5) ::
 O 7 (.lenT 6) ::
 O 8 (.bin .eql 7 (I 32)) ::
 O 9 (.mv 8) ::
 c_block_right_p0)) (
 .ret))), [.t 4]⟩
theorem is_block_right : IsFun Go.Proofs.Tryz.prog f_block_right c_block_right := cFunc_is (obj := false) (by kernel_rfl)

end Go.Proofs.Ah
