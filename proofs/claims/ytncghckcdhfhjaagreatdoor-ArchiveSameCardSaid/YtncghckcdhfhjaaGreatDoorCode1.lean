/- The code of 63 functions, as the abstract machine reads it; that it is the program's. -/
import Derived.Test.YtncghckcdhfhjaaGreatDoorProg
import Derived.Test.YtncghckcdhfhjaaGreatDoorAh16
import Derived.KernelRfl
set_option maxRecDepth 100000
set_option maxHeartbeats 40000000
set_option linter.unusedVariables false
namespace Go.Proofs.Ah
open Go

abbrev f_mac_Equal : Nat := 61
def c_mac_Equal_p3 : List AOper :=
 O 30 (.bin .xor 26 29) ::
 O 31 (.toInt .i64 30) ::
 O 32 (.bin .or 23 31) ::
 O 7 (.mv 32) ::
 []
def c_mac_Equal_p2 : List AOper :=
 O 27 (.mv 1) ::
 O 28 (.mv 8) ::
 C 29 98 [27, 28] ::
 c_mac_Equal_p3
def c_mac_Equal_p1 : ACode :=
 .seq (
 .block 1 (
 .seq (.ops (O 22 (.mv 20) ::
 O 8 (.mv 22) ::
 [])) (.ops (O 23 (.mv 7) ::
 O 24 (.mv 0) ::
 O 25 (.mv 8) ::
 C 26 98 [24, 25] ::
 c_mac_Equal_p2)))) (.ops (O 33 (.bin .add 20 (I 1)) ::
 O 20 (.mv 33) ::
 []))
def c_mac_Equal_p0 : ACode :=
 .seq (.ops (O 21 (.bin .lss 20 19) ::
 [])) (
 .seq (
 .cond 21 (.skip) (.exit 0)) (c_mac_Equal_p1))
def c_mac_Equal_p4 : ACode :=
 .seq (.ops (O 34 (.mv 7) ::
 O 35 (.bin .eql 34 (I 0)) ::
 O 36 (.mv 6) ::
 O 4 (.mv 35) ::
 O 5 (.mv 36) ::
 [])) (
 .ret)
def c_mac_Equal : AFunc := ⟨37, (
 .seq (.ops (O 4 (.mv (.c (.bool false))) ::
 O 5 (.mv (I 0)) ::
 [])) (
 .seq (.ops (O 9 (.mv 0) ::
 O 10 (.lenT 9) ::
 O 11 (.mv 1) ::
 O 12 (.lenT 11) ::
 O 13 (.mm true 10 [12]) ::
 O 6 (.mv 13) ::
 [])) (
 .seq (.ops (O 14 (.mv 0) ::
 O 15 (.lenT 14) ::
 O 16 (.mv 1) ::
 O 17 (.lenT 16) ::
 O 18 (.bin .xor 15 17) ::
 O 7 (.mv 18) ::
 [])) (
 .seq (
 .seq (.ops (O 19 (.mv 6) ::
 O 20 (.mv (I 0)) ::
 [])) (
 .block 0 (
 .loop (c_mac_Equal_p0)))) (c_mac_Equal_p4))))), [.t 4, .t 5]⟩
theorem is_mac_Equal : IsFun Go.Proofs.Tryz.prog f_mac_Equal c_mac_Equal := cFunc_is (obj := false) (by kernel_rfl)

abbrev f_block_tag : Nat := 62
def c_block_tag_p2 : List (AOper × List Nat) :=
 (O 6 (.mv 13), []) ::
 []
def c_block_tag_p1 : List (AOper × List Nat) :=
 (O 11 (.mv 2), []) ::
 (O 12 (.lit false 9 2 1 [.str (bytesOf [])] [(0, 1, 10), (1, 1, 11)]), []) ::
 (C 13 73 [8, 12], []) ::
 c_block_tag_p2
def c_block_tag_p0 : List (AOper × List Nat) :=
 (O 7 (.faddr 1 3), []) ::
 (O 8 (.load 1 false 7), []) ::
 (O 9 (.mv 1), []) ::
 (C 10 99 [9, (I 4)], [1]) ::
 c_block_tag_p1
def c_block_tag_p0a : List AOper := fstsOf c_block_tag_p0
def c_block_tag : AFunc := ⟨14, (
 .seq (.ops (O 3 (.box 53 0) ::
 O 6 (.mv (.c (.str (bytesOf [])))) ::
 [])) (
 .seq (
 .draw c_block_tag_p0a c_block_tag_p0) (
 .ret))), [.t 6]⟩
theorem is_block_tag : IsFun Go.Proofs.Tryz.prog f_block_tag c_block_tag := cFunc_is (obj := false) (by kernel_rfl)

abbrev f_chacha_XOR : Nat := 63
def c_chacha_XOR_p0 : List AOper :=
 O 20 (.un .not 19) ::
 O 15 (.mv 20) ::
 []
def c_chacha_XOR_p1 : ACode :=
 .seq (.ops (O 8 (.mv (.c (.str (bytesOf [])))) ::
 O 9 (.mv (I 1)) ::
 [])) (
 .ret)
def c_chacha_XOR_p3 : List AOper :=
 OT 25 26 (.mv 3) ::
 OT 25 27 (.lenT 26) ::
 OT 25 28 (.bin .sub 27 (I 1)) ::
 OT 25 29 (.bin .quo 28 (I 64)) ::
 OT 25 30 (.mv 2) ::
 OT 25 31 (.bin .sub (I 4294967295) 30) ::
 OT 25 32 (.bin .gtr 29 31) ::
 O 33 (.pick 25 32 (.c (.bool false))) ::
 O 21 (.mv 33) ::
 []
def c_chacha_XOR_p4 : ACode :=
 .seq (.ops (O 8 (.mv (.c (.str (bytesOf [])))) ::
 O 9 (.mv (I 10)) ::
 [])) (
 .ret)
def c_chacha_XOR_p2 : ACode :=
 .seq (.ops (O 22 (.mv 3) ::
 O 23 (.lenT 22) ::
 O 24 (.bin .gtr 23 (I 0)) ::
 O 25 (.mv 24) ::
 c_chacha_XOR_p3)) (
 .cond 21 (c_chacha_XOR_p4) (.skip))
def c_chacha_XOR_p8 : List AOper :=
 O 12 (.alloc 131 (List.replicate 64 (.nat .u8 0))) ::
 S (.store 64 12 48) ::
 []
def c_chacha_XOR_p10 : ACode :=
 .seq (
 .block 4 (
 .seq (.ops (O 61 (.mv 59) ::
 O 14 (.mv 61) ::
 [])) (.ops (O 62 (.mv 13) ::
 O 63 (.mv 14) ::
 O 64 (.iadS 1 62 63) ::
 O 65 (.load 1 false 64) ::
 O 66 (.mv 14) ::
 O 67 (.iadA 64 1 12 66) ::
 O 68 (.load 1 false 67) ::
 O 69 (.bin .xor 65 68) ::
 O 70 (.iadS 1 62 63) ::
 S (.store 1 70 69) ::
 [])))) (.ops (O 71 (.bin .add 59 (I 1)) ::
 O 59 (.mv 71) ::
 []))
def c_chacha_XOR_p9 : ACode :=
 .seq (.ops (O 60 (.bin .lss 59 58) ::
 [])) (
 .seq (
 .cond 60 (.skip) (.exit 3)) (c_chacha_XOR_p10))
def c_chacha_XOR_p11 : ACode :=
 .ops (
 O 40 (.mv 11) ::
 O 41 (.bin .add 40 (I 64)) ::
 O 11 (.mv 41) ::
 [])
def c_chacha_XOR_p7 : ACode :=
 .seq (
 .block 2 (
 .seq (.ops (O 42 (.mv 0) ::
 O 43 (.mv 1) ::
 O 44 (.mv 2) ::
 O 45 (.mv 11) ::
 O 46 (.bin .quo 45 (I 64)) ::
 O 47 (.bin .add 44 46) ::
 C 48 101 [42, 43, 47] ::
 c_chacha_XOR_p8)) (
 .seq (.ops (O 49 (.mv 10) ::
 O 50 (.mv 11) ::
 O 51 (.mv 11) ::
 O 52 (.bin .add 51 (I 64)) ::
 O 53 (.mv 10) ::
 O 54 (.lenS 53) ::
 O 55 (.mm false 52 [54]) ::
 O 56 (.sliceS 1 49 (some 50) (some 55)) ::
 O 13 (.mv 56) ::
 [])) (
 .seq (.ops (O 57 (.mv 13) ::
 O 58 (.lenS 57) ::
 O 59 (.mv (I 0)) ::
 [])) (
 .block 3 (
 .loop (c_chacha_XOR_p9))))))) (c_chacha_XOR_p11)
def c_chacha_XOR_p6 : ACode :=
 .seq (
 .seq (.ops (O 36 (.mv 11) ::
 O 37 (.mv 10) ::
 O 38 (.lenS 37) ::
 O 39 (.bin .lss 36 38) ::
 [])) (
 .cond 39 (.skip) (.exit 1))) (c_chacha_XOR_p7)
def c_chacha_XOR_p12 : ACode :=
 .seq (.ops (O 72 (.mv 10) ::
 O 73 (.b2s 72) ::
 O 8 (.mv 73) ::
 O 9 (.mv (I 0)) ::
 [])) (
 .ret)
def c_chacha_XOR_p5 : ACode :=
 .seq (.ops (O 34 (.mv 3) ::
 O 35 (.s2b 5 34) ::
 O 10 (.mv 35) ::
 [])) (
 .seq (
 .seq (.ops (O 11 (.mv (I 0)) ::
 [])) (
 .block 1 (
 .loop (c_chacha_XOR_p6)))) (c_chacha_XOR_p12))
def c_chacha_XOR : AFunc := ⟨74, (
 .seq (.ops (O 8 (.mv (.c (.str (bytesOf [])))) ::
 O 9 (.mv (I 0)) ::
 [])) (
 .seq (
 .block 0 (
 .seq (.ops (O 16 (.mv 0) ::
 O 17 (.mv 1) ::
 O 18 (.mv 2) ::
 C 19 100 [16, 17, 18] ::
 c_chacha_XOR_p0)) (
 .cond 15 (c_chacha_XOR_p1) (c_chacha_XOR_p2)))) (c_chacha_XOR_p5))), [.t 8, .t 9]⟩
theorem is_chacha_XOR : IsFun Go.Proofs.Tryz.prog f_chacha_XOR c_chacha_XOR := cFunc_is (obj := false) (by kernel_rfl)

abbrev f_block_nonce : Nat := 64
def c_block_nonce_p0 : List AOper :=
 O 5 (.bin .add (.c (.str (bytesOf [83, 76, 68, 71]))) 4) ::
 O 2 (.mv 5) ::
 []
def c_block_nonce : AFunc := ⟨6, (
 .seq (.ops (O 2 (.mv (.c (.str (bytesOf [])))) ::
 [])) (
 .seq (.ops (O 3 (.mv 0) ::
 C 4 99 [3, (I 8)] ::
 c_block_nonce_p0)) (
 .ret))), [.t 2]⟩
theorem is_block_nonce : IsFun Go.Proofs.Tryz.prog f_block_nonce c_block_nonce := cFunc_is (obj := false) (by kernel_rfl)

abbrev f_strings_Trim : Nat := 65
def c_strings_Trim_p0 : List AOper :=
 OF 9 10 (.mv 1) ::
 OF 9 11 (.bin .eql 10 (.c (.str (bytesOf [])))) ::
 O 12 (.pick 9 (.c (.bool true)) 11) ::
 []
def c_strings_Trim_p1 : ACode :=
 .seq (.ops (O 13 (.mv 0) ::
 O 4 (.mv 13) ::
 [])) (
 .ret)
def c_strings_Trim_p3 : List AOper :=
 OT 17 18 (.mv 1) ::
 OT 17 19 (.idxS 18 (I 0)) ::
 OT 17 20 (.bin .lss 19 (U8 128)) ::
 O 21 (.pick 17 20 (.c (.bool false))) ::
 []
def c_strings_Trim_p6 : List AOper :=
 O 4 (.mv 28) ::
 []
def c_strings_Trim_p5 : List AOper :=
 O 26 (.mv 1) ::
 O 27 (.idxS 26 (I 0)) ::
 C 28 102 [25, 27] ::
 c_strings_Trim_p6
def c_strings_Trim_p4 : ACode :=
 .seq (.ops (O 22 (.mv 0) ::
 O 23 (.mv 1) ::
 O 24 (.idxS 23 (I 0)) ::
 C 25 103 [22, 24] ::
 c_strings_Trim_p5)) (
 .ret)
def c_strings_Trim_p8 : List AOper :=
 O 29 (.mv 31) ::
 O 32 (.ext 29 0) ::
 O 33 (.ext 29 1) ::
 O 5 (.alloc 135 (List.replicate 256 (.bool false))) ::
 S (.store 256 5 32) ::
 O 6 (.mv 33) ::
 []
def c_strings_Trim_p11 : List AOper :=
 O 4 (.mv 37) ::
 []
def c_strings_Trim_p10 : List AOper :=
 C 37 105 [36, 5] ::
 c_strings_Trim_p11
def c_strings_Trim_p9 : ACode :=
 .seq (.ops (O 35 (.mv 0) ::
 C 36 106 [35, 5] ::
 c_strings_Trim_p10)) (
 .ret)
def c_strings_Trim_p14 : List AOper :=
 O 4 (.mv 42) ::
 []
def c_strings_Trim_p13 : List AOper :=
 O 41 (.mv 1) ::
 C 42 107 [40, 41] ::
 c_strings_Trim_p14
def c_strings_Trim_p12 : ACode :=
 .seq (.ops (O 38 (.mv 0) ::
 O 39 (.mv 1) ::
 C 40 108 [38, 39] ::
 c_strings_Trim_p13)) (
 .ret)
def c_strings_Trim_p7 : ACode :=
 .seq (
 .seq (.ops (O 30 (.mv 1) ::
 C 31 104 [30] ::
 c_strings_Trim_p8)) (
 .seq (.ops (O 34 (.mv 6) ::
 [])) (
 .cond 34 (c_strings_Trim_p9) (.skip)))) (c_strings_Trim_p12)
def c_strings_Trim_p2 : ACode :=
 .seq (
 .seq (.ops (O 14 (.mv 1) ::
 O 15 (.lenT 14) ::
 O 16 (.bin .eql 15 (I 1)) ::
 O 17 (.mv 16) ::
 c_strings_Trim_p3)) (
 .cond 21 (c_strings_Trim_p4) (.skip))) (c_strings_Trim_p7)
def c_strings_Trim : AFunc := ⟨43, (
 .seq (.ops (O 4 (.mv (.c (.str (bytesOf [])))) ::
 [])) (
 .seq (
 .seq (.ops (O 7 (.mv 0) ::
 O 8 (.bin .eql 7 (.c (.str (bytesOf [])))) ::
 O 9 (.mv 8) ::
 c_strings_Trim_p0)) (
 .cond 12 (c_strings_Trim_p1) (.skip))) (c_strings_Trim_p2))), [.t 4]⟩
theorem is_strings_Trim : IsFun Go.Proofs.Tryz.prog f_strings_Trim c_strings_Trim := cFunc_is (obj := false) (by kernel_rfl)

abbrev f_inflate_Inflate : Nat := 66
def c_inflate_Inflate_p0 : List AOper :=
 O 12 (.mv 1) ::
 O 13 (.mm true 12 [(I 0)]) ::
 O 14 (.build [.nilp, .nils, .nat .i64 0, .nat .i64 0] [(0, 1, 11), (2, 1, 13)]) ::
 O 15 (.box 144 14) ::
 O 7 (.mv 15) ::
 []
def c_inflate_Inflate_p2 : List AOper :=
 OT 18 19 (.mv 7) ::
 OT 18 20 (.nilck 19) ::
 OT 18 21 (.faddr 3 20) ::
 OT 18 22 (.load 1 false 21) ::
 OT 18 23 (.bin .eql 22 (I 0)) ::
 O 24 (.pick 18 23 (.c (.bool false))) ::
 []
def c_inflate_Inflate_p4 : List AOper :=
 O 8 (.mv 26) ::
 []
def c_inflate_Inflate_p5 : List AOper :=
 O 9 (.mv 28) ::
 []
def c_inflate_Inflate_p7 : ACode :=
 .ops (
 O 39 (.mv 7) ::
 C 40 111 [39] ::
 [])
def c_inflate_Inflate_p10 : List AOper :=
 O 45 (.ext 44 0) ::
 O 46 (.ext 44 1) ::
 C 47 112 [43, 45, 46] ::
 []
def c_inflate_Inflate_p9 : ACode :=
 .ops (
 O 43 (.mv 7) ::
 C 44 113 [] ::
 c_inflate_Inflate_p10)
def c_inflate_Inflate_p13 : List AOper :=
 O 53 (.ext 52 0) ::
 O 54 (.ext 52 1) ::
 C 55 112 [50, 53, 54] ::
 []
def c_inflate_Inflate_p12 : ACode :=
 .ops (
 O 50 (.mv 7) ::
 O 51 (.mv 7) ::
 C 52 114 [51] ::
 c_inflate_Inflate_p13)
def c_inflate_Inflate_p14 : ACode :=
 .ops (
 O 35 (.mv 7) ::
 C 36 115 [35, (I 2)] ::
 [])
def c_inflate_Inflate_p11 : ACode :=
 .seq (.ops (O 49 (.bin .eql 34 (I 2)) ::
 O 48 (.mv 49) ::
 [])) (
 .cond 48 (c_inflate_Inflate_p12) (c_inflate_Inflate_p14))
def c_inflate_Inflate_p8 : ACode :=
 .seq (.ops (O 42 (.bin .eql 34 (I 1)) ::
 O 41 (.mv 42) ::
 [])) (
 .cond 41 (c_inflate_Inflate_p9) (c_inflate_Inflate_p11))
def c_inflate_Inflate_p6 : ACode :=
 .seq (.ops (O 34 (.mv 9) ::
 [])) (
 .block 2 (
 .seq (.ops (O 38 (.bin .eql 34 (I 0)) ::
 O 37 (.mv 38) ::
 [])) (
 .cond 37 (c_inflate_Inflate_p7) (c_inflate_Inflate_p8))))
def c_inflate_Inflate_p3 : ACode :=
 .block 1 (
 .seq (.ops (O 25 (.mv 7) ::
 C 26 110 [25, (I 1)] ::
 c_inflate_Inflate_p4)) (
 .seq (.ops (O 27 (.mv 7) ::
 C 28 110 [27, (I 2)] ::
 c_inflate_Inflate_p5)) (
 .seq (
 .seq (.ops (O 29 (.mv 7) ::
 O 30 (.nilck 29) ::
 O 31 (.faddr 3 30) ::
 O 32 (.load 1 false 31) ::
 O 33 (.bin .neq 32 (I 0)) ::
 [])) (
 .cond 33 (.exit 0) (.skip))) (c_inflate_Inflate_p6))))
def c_inflate_Inflate_p1 : ACode :=
 .seq (
 .seq (.ops (O 16 (.mv 8) ::
 O 17 (.bin .eql 16 (I 0)) ::
 O 18 (.mv 17) ::
 c_inflate_Inflate_p2)) (
 .cond 24 (.skip) (.exit 0))) (c_inflate_Inflate_p3)
def c_inflate_Inflate_p16 : ACode :=
 .seq (.ops (O 61 (.mv 7) ::
 O 62 (.nilck 61) ::
 O 63 (.faddr 3 62) ::
 O 64 (.load 1 false 63) ::
 O 4 (.mv (.c (.str (bytesOf [])))) ::
 O 5 (.mv (I 0)) ::
 O 6 (.mv 64) ::
 [])) (
 .ret)
def c_inflate_Inflate_p19 : List (AOper × List Nat) :=
 (O 80 (.bin .quo 79 (I 8)), []) ::
 (O 4 (.mv 74), []) ::
 (O 5 (.mv 80), []) ::
 (O 6 (.mv (I 0)), []) ::
 []
def c_inflate_Inflate_p18 : List (AOper × List Nat) :=
 (O 70 (.mv 7), []) ::
 (O 71 (.nilck 70), []) ::
 (O 72 (.faddr 1 71), []) ::
 (O 73 (.load 1 false 72), []) ::
 (O 74 (.b2s 73), []) ::
 (O 75 (.mv 7), []) ::
 (O 76 (.nilck 75), []) ::
 (O 77 (.faddr 0 76), []) ::
 (O 78 (.load 1 false 77), []) ::
 (C 79 117 [78], [3, 4]) ::
 c_inflate_Inflate_p19
def c_inflate_Inflate_p18a : List AOper := fstsOf c_inflate_Inflate_p18
def c_inflate_Inflate_p17 : ACode :=
 .seq (.ops (O 65 (.mv 7) ::
 O 66 (.nilck 65) ::
 O 67 (.faddr 0 66) ::
 O 68 (.load 1 false 67) ::
 C 69 116 [68] ::
 [])) (
 .seq (
 .draw c_inflate_Inflate_p18a c_inflate_Inflate_p18) (
 .ret))
def c_inflate_Inflate_p15 : ACode :=
 .seq (
 .seq (.ops (O 56 (.mv 7) ::
 O 57 (.nilck 56) ::
 O 58 (.faddr 3 57) ::
 O 59 (.load 1 false 58) ::
 O 60 (.bin .neq 59 (I 0)) ::
 [])) (
 .cond 60 (c_inflate_Inflate_p16) (.skip))) (c_inflate_Inflate_p17)
def c_inflate_Inflate : AFunc := ⟨81, (
 .seq (.ops (O 4 (.mv (.c (.str (bytesOf [])))) ::
 O 5 (.mv (I 0)) ::
 O 6 (.mv (I 0)) ::
 [])) (
 .seq (.ops (O 10 (.mv 0) ::
 C 11 109 [10] ::
 c_inflate_Inflate_p0)) (
 .seq (
 .seq (.ops (O 8 (.mv (I 0)) ::
 [])) (
 .block 0 (
 .loop (c_inflate_Inflate_p1)))) (c_inflate_Inflate_p15)))), [.t 4, .t 5, .t 6]⟩
theorem is_inflate_Inflate : IsFun Go.Proofs.Tryz.prog f_inflate_Inflate c_inflate_Inflate := cFunc_is (obj := false) (by kernel_rfl)

abbrev f_filemap_Take : Nat := 67
def c_filemap_Take_p0 : List AOper :=
 O 8 (.mv 10) ::
 O 11 (.ext 8 0) ::
 O 12 (.ext 8 1) ::
 O 13 (.ext 8 2) ::
 O 4 (.mv 11) ::
 O 0 (.mv 12) ::
 O 5 (.mv 13) ::
 []
def c_filemap_Take_p1 : List AOper :=
 OT 16 17 (.mv 4) ::
 OT 16 18 (.bin .gtr 17 (I 64)) ::
 O 19 (.pick 16 18 (.c (.bool false))) ::
 []
def c_filemap_Take_p2 : ACode :=
 .ops (
 O 5 (.mv (I 3)) ::
 [])
def c_filemap_Take_p5 : List AOper :=
 OT 22 23 (.mv 5) ::
 OT 22 24 (.bin .eql 23 (I 0)) ::
 O 25 (.pick 22 24 (.c (.bool false))) ::
 []
def c_filemap_Take_p7 : List AOper :=
 O 28 (.mv 30) ::
 O 31 (.ext 28 0) ::
 O 32 (.ext 28 1) ::
 O 33 (.ext 28 2) ::
 O 34 (.faddr 0 7) ::
 S (.store 1 34 31) ::
 O 0 (.mv 32) ::
 O 5 (.mv 33) ::
 []
def c_filemap_Take_p9 : List AOper :=
 O 37 (.mv 39) ::
 O 40 (.ext 37 0) ::
 O 41 (.ext 37 1) ::
 O 42 (.ext 37 2) ::
 O 43 (.faddr 1 7) ::
 S (.store 1 43 40) ::
 O 0 (.mv 41) ::
 O 5 (.mv 42) ::
 []
def c_filemap_Take_p11 : List AOper :=
 O 5 (.mv 48) ::
 []
def c_filemap_Take_p14 : List AOper :=
 OT 56 67 (.bin .geq 66 (I 0)) ::
 O 68 (.pick 56 67 (.c (.bool false))) ::
 []
def c_filemap_Take_p13 : List AOper :=
 OT 56 57 (.mv 6) ::
 OT 56 58 (.mv 6) ::
 OT 56 59 (.lenS 58) ::
 OT 56 60 (.bin .sub 59 (I 1)) ::
 OT 56 61 (.iadS 2 57 60) ::
 OT 56 62 (.faddr 0 61) ::
 OT 56 63 (.load 1 false 62) ::
 OT 56 64 (.faddr 0 7) ::
 OT 56 65 (.load 1 false 64) ::
 CT 56 66 121 [63, 65] ::
 c_filemap_Take_p14
def c_filemap_Take_p12 : List AOper :=
 OT 51 52 (.mv 6) ::
 OT 51 53 (.lenS 52) ::
 OT 51 54 (.bin .gtr 53 (I 0)) ::
 O 55 (.pick 51 54 (.c (.bool false))) ::
 O 56 (.mv 55) ::
 c_filemap_Take_p13
def c_filemap_Take_p15 : ACode :=
 .ops (
 O 5 (.mv (I 2)) ::
 [])
def c_filemap_Take_p16 : ACode :=
 .ops (
 O 69 (.mv 6) ::
 O 70 (.load 2 true 7) ::
 O 71 (.lit false 61 1 2 [.str (bytesOf []), .str (bytesOf [])] [(0, 2, 70)]) ::
 O 72 (.app 61 2 32 69 71) ::
 O 6 (.mv 72) ::
 [])
def c_filemap_Take_p10 : ACode :=
 .seq (
 .seq (.ops (O 46 (.faddr 0 7) ::
 O 47 (.load 1 false 46) ::
 C 48 120 [47] ::
 c_filemap_Take_p11)) (
 .seq (.ops (O 49 (.mv 5) ::
 O 50 (.bin .eql 49 (I 0)) ::
 O 51 (.mv 50) ::
 c_filemap_Take_p12)) (
 .cond 68 (c_filemap_Take_p15) (.skip)))) (c_filemap_Take_p16)
def c_filemap_Take_p8 : ACode :=
 .seq (
 .seq (.ops (O 38 (.mv 0) ::
 C 39 119 [38, (I 1048576)] ::
 c_filemap_Take_p9)) (
 .seq (.ops (O 44 (.mv 5) ::
 O 45 (.bin .neq 44 (I 0)) ::
 [])) (
 .cond 45 (.exit 0) (.skip)))) (c_filemap_Take_p10)
def c_filemap_Take_p17 : ACode :=
 .ops (
 O 26 (.mv 4) ::
 O 27 (.bin .sub 26 (I 1)) ::
 O 4 (.mv 27) ::
 [])
def c_filemap_Take_p6 : ACode :=
 .seq (
 .block 1 (
 .seq (.ops (O 7 (.alloc 61 [.str (bytesOf []), .str (bytesOf [])]) ::
 [])) (
 .seq (
 .seq (.ops (O 29 (.mv 0) ::
 C 30 119 [29, (I 4096)] ::
 c_filemap_Take_p7)) (
 .seq (.ops (O 35 (.mv 5) ::
 O 36 (.bin .neq 35 (I 0)) ::
 [])) (
 .cond 36 (.exit 0) (.skip)))) (c_filemap_Take_p8)))) (c_filemap_Take_p17)
def c_filemap_Take_p4 : ACode :=
 .seq (
 .seq (.ops (O 20 (.mv 4) ::
 O 21 (.bin .gtr 20 (I 0)) ::
 O 22 (.mv 21) ::
 c_filemap_Take_p5)) (
 .cond 25 (.skip) (.exit 0))) (c_filemap_Take_p6)
def c_filemap_Take_p19 : List AOper :=
 OT 75 76 (.mv 0) ::
 OT 75 77 (.bin .neq 76 (.c (.str (bytesOf [])))) ::
 O 78 (.pick 75 77 (.c (.bool false))) ::
 []
def c_filemap_Take_p20 : ACode :=
 .ops (
 O 5 (.mv (I 2)) ::
 [])
def c_filemap_Take_p23 : List AOper :=
 O 5 (.mv 82) ::
 []
def c_filemap_Take_p22 : ACode :=
 .ops (
 O 81 (.mv 6) ::
 C 82 122 [81] ::
 c_filemap_Take_p23)
def c_filemap_Take_p25 : ACode :=
 .seq (.ops (O 85 (.mv 5) ::
 O 2 (.mv (.c (.nils))) ::
 O 3 (.mv 85) ::
 [])) (
 .ret)
def c_filemap_Take_p26 : ACode :=
 .seq (.ops (O 86 (.mv 6) ::
 O 2 (.mv 86) ::
 O 3 (.mv (I 0)) ::
 [])) (
 .ret)
def c_filemap_Take_p24 : ACode :=
 .seq (
 .seq (.ops (O 83 (.mv 5) ::
 O 84 (.bin .neq 83 (I 0)) ::
 [])) (
 .cond 84 (c_filemap_Take_p25) (.skip))) (c_filemap_Take_p26)
def c_filemap_Take_p21 : ACode :=
 .seq (
 .seq (.ops (O 79 (.mv 5) ::
 O 80 (.bin .eql 79 (I 0)) ::
 [])) (
 .cond 80 (c_filemap_Take_p22) (.skip))) (c_filemap_Take_p24)
def c_filemap_Take_p18 : ACode :=
 .seq (
 .seq (.ops (O 73 (.mv 5) ::
 O 74 (.bin .eql 73 (I 0)) ::
 O 75 (.mv 74) ::
 c_filemap_Take_p19)) (
 .cond 78 (c_filemap_Take_p20) (.skip))) (c_filemap_Take_p21)
def c_filemap_Take_p3 : ACode :=
 .seq (.ops (O 6 (.mv (.c (.nils))) ::
 [])) (
 .seq (
 .block 0 (
 .loop (c_filemap_Take_p4))) (c_filemap_Take_p18))
def c_filemap_Take : AFunc := ⟨87, (
 .seq (.ops (O 2 (.mv (.c (.nils))) ::
 O 3 (.mv (I 0)) ::
 [])) (
 .seq (.ops (O 9 (.mv 0) ::
 C 10 118 [9] ::
 c_filemap_Take_p0)) (
 .seq (
 .seq (.ops (O 14 (.mv 5) ::
 O 15 (.bin .eql 14 (I 0)) ::
 O 16 (.mv 15) ::
 c_filemap_Take_p1)) (
 .cond 19 (c_filemap_Take_p2) (.skip))) (c_filemap_Take_p3)))), [.t 2, .t 3]⟩
theorem is_filemap_Take : IsFun Go.Proofs.Tryz.prog f_filemap_Take c_filemap_Take := cFunc_is (obj := false) (by kernel_rfl)

abbrev f_r14_right : Nat := 68
def c_r14_right_p1 : List AOper :=
 OT 13 14 (.mv 1) ::
 OT 13 15 (.bin .lss 14 (I 256)) ::
 O 16 (.pick 13 15 (.c (.bool false))) ::
 O 4 (.mv 16) ::
 []
def c_r14_right_p0 : List AOper :=
 OT 9 10 (.mv 1) ::
 OT 9 11 (.bin .geq 10 (I 0)) ::
 O 12 (.pick 9 11 (.c (.bool false))) ::
 O 13 (.mv 12) ::
 c_r14_right_p1
def c_r14_right : AFunc := ⟨17, (
 .seq (.ops (O 2 (.box 53 0) ::
 O 4 (.mv (.c (.bool false))) ::
 [])) (
 .seq (.ops (O 5 (.faddr 0 2) ::
 O 6 (.load 1 false 5) ::
 O 7 (.lenT 6) ::
 O 8 (.bin .eql 7 (I 32)) ::
 O 9 (.mv 8) ::
 c_r14_right_p0)) (
 .ret))), [.t 4]⟩
theorem is_r14_right : IsFun Go.Proofs.Tryz.prog f_r14_right c_r14_right := cFunc_is (obj := false) (by kernel_rfl)

abbrev f_r04_XOR : Nat := 69
def c_r04_XOR_p0 : List AOper :=
 O 19 (.un .not 18) ::
 []
def c_r04_XOR_p1 : ACode :=
 .seq (.ops (O 8 (.mv (.c (.str (bytesOf [])))) ::
 O 9 (.mv (I 1)) ::
 [])) (
 .ret)
def c_r04_XOR_p3 : ACode :=
 .seq (.ops (O 8 (.mv (.c (.str (bytesOf [])))) ::
 O 9 (.mv (I 10)) ::
 [])) (
 .ret)
def c_r04_XOR_p7 : List AOper :=
 O 13 (.mv 39) ::
 []
def c_r04_XOR_p9 : List AOper :=
 OT 42 43 (.mv 12) ::
 OT 42 44 (.bin .mul (I 64) 43) ::
 OT 42 45 (.mv 14) ::
 OT 42 46 (.bin .add 44 45) ::
 OT 42 47 (.mv 3) ::
 OT 42 48 (.lenT 47) ::
 OT 42 49 (.bin .lss 46 48) ::
 O 50 (.pick 42 49 (.c (.bool false))) ::
 []
def c_r04_XOR_p10 : ACode :=
 .seq (
 .block 3 (.ops (O 53 (.mv 11) ::
 O 54 (.mv 13) ::
 O 55 (.mv 14) ::
 O 56 (.iadS 1 54 55) ::
 O 57 (.load 1 false 56) ::
 O 58 (.toInt .i64 57) ::
 O 59 (.mv 3) ::
 O 60 (.mv 12) ::
 O 61 (.bin .mul (I 64) 60) ::
 O 62 (.mv 14) ::
 O 63 (.bin .add 61 62) ::
 O 64 (.idxS 59 63) ::
 O 65 (.toInt .i64 64) ::
 O 66 (.bin .xor 58 65) ::
 O 67 (.toInt .u8 66) ::
 O 68 (.lit false 5 1 1 [.nat .u8 0] [(0, 1, 67)]) ::
 O 69 (.app 5 1 1 53 68) ::
 O 11 (.mv 69) ::
 []))) (.ops (O 51 (.mv 14) ::
 O 52 (.bin .add 51 (I 1)) ::
 O 14 (.mv 52) ::
 []))
def c_r04_XOR_p8 : ACode :=
 .seq (
 .seq (.ops (O 40 (.mv 14) ::
 O 41 (.bin .lss 40 (I 64)) ::
 O 42 (.mv 41) ::
 c_r04_XOR_p9)) (
 .cond 50 (.skip) (.exit 2))) (c_r04_XOR_p10)
def c_r04_XOR_p11 : ACode :=
 .ops (
 O 32 (.mv 12) ::
 O 33 (.bin .add 32 (I 1)) ::
 O 12 (.mv 33) ::
 [])
def c_r04_XOR_p6 : ACode :=
 .seq (
 .block 1 (
 .seq (.ops (O 34 (.mv 0) ::
 O 35 (.mv 1) ::
 O 36 (.mv 2) ::
 O 37 (.mv 12) ::
 O 38 (.bin .add 36 37) ::
 C 39 124 [34, 35, 38] ::
 c_r04_XOR_p7)) (
 .seq (.ops (O 14 (.mv (I 0)) ::
 [])) (
 .block 2 (
 .loop (c_r04_XOR_p8)))))) (c_r04_XOR_p11)
def c_r04_XOR_p5 : ACode :=
 .seq (
 .seq (.ops (O 29 (.mv 12) ::
 O 30 (.mv 10) ::
 O 31 (.bin .lss 29 30) ::
 [])) (
 .cond 31 (.skip) (.exit 0))) (c_r04_XOR_p6)
def c_r04_XOR_p12 : ACode :=
 .seq (.ops (O 70 (.mv 11) ::
 O 71 (.b2s 70) ::
 O 8 (.mv 71) ::
 O 9 (.mv (I 0)) ::
 [])) (
 .ret)
def c_r04_XOR_p4 : ACode :=
 .seq (.ops (O 11 (.mv (.c (.nils))) ::
 [])) (
 .seq (
 .seq (.ops (O 12 (.mv (I 0)) ::
 [])) (
 .block 0 (
 .loop (c_r04_XOR_p5)))) (c_r04_XOR_p12))
def c_r04_XOR_p2 : ACode :=
 .seq (.ops (O 20 (.mv 3) ::
 O 21 (.lenT 20) ::
 O 22 (.bin .add 21 (I 63)) ::
 O 23 (.bin .quo 22 (I 64)) ::
 O 10 (.mv 23) ::
 [])) (
 .seq (
 .seq (.ops (O 24 (.mv 10) ::
 O 25 (.bin .sub 24 (I 1)) ::
 O 26 (.mv 2) ::
 O 27 (.bin .sub (I 4294967295) 26) ::
 O 28 (.bin .gtr 25 27) ::
 [])) (
 .cond 28 (c_r04_XOR_p3) (.skip))) (c_r04_XOR_p4))
def c_r04_XOR : AFunc := ⟨72, (
 .seq (.ops (O 8 (.mv (.c (.str (bytesOf [])))) ::
 O 9 (.mv (I 0)) ::
 [])) (
 .seq (
 .seq (.ops (O 15 (.mv 0) ::
 O 16 (.mv 1) ::
 O 17 (.mv 2) ::
 C 18 123 [15, 16, 17] ::
 c_r04_XOR_p0)) (
 .cond 19 (c_r04_XOR_p1) (.skip))) (c_r04_XOR_p2))), [.t 8, .t 9]⟩
theorem is_r04_XOR : IsFun Go.Proofs.Tryz.prog f_r04_XOR c_r04_XOR := cFunc_is (obj := false) (by kernel_rfl)

abbrev f_r10_Inflate : Nat := 70
def c_r10_Inflate_p0 : List AOper :=
 O 7 (.mv 10) ::
 []
def c_r10_Inflate_p1 : ACode :=
 .seq (.ops (O 16 (.mv 7) ::
 O 17 (.nilck 16) ::
 O 18 (.faddr 3 17) ::
 O 19 (.load 1 false 18) ::
 O 4 (.mv (.c (.str (bytesOf [])))) ::
 O 5 (.mv (I 0)) ::
 O 6 (.mv 19) ::
 [])) (
 .ret)
def c_r10_Inflate_p2 : ACode :=
 .seq (.ops (O 20 (.mv 7) ::
 O 21 (.nilck 20) ::
 O 22 (.faddr 1 21) ::
 O 23 (.load 1 false 22) ::
 O 24 (.b2s 23) ::
 O 25 (.mv 7) ::
 O 26 (.nilck 25) ::
 O 27 (.faddr 0 26) ::
 O 28 (.load 1 false 27) ::
 O 29 (.nilck 28) ::
 O 30 (.faddr 1 29) ::
 O 31 (.load 1 false 30) ::
 O 32 (.bin .add 31 (I 7)) ::
 O 33 (.bin .quo 32 (I 8)) ::
 O 4 (.mv 24) ::
 O 5 (.mv 33) ::
 O 6 (.mv (I 0)) ::
 [])) (
 .ret)
def c_r10_Inflate : AFunc := ⟨34, (
 .seq (.ops (O 4 (.mv (.c (.str (bytesOf [])))) ::
 O 5 (.mv (I 0)) ::
 O 6 (.mv (I 0)) ::
 [])) (
 .seq (.ops (O 8 (.mv 0) ::
 O 9 (.mv 1) ::
 C 10 125 [8, 9] ::
 c_r10_Inflate_p0)) (
 .seq (
 .seq (.ops (O 11 (.mv 7) ::
 O 12 (.nilck 11) ::
 O 13 (.faddr 3 12) ::
 O 14 (.load 1 false 13) ::
 O 15 (.bin .neq 14 (I 0)) ::
 [])) (
 .cond 15 (c_r10_Inflate_p1) (.skip))) (c_r10_Inflate_p2)))), [.t 4, .t 5, .t 6]⟩
theorem is_r10_Inflate : IsFun Go.Proofs.Tryz.prog f_r10_Inflate c_r10_Inflate := cFunc_is (obj := false) (by kernel_rfl)

abbrev f_r12_Take : Nat := 71
def c_r12_Take_p0 : List AOper :=
 O 15 (.mv 17) ::
 O 18 (.ext 15 0) ::
 O 19 (.ext 15 1) ::
 O 20 (.ext 15 2) ::
 O 4 (.mv 18) ::
 O 5 (.mv 19) ::
 O 6 (.mv 20) ::
 []
def c_r12_Take_p1 : ACode :=
 .seq (.ops (O 23 (.mv 6) ::
 O 2 (.mv (.c (.nils))) ::
 O 3 (.mv 23) ::
 [])) (
 .ret)
def c_r12_Take_p3 : ACode :=
 .seq (.ops (O 2 (.mv (.c (.nils))) ::
 O 3 (.mv (I 3)) ::
 [])) (
 .ret)
def c_r12_Take_p7 : List AOper :=
 O 31 (.mv 33) ::
 O 34 (.ext 31 0) ::
 O 35 (.ext 31 1) ::
 O 36 (.ext 31 2) ::
 O 9 (.mv 34) ::
 O 10 (.mv 35) ::
 O 11 (.mv 36) ::
 []
def c_r12_Take_p8 : ACode :=
 .seq (.ops (O 39 (.mv 11) ::
 O 2 (.mv (.c (.nils))) ::
 O 3 (.mv 39) ::
 [])) (
 .ret)
def c_r12_Take_p10 : List AOper :=
 O 40 (.mv 42) ::
 O 43 (.ext 40 0) ::
 O 44 (.ext 40 1) ::
 O 45 (.ext 40 2) ::
 O 12 (.mv 43) ::
 O 13 (.mv 44) ::
 O 14 (.mv 45) ::
 []
def c_r12_Take_p11 : ACode :=
 .seq (.ops (O 48 (.mv 14) ::
 O 2 (.mv (.c (.nils))) ::
 O 3 (.mv 48) ::
 [])) (
 .ret)
def c_r12_Take_p13 : List AOper :=
 O 51 (.un .not 50) ::
 []
def c_r12_Take_p14 : ACode :=
 .seq (.ops (O 2 (.mv (.c (.nils))) ::
 O 3 (.mv (I 5)) ::
 [])) (
 .ret)
def c_r12_Take_p17 : List AOper :=
 OT 54 63 (.bin .geq 62 (I 0)) ::
 O 64 (.pick 54 63 (.c (.bool false))) ::
 []
def c_r12_Take_p16 : List AOper :=
 OT 54 55 (.mv 7) ::
 OT 54 56 (.mv 8) ::
 OT 54 57 (.bin .sub 56 (I 1)) ::
 OT 54 58 (.iadS 2 55 57) ::
 OT 54 59 (.faddr 0 58) ::
 OT 54 60 (.load 1 false 59) ::
 OT 54 61 (.mv 9) ::
 CT 54 62 129 [60, 61] ::
 c_r12_Take_p17
def c_r12_Take_p18 : ACode :=
 .seq (.ops (O 2 (.mv (.c (.nils))) ::
 O 3 (.mv (I 2)) ::
 [])) (
 .ret)
def c_r12_Take_p19 : ACode :=
 .seq (.ops (O 65 (.mv 7) ::
 O 66 (.mv 9) ::
 O 67 (.mv 12) ::
 O 68 (.build [.str (bytesOf []), .str (bytesOf [])] [(0, 1, 66), (1, 1, 67)]) ::
 O 69 (.lit false 61 1 2 [.str (bytesOf []), .str (bytesOf [])] [(0, 2, 68)]) ::
 O 70 (.app 61 2 32 65 69) ::
 O 7 (.mv 70) ::
 [])) (.ops (O 71 (.mv 13) ::
 O 5 (.mv 71) ::
 []))
def c_r12_Take_p15 : ACode :=
 .seq (
 .seq (.ops (O 52 (.mv 8) ::
 O 53 (.bin .gtr 52 (I 0)) ::
 O 54 (.mv 53) ::
 c_r12_Take_p16)) (
 .cond 64 (c_r12_Take_p18) (.skip))) (c_r12_Take_p19)
def c_r12_Take_p12 : ACode :=
 .seq (
 .seq (.ops (O 49 (.mv 9) ::
 C 50 128 [49] ::
 c_r12_Take_p13)) (
 .cond 51 (c_r12_Take_p14) (.skip))) (c_r12_Take_p15)
def c_r12_Take_p9 : ACode :=
 .seq (.ops (O 41 (.mv 10) ::
 C 42 127 [41, (I 1048576)] ::
 c_r12_Take_p10)) (
 .seq (
 .seq (.ops (O 46 (.mv 14) ::
 O 47 (.bin .neq 46 (I 0)) ::
 [])) (
 .cond 47 (c_r12_Take_p11) (.skip))) (c_r12_Take_p12))
def c_r12_Take_p20 : ACode :=
 .ops (
 O 29 (.mv 8) ::
 O 30 (.bin .add 29 (I 1)) ::
 O 8 (.mv 30) ::
 [])
def c_r12_Take_p6 : ACode :=
 .seq (
 .block 1 (
 .seq (.ops (O 32 (.mv 5) ::
 C 33 127 [32, (I 4096)] ::
 c_r12_Take_p7)) (
 .seq (
 .seq (.ops (O 37 (.mv 11) ::
 O 38 (.bin .neq 37 (I 0)) ::
 [])) (
 .cond 38 (c_r12_Take_p8) (.skip))) (c_r12_Take_p9)))) (c_r12_Take_p20)
def c_r12_Take_p5 : ACode :=
 .seq (
 .seq (.ops (O 26 (.mv 8) ::
 O 27 (.mv 4) ::
 O 28 (.bin .lss 26 27) ::
 [])) (
 .cond 28 (.skip) (.exit 0))) (c_r12_Take_p6)
def c_r12_Take_p22 : ACode :=
 .seq (.ops (O 2 (.mv (.c (.nils))) ::
 O 3 (.mv (I 2)) ::
 [])) (
 .ret)
def c_r12_Take_p24 : List AOper :=
 O 6 (.mv 76) ::
 []
def c_r12_Take_p25 : ACode :=
 .seq (.ops (O 79 (.mv 6) ::
 O 2 (.mv (.c (.nils))) ::
 O 3 (.mv 79) ::
 [])) (
 .ret)
def c_r12_Take_p26 : ACode :=
 .seq (.ops (O 80 (.mv 7) ::
 O 2 (.mv 80) ::
 O 3 (.mv (I 0)) ::
 [])) (
 .ret)
def c_r12_Take_p23 : ACode :=
 .seq (.ops (O 75 (.mv 7) ::
 C 76 130 [75] ::
 c_r12_Take_p24)) (
 .seq (
 .seq (.ops (O 77 (.mv 6) ::
 O 78 (.bin .neq 77 (I 0)) ::
 [])) (
 .cond 78 (c_r12_Take_p25) (.skip))) (c_r12_Take_p26))
def c_r12_Take_p21 : ACode :=
 .seq (
 .seq (.ops (O 72 (.mv 5) ::
 O 73 (.lenT 72) ::
 O 74 (.bin .gtr 73 (I 0)) ::
 [])) (
 .cond 74 (c_r12_Take_p22) (.skip))) (c_r12_Take_p23)
def c_r12_Take_p4 : ACode :=
 .seq (.ops (O 7 (.mv (.c (.nils))) ::
 [])) (
 .seq (
 .seq (.ops (O 8 (.mv (I 0)) ::
 [])) (
 .block 0 (
 .loop (c_r12_Take_p5)))) (c_r12_Take_p21))
def c_r12_Take_p2 : ACode :=
 .seq (
 .seq (.ops (O 24 (.mv 4) ::
 O 25 (.bin .gtr 24 (I 64)) ::
 [])) (
 .cond 25 (c_r12_Take_p3) (.skip))) (c_r12_Take_p4)
def c_r12_Take : AFunc := ⟨81, (
 .seq (.ops (O 2 (.mv (.c (.nils))) ::
 O 3 (.mv (I 0)) ::
 [])) (
 .seq (.ops (O 16 (.mv 0) ::
 C 17 126 [16] ::
 c_r12_Take_p0)) (
 .seq (
 .seq (.ops (O 21 (.mv 6) ::
 O 22 (.bin .neq 21 (I 0)) ::
 [])) (
 .cond 22 (c_r12_Take_p1) (.skip))) (c_r12_Take_p2)))), [.t 2, .t 3]⟩
theorem is_r12_Take : IsFun Go.Proofs.Tryz.prog f_r12_Take c_r12_Take := cFunc_is (obj := false) (by kernel_rfl)

abbrev f_header_Check : Nat := 72
def c_header_Check_p3 : List AOper :=
 OF 24 25 (.faddr 6 1) ::
 OF 24 26 (.load 1 false 25) ::
 OF 24 27 (.lenT 26) ::
 OF 24 28 (.bin .neq 27 (I 32)) ::
 O 29 (.pick 24 (.c (.bool true)) 28) ::
 O 3 (.mv 29) ::
 []
def c_header_Check_p2 : List AOper :=
 OF 18 19 (.faddr 5 1) ::
 OF 18 20 (.load 1 false 19) ::
 OF 18 21 (.lenT 20) ::
 OF 18 22 (.bin .neq 21 (I 32)) ::
 O 23 (.pick 18 (.c (.bool true)) 22) ::
 O 24 (.mv 23) ::
 c_header_Check_p3
def c_header_Check_p1 : List AOper :=
 OF 12 13 (.faddr 1 1) ::
 OF 12 14 (.load 1 false 13) ::
 OF 12 15 (.lenT 14) ::
 OF 12 16 (.bin .neq 15 (I 16)) ::
 O 17 (.pick 12 (.c (.bool true)) 16) ::
 O 18 (.mv 17) ::
 c_header_Check_p2
def c_header_Check_p0 : List AOper :=
 OF 7 8 (.faddr 0 1) ::
 OF 7 9 (.load 1 false 8) ::
 OF 7 10 (.bin .gtr 9 (I 4294967295)) ::
 O 11 (.pick 7 (.c (.bool true)) 10) ::
 O 12 (.mv 11) ::
 c_header_Check_p1
def c_header_Check_p4 : ACode :=
 .seq (.ops (O 2 (.mv (I 1)) ::
 [])) (
 .ret)
def c_header_Check_p9 : List AOper :=
 OF 54 55 (.faddr 4 1) ::
 OF 54 56 (.load 1 false 55) ::
 OF 54 57 (.bin .gtr 56 (I 134217728)) ::
 O 58 (.pick 54 (.c (.bool true)) 57) ::
 O 30 (.mv 58) ::
 []
def c_header_Check_p8 : List AOper :=
 OF 49 50 (.faddr 4 1) ::
 OF 49 51 (.load 1 false 50) ::
 OF 49 52 (.bin .lss 51 (I 1)) ::
 O 53 (.pick 49 (.c (.bool true)) 52) ::
 O 54 (.mv 53) ::
 c_header_Check_p9
def c_header_Check_p7 : List AOper :=
 OF 39 40 (.faddr 2 1) ::
 OF 39 41 (.load 1 false 40) ::
 OF 39 42 (.faddr 3 1) ::
 OF 39 43 (.load 1 false 42) ::
 OF 39 44 (.bin .add 43 (I 192)) ::
 OF 39 45 (.bin .sub 44 (I 1)) ::
 OF 39 46 (.bin .quo 45 (I 192)) ::
 OF 39 47 (.bin .neq 41 46) ::
 O 48 (.pick 39 (.c (.bool true)) 47) ::
 O 49 (.mv 48) ::
 c_header_Check_p8
def c_header_Check_p6 : List AOper :=
 OF 34 35 (.faddr 3 1) ::
 OF 34 36 (.load 1 false 35) ::
 OF 34 37 (.bin .gtr 36 (I 49152)) ::
 O 38 (.pick 34 (.c (.bool true)) 37) ::
 O 39 (.mv 38) ::
 c_header_Check_p7
def c_header_Check_p10 : ACode :=
 .seq (.ops (O 2 (.mv (I 1)) ::
 [])) (
 .ret)
def c_header_Check_p5 : ACode :=
 .seq (.ops (O 31 (.faddr 3 1) ::
 O 32 (.load 1 false 31) ::
 O 33 (.bin .lss 32 (I 1)) ::
 O 34 (.mv 33) ::
 c_header_Check_p6)) (
 .cond 30 (c_header_Check_p10) (.skip))
def c_header_Check_p11 : ACode :=
 .seq (.ops (O 2 (.mv (I 0)) ::
 [])) (
 .ret)
def c_header_Check : AFunc := ⟨59, (
 .seq (.ops (O 1 (.box 23 0) ::
 O 2 (.mv (I 0)) ::
 [])) (
 .seq (
 .block 0 (
 .seq (.ops (O 4 (.faddr 0 1) ::
 O 5 (.load 1 false 4) ::
 O 6 (.bin .lss 5 (I 1)) ::
 O 7 (.mv 6) ::
 c_header_Check_p0)) (
 .cond 3 (c_header_Check_p4) (c_header_Check_p5)))) (c_header_Check_p11))), [.t 2]⟩
theorem is_header_Check : IsFun Go.Proofs.Tryz.prog f_header_Check c_header_Check := cFunc_is (obj := false) (by kernel_rfl)

abbrev f_mac_Tag : Nat := 73
def c_mac_Tag_p0 : List AOper :=
 O 5 (.mv 8) ::
 []
def c_mac_Tag_p1 : List AOper :=
 C 12 132 [9, 11] ::
 []
def c_mac_Tag_p3 : ACode :=
 .seq (
 .block 1 (
 .seq (.ops (O 17 (.iadS 1 13 15) ::
 O 18 (.load 1 false 17) ::
 O 7 (.mv 18) ::
 [])) (.ops (O 19 (.mv 5) ::
 O 20 (.mv 7) ::
 C 21 132 [19, 20] ::
 [])))) (.ops (O 22 (.bin .add 15 (I 1)) ::
 O 15 (.mv 22) ::
 []))
def c_mac_Tag_p2 : ACode :=
 .seq (.ops (O 16 (.bin .lss 15 14) ::
 [])) (
 .seq (
 .cond 16 (.skip) (.exit 0)) (c_mac_Tag_p3))
def c_mac_Tag_p7 : List AOper :=
 O 4 (.mv 28) ::
 []
def c_mac_Tag_p6 : List AOper :=
 O 27 (.lit false 9 2 1 [.str (bytesOf [])] [(0, 1, 24), (1, 1, 26)]) ::
 C 28 134 [27] ::
 c_mac_Tag_p7
def c_mac_Tag_p5 : List AOper :=
 O 25 (.mv 5) ::
 C 26 135 [25] ::
 c_mac_Tag_p6
def c_mac_Tag_p4 : ACode :=
 .seq (.ops (O 23 (.mv 0) ::
 C 24 133 [23, (U8 92)] ::
 c_mac_Tag_p5)) (
 .ret)
def c_mac_Tag : AFunc := ⟨29, (
 .seq (.ops (O 4 (.mv (.c (.str (bytesOf [])))) ::
 [])) (
 .seq (.ops (C 8 131 [] ::
 c_mac_Tag_p0)) (
 .seq (.ops (O 9 (.mv 5) ::
 O 10 (.mv 0) ::
 C 11 133 [10, (U8 54)] ::
 c_mac_Tag_p1)) (
 .seq (
 .seq (.ops (O 13 (.mv 1) ::
 O 14 (.lenS 13) ::
 O 15 (.mv (I 0)) ::
 [])) (
 .block 0 (
 .loop (c_mac_Tag_p2)))) (c_mac_Tag_p4))))), [.t 4]⟩
theorem is_mac_Tag : IsFun Go.Proofs.Tryz.prog f_mac_Tag c_mac_Tag := cFunc_is (obj := false) (by kernel_rfl)

abbrev f_header_fields : Nat := 74
def c_header_fields_p4 : List (AOper × List Nat) :=
 (O 21 (.bin .add 17 20), []) ::
 (O 22 (.faddr 5 1), []) ::
 (O 23 (.load 1 false 22), [2, 9, 13, 17]) ::
 (O 24 (.bin .add 21 23), []) ::
 (O 2 (.mv 24), []) ::
 []
def c_header_fields_p3 : List (AOper × List Nat) :=
 (O 17 (.bin .add 13 16), []) ::
 (O 18 (.faddr 4 1), []) ::
 (O 19 (.load 1 false 18), [2, 9, 13]) ::
 (C 20 99 [19, (I 4)], [5]) ::
 c_header_fields_p4
def c_header_fields_p2 : List (AOper × List Nat) :=
 (O 13 (.bin .add 9 12), []) ::
 (O 14 (.faddr 3 1), []) ::
 (O 15 (.load 1 false 14), [2, 9]) ::
 (C 16 99 [15, (I 4)], [5]) ::
 c_header_fields_p3
def c_header_fields_p1 : List (AOper × List Nat) :=
 (O 6 (.bin .add (.c (.str (bytesOf [83, 76, 71, 49]))) 5), []) ::
 (O 7 (.faddr 1 1), []) ::
 (O 8 (.load 1 false 7), [2]) ::
 (O 9 (.bin .add 6 8), []) ::
 (O 10 (.faddr 2 1), []) ::
 (O 11 (.load 1 false 10), [2]) ::
 (C 12 99 [11, (I 2)], [5]) ::
 c_header_fields_p2
def c_header_fields_p0 : List (AOper × List Nat) :=
 (O 3 (.faddr 0 1), []) ::
 (O 4 (.load 1 false 3), []) ::
 (C 5 99 [4, (I 4)], []) ::
 c_header_fields_p1
def c_header_fields_p0a : List AOper := fstsOf c_header_fields_p0
def c_header_fields : AFunc := ⟨25, (
 .seq (.ops (O 1 (.box 23 0) ::
 O 2 (.mv (.c (.str (bytesOf [])))) ::
 [])) (
 .seq (
 .draw c_header_fields_p0a c_header_fields_p0) (
 .ret))), [.t 2]⟩
theorem is_header_fields : IsFun Go.Proofs.Tryz.prog f_header_fields c_header_fields := cFunc_is (obj := false) (by kernel_rfl)

abbrev f_merkle_Leaf : Nat := 75
def c_merkle_Leaf_p0 : List AOper :=
 O 4 (.mv 8) ::
 []
def c_merkle_Leaf : AFunc := ⟨9, (
 .seq (.ops (O 4 (.mv (.c (.str (bytesOf [])))) ::
 [])) (
 .seq (.ops (O 5 (.mv 0) ::
 O 6 (.mv 1) ::
 O 7 (.lit false 9 2 1 [.str (bytesOf [])] [(0, 1, (.c (.str (bytesOf [0])))), (1, 1, 6)]) ::
 C 8 136 [5, 7] ::
 c_merkle_Leaf_p0)) (
 .ret))), [.t 4]⟩
theorem is_merkle_Leaf : IsFun Go.Proofs.Tryz.prog f_merkle_Leaf c_merkle_Leaf := cFunc_is (obj := false) (by kernel_rfl)

abbrev f_merkle_Root : Nat := 76
def c_merkle_Root_p1 : List AOper :=
 O 4 (.mv 11) ::
 []
def c_merkle_Root_p0 : ACode :=
 .seq (.ops (O 10 (.mv 0) ::
 C 11 136 [10, (.c (.nils))] ::
 c_merkle_Root_p1)) (
 .ret)
def c_merkle_Root_p3 : ACode :=
 .seq (.ops (O 14 (.mv 1) ::
 O 15 (.iadS 1 14 (I 0)) ::
 O 16 (.load 1 false 15) ::
 O 4 (.mv 16) ::
 [])) (
 .ret)
def c_merkle_Root_p2 : ACode :=
 .seq (.ops (O 13 (.bin .eql 7 (I 1)) ::
 O 12 (.mv 13) ::
 [])) (
 .cond 12 (c_merkle_Root_p3) (.skip))
def c_merkle_Root_p5 : List AOper :=
 O 5 (.mv 19) ::
 []
def c_merkle_Root_p8 : List AOper :=
 O 4 (.mv 31) ::
 []
def c_merkle_Root_p7 : List AOper :=
 C 31 138 [20, 25, 30] ::
 c_merkle_Root_p8
def c_merkle_Root_p6 : List AOper :=
 O 26 (.mv 0) ::
 O 27 (.mv 1) ::
 O 28 (.mv 5) ::
 O 29 (.sliceS 1 27 (some 28) none) ::
 C 30 76 [26, 29] ::
 c_merkle_Root_p7
def c_merkle_Root_p4 : ACode :=
 .seq (.ops (O 17 (.mv 1) ::
 O 18 (.lenS 17) ::
 C 19 137 [18] ::
 c_merkle_Root_p5)) (
 .seq (.ops (O 20 (.mv 0) ::
 O 21 (.mv 0) ::
 O 22 (.mv 1) ::
 O 23 (.mv 5) ::
 O 24 (.sliceS 1 22 none (some 23)) ::
 C 25 76 [21, 24] ::
 c_merkle_Root_p6)) (
 .ret))
def c_merkle_Root : AFunc := ⟨32, (
 .seq (.ops (O 4 (.mv (.c (.str (bytesOf [])))) ::
 [])) (
 .seq (
 .seq (.ops (O 6 (.mv 1) ::
 O 7 (.lenS 6) ::
 [])) (
 .block 0 (
 .seq (.ops (O 9 (.bin .eql 7 (I 0)) ::
 O 8 (.mv 9) ::
 [])) (
 .cond 8 (c_merkle_Root_p0) (c_merkle_Root_p2))))) (c_merkle_Root_p4))), [.t 4]⟩
theorem is_merkle_Root : IsFun Go.Proofs.Tryz.prog f_merkle_Root c_merkle_Root := cFunc_is (obj := false) (by kernel_rfl)

abbrev f_r18_May : Nat := 77
def c_r18_May_p3 : List AOper :=
 OF 24 25 (.faddr 6 1) ::
 OF 24 26 (.load 1 false 25) ::
 OF 24 27 (.lenT 26) ::
 OF 24 28 (.bin .neq 27 (I 32)) ::
 O 29 (.pick 24 (.c (.bool true)) 28) ::
 []
def c_r18_May_p2 : List AOper :=
 OF 18 19 (.faddr 5 1) ::
 OF 18 20 (.load 1 false 19) ::
 OF 18 21 (.lenT 20) ::
 OF 18 22 (.bin .neq 21 (I 32)) ::
 O 23 (.pick 18 (.c (.bool true)) 22) ::
 O 24 (.mv 23) ::
 c_r18_May_p3
def c_r18_May_p1 : List AOper :=
 OF 12 13 (.faddr 1 1) ::
 OF 12 14 (.load 1 false 13) ::
 OF 12 15 (.lenT 14) ::
 OF 12 16 (.bin .neq 15 (I 16)) ::
 O 17 (.pick 12 (.c (.bool true)) 16) ::
 O 18 (.mv 17) ::
 c_r18_May_p2
def c_r18_May_p0 : List AOper :=
 OF 7 8 (.faddr 0 1) ::
 OF 7 9 (.load 1 false 8) ::
 OF 7 10 (.bin .gtr 9 (I 4294967295)) ::
 O 11 (.pick 7 (.c (.bool true)) 10) ::
 O 12 (.mv 11) ::
 c_r18_May_p1
def c_r18_May_p4 : ACode :=
 .seq (.ops (O 2 (.mv (.c (.bool false))) ::
 [])) (
 .ret)
def c_r18_May_p8 : List AOper :=
 OF 43 44 (.faddr 4 1) ::
 OF 43 45 (.load 1 false 44) ::
 OF 43 46 (.bin .gtr 45 (I 134217728)) ::
 O 47 (.pick 43 (.c (.bool true)) 46) ::
 []
def c_r18_May_p7 : List AOper :=
 OF 38 39 (.faddr 4 1) ::
 OF 38 40 (.load 1 false 39) ::
 OF 38 41 (.bin .lss 40 (I 1)) ::
 O 42 (.pick 38 (.c (.bool true)) 41) ::
 O 43 (.mv 42) ::
 c_r18_May_p8
def c_r18_May_p6 : List AOper :=
 OF 33 34 (.faddr 3 1) ::
 OF 33 35 (.load 1 false 34) ::
 OF 33 36 (.bin .gtr 35 (I 49152)) ::
 O 37 (.pick 33 (.c (.bool true)) 36) ::
 O 38 (.mv 37) ::
 c_r18_May_p7
def c_r18_May_p9 : ACode :=
 .seq (.ops (O 2 (.mv (.c (.bool false))) ::
 [])) (
 .ret)
def c_r18_May_p11 : ACode :=
 .ops (
 O 55 (.mv 3) ::
 O 56 (.bin .add 55 (I 1)) ::
 O 3 (.mv 56) ::
 [])
def c_r18_May_p12 : ACode :=
 .seq (.ops (O 57 (.faddr 2 1) ::
 O 58 (.load 1 false 57) ::
 O 59 (.mv 3) ::
 O 60 (.bin .eql 58 59) ::
 O 2 (.mv 60) ::
 [])) (
 .ret)
def c_r18_May_p10 : ACode :=
 .seq (.ops (O 48 (.faddr 3 1) ::
 O 49 (.load 1 false 48) ::
 O 50 (.bin .quo 49 (I 192)) ::
 O 3 (.mv 50) ::
 [])) (
 .seq (
 .seq (.ops (O 51 (.faddr 3 1) ::
 O 52 (.load 1 false 51) ::
 O 53 (.bin .rem 52 (I 192)) ::
 O 54 (.bin .gtr 53 (I 0)) ::
 [])) (
 .cond 54 (c_r18_May_p11) (.skip))) (c_r18_May_p12))
def c_r18_May_p5 : ACode :=
 .seq (
 .seq (.ops (O 30 (.faddr 3 1) ::
 O 31 (.load 1 false 30) ::
 O 32 (.bin .lss 31 (I 1)) ::
 O 33 (.mv 32) ::
 c_r18_May_p6)) (
 .cond 47 (c_r18_May_p9) (.skip))) (c_r18_May_p10)
def c_r18_May : AFunc := ⟨61, (
 .seq (.ops (O 1 (.box 23 0) ::
 O 2 (.mv (.c (.bool false))) ::
 [])) (
 .seq (
 .seq (.ops (O 4 (.faddr 0 1) ::
 O 5 (.load 1 false 4) ::
 O 6 (.bin .lss 5 (I 1)) ::
 O 7 (.mv 6) ::
 c_r18_May_p0)) (
 .cond 29 (c_r18_May_p4) (.skip))) (c_r18_May_p5))), [.t 2]⟩
theorem is_r18_May : IsFun Go.Proofs.Tryz.prog f_r18_May c_r18_May := cFunc_is (obj := false) (by kernel_rfl)

abbrev f_r15_Leaf : Nat := 78
def c_r15_Leaf_p0 : List AOper :=
 O 4 (.mv 8) ::
 []
def c_r15_Leaf : AFunc := ⟨9, (
 .seq (.ops (O 4 (.mv (.c (.str (bytesOf [])))) ::
 [])) (
 .seq (.ops (O 5 (.mv 0) ::
 O 6 (.mv 1) ::
 O 7 (.bin .add (.c (.str (bytesOf [0]))) 6) ::
 C 8 54 [5, 7] ::
 c_r15_Leaf_p0)) (
 .ret))), [.t 4]⟩
theorem is_r15_Leaf : IsFun Go.Proofs.Tryz.prog f_r15_Leaf c_r15_Leaf := cFunc_is (obj := false) (by kernel_rfl)

abbrev f_r15_Root : Nat := 79
def c_r15_Root_p1 : List AOper :=
 O 4 (.mv 10) ::
 []
def c_r15_Root_p0 : ACode :=
 .seq (.ops (O 9 (.mv 0) ::
 C 10 54 [9, (.c (.str (bytesOf [])))] ::
 c_r15_Root_p1)) (
 .ret)
def c_r15_Root_p3 : ACode :=
 .seq (.ops (O 14 (.mv 1) ::
 O 15 (.iadS 1 14 (I 0)) ::
 O 16 (.load 1 false 15) ::
 O 4 (.mv 16) ::
 [])) (
 .ret)
def c_r15_Root_p5 : List AOper :=
 O 5 (.mv 19) ::
 []
def c_r15_Root_p8 : List AOper :=
 O 4 (.mv 31) ::
 []
def c_r15_Root_p7 : List AOper :=
 C 31 139 [20, 25, 30] ::
 c_r15_Root_p8
def c_r15_Root_p6 : List AOper :=
 O 26 (.mv 0) ::
 O 27 (.mv 1) ::
 O 28 (.mv 5) ::
 O 29 (.sliceS 1 27 (some 28) none) ::
 C 30 79 [26, 29] ::
 c_r15_Root_p7
def c_r15_Root_p4 : ACode :=
 .seq (.ops (O 17 (.mv 1) ::
 O 18 (.lenS 17) ::
 C 19 55 [18] ::
 c_r15_Root_p5)) (
 .seq (.ops (O 20 (.mv 0) ::
 O 21 (.mv 0) ::
 O 22 (.mv 1) ::
 O 23 (.mv 5) ::
 O 24 (.sliceS 1 22 none (some 23)) ::
 C 25 79 [21, 24] ::
 c_r15_Root_p6)) (
 .ret))
def c_r15_Root_p2 : ACode :=
 .seq (
 .seq (.ops (O 11 (.mv 1) ::
 O 12 (.lenS 11) ::
 O 13 (.bin .eql 12 (I 1)) ::
 [])) (
 .cond 13 (c_r15_Root_p3) (.skip))) (c_r15_Root_p4)
def c_r15_Root : AFunc := ⟨32, (
 .seq (.ops (O 4 (.mv (.c (.str (bytesOf [])))) ::
 [])) (
 .seq (
 .seq (.ops (O 6 (.mv 1) ::
 O 7 (.lenS 6) ::
 O 8 (.bin .eql 7 (I 0)) ::
 [])) (
 .cond 8 (c_r15_Root_p0) (.skip))) (c_r15_Root_p2))), [.t 4]⟩
theorem is_r15_Root : IsFun Go.Proofs.Tryz.prog f_r15_Root c_r15_Root := cFunc_is (obj := false) (by kernel_rfl)

abbrev f_strings_Builder_Grow : Nat := 80
def c_strings_Builder_Grow_p1 : List AOper :=
 ⟨none, .bad, none⟩ ::
 []
def c_strings_Builder_Grow_p0 : ACode :=
 .ops (
 ⟨(some 8), .bad, none⟩ ::
 c_strings_Builder_Grow_p1)
def c_strings_Builder_Grow_p3 : ACode :=
 .ops (
 O 22 (.mv 0) ::
 O 23 (.mv 1) ::
 C 24 141 [22, 23] ::
 [])
def c_strings_Builder_Grow_p2 : ACode :=
 .seq (.ops (O 9 (.mv 0) ::
 O 10 (.nilck 9) ::
 O 11 (.faddr 1 10) ::
 O 12 (.load 1 false 11) ::
 O 13 (.capS 12) ::
 O 14 (.mv 0) ::
 O 15 (.nilck 14) ::
 O 16 (.faddr 1 15) ::
 O 17 (.load 1 false 16) ::
 O 18 (.lenS 17) ::
 O 19 (.bin .sub 13 18) ::
 O 20 (.mv 1) ::
 O 21 (.bin .lss 19 20) ::
 [])) (
 .cond 21 (c_strings_Builder_Grow_p3) (.skip))
def c_strings_Builder_Grow : AFunc := ⟨25, (
 .seq (.ops (O 4 (.mv 0) ::
 C 5 140 [4] ::
 [])) (
 .seq (
 .seq (.ops (O 6 (.mv 1) ::
 O 7 (.bin .lss 6 (I 0)) ::
 [])) (
 .cond 7 (c_strings_Builder_Grow_p0) (.skip))) (c_strings_Builder_Grow_p2))), []⟩
theorem is_strings_Builder_Grow : IsFun Go.Proofs.Tryz.prog f_strings_Builder_Grow c_strings_Builder_Grow := cFunc_is (obj := false) (by kernel_rfl)

abbrev f_strings_Builder_WriteString : Nat := 81
def c_strings_Builder_WriteString : AFunc := ⟨19, (
 .seq (.ops (O 4 (.mv (I 0)) ::
 ⟨(some 5), .bad, none⟩ ::
 [])) (
 .seq (.ops (O 6 (.mv 0) ::
 C 7 140 [6] ::
 [])) (
 .seq (.ops (O 8 (.mv 0) ::
 O 9 (.mv 0) ::
 O 10 (.nilck 9) ::
 O 11 (.faddr 1 10) ::
 O 12 (.load 1 false 11) ::
 O 13 (.mv 1) ::
 O 14 (.app 5 1 1 12 13) ::
 O 15 (.nilck 8) ::
 O 16 (.faddr 1 15) ::
 S (.store 1 16 14) ::
 [])) (
 .seq (.ops (O 17 (.mv 1) ::
 O 18 (.lenT 17) ::
 O 4 (.mv 18) ::
 ⟨(some 5), .bad, none⟩ ::
 [])) (
 .ret))))), [.t 4, .t 5]⟩
theorem is_strings_Builder_WriteString : IsFun Go.Proofs.Tryz.prog f_strings_Builder_WriteString c_strings_Builder_WriteString := cFunc_is (obj := false) (by kernel_rfl)

abbrev f_strings_Builder_String : Nat := 82
def c_strings_Builder_String_p2 : List (AOper × List Nat) :=
 (O 2 (.mv 13), []) ::
 []
def c_strings_Builder_String_p1 : List (AOper × List Nat) :=
 (O 8 (.mv 0), []) ::
 (O 9 (.nilck 8), []) ::
 (O 10 (.faddr 1 9), []) ::
 (O 11 (.load 1 false 10), [4]) ::
 (O 12 (.lenS 11), []) ::
 (⟨(some 13), .bad, none⟩, []) ::
 c_strings_Builder_String_p2
def c_strings_Builder_String_p0 : List (AOper × List Nat) :=
 (O 3 (.mv 0), []) ::
 (O 4 (.nilck 3), []) ::
 (O 5 (.faddr 1 4), []) ::
 (O 6 (.load 1 false 5), []) ::
 (⟨(some 7), .bad, none⟩, []) ::
 c_strings_Builder_String_p1
def c_strings_Builder_String_p0a : List AOper := fstsOf c_strings_Builder_String_p0
def c_strings_Builder_String : AFunc := ⟨14, (
 .seq (.ops (O 2 (.mv (.c (.str (bytesOf [])))) ::
 [])) (
 .seq (
 .draw c_strings_Builder_String_p0a c_strings_Builder_String_p0) (
 .ret))), [.t 2]⟩
theorem is_strings_Builder_String : IsFun Go.Proofs.Tryz.prog f_strings_Builder_String c_strings_Builder_String := cFunc_is (obj := false) (by kernel_rfl)

abbrev f_header_Take_fn1 : Nat := 83
def c_header_Take_fn1_p0 : List AOper :=
 O 7 (.mv 10) ::
 O 11 (.ext 7 0) ::
 O 12 (.ext 7 1) ::
 O 13 (.ext 7 2) ::
 O 4 (.mv 11) ::
 O 5 (.mv 12) ::
 O 6 (.mv 13) ::
 []
def c_header_Take_fn1 : AFunc := ⟨16, (
 .seq (.ops (O 3 (.mv (I 0)) ::
 [])) (
 .seq (.ops (O 8 (.load 1 false 1) ::
 O 9 (.mv 0) ::
 C 10 84 [8, 9] ::
 c_header_Take_fn1_p0)) (
 .seq (.ops (O 14 (.mv 5) ::
 S (.store 1 1 14) ::
 [])) (
 .seq (.ops (O 15 (.mv 4) ::
 O 3 (.mv 15) ::
 [])) (
 .ret))))), [.t 3]⟩
theorem is_header_Take_fn1 : IsFun Go.Proofs.Tryz.prog f_header_Take_fn1 c_header_Take_fn1 := cFunc_is (obj := false) (by kernel_rfl)

abbrev f_enc_Take : Nat := 84
def c_enc_Take_p0 : List AOper :=
 OF 13 14 (.mv 1) ::
 OF 13 15 (.bin .gtr 14 (I 8)) ::
 O 16 (.pick 13 (.c (.bool true)) 15) ::
 O 10 (.mv 16) ::
 []
def c_enc_Take_p1 : ACode :=
 .seq (.ops (O 4 (.mv (I 0)) ::
 O 5 (.mv (.c (.str (bytesOf [])))) ::
 O 6 (.mv (I 1)) ::
 [])) (
 .ret)
def c_enc_Take_p3 : ACode :=
 .seq (.ops (O 4 (.mv (I 0)) ::
 O 5 (.mv (.c (.str (bytesOf [])))) ::
 O 6 (.mv (I 2)) ::
 [])) (
 .ret)
def c_enc_Take_p2 : ACode :=
 .seq (.ops (O 18 (.mv 0) ::
 O 19 (.lenT 18) ::
 O 20 (.mv 1) ::
 O 21 (.bin .lss 19 20) ::
 O 17 (.mv 21) ::
 [])) (
 .cond 17 (c_enc_Take_p3) (.skip))
def c_enc_Take_p6 : ACode :=
 .seq (
 .block 2 (
 .seq (.ops (O 29 (.iadS 1 25 27) ::
 O 30 (.load 1 false 29) ::
 O 9 (.mv 30) ::
 [])) (.ops (O 31 (.mv 7) ::
 O 32 (.bin .shl 31 (U64 8)) ::
 O 33 (.mv 9) ::
 O 34 (.toInt .i64 33) ::
 O 35 (.bin .or 32 34) ::
 O 7 (.mv 35) ::
 [])))) (.ops (O 36 (.bin .add 27 (I 1)) ::
 O 27 (.mv 36) ::
 []))
def c_enc_Take_p5 : ACode :=
 .seq (.ops (O 28 (.bin .lss 27 26) ::
 [])) (
 .seq (
 .cond 28 (.skip) (.exit 1)) (c_enc_Take_p6))
def c_enc_Take_p7 : ACode :=
 .seq (.ops (O 37 (.mv 7) ::
 O 38 (.mv 0) ::
 O 39 (.mv 1) ::
 O 40 (.sliceT 38 (some 39) none) ::
 O 4 (.mv 37) ::
 O 5 (.mv 40) ::
 O 6 (.mv (I 0)) ::
 [])) (
 .ret)
def c_enc_Take_p4 : ACode :=
 .seq (.ops (O 7 (.mv (I 0)) ::
 [])) (
 .seq (
 .seq (.ops (O 22 (.mv 0) ::
 O 23 (.mv 1) ::
 O 24 (.sliceT 22 none (some 23)) ::
 O 25 (.s2b 5 24) ::
 O 26 (.lenS 25) ::
 O 27 (.mv (I 0)) ::
 [])) (
 .block 1 (
 .loop (c_enc_Take_p5)))) (c_enc_Take_p7))
def c_enc_Take : AFunc := ⟨41, (
 .seq (.ops (O 4 (.mv (I 0)) ::
 O 5 (.mv (.c (.str (bytesOf [])))) ::
 O 6 (.mv (I 0)) ::
 [])) (
 .seq (
 .block 0 (
 .seq (.ops (O 11 (.mv 1) ::
 O 12 (.bin .lss 11 (I 1)) ::
 O 13 (.mv 12) ::
 c_enc_Take_p0)) (
 .cond 10 (c_enc_Take_p1) (c_enc_Take_p2)))) (c_enc_Take_p4))), [.t 4, .t 5, .t 6]⟩
theorem is_enc_Take : IsFun Go.Proofs.Tryz.prog f_enc_Take c_enc_Take := cFunc_is (obj := false) (by kernel_rfl)

abbrev f_header_Take_fn2 : Nat := 85
def c_header_Take_fn2 : AFunc := ⟨12, (
 .seq (.ops (O 3 (.mv (.c (.str (bytesOf [])))) ::
 [])) (
 .seq (.ops (O 5 (.load 1 false 1) ::
 O 6 (.mv 0) ::
 O 7 (.sliceT 5 none (some 6)) ::
 O 4 (.mv 7) ::
 [])) (
 .seq (.ops (O 8 (.load 1 false 1) ::
 O 9 (.mv 0) ::
 O 10 (.sliceT 8 (some 9) none) ::
 S (.store 1 1 10) ::
 [])) (
 .seq (.ops (O 11 (.mv 4) ::
 O 3 (.mv 11) ::
 [])) (
 .ret))))), [.t 3]⟩
theorem is_header_Take_fn2 : IsFun Go.Proofs.Tryz.prog f_header_Take_fn2 c_header_Take_fn2 := cFunc_is (obj := false) (by kernel_rfl)

abbrev f_r01_Take : Nat := 86
def c_r01_Take_p0 : List AOper :=
 OF 9 10 (.mv 1) ::
 OF 9 11 (.bin .gtr 10 (I 8)) ::
 O 12 (.pick 9 (.c (.bool true)) 11) ::
 []
def c_r01_Take_p1 : ACode :=
 .seq (.ops (O 4 (.mv (I 0)) ::
 O 5 (.mv (.c (.str (bytesOf [])))) ::
 O 6 (.mv (I 1)) ::
 [])) (
 .ret)
def c_r01_Take_p3 : ACode :=
 .seq (.ops (O 4 (.mv (I 0)) ::
 O 5 (.mv (.c (.str (bytesOf [])))) ::
 O 6 (.mv (I 2)) ::
 [])) (
 .ret)
def c_r01_Take_p5 : List AOper :=
 O 21 (.mv 0) ::
 O 22 (.mv 1) ::
 O 23 (.sliceT 21 (some 22) none) ::
 O 4 (.mv 20) ::
 O 5 (.mv 23) ::
 O 6 (.mv (I 0)) ::
 []
def c_r01_Take_p4 : ACode :=
 .seq (.ops (O 17 (.mv 0) ::
 O 18 (.mv 1) ::
 O 19 (.sliceT 17 none (some 18)) ::
 C 20 142 [19] ::
 c_r01_Take_p5)) (
 .ret)
def c_r01_Take_p2 : ACode :=
 .seq (
 .seq (.ops (O 13 (.mv 0) ::
 O 14 (.lenT 13) ::
 O 15 (.mv 1) ::
 O 16 (.bin .lss 14 15) ::
 [])) (
 .cond 16 (c_r01_Take_p3) (.skip))) (c_r01_Take_p4)
def c_r01_Take : AFunc := ⟨24, (
 .seq (.ops (O 4 (.mv (I 0)) ::
 O 5 (.mv (.c (.str (bytesOf [])))) ::
 O 6 (.mv (I 0)) ::
 [])) (
 .seq (
 .seq (.ops (O 7 (.mv 1) ::
 O 8 (.bin .lss 7 (I 1)) ::
 O 9 (.mv 8) ::
 c_r01_Take_p0)) (
 .cond 12 (c_r01_Take_p1) (.skip))) (c_r01_Take_p2))), [.t 4, .t 5, .t 6]⟩
theorem is_r01_Take : IsFun Go.Proofs.Tryz.prog f_r01_Take c_r01_Take := cFunc_is (obj := false) (by kernel_rfl)

abbrev f_filemap_Put : Nat := 87
def c_filemap_Put_p0 : List AOper :=
 O 4 (.mv 9) ::
 []
def c_filemap_Put_p1 : ACode :=
 .seq (.ops (O 12 (.mv 4) ::
 O 2 (.mv (.c (.str (bytesOf [])))) ::
 O 3 (.mv 12) ::
 [])) (
 .ret)
def c_filemap_Put_p3 : List AOper :=
 O 17 (.s2b 5 16) ::
 O 5 (.mv 17) ::
 []
def c_filemap_Put_p4 : List AOper :=
 O 20 (.lenS 19) ::
 O 21 (.mv (I 0)) ::
 []
def c_filemap_Put_p7 : List AOper :=
 O 29 (.app 5 1 1 25 28) ::
 O 5 (.mv 29) ::
 []
def c_filemap_Put_p8 : List AOper :=
 O 34 (.app 5 1 1 30 33) ::
 O 5 (.mv 34) ::
 []
def c_filemap_Put_p6 : ACode :=
 .seq (
 .block 1 (
 .seq (.ops (O 23 (.iadS 2 19 21) ::
 O 24 (.load 2 true 23) ::
 O 7 (.alloc 61 [.str (bytesOf []), .str (bytesOf [])]) ::
 S (.store 2 7 24) ::
 [])) (
 .seq (.ops (O 25 (.mv 5) ::
 O 26 (.faddr 0 7) ::
 O 27 (.load 1 false 26) ::
 C 28 145 [27] ::
 c_filemap_Put_p7)) (.ops (O 30 (.mv 5) ::
 O 31 (.faddr 1 7) ::
 O 32 (.load 1 false 31) ::
 C 33 145 [32] ::
 c_filemap_Put_p8))))) (.ops (O 35 (.bin .add 21 (I 1)) ::
 O 21 (.mv 35) ::
 []))
def c_filemap_Put_p5 : ACode :=
 .seq (.ops (O 22 (.bin .lss 21 20) ::
 [])) (
 .seq (
 .cond 22 (.skip) (.exit 0)) (c_filemap_Put_p6))
def c_filemap_Put_p9 : ACode :=
 .seq (.ops (O 36 (.mv 5) ::
 O 37 (.b2s 36) ::
 O 2 (.mv 37) ::
 O 3 (.mv (I 0)) ::
 [])) (
 .ret)
def c_filemap_Put_p2 : ACode :=
 .seq (.ops (O 13 (.mv 0) ::
 O 14 (.lenS 13) ::
 O 15 (.lit false 3 1 1 [.nat .i64 0] [(0, 1, 14)]) ::
 C 16 143 [15] ::
 c_filemap_Put_p3)) (
 .seq (
 .seq (.ops (O 18 (.mv 0) ::
 C 19 144 [18] ::
 c_filemap_Put_p4)) (
 .block 0 (
 .loop (c_filemap_Put_p5)))) (c_filemap_Put_p9))
def c_filemap_Put : AFunc := ⟨38, (
 .seq (.ops (O 2 (.mv (.c (.str (bytesOf [])))) ::
 O 3 (.mv (I 0)) ::
 [])) (
 .seq (
 .seq (.ops (O 8 (.mv 0) ::
 C 9 122 [8] ::
 c_filemap_Put_p0)) (
 .seq (.ops (O 10 (.mv 4) ::
 O 11 (.bin .neq 10 (I 0)) ::
 [])) (
 .cond 11 (c_filemap_Put_p1) (.skip)))) (c_filemap_Put_p2))), [.t 2, .t 3]⟩
theorem is_filemap_Put : IsFun Go.Proofs.Tryz.prog f_filemap_Put c_filemap_Put := cFunc_is (obj := false) (by kernel_rfl)

abbrev f_flate_Pack : Nat := 88
def c_flate_Pack_p0 : List AOper :=
 O 3 (.mv 7) ::
 []
def c_flate_Pack_p2 : List AOper :=
 O 12 (.lit false 9 2 1 [.str (bytesOf [])] [(0, 1, 9), (1, 1, 11)]) ::
 O 13 (.lenS 12) ::
 O 14 (.mv (I 0)) ::
 []
def c_flate_Pack_p1 : List AOper :=
 O 10 (.mv 0) ::
 C 11 148 [10] ::
 c_flate_Pack_p2
def c_flate_Pack_p5 : ACode :=
 .ops (
 O 23 (.mv 5) ::
 O 3 (.mv 23) ::
 [])
def c_flate_Pack_p6 : ACode :=
 .ops (
 O 24 (.bin .add 14 (I 1)) ::
 O 14 (.mv 24) ::
 [])
def c_flate_Pack_p4 : ACode :=
 .seq (
 .block 1 (
 .seq (.ops (O 16 (.iadS 1 12 14) ::
 O 17 (.load 1 false 16) ::
 O 5 (.mv 17) ::
 [])) (
 .seq (.ops (O 18 (.mv 5) ::
 O 19 (.lenT 18) ::
 O 20 (.mv 3) ::
 O 21 (.lenT 20) ::
 O 22 (.bin .lss 19 21) ::
 [])) (
 .cond 22 (c_flate_Pack_p5) (.skip))))) (c_flate_Pack_p6)
def c_flate_Pack_p3 : ACode :=
 .seq (.ops (O 15 (.bin .lss 14 13) ::
 [])) (
 .seq (
 .cond 15 (.skip) (.exit 0)) (c_flate_Pack_p4))
def c_flate_Pack_p7 : ACode :=
 .seq (.ops (O 25 (.mv 3) ::
 O 2 (.mv 25) ::
 [])) (
 .ret)
def c_flate_Pack : AFunc := ⟨26, (
 .seq (.ops (O 2 (.mv (.c (.str (bytesOf [])))) ::
 [])) (
 .seq (.ops (O 6 (.mv 0) ::
 C 7 146 [6] ::
 c_flate_Pack_p0)) (
 .seq (
 .seq (.ops (O 8 (.mv 0) ::
 C 9 147 [8] ::
 c_flate_Pack_p1)) (
 .block 0 (
 .loop (c_flate_Pack_p3)))) (c_flate_Pack_p7)))), [.t 2]⟩
theorem is_flate_Pack : IsFun Go.Proofs.Tryz.prog f_flate_Pack c_flate_Pack := cFunc_is (obj := false) (by kernel_rfl)

abbrev f_strings_Repeat : Nat := 89
def c_strings_Repeat_p0 : ACode :=
 .seq (.ops (O 4 (.mv (.c (.str (bytesOf [])))) ::
 [])) (
 .ret)
def c_strings_Repeat_p2 : ACode :=
 .seq (.ops (O 16 (.mv 0) ::
 O 4 (.mv 16) ::
 [])) (
 .ret)
def c_strings_Repeat_p1 : ACode :=
 .seq (.ops (O 15 (.bin .eql 11 (I 1)) ::
 O 14 (.mv 15) ::
 [])) (
 .cond 14 (c_strings_Repeat_p2) (.skip))
def c_strings_Repeat_p5 : List AOper :=
 ⟨none, .bad, none⟩ ::
 []
def c_strings_Repeat_p4 : ACode :=
 .ops (
 ⟨(some 19), .bad, none⟩ ::
 c_strings_Repeat_p5)
def c_strings_Repeat_p7 : List AOper :=
 O 20 (.mv 26) ::
 O 27 (.ext 20 0) ::
 O 28 (.ext 20 1) ::
 O 5 (.mv 27) ::
 O 6 (.mv 28) ::
 []
def c_strings_Repeat_p8 : List AOper :=
 OF 31 32 (.mv 6) ::
 OF 31 33 (.bin .gtr 32 (U64 9223372036854775807)) ::
 O 34 (.pick 31 (.c (.bool true)) 33) ::
 []
def c_strings_Repeat_p10 : List AOper :=
 ⟨none, .bad, none⟩ ::
 []
def c_strings_Repeat_p9 : ACode :=
 .ops (
 ⟨(some 35), .bad, none⟩ ::
 c_strings_Repeat_p10)
def c_strings_Repeat_p12 : ACode :=
 .seq (.ops (O 4 (.mv (.c (.str (bytesOf [])))) ::
 [])) (
 .ret)
def c_strings_Repeat_p17 : ACode :=
 .ops (
 O 48 (.bin .eql 42 (U8 9)) ::
 O 43 (.mv 48) ::
 [])
def c_strings_Repeat_p16 : ACode :=
 .seq (.ops (O 47 (.bin .eql 42 (U8 61)) ::
 O 43 (.mv 47) ::
 [])) (
 .cond 43 (.skip) (c_strings_Repeat_p17))
def c_strings_Repeat_p15 : ACode :=
 .seq (.ops (O 46 (.bin .eql 42 (U8 48)) ::
 O 43 (.mv 46) ::
 [])) (
 .cond 43 (.skip) (c_strings_Repeat_p16))
def c_strings_Repeat_p14 : ACode :=
 .seq (.ops (O 45 (.bin .eql 42 (U8 45)) ::
 O 43 (.mv 45) ::
 [])) (
 .cond 43 (.skip) (c_strings_Repeat_p15))
def c_strings_Repeat_p21 : List AOper :=
 O 55 (.pick 52 54 (.c (.bool false))) ::
 O 49 (.mv 55) ::
 []
def c_strings_Repeat_p20 : List AOper :=
 OT 52 53 (.mv 0) ::
 CT 52 54 150 [(.c (.str (bytesOf [32, 32, 32, 32, 32, 32, 32, 32, 32, 32, 32, 32, 32, 32, 32, 32, 32, 32, 32, 32, 32, 32, 32, 32, 32, 32, 32, 32, 32, 32, 32, 32, 32, 32, 32, 32, 32, 32, 32, 32, 32, 32, 32, 32, 32, 32, 32, 32, 32, 32, 32, 32, 32, 32, 32, 32, 32, 32, 32, 32, 32, 32, 32, 32, 32, 32, 32, 32, 32, 32, 32, 32, 32, 32, 32, 32, 32, 32, 32, 32, 32, 32, 32, 32, 32, 32, 32, 32, 32, 32, 32, 32, 32, 32, 32, 32, 32, 32, 32, 32, 32, 32, 32, 32, 32, 32, 32, 32, 32, 32, 32, 32, 32, 32, 32, 32, 32, 32, 32, 32, 32, 32, 32, 32, 32, 32, 32, 32]))), 53] ::
 c_strings_Repeat_p21
def c_strings_Repeat_p22 : ACode :=
 .seq (.ops (O 56 (.mv 7) ::
 O 57 (.sliceT (.c (.str (bytesOf [32, 32, 32, 32, 32, 32, 32, 32, 32, 32, 32, 32, 32, 32, 32, 32, 32, 32, 32, 32, 32, 32, 32, 32, 32, 32, 32, 32, 32, 32, 32, 32, 32, 32, 32, 32, 32, 32, 32, 32, 32, 32, 32, 32, 32, 32, 32, 32, 32, 32, 32, 32, 32, 32, 32, 32, 32, 32, 32, 32, 32, 32, 32, 32, 32, 32, 32, 32, 32, 32, 32, 32, 32, 32, 32, 32, 32, 32, 32, 32, 32, 32, 32, 32, 32, 32, 32, 32, 32, 32, 32, 32, 32, 32, 32, 32, 32, 32, 32, 32, 32, 32, 32, 32, 32, 32, 32, 32, 32, 32, 32, 32, 32, 32, 32, 32, 32, 32, 32, 32, 32, 32, 32, 32, 32, 32, 32, 32]))) none (some 56)) ::
 O 4 (.mv 57) ::
 [])) (
 .ret)
def c_strings_Repeat_p25 : List AOper :=
 O 64 (.pick 61 63 (.c (.bool false))) ::
 O 58 (.mv 64) ::
 []
def c_strings_Repeat_p24 : List AOper :=
 OT 61 62 (.mv 0) ::
 CT 61 63 150 [(.c (.str (bytesOf [45, 45, 45, 45, 45, 45, 45, 45, 45, 45, 45, 45, 45, 45, 45, 45, 45, 45, 45, 45, 45, 45, 45, 45, 45, 45, 45, 45, 45, 45, 45, 45, 45, 45, 45, 45, 45, 45, 45, 45, 45, 45, 45, 45, 45, 45, 45, 45, 45, 45, 45, 45, 45, 45, 45, 45, 45, 45, 45, 45, 45, 45, 45, 45, 45, 45, 45, 45, 45, 45, 45, 45, 45, 45, 45, 45, 45, 45, 45, 45, 45, 45, 45, 45, 45, 45, 45, 45, 45, 45, 45, 45, 45, 45, 45, 45, 45, 45, 45, 45, 45, 45, 45, 45, 45, 45, 45, 45, 45, 45, 45, 45, 45, 45, 45, 45, 45, 45, 45, 45, 45, 45, 45, 45, 45, 45, 45, 45]))), 62] ::
 c_strings_Repeat_p25
def c_strings_Repeat_p26 : ACode :=
 .seq (.ops (O 65 (.mv 7) ::
 O 66 (.sliceT (.c (.str (bytesOf [45, 45, 45, 45, 45, 45, 45, 45, 45, 45, 45, 45, 45, 45, 45, 45, 45, 45, 45, 45, 45, 45, 45, 45, 45, 45, 45, 45, 45, 45, 45, 45, 45, 45, 45, 45, 45, 45, 45, 45, 45, 45, 45, 45, 45, 45, 45, 45, 45, 45, 45, 45, 45, 45, 45, 45, 45, 45, 45, 45, 45, 45, 45, 45, 45, 45, 45, 45, 45, 45, 45, 45, 45, 45, 45, 45, 45, 45, 45, 45, 45, 45, 45, 45, 45, 45, 45, 45, 45, 45, 45, 45, 45, 45, 45, 45, 45, 45, 45, 45, 45, 45, 45, 45, 45, 45, 45, 45, 45, 45, 45, 45, 45, 45, 45, 45, 45, 45, 45, 45, 45, 45, 45, 45, 45, 45, 45, 45]))) none (some 65)) ::
 O 4 (.mv 66) ::
 [])) (
 .ret)
def c_strings_Repeat_p29 : List AOper :=
 O 73 (.pick 70 72 (.c (.bool false))) ::
 O 67 (.mv 73) ::
 []
def c_strings_Repeat_p28 : List AOper :=
 OT 70 71 (.mv 0) ::
 CT 70 72 150 [(.c (.str (bytesOf [48, 48, 48, 48, 48, 48, 48, 48, 48, 48, 48, 48, 48, 48, 48, 48, 48, 48, 48, 48, 48, 48, 48, 48, 48, 48, 48, 48, 48, 48, 48, 48, 48, 48, 48, 48, 48, 48, 48, 48, 48, 48, 48, 48, 48, 48, 48, 48, 48, 48, 48, 48, 48, 48, 48, 48, 48, 48, 48, 48, 48, 48, 48, 48]))), 71] ::
 c_strings_Repeat_p29
def c_strings_Repeat_p30 : ACode :=
 .seq (.ops (O 74 (.mv 7) ::
 O 75 (.sliceT (.c (.str (bytesOf [48, 48, 48, 48, 48, 48, 48, 48, 48, 48, 48, 48, 48, 48, 48, 48, 48, 48, 48, 48, 48, 48, 48, 48, 48, 48, 48, 48, 48, 48, 48, 48, 48, 48, 48, 48, 48, 48, 48, 48, 48, 48, 48, 48, 48, 48, 48, 48, 48, 48, 48, 48, 48, 48, 48, 48, 48, 48, 48, 48, 48, 48, 48, 48]))) none (some 74)) ::
 O 4 (.mv 75) ::
 [])) (
 .ret)
def c_strings_Repeat_p33 : List AOper :=
 O 82 (.pick 79 81 (.c (.bool false))) ::
 O 76 (.mv 82) ::
 []
def c_strings_Repeat_p32 : List AOper :=
 OT 79 80 (.mv 0) ::
 CT 79 81 150 [(.c (.str (bytesOf [61, 61, 61, 61, 61, 61, 61, 61, 61, 61, 61, 61, 61, 61, 61, 61, 61, 61, 61, 61, 61, 61, 61, 61, 61, 61, 61, 61, 61, 61, 61, 61, 61, 61, 61, 61, 61, 61, 61, 61, 61, 61, 61, 61, 61, 61, 61, 61, 61, 61, 61, 61, 61, 61, 61, 61, 61, 61, 61, 61, 61, 61, 61, 61, 61, 61, 61, 61, 61, 61, 61, 61, 61, 61, 61, 61, 61, 61, 61, 61, 61, 61, 61, 61, 61, 61, 61, 61, 61, 61, 61, 61, 61, 61, 61, 61, 61, 61, 61, 61, 61, 61, 61, 61, 61, 61, 61, 61, 61, 61, 61, 61, 61, 61, 61, 61, 61, 61, 61, 61, 61, 61, 61, 61, 61, 61, 61, 61]))), 80] ::
 c_strings_Repeat_p33
def c_strings_Repeat_p34 : ACode :=
 .seq (.ops (O 83 (.mv 7) ::
 O 84 (.sliceT (.c (.str (bytesOf [61, 61, 61, 61, 61, 61, 61, 61, 61, 61, 61, 61, 61, 61, 61, 61, 61, 61, 61, 61, 61, 61, 61, 61, 61, 61, 61, 61, 61, 61, 61, 61, 61, 61, 61, 61, 61, 61, 61, 61, 61, 61, 61, 61, 61, 61, 61, 61, 61, 61, 61, 61, 61, 61, 61, 61, 61, 61, 61, 61, 61, 61, 61, 61, 61, 61, 61, 61, 61, 61, 61, 61, 61, 61, 61, 61, 61, 61, 61, 61, 61, 61, 61, 61, 61, 61, 61, 61, 61, 61, 61, 61, 61, 61, 61, 61, 61, 61, 61, 61, 61, 61, 61, 61, 61, 61, 61, 61, 61, 61, 61, 61, 61, 61, 61, 61, 61, 61, 61, 61, 61, 61, 61, 61, 61, 61, 61, 61]))) none (some 83)) ::
 O 4 (.mv 84) ::
 [])) (
 .ret)
def c_strings_Repeat_p37 : List AOper :=
 O 91 (.pick 88 90 (.c (.bool false))) ::
 O 85 (.mv 91) ::
 []
def c_strings_Repeat_p36 : List AOper :=
 OT 88 89 (.mv 0) ::
 CT 88 90 150 [(.c (.str (bytesOf [9, 9, 9, 9, 9, 9, 9, 9, 9, 9, 9, 9, 9, 9, 9, 9, 9, 9, 9, 9, 9, 9, 9, 9, 9, 9, 9, 9, 9, 9, 9, 9, 9, 9, 9, 9, 9, 9, 9, 9, 9, 9, 9, 9, 9, 9, 9, 9, 9, 9, 9, 9, 9, 9, 9, 9, 9, 9, 9, 9, 9, 9, 9, 9]))), 89] ::
 c_strings_Repeat_p37
def c_strings_Repeat_p38 : ACode :=
 .seq (.ops (O 92 (.mv 7) ::
 O 93 (.sliceT (.c (.str (bytesOf [9, 9, 9, 9, 9, 9, 9, 9, 9, 9, 9, 9, 9, 9, 9, 9, 9, 9, 9, 9, 9, 9, 9, 9, 9, 9, 9, 9, 9, 9, 9, 9, 9, 9, 9, 9, 9, 9, 9, 9, 9, 9, 9, 9, 9, 9, 9, 9, 9, 9, 9, 9, 9, 9, 9, 9, 9, 9, 9, 9, 9, 9, 9, 9]))) none (some 92)) ::
 O 4 (.mv 93) ::
 [])) (
 .ret)
def c_strings_Repeat_p35 : ACode :=
 .seq (.ops (O 86 (.mv 7) ::
 O 87 (.bin .leq 86 (I 64)) ::
 O 88 (.mv 87) ::
 c_strings_Repeat_p36)) (
 .cond 85 (c_strings_Repeat_p38) (.skip))
def c_strings_Repeat_p31 : ACode :=
 .seq (.ops (O 77 (.mv 7) ::
 O 78 (.bin .leq 77 (I 128)) ::
 O 79 (.mv 78) ::
 c_strings_Repeat_p32)) (
 .cond 76 (c_strings_Repeat_p34) (c_strings_Repeat_p35))
def c_strings_Repeat_p27 : ACode :=
 .seq (.ops (O 68 (.mv 7) ::
 O 69 (.bin .leq 68 (I 64)) ::
 O 70 (.mv 69) ::
 c_strings_Repeat_p28)) (
 .cond 67 (c_strings_Repeat_p30) (c_strings_Repeat_p31))
def c_strings_Repeat_p23 : ACode :=
 .seq (.ops (O 59 (.mv 7) ::
 O 60 (.bin .leq 59 (I 128)) ::
 O 61 (.mv 60) ::
 c_strings_Repeat_p24)) (
 .cond 58 (c_strings_Repeat_p26) (c_strings_Repeat_p27))
def c_strings_Repeat_p19 : ACode :=
 .block 2 (
 .seq (.ops (O 50 (.mv 7) ::
 O 51 (.bin .leq 50 (I 128)) ::
 O 52 (.mv 51) ::
 c_strings_Repeat_p20)) (
 .cond 49 (c_strings_Repeat_p22) (c_strings_Repeat_p23)))
def c_strings_Repeat_p18 : ACode :=
 .cond 43 (c_strings_Repeat_p19) (.skip)
def c_strings_Repeat_p41 : ACode :=
 .ops (
 O 105 (.mv 0) ::
 O 106 (.lenT 105) ::
 O 8 (.mv 106) ::
 [])
def c_strings_Repeat_p40 : ACode :=
 .seq (.ops (O 97 (.mv 0) ::
 O 98 (.lenT 97) ::
 O 99 (.bin .quo (I 8192) 98) ::
 O 100 (.mv 0) ::
 O 101 (.lenT 100) ::
 O 102 (.bin .mul 99 101) ::
 O 8 (.mv 102) ::
 [])) (
 .seq (.ops (O 103 (.mv 8) ::
 O 104 (.bin .eql 103 (I 0)) ::
 [])) (
 .cond 104 (c_strings_Repeat_p41) (.skip)))
def c_strings_Repeat_p44 : List AOper :=
 O 112 (.mv 7) ::
 O 113 (.bin .lss 111 112) ::
 []
def c_strings_Repeat_p47 : List AOper :=
 O 118 (.mv 8) ::
 O 119 (.mm false 116 [117, 118]) ::
 O 10 (.mv 119) ::
 []
def c_strings_Repeat_p46 : List AOper :=
 O 116 (.bin .sub 114 115) ::
 C 117 151 [9] ::
 c_strings_Repeat_p47
def c_strings_Repeat_p48 : List AOper :=
 O 121 (.mv 10) ::
 O 122 (.sliceT 120 none (some 121)) ::
 C 123 81 [9, 122] ::
 []
def c_strings_Repeat_p45 : ACode :=
 .block 4 (
 .seq (.ops (O 114 (.mv 7) ::
 C 115 151 [9] ::
 c_strings_Repeat_p46)) (.ops (C 120 82 [9] ::
 c_strings_Repeat_p48)))
def c_strings_Repeat_p43 : ACode :=
 .seq (
 .seq (.ops (C 111 151 [9] ::
 c_strings_Repeat_p44)) (
 .cond 113 (.skip) (.exit 3))) (c_strings_Repeat_p45)
def c_strings_Repeat_p50 : List AOper :=
 O 4 (.mv 124) ::
 []
def c_strings_Repeat_p49 : ACode :=
 .seq (.ops (C 124 82 [9] ::
 c_strings_Repeat_p50)) (
 .ret)
def c_strings_Repeat_p42 : ACode :=
 .seq (.ops (O 9 (.alloc 111 [.nilp, .nils]) ::
 [])) (
 .seq (.ops (O 107 (.mv 7) ::
 C 108 80 [9, 107] ::
 [])) (
 .seq (.ops (O 109 (.mv 0) ::
 C 110 81 [9, 109] ::
 [])) (
 .seq (
 .block 3 (
 .loop (c_strings_Repeat_p43))) (c_strings_Repeat_p49))))
def c_strings_Repeat_p39 : ACode :=
 .seq (.ops (O 94 (.mv 7) ::
 O 8 (.mv 94) ::
 [])) (
 .seq (
 .seq (.ops (O 95 (.mv 7) ::
 O 96 (.bin .gtr 95 (I 8192)) ::
 [])) (
 .cond 96 (c_strings_Repeat_p40) (.skip))) (c_strings_Repeat_p42))
def c_strings_Repeat_p13 : ACode :=
 .seq (
 .seq (.ops (O 41 (.mv 0) ::
 O 42 (.idxS 41 (I 0)) ::
 [])) (
 .block 1 (
 .seq (
 .seq (.ops (O 44 (.bin .eql 42 (U8 32)) ::
 O 43 (.mv 44) ::
 [])) (
 .cond 43 (.skip) (c_strings_Repeat_p14))) (c_strings_Repeat_p18)))) (c_strings_Repeat_p39)
def c_strings_Repeat_p11 : ACode :=
 .seq (.ops (O 36 (.mv 6) ::
 O 37 (.toInt .i64 36) ::
 O 7 (.mv 37) ::
 [])) (
 .seq (
 .seq (.ops (O 38 (.mv 0) ::
 O 39 (.lenT 38) ::
 O 40 (.bin .eql 39 (I 0)) ::
 [])) (
 .cond 40 (c_strings_Repeat_p12) (.skip))) (c_strings_Repeat_p13))
def c_strings_Repeat_p6 : ACode :=
 .seq (.ops (O 21 (.mv 0) ::
 O 22 (.lenT 21) ::
 O 23 (.toInt .u64 22) ::
 O 24 (.mv 1) ::
 O 25 (.toInt .u64 24) ::
 C 26 149 [23, 25] ::
 c_strings_Repeat_p7)) (
 .seq (
 .seq (.ops (O 29 (.mv 5) ::
 O 30 (.bin .gtr 29 (U64 0)) ::
 O 31 (.mv 30) ::
 c_strings_Repeat_p8)) (
 .cond 34 (c_strings_Repeat_p9) (.skip))) (c_strings_Repeat_p11))
def c_strings_Repeat_p3 : ACode :=
 .seq (
 .seq (.ops (O 17 (.mv 1) ::
 O 18 (.bin .lss 17 (I 0)) ::
 [])) (
 .cond 18 (c_strings_Repeat_p4) (.skip))) (c_strings_Repeat_p6)
def c_strings_Repeat : AFunc := ⟨125, (
 .seq (.ops (O 4 (.mv (.c (.str (bytesOf [])))) ::
 [])) (
 .seq (
 .seq (.ops (O 11 (.mv 1) ::
 [])) (
 .block 0 (
 .seq (.ops (O 13 (.bin .eql 11 (I 0)) ::
 O 12 (.mv 13) ::
 [])) (
 .cond 12 (c_strings_Repeat_p0) (c_strings_Repeat_p1))))) (c_strings_Repeat_p3))), [.t 4]⟩
theorem is_strings_Repeat : IsFun Go.Proofs.Tryz.prog f_strings_Repeat c_strings_Repeat := cFunc_is (obj := false) (by kernel_rfl)

abbrev f_r01_bytes : Nat := 90
def c_r01_bytes_p2 : List AOper :=
 O 15 (.mv 5) ::
 O 16 (.bin .add 14 15) ::
 O 5 (.mv 16) ::
 []
def c_r01_bytes_p1 : ACode :=
 .seq (
 .block 1 (
 .seq (.ops (O 12 (.mv 0) ::
 O 13 (.bin .and 12 (I 255)) ::
 C 14 152 [13] ::
 c_r01_bytes_p2)) (.ops (O 17 (.mv 0) ::
 O 18 (.bin .shr 17 (U64 8)) ::
 O 0 (.mv 18) ::
 [])))) (.ops (O 10 (.mv 6) ::
 O 11 (.bin .add 10 (I 1)) ::
 O 6 (.mv 11) ::
 []))
def c_r01_bytes_p0 : ACode :=
 .seq (
 .seq (.ops (O 7 (.mv 6) ::
 O 8 (.mv 1) ::
 O 9 (.bin .lss 7 8) ::
 [])) (
 .cond 9 (.skip) (.exit 0))) (c_r01_bytes_p1)
def c_r01_bytes_p3 : ACode :=
 .seq (.ops (O 19 (.mv 5) ::
 O 4 (.mv 19) ::
 [])) (
 .ret)
def c_r01_bytes : AFunc := ⟨20, (
 .seq (.ops (O 4 (.mv (.c (.str (bytesOf [])))) ::
 [])) (
 .seq (.ops (O 5 (.mv (.c (.str (bytesOf [])))) ::
 [])) (
 .seq (
 .seq (.ops (O 6 (.mv (I 0)) ::
 [])) (
 .block 0 (
 .loop (c_r01_bytes_p0)))) (c_r01_bytes_p3)))), [.t 4]⟩
theorem is_r01_bytes : IsFun Go.Proofs.Tryz.prog f_r01_bytes c_r01_bytes := cFunc_is (obj := false) (by kernel_rfl)

abbrev f_r15_Width : Nat := 91
def c_r15_Width_p0 : ACode :=
 .seq (.ops (O 2 (.mv (I 1)) ::
 [])) (
 .ret)
def c_r15_Width_p2 : ACode :=
 .seq (.ops (O 2 (.mv (I 32)) ::
 [])) (
 .ret)
def c_r15_Width_p3 : ACode :=
 .seq (.ops (O 7 (.mv 0) ::
 O 2 (.mv 7) ::
 [])) (
 .ret)
def c_r15_Width_p1 : ACode :=
 .seq (
 .seq (.ops (O 5 (.mv 0) ::
 O 6 (.bin .gtr 5 (I 32)) ::
 [])) (
 .cond 6 (c_r15_Width_p2) (.skip))) (c_r15_Width_p3)
def c_r15_Width : AFunc := ⟨8, (
 .seq (.ops (O 2 (.mv (I 0)) ::
 [])) (
 .seq (
 .seq (.ops (O 3 (.mv 0) ::
 O 4 (.bin .lss 3 (I 1)) ::
 [])) (
 .cond 4 (c_r15_Width_p0) (.skip))) (c_r15_Width_p1))), [.t 2]⟩
theorem is_r15_Width : IsFun Go.Proofs.Tryz.prog f_r15_Width c_r15_Width := cFunc_is (obj := false) (by kernel_rfl)

abbrev f_r02_padded : Nat := 92
def c_r02_padded_p1 : ACode :=
 .block 1 (.ops (O 15 (.mv 3) ::
 O 16 (.lit false 5 1 1 [.nat .u8 0] [(0, 1, (U8 0))]) ::
 O 17 (.app 5 1 1 15 16) ::
 O 3 (.mv 17) ::
 []))
def c_r02_padded_p0 : ACode :=
 .seq (
 .seq (.ops (O 11 (.mv 3) ::
 O 12 (.lenS 11) ::
 O 13 (.bin .rem 12 (I 64)) ::
 O 14 (.bin .neq 13 (I 56)) ::
 [])) (
 .cond 14 (.skip) (.exit 0))) (c_r02_padded_p1)
def c_r02_padded_p4 : ACode :=
 .seq (
 .block 3 (.ops (O 25 (.mv 3) ::
 O 26 (.mv 4) ::
 O 27 (.mv 5) ::
 O 28 (.bin .mul (I 8) 27) ::
 O 29 (.bin .shr 26 28) ::
 O 30 (.bin .and 29 (I 255)) ::
 O 31 (.toInt .u8 30) ::
 O 32 (.lit false 5 1 1 [.nat .u8 0] [(0, 1, 31)]) ::
 O 33 (.app 5 1 1 25 32) ::
 O 3 (.mv 33) ::
 []))) (.ops (O 23 (.mv 5) ::
 O 24 (.bin .sub 23 (I 1)) ::
 O 5 (.mv 24) ::
 []))
def c_r02_padded_p3 : ACode :=
 .seq (
 .seq (.ops (O 21 (.mv 5) ::
 O 22 (.bin .geq 21 (I 0)) ::
 [])) (
 .cond 22 (.skip) (.exit 2))) (c_r02_padded_p4)
def c_r02_padded_p5 : ACode :=
 .seq (.ops (O 34 (.mv 3) ::
 O 2 (.mv 34) ::
 [])) (
 .ret)
def c_r02_padded_p2 : ACode :=
 .seq (.ops (O 18 (.mv 0) ::
 O 19 (.lenT 18) ::
 O 20 (.bin .mul (I 8) 19) ::
 O 4 (.mv 20) ::
 [])) (
 .seq (
 .seq (.ops (O 5 (.mv (I 7)) ::
 [])) (
 .block 2 (
 .loop (c_r02_padded_p3)))) (c_r02_padded_p5))
def c_r02_padded : AFunc := ⟨35, (
 .seq (.ops (O 2 (.mv (.c (.nils))) ::
 [])) (
 .seq (.ops (O 6 (.mv 0) ::
 O 7 (.s2b 5 6) ::
 O 3 (.mv 7) ::
 [])) (
 .seq (.ops (O 8 (.mv 3) ::
 O 9 (.lit false 5 1 1 [.nat .u8 0] [(0, 1, (U8 128))]) ::
 O 10 (.app 5 1 1 8 9) ::
 O 3 (.mv 10) ::
 [])) (
 .seq (
 .block 0 (
 .loop (c_r02_padded_p0))) (c_r02_padded_p2))))), [.t 2]⟩
theorem is_r02_padded : IsFun Go.Proofs.Tryz.prog f_r02_padded c_r02_padded := cFunc_is (obj := false) (by kernel_rfl)

abbrev f_r02_start : Nat := 93
def c_r02_start : AFunc := ⟨2, (
 .seq (.ops (O 0 (.mv (.c (.nils))) ::
 [])) (
 .seq (.ops (O 1 (.lit true 3 8 1 [.nat .i64 0] [(0, 1, (I 1779033703)), (1, 1, (I 3144134277)), (2, 1, (I 1013904242)), (3, 1, (I 2773480762)), (4, 1, (I 1359893119)), (5, 1, (I 2600822924)), (6, 1, (I 528734635)), (7, 1, (I 1541459225))]) ::
 O 0 (.mv 1) ::
 [])) (
 .ret))), [.t 0]⟩
theorem is_r02_start : IsFun Go.Proofs.Tryz.prog f_r02_start c_r02_start := cFunc_is (obj := true) (by kernel_rfl)

abbrev f_r02_rounds : Nat := 94
def c_r02_rounds : AFunc := ⟨2, (
 .seq (.ops (O 0 (.mv (.c (.nils))) ::
 [])) (
 .seq (.ops (O 1 (.lit false 3 64 1 [.nat .i64 0] [(0, 1, (I 1116352408)), (1, 1, (I 1899447441)), (2, 1, (I 3049323471)), (3, 1, (I 3921009573)), (4, 1, (I 961987163)), (5, 1, (I 1508970993)), (6, 1, (I 2453635748)), (7, 1, (I 2870763221)), (8, 1, (I 3624381080)), (9, 1, (I 310598401)), (10, 1, (I 607225278)), (11, 1, (I 1426881987)), (12, 1, (I 1925078388)), (13, 1, (I 2162078206)), (14, 1, (I 2614888103)), (15, 1, (I 3248222580)), (16, 1, (I 3835390401)), (17, 1, (I 4022224774)), (18, 1, (I 264347078)), (19, 1, (I 604807628)), (20, 1, (I 770255983)), (21, 1, (I 1249150122)), (22, 1, (I 1555081692)), (23, 1, (I 1996064986)), (24, 1, (I 2554220882)), (25, 1, (I 2821834349)), (26, 1, (I 2952996808)), (27, 1, (I 3210313671)), (28, 1, (I 3336571891)), (29, 1, (I 3584528711)), (30, 1, (I 113926993)), (31, 1, (I 338241895)), (32, 1, (I 666307205)), (33, 1, (I 773529912)), (34, 1, (I 1294757372)), (35, 1, (I 1396182291)), (36, 1, (I 1695183700)), (37, 1, (I 1986661051)), (38, 1, (I 2177026350)), (39, 1, (I 2456956037)), (40, 1, (I 2730485921)), (41, 1, (I 2820302411)), (42, 1, (I 3259730800)), (43, 1, (I 3345764771)), (44, 1, (I 3516065817)), (45, 1, (I 3600352804)), (46, 1, (I 4094571909)), (47, 1, (I 275423344)), (48, 1, (I 430227734)), (49, 1, (I 506948616)), (50, 1, (I 659060556)), (51, 1, (I 883997877)), (52, 1, (I 958139571)), (53, 1, (I 1322822218)), (54, 1, (I 1537002063)), (55, 1, (I 1747873779)), (56, 1, (I 1955562222)), (57, 1, (I 2024104815)), (58, 1, (I 2227730452)), (59, 1, (I 2361852424)), (60, 1, (I 2428436474)), (61, 1, (I 2756734187)), (62, 1, (I 3204031479)), (63, 1, (I 3329325298))]) ::
 O 0 (.mv 1) ::
 [])) (
 .ret))), [.t 0]⟩
theorem is_r02_rounds : IsFun Go.Proofs.Tryz.prog f_r02_rounds c_r02_rounds := cFunc_is (obj := false) (by kernel_rfl)

abbrev f_r02_scheduled : Nat := 95
def c_r02_scheduled_p2 : ACode :=
 .seq (.ops (O 15 (.mv 3) ::
 O 16 (.mv 0) ::
 O 17 (.mv 4) ::
 O 18 (.bin .mul (I 4) 17) ::
 O 19 (.iadS 1 16 18) ::
 O 20 (.load 1 false 19) ::
 O 21 (.toInt .i64 20) ::
 O 22 (.bin .mul 21 (I 16777216)) ::
 O 23 (.mv 0) ::
 O 24 (.mv 4) ::
 O 25 (.bin .mul (I 4) 24) ::
 O 26 (.bin .add 25 (I 1)) ::
 O 27 (.iadS 1 23 26) ::
 O 28 (.load 1 false 27) ::
 O 29 (.toInt .i64 28) ::
 O 30 (.bin .mul 29 (I 65536)) ::
 O 31 (.bin .add 22 30) ::
 O 32 (.mv 0) ::
 O 33 (.mv 4) ::
 O 34 (.bin .mul (I 4) 33) ::
 O 35 (.bin .add 34 (I 2)) ::
 O 36 (.iadS 1 32 35) ::
 O 37 (.load 1 false 36) ::
 O 38 (.toInt .i64 37) ::
 O 39 (.bin .mul 38 (I 256)) ::
 O 40 (.bin .add 31 39) ::
 O 41 (.mv 0) ::
 O 42 (.mv 4) ::
 O 43 (.bin .mul (I 4) 42) ::
 O 44 (.bin .add 43 (I 3)) ::
 O 45 (.iadS 1 41 44) ::
 O 46 (.load 1 false 45) ::
 O 47 (.toInt .i64 46) ::
 O 48 (.bin .add 40 47) ::
 O 49 (.lit false 3 1 1 [.nat .i64 0] [(0, 1, 48)]) ::
 O 50 (.app 3 1 8 15 49) ::
 O 3 (.mv 50) ::
 [])) (
 .exit 1)
def c_r02_scheduled_p5 : List AOper :=
 O 65 (.bin .xor 62 64) ::
 O 66 (.mv 5) ::
 O 67 (.bin .shr 66 (U64 3)) ::
 O 68 (.bin .xor 65 67) ::
 O 7 (.mv 68) ::
 []
def c_r02_scheduled_p4 : List AOper :=
 O 63 (.mv 5) ::
 C 64 96 [63, (I 18)] ::
 c_r02_scheduled_p5
def c_r02_scheduled_p7 : List AOper :=
 O 73 (.bin .xor 70 72) ::
 O 74 (.mv 6) ::
 O 75 (.bin .shr 74 (U64 10)) ::
 O 76 (.bin .xor 73 75) ::
 O 8 (.mv 76) ::
 []
def c_r02_scheduled_p6 : List AOper :=
 O 71 (.mv 6) ::
 C 72 96 [71, (I 19)] ::
 c_r02_scheduled_p7
def c_r02_scheduled_p3 : ACode :=
 .seq (.ops (O 51 (.mv 3) ::
 O 52 (.mv 4) ::
 O 53 (.bin .sub 52 (I 15)) ::
 O 54 (.iadS 1 51 53) ::
 O 55 (.load 1 false 54) ::
 O 56 (.mv 3) ::
 O 57 (.mv 4) ::
 O 58 (.bin .sub 57 (I 2)) ::
 O 59 (.iadS 1 56 58) ::
 O 60 (.load 1 false 59) ::
 O 5 (.mv 55) ::
 O 6 (.mv 60) ::
 [])) (
 .seq (.ops (O 61 (.mv 5) ::
 C 62 96 [61, (I 7)] ::
 c_r02_scheduled_p4)) (
 .seq (.ops (O 69 (.mv 6) ::
 C 70 96 [69, (I 17)] ::
 c_r02_scheduled_p6)) (.ops (O 77 (.mv 3) ::
 O 78 (.mv 3) ::
 O 79 (.mv 4) ::
 O 80 (.bin .sub 79 (I 16)) ::
 O 81 (.iadS 1 78 80) ::
 O 82 (.load 1 false 81) ::
 O 83 (.mv 7) ::
 O 84 (.bin .add 82 83) ::
 O 85 (.mv 3) ::
 O 86 (.mv 4) ::
 O 87 (.bin .sub 86 (I 7)) ::
 O 88 (.iadS 1 85 87) ::
 O 89 (.load 1 false 88) ::
 O 90 (.bin .add 84 89) ::
 O 91 (.mv 8) ::
 O 92 (.bin .add 90 91) ::
 O 93 (.bin .and 92 (I 4294967295)) ::
 O 94 (.lit false 3 1 1 [.nat .i64 0] [(0, 1, 93)]) ::
 O 95 (.app 3 1 8 77 94) ::
 O 3 (.mv 95) ::
 []))))
def c_r02_scheduled_p8 : ACode :=
 .ops (
 O 11 (.mv 4) ::
 O 12 (.bin .add 11 (I 1)) ::
 O 4 (.mv 12) ::
 [])
def c_r02_scheduled_p1 : ACode :=
 .seq (
 .block 1 (
 .seq (
 .seq (.ops (O 13 (.mv 4) ::
 O 14 (.bin .lss 13 (I 16)) ::
 [])) (
 .cond 14 (c_r02_scheduled_p2) (.skip))) (c_r02_scheduled_p3))) (c_r02_scheduled_p8)
def c_r02_scheduled_p0 : ACode :=
 .seq (
 .seq (.ops (O 9 (.mv 4) ::
 O 10 (.bin .lss 9 (I 64)) ::
 [])) (
 .cond 10 (.skip) (.exit 0))) (c_r02_scheduled_p1)
def c_r02_scheduled_p9 : ACode :=
 .seq (.ops (O 96 (.mv 3) ::
 O 2 (.mv 96) ::
 [])) (
 .ret)
def c_r02_scheduled : AFunc := ⟨97, (
 .seq (.ops (O 2 (.mv (.c (.nils))) ::
 [])) (
 .seq (.ops (O 3 (.mv (.c (.nils))) ::
 [])) (
 .seq (
 .seq (.ops (O 4 (.mv (I 0)) ::
 [])) (
 .block 0 (
 .loop (c_r02_scheduled_p0)))) (c_r02_scheduled_p9)))), [.t 2]⟩
theorem is_r02_scheduled : IsFun Go.Proofs.Tryz.prog f_r02_scheduled c_r02_scheduled := cFunc_is (obj := false) (by kernel_rfl)

abbrev f_r02_rotr : Nat := 96
def c_r02_rotr : AFunc := ⟨14, (
 .seq (.ops (O 4 (.mv (I 0)) ::
 [])) (
 .seq (.ops (O 5 (.mv 0) ::
 O 6 (.mv 1) ::
 O 7 (.bin .shr 5 6) ::
 O 8 (.mv 0) ::
 O 9 (.mv 1) ::
 O 10 (.bin .sub (I 32) 9) ::
 O 11 (.bin .shl 8 10) ::
 O 12 (.bin .and 11 (I 4294967295)) ::
 O 13 (.bin .or 7 12) ::
 O 4 (.mv 13) ::
 [])) (
 .ret))), [.t 4]⟩
theorem is_r02_rotr : IsFun Go.Proofs.Tryz.prog f_r02_rotr c_r02_rotr := cFunc_is (obj := false) (by kernel_rfl)

abbrev f_kdf_Expand : Nat := 97
def c_kdf_Expand_p0 : List AOper :=
 OF 13 14 (.mv 2) ::
 OF 13 15 (.bin .gtr 14 (I 8160)) ::
 O 16 (.pick 13 (.c (.bool true)) 15) ::
 []
def c_kdf_Expand_p1 : ACode :=
 .seq (.ops (O 6 (.mv (.c (.str (bytesOf [])))) ::
 O 7 (.mv (I 10)) ::
 [])) (
 .ret)
def c_kdf_Expand_p6 : List AOper :=
 O 9 (.mv 29) ::
 []
def c_kdf_Expand_p5 : List AOper :=
 O 28 (.lit false 9 3 1 [.str (bytesOf [])] [(0, 1, 24), (1, 1, 25), (2, 1, 27)]) ::
 C 29 73 [23, 28] ::
 c_kdf_Expand_p6
def c_kdf_Expand_p4 : ACode :=
 .seq (
 .block 1 (
 .seq (.ops (O 23 (.mv 0) ::
 O 24 (.mv 9) ::
 O 25 (.mv 1) ::
 O 26 (.mv 10) ::
 C 27 99 [26, (I 1)] ::
 c_kdf_Expand_p5)) (.ops (O 30 (.mv 8) ::
 O 31 (.mv 9) ::
 O 32 (.app 5 1 1 30 31) ::
 O 8 (.mv 32) ::
 [])))) (.ops (O 21 (.mv 10) ::
 O 22 (.bin .add 21 (I 1)) ::
 O 10 (.mv 22) ::
 []))
def c_kdf_Expand_p3 : ACode :=
 .seq (
 .seq (.ops (O 17 (.mv 8) ::
 O 18 (.lenS 17) ::
 O 19 (.mv 2) ::
 O 20 (.bin .lss 18 19) ::
 [])) (
 .cond 20 (.skip) (.exit 0))) (c_kdf_Expand_p4)
def c_kdf_Expand_p7 : ACode :=
 .seq (.ops (O 33 (.mv 8) ::
 O 34 (.mv 2) ::
 O 35 (.sliceS 1 33 none (some 34)) ::
 O 36 (.b2s 35) ::
 O 6 (.mv 36) ::
 O 7 (.mv (I 0)) ::
 [])) (
 .ret)
def c_kdf_Expand_p2 : ACode :=
 .seq (.ops (O 8 (.mv (.c (.nils))) ::
 [])) (
 .seq (.ops (O 9 (.mv (.c (.str (bytesOf [])))) ::
 [])) (
 .seq (
 .seq (.ops (O 10 (.mv (I 1)) ::
 [])) (
 .block 0 (
 .loop (c_kdf_Expand_p3)))) (c_kdf_Expand_p7)))
def c_kdf_Expand : AFunc := ⟨37, (
 .seq (.ops (O 6 (.mv (.c (.str (bytesOf [])))) ::
 O 7 (.mv (I 0)) ::
 [])) (
 .seq (
 .seq (.ops (O 11 (.mv 2) ::
 O 12 (.bin .lss 11 (I 0)) ::
 O 13 (.mv 12) ::
 c_kdf_Expand_p0)) (
 .cond 16 (c_kdf_Expand_p1) (.skip))) (c_kdf_Expand_p2))), [.t 6, .t 7]⟩
theorem is_kdf_Expand : IsFun Go.Proofs.Tryz.prog f_kdf_Expand c_kdf_Expand := cFunc_is (obj := false) (by kernel_rfl)

abbrev f_mac_at : Nat := 98
def c_mac_at_p0 : ACode :=
 .seq (.ops (O 9 (.mv 0) ::
 O 10 (.mv 1) ::
 O 11 (.idxS 9 10) ::
 O 4 (.mv 11) ::
 [])) (
 .ret)
def c_mac_at_p1 : ACode :=
 .seq (.ops (O 4 (.mv (U8 0)) ::
 [])) (
 .ret)
def c_mac_at : AFunc := ⟨12, (
 .seq (.ops (O 4 (.mv (U8 0)) ::
 [])) (
 .seq (
 .seq (.ops (O 5 (.mv 1) ::
 O 6 (.mv 0) ::
 O 7 (.lenT 6) ::
 O 8 (.bin .lss 5 7) ::
 [])) (
 .cond 8 (c_mac_at_p0) (.skip))) (c_mac_at_p1))), [.t 4]⟩
theorem is_mac_at : IsFun Go.Proofs.Tryz.prog f_mac_at c_mac_at := cFunc_is (obj := false) (by kernel_rfl)

abbrev f_enc_Fixed : Nat := 99
def c_enc_Fixed_p1 : ACode :=
 .seq (
 .block 1 (
 .seq (.ops (O 9 (.mv 7) ::
 O 6 (.mv 9) ::
 [])) (.ops (O 10 (.mv 6) ::
 O 11 (.bin .sub (I 7) 10) ::
 O 12 (.mv 0) ::
 O 13 (.mv 6) ::
 O 14 (.bin .mul (I 8) 13) ::
 O 15 (.bin .shr 12 14) ::
 O 16 (.toInt .u8 15) ::
 O 17 (.iadA 8 1 5 11) ::
 S (.store 1 17 16) ::
 [])))) (.ops (O 18 (.bin .add 7 (I 1)) ::
 O 7 (.mv 18) ::
 []))
def c_enc_Fixed_p0 : ACode :=
 .seq (.ops (O 8 (.bin .lss 7 (I 8)) ::
 [])) (
 .seq (
 .cond 8 (.skip) (.exit 0)) (c_enc_Fixed_p1))
def c_enc_Fixed_p2 : ACode :=
 .seq (.ops (O 19 (.mv 1) ::
 O 20 (.mm true 19 [(I 0)]) ::
 O 21 (.mm false 20 [(I 8)]) ::
 O 22 (.bin .sub (I 8) 21) ::
 O 23 (.slarr 8 1 5 (some 22) none) ::
 O 24 (.b2s 23) ::
 O 4 (.mv 24) ::
 [])) (
 .ret)
def c_enc_Fixed : AFunc := ⟨25, (
 .seq (.ops (O 4 (.mv (.c (.str (bytesOf [])))) ::
 [])) (
 .seq (.ops (O 5 (.alloc 182 (List.replicate 8 (.nat .u8 0))) ::
 [])) (
 .seq (
 .seq (.ops (O 7 (.mv (I 0)) ::
 [])) (
 .block 0 (
 .loop (c_enc_Fixed_p0)))) (c_enc_Fixed_p2)))), [.t 4]⟩
theorem is_enc_Fixed : IsFun Go.Proofs.Tryz.prog f_enc_Fixed c_enc_Fixed := cFunc_is (obj := false) (by kernel_rfl)

abbrev f_chacha_right : Nat := 100
def c_chacha_right_p2 : List AOper :=
 OT 19 20 (.mv 2) ::
 OT 19 21 (.bin .leq 20 (I 4294967295)) ::
 O 22 (.pick 19 21 (.c (.bool false))) ::
 O 6 (.mv 22) ::
 []
def c_chacha_right_p1 : List AOper :=
 OT 15 16 (.mv 2) ::
 OT 15 17 (.bin .geq 16 (I 0)) ::
 O 18 (.pick 15 17 (.c (.bool false))) ::
 O 19 (.mv 18) ::
 c_chacha_right_p2
def c_chacha_right_p0 : List AOper :=
 OT 10 11 (.mv 1) ::
 OT 10 12 (.lenT 11) ::
 OT 10 13 (.bin .eql 12 (I 12)) ::
 O 14 (.pick 10 13 (.c (.bool false))) ::
 O 15 (.mv 14) ::
 c_chacha_right_p1
def c_chacha_right : AFunc := ⟨23, (
 .seq (.ops (O 6 (.mv (.c (.bool false))) ::
 [])) (
 .seq (.ops (O 7 (.mv 0) ::
 O 8 (.lenT 7) ::
 O 9 (.bin .eql 8 (I 32)) ::
 O 10 (.mv 9) ::
 c_chacha_right_p0)) (
 .ret))), [.t 6]⟩
theorem is_chacha_right : IsFun Go.Proofs.Tryz.prog f_chacha_right c_chacha_right := cFunc_is (obj := false) (by kernel_rfl)

abbrev f_chacha_block : Nat := 101
def c_chacha_block_p0 : List AOper :=
 O 7 (.alloc 185 (List.replicate 16 (.nat .u32 0))) ::
 S (.store 16 7 17) ::
 []
def c_chacha_block_p4 : ACode :=
 .seq (
 .block 3 (
 .seq (.ops (O 23 (.mv 21) ::
 O 9 (.mv 23) ::
 [])) (.ops (O 24 (.mv 9) ::
 O 25 (.mv 9) ::
 O 26 (.bin .add (I 4) 25) ::
 O 27 (.mv 9) ::
 O 28 (.bin .add (I 8) 27) ::
 O 29 (.mv 9) ::
 O 30 (.bin .add (I 12) 29) ::
 C 31 154 [8, 24, 26, 28, 30] ::
 [])))) (.ops (O 32 (.bin .add 21 (I 1)) ::
 O 21 (.mv 32) ::
 []))
def c_chacha_block_p3 : ACode :=
 .seq (.ops (O 22 (.bin .lss 21 (I 4)) ::
 [])) (
 .seq (
 .cond 22 (.skip) (.exit 2)) (c_chacha_block_p4))
def c_chacha_block_p7 : ACode :=
 .seq (
 .block 5 (
 .seq (.ops (O 35 (.mv 33) ::
 O 10 (.mv 35) ::
 [])) (.ops (O 36 (.mv 10) ::
 O 37 (.mv 10) ::
 O 38 (.bin .add 37 (I 1)) ::
 O 39 (.bin .rem 38 (I 4)) ::
 O 40 (.bin .add (I 4) 39) ::
 O 41 (.mv 10) ::
 O 42 (.bin .add 41 (I 2)) ::
 O 43 (.bin .rem 42 (I 4)) ::
 O 44 (.bin .add (I 8) 43) ::
 O 45 (.mv 10) ::
 O 46 (.bin .add 45 (I 3)) ::
 O 47 (.bin .rem 46 (I 4)) ::
 O 48 (.bin .add (I 12) 47) ::
 C 49 154 [8, 36, 40, 44, 48] ::
 [])))) (.ops (O 50 (.bin .add 33 (I 1)) ::
 O 33 (.mv 50) ::
 []))
def c_chacha_block_p6 : ACode :=
 .seq (.ops (O 34 (.bin .lss 33 (I 4)) ::
 [])) (
 .seq (
 .cond 34 (.skip) (.exit 4)) (c_chacha_block_p7))
def c_chacha_block_p5 : ACode :=
 .seq (.ops (O 33 (.mv (I 0)) ::
 [])) (
 .block 4 (
 .loop (c_chacha_block_p6)))
def c_chacha_block_p8 : ACode :=
 .ops (
 O 51 (.bin .add 19 (I 1)) ::
 O 19 (.mv 51) ::
 [])
def c_chacha_block_p2 : ACode :=
 .seq (
 .block 1 (
 .seq (
 .seq (.ops (O 21 (.mv (I 0)) ::
 [])) (
 .block 2 (
 .loop (c_chacha_block_p3)))) (c_chacha_block_p5))) (c_chacha_block_p8)
def c_chacha_block_p1 : ACode :=
 .seq (.ops (O 20 (.bin .lss 19 (I 10)) ::
 [])) (
 .seq (
 .cond 20 (.skip) (.exit 0)) (c_chacha_block_p2))
def c_chacha_block_p11 : ACode :=
 .seq (
 .block 7 (
 .seq (.ops (O 55 (.mv 53) ::
 O 56 (.idxA 16 1 false 52 53) ::
 O 12 (.mv 55) ::
 O 13 (.mv 56) ::
 [])) (
 .seq (.ops (O 57 (.mv 13) ::
 O 58 (.mv 12) ::
 O 59 (.iadA 16 1 7 58) ::
 O 60 (.load 1 false 59) ::
 O 61 (.bin .add 57 60) ::
 O 13 (.mv 61) ::
 [])) (.ops (O 62 (.mv 12) ::
 O 63 (.bin .mul (I 4) 62) ::
 O 64 (.mv 12) ::
 O 65 (.bin .mul (I 4) 64) ::
 O 66 (.bin .add 65 (I 1)) ::
 O 67 (.mv 12) ::
 O 68 (.bin .mul (I 4) 67) ::
 O 69 (.bin .add 68 (I 2)) ::
 O 70 (.mv 12) ::
 O 71 (.bin .mul (I 4) 70) ::
 O 72 (.bin .add 71 (I 3)) ::
 O 73 (.mv 13) ::
 O 74 (.toInt .u8 73) ::
 O 75 (.mv 13) ::
 O 76 (.bin .shr 75 (U64 8)) ::
 O 77 (.toInt .u8 76) ::
 O 78 (.mv 13) ::
 O 79 (.bin .shr 78 (U64 16)) ::
 O 80 (.toInt .u8 79) ::
 O 81 (.mv 13) ::
 O 82 (.bin .shr 81 (U64 24)) ::
 O 83 (.toInt .u8 82) ::
 O 84 (.iadA 64 1 11 63) ::
 S (.store 1 84 74) ::
 O 85 (.iadA 64 1 11 66) ::
 S (.store 1 85 77) ::
 O 86 (.iadA 64 1 11 69) ::
 S (.store 1 86 80) ::
 O 87 (.iadA 64 1 11 72) ::
 S (.store 1 87 83) ::
 []))))) (.ops (O 88 (.bin .add 53 (I 1)) ::
 O 53 (.mv 88) ::
 []))
def c_chacha_block_p10 : ACode :=
 .seq (.ops (O 54 (.bin .lss 53 (I 16)) ::
 [])) (
 .seq (
 .cond 54 (.skip) (.exit 6)) (c_chacha_block_p11))
def c_chacha_block_p12 : ACode :=
 .seq (.ops (O 89 (.load 64 true 11) ::
 S (.store 64 6 89) ::
 [])) (
 .ret)
def c_chacha_block_p9 : ACode :=
 .seq (.ops (O 11 (.alloc 131 (List.replicate 64 (.nat .u8 0))) ::
 [])) (
 .seq (
 .seq (.ops (O 52 (.load 16 true 8) ::
 O 53 (.mv (I 0)) ::
 [])) (
 .block 6 (
 .loop (c_chacha_block_p10)))) (c_chacha_block_p12))
def c_chacha_block : AFunc := ⟨90, (
 .seq (.ops (O 6 (.alloc 131 (List.replicate 64 (.nat .u8 0))) ::
 [])) (
 .seq (.ops (O 14 (.mv 0) ::
 O 15 (.mv 1) ::
 O 16 (.mv 2) ::
 C 17 153 [14, 15, 16] ::
 c_chacha_block_p0)) (
 .seq (.ops (O 18 (.load 16 true 7) ::
 O 8 (.alloc 185 (List.replicate 16 (.nat .u32 0))) ::
 S (.store 16 8 18) ::
 [])) (
 .seq (
 .seq (.ops (O 19 (.mv (I 0)) ::
 [])) (
 .block 0 (
 .loop (c_chacha_block_p1)))) (c_chacha_block_p9))))), [.cell 6 64 true]⟩
theorem is_chacha_block : IsFun Go.Proofs.Tryz.prog f_chacha_block c_chacha_block := cFunc_is (obj := false) (by kernel_rfl)

abbrev f_strings_trimLeftByte : Nat := 102
def c_strings_trimLeftByte_p1 : List AOper :=
 OT 8 9 (.mv 0) ::
 OT 8 10 (.idxS 9 (I 0)) ::
 OT 8 11 (.mv 1) ::
 OT 8 12 (.bin .eql 10 11) ::
 O 13 (.pick 8 12 (.c (.bool false))) ::
 []
def c_strings_trimLeftByte_p2 : ACode :=
 .block 1 (.ops (O 14 (.mv 0) ::
 O 15 (.sliceT 14 (some (I 1)) none) ::
 O 0 (.mv 15) ::
 []))
def c_strings_trimLeftByte_p0 : ACode :=
 .seq (
 .seq (.ops (O 5 (.mv 0) ::
 O 6 (.lenT 5) ::
 O 7 (.bin .gtr 6 (I 0)) ::
 O 8 (.mv 7) ::
 c_strings_trimLeftByte_p1)) (
 .cond 13 (.skip) (.exit 0))) (c_strings_trimLeftByte_p2)
def c_strings_trimLeftByte_p3 : ACode :=
 .seq (.ops (O 16 (.mv 0) ::
 O 4 (.mv 16) ::
 [])) (
 .ret)
def c_strings_trimLeftByte : AFunc := ⟨17, (
 .seq (.ops (O 4 (.mv (.c (.str (bytesOf [])))) ::
 [])) (
 .seq (
 .block 0 (
 .loop (c_strings_trimLeftByte_p0))) (c_strings_trimLeftByte_p3))), [.t 4]⟩
theorem is_strings_trimLeftByte : IsFun Go.Proofs.Tryz.prog f_strings_trimLeftByte c_strings_trimLeftByte := cFunc_is (obj := false) (by kernel_rfl)

abbrev f_strings_trimRightByte : Nat := 103
def c_strings_trimRightByte_p1 : List AOper :=
 OT 8 9 (.mv 0) ::
 OT 8 10 (.mv 0) ::
 OT 8 11 (.lenT 10) ::
 OT 8 12 (.bin .sub 11 (I 1)) ::
 OT 8 13 (.idxS 9 12) ::
 OT 8 14 (.mv 1) ::
 OT 8 15 (.bin .eql 13 14) ::
 O 16 (.pick 8 15 (.c (.bool false))) ::
 []
def c_strings_trimRightByte_p2 : ACode :=
 .block 1 (.ops (O 17 (.mv 0) ::
 O 18 (.mv 0) ::
 O 19 (.lenT 18) ::
 O 20 (.bin .sub 19 (I 1)) ::
 O 21 (.sliceT 17 none (some 20)) ::
 O 0 (.mv 21) ::
 []))
def c_strings_trimRightByte_p0 : ACode :=
 .seq (
 .seq (.ops (O 5 (.mv 0) ::
 O 6 (.lenT 5) ::
 O 7 (.bin .gtr 6 (I 0)) ::
 O 8 (.mv 7) ::
 c_strings_trimRightByte_p1)) (
 .cond 16 (.skip) (.exit 0))) (c_strings_trimRightByte_p2)
def c_strings_trimRightByte_p3 : ACode :=
 .seq (.ops (O 22 (.mv 0) ::
 O 4 (.mv 22) ::
 [])) (
 .ret)
def c_strings_trimRightByte : AFunc := ⟨23, (
 .seq (.ops (O 4 (.mv (.c (.str (bytesOf [])))) ::
 [])) (
 .seq (
 .block 0 (
 .loop (c_strings_trimRightByte_p0))) (c_strings_trimRightByte_p3))), [.t 4]⟩
theorem is_strings_trimRightByte : IsFun Go.Proofs.Tryz.prog f_strings_trimRightByte c_strings_trimRightByte := cFunc_is (obj := false) (by kernel_rfl)

abbrev f_strings_makeASCIISet : Nat := 104
def c_strings_makeASCIISet_p2 : ACode :=
 .seq (.ops (O 17 (.load 256 true 2) ::
 S (.store 256 2 17) ::
 O 3 (.mv (.c (.bool false))) ::
 [])) (
 .ret)
def c_strings_makeASCIISet_p3 : ACode :=
 .ops (
 O 18 (.mv 5) ::
 O 19 (.iadA 256 1 2 18) ::
 S (.store 1 19 (.c (.bool true))) ::
 [])
def c_strings_makeASCIISet_p4 : ACode :=
 .ops (
 O 10 (.mv 4) ::
 O 11 (.bin .add 10 (I 1)) ::
 O 4 (.mv 11) ::
 [])
def c_strings_makeASCIISet_p1 : ACode :=
 .seq (
 .block 1 (
 .seq (.ops (O 12 (.mv 0) ::
 O 13 (.mv 4) ::
 O 14 (.idxS 12 13) ::
 O 5 (.mv 14) ::
 [])) (
 .seq (
 .seq (.ops (O 15 (.mv 5) ::
 O 16 (.bin .geq 15 (U8 128)) ::
 [])) (
 .cond 16 (c_strings_makeASCIISet_p2) (.skip))) (c_strings_makeASCIISet_p3)))) (c_strings_makeASCIISet_p4)
def c_strings_makeASCIISet_p0 : ACode :=
 .seq (
 .seq (.ops (O 6 (.mv 4) ::
 O 7 (.mv 0) ::
 O 8 (.lenT 7) ::
 O 9 (.bin .lss 6 8) ::
 [])) (
 .cond 9 (.skip) (.exit 0))) (c_strings_makeASCIISet_p1)
def c_strings_makeASCIISet_p5 : ACode :=
 .seq (.ops (O 20 (.load 256 true 2) ::
 S (.store 256 2 20) ::
 O 3 (.mv (.c (.bool true))) ::
 [])) (
 .ret)
def c_strings_makeASCIISet : AFunc := ⟨21, (
 .seq (.ops (O 2 (.alloc 135 (List.replicate 256 (.bool false))) ::
 O 3 (.mv (.c (.bool false))) ::
 [])) (
 .seq (
 .seq (.ops (O 4 (.mv (I 0)) ::
 [])) (
 .block 0 (
 .loop (c_strings_makeASCIISet_p0)))) (c_strings_makeASCIISet_p5))), [.cell 2 256 true, .t 3]⟩
theorem is_strings_makeASCIISet : IsFun Go.Proofs.Tryz.prog f_strings_makeASCIISet c_strings_makeASCIISet := cFunc_is (obj := false) (by kernel_rfl)

abbrev f_strings_trimLeftASCII : Nat := 105
def c_strings_trimLeftASCII_p2 : List AOper :=
 O 12 (.un .not 11) ::
 []
def c_strings_trimLeftASCII_p3 : ACode :=
 .ops (
 O 13 (.mv 0) ::
 O 14 (.sliceT 13 (some (I 1)) none) ::
 O 0 (.mv 14) ::
 [])
def c_strings_trimLeftASCII_p1 : ACode :=
 .block 1 (
 .seq (
 .seq (.ops (O 8 (.mv 1) ::
 O 9 (.mv 0) ::
 O 10 (.idxS 9 (I 0)) ::
 C 11 155 [8, 10] ::
 c_strings_trimLeftASCII_p2)) (
 .cond 12 (.exit 0) (.skip))) (c_strings_trimLeftASCII_p3))
def c_strings_trimLeftASCII_p0 : ACode :=
 .seq (
 .seq (.ops (O 5 (.mv 0) ::
 O 6 (.lenT 5) ::
 O 7 (.bin .gtr 6 (I 0)) ::
 [])) (
 .cond 7 (.skip) (.exit 0))) (c_strings_trimLeftASCII_p1)
def c_strings_trimLeftASCII_p4 : ACode :=
 .seq (.ops (O 15 (.mv 0) ::
 O 4 (.mv 15) ::
 [])) (
 .ret)
def c_strings_trimLeftASCII : AFunc := ⟨16, (
 .seq (.ops (O 4 (.mv (.c (.str (bytesOf [])))) ::
 [])) (
 .seq (
 .block 0 (
 .loop (c_strings_trimLeftASCII_p0))) (c_strings_trimLeftASCII_p4))), [.t 4]⟩
theorem is_strings_trimLeftASCII : IsFun Go.Proofs.Tryz.prog f_strings_trimLeftASCII c_strings_trimLeftASCII := cFunc_is (obj := false) (by kernel_rfl)

abbrev f_strings_trimRightASCII : Nat := 106
def c_strings_trimRightASCII_p2 : List AOper :=
 O 15 (.un .not 14) ::
 []
def c_strings_trimRightASCII_p3 : ACode :=
 .ops (
 O 16 (.mv 0) ::
 O 17 (.mv 0) ::
 O 18 (.lenT 17) ::
 O 19 (.bin .sub 18 (I 1)) ::
 O 20 (.sliceT 16 none (some 19)) ::
 O 0 (.mv 20) ::
 [])
def c_strings_trimRightASCII_p1 : ACode :=
 .block 1 (
 .seq (
 .seq (.ops (O 8 (.mv 1) ::
 O 9 (.mv 0) ::
 O 10 (.mv 0) ::
 O 11 (.lenT 10) ::
 O 12 (.bin .sub 11 (I 1)) ::
 O 13 (.idxS 9 12) ::
 C 14 155 [8, 13] ::
 c_strings_trimRightASCII_p2)) (
 .cond 15 (.exit 0) (.skip))) (c_strings_trimRightASCII_p3))
def c_strings_trimRightASCII_p0 : ACode :=
 .seq (
 .seq (.ops (O 5 (.mv 0) ::
 O 6 (.lenT 5) ::
 O 7 (.bin .gtr 6 (I 0)) ::
 [])) (
 .cond 7 (.skip) (.exit 0))) (c_strings_trimRightASCII_p1)
def c_strings_trimRightASCII_p4 : ACode :=
 .seq (.ops (O 21 (.mv 0) ::
 O 4 (.mv 21) ::
 [])) (
 .ret)
def c_strings_trimRightASCII : AFunc := ⟨22, (
 .seq (.ops (O 4 (.mv (.c (.str (bytesOf [])))) ::
 [])) (
 .seq (
 .block 0 (
 .loop (c_strings_trimRightASCII_p0))) (c_strings_trimRightASCII_p4))), [.t 4]⟩
theorem is_strings_trimRightASCII : IsFun Go.Proofs.Tryz.prog f_strings_trimRightASCII c_strings_trimRightASCII := cFunc_is (obj := false) (by kernel_rfl)

abbrev f_strings_trimLeftUnicode : Nat := 107
def c_strings_trimLeftUnicode_p2 : List AOper :=
 O 10 (.mv 12) ::
 O 13 (.ext 10 0) ::
 O 14 (.ext 10 1) ::
 O 5 (.mv 13) ::
 O 6 (.mv 14) ::
 []
def c_strings_trimLeftUnicode_p3 : List AOper :=
 O 18 (.un .not 17) ::
 []
def c_strings_trimLeftUnicode_p4 : ACode :=
 .ops (
 O 19 (.mv 0) ::
 O 20 (.mv 6) ::
 O 21 (.sliceT 19 (some 20) none) ::
 O 0 (.mv 21) ::
 [])
def c_strings_trimLeftUnicode_p1 : ACode :=
 .block 1 (
 .seq (.ops (O 11 (.mv 0) ::
 C 12 156 [11] ::
 c_strings_trimLeftUnicode_p2)) (
 .seq (
 .seq (.ops (O 15 (.mv 1) ::
 O 16 (.mv 5) ::
 C 17 157 [15, 16] ::
 c_strings_trimLeftUnicode_p3)) (
 .cond 18 (.exit 0) (.skip))) (c_strings_trimLeftUnicode_p4)))
def c_strings_trimLeftUnicode_p0 : ACode :=
 .seq (
 .seq (.ops (O 7 (.mv 0) ::
 O 8 (.lenT 7) ::
 O 9 (.bin .gtr 8 (I 0)) ::
 [])) (
 .cond 9 (.skip) (.exit 0))) (c_strings_trimLeftUnicode_p1)
def c_strings_trimLeftUnicode_p5 : ACode :=
 .seq (.ops (O 22 (.mv 0) ::
 O 4 (.mv 22) ::
 [])) (
 .ret)
def c_strings_trimLeftUnicode : AFunc := ⟨23, (
 .seq (.ops (O 4 (.mv (.c (.str (bytesOf [])))) ::
 [])) (
 .seq (
 .block 0 (
 .loop (c_strings_trimLeftUnicode_p0))) (c_strings_trimLeftUnicode_p5))), [.t 4]⟩
theorem is_strings_trimLeftUnicode : IsFun Go.Proofs.Tryz.prog f_strings_trimLeftUnicode c_strings_trimLeftUnicode := cFunc_is (obj := false) (by kernel_rfl)

abbrev f_strings_trimRightUnicode : Nat := 108
def c_strings_trimRightUnicode_p3 : List AOper :=
 O 18 (.mv 20) ::
 O 21 (.ext 18 0) ::
 O 22 (.ext 18 1) ::
 O 5 (.mv 21) ::
 O 6 (.mv 22) ::
 []
def c_strings_trimRightUnicode_p2 : ACode :=
 .ops (
 O 19 (.mv 0) ::
 C 20 158 [19] ::
 c_strings_trimRightUnicode_p3)
def c_strings_trimRightUnicode_p5 : List AOper :=
 O 26 (.un .not 25) ::
 []
def c_strings_trimRightUnicode_p6 : ACode :=
 .ops (
 O 27 (.mv 0) ::
 O 28 (.mv 0) ::
 O 29 (.lenT 28) ::
 O 30 (.mv 6) ::
 O 31 (.bin .sub 29 30) ::
 O 32 (.sliceT 27 none (some 31)) ::
 O 0 (.mv 32) ::
 [])
def c_strings_trimRightUnicode_p4 : ACode :=
 .seq (
 .seq (.ops (O 23 (.mv 1) ::
 O 24 (.mv 5) ::
 C 25 157 [23, 24] ::
 c_strings_trimRightUnicode_p5)) (
 .cond 26 (.exit 0) (.skip))) (c_strings_trimRightUnicode_p6)
def c_strings_trimRightUnicode_p1 : ACode :=
 .block 1 (
 .seq (.ops (O 10 (.mv 0) ::
 O 11 (.mv 0) ::
 O 12 (.lenT 11) ::
 O 13 (.bin .sub 12 (I 1)) ::
 O 14 (.idxS 10 13) ::
 O 15 (.toInt .i32 14) ::
 O 5 (.mv 15) ::
 O 6 (.mv (I 1)) ::
 [])) (
 .seq (
 .seq (.ops (O 16 (.mv 5) ::
 O 17 (.bin .geq 16 (.c (.nat .i32 128))) ::
 [])) (
 .cond 17 (c_strings_trimRightUnicode_p2) (.skip))) (c_strings_trimRightUnicode_p4)))
def c_strings_trimRightUnicode_p0 : ACode :=
 .seq (
 .seq (.ops (O 7 (.mv 0) ::
 O 8 (.lenT 7) ::
 O 9 (.bin .gtr 8 (I 0)) ::
 [])) (
 .cond 9 (.skip) (.exit 0))) (c_strings_trimRightUnicode_p1)
def c_strings_trimRightUnicode_p7 : ACode :=
 .seq (.ops (O 33 (.mv 0) ::
 O 4 (.mv 33) ::
 [])) (
 .ret)
def c_strings_trimRightUnicode : AFunc := ⟨34, (
 .seq (.ops (O 4 (.mv (.c (.str (bytesOf [])))) ::
 [])) (
 .seq (
 .block 0 (
 .loop (c_strings_trimRightUnicode_p0))) (c_strings_trimRightUnicode_p7))), [.t 4]⟩
theorem is_strings_trimRightUnicode : IsFun Go.Proofs.Tryz.prog f_strings_trimRightUnicode c_strings_trimRightUnicode := cFunc_is (obj := false) (by kernel_rfl)

abbrev f_bits_New : Nat := 109
def c_bits_New : AFunc := ⟨6, (
 .seq (.ops (O 2 (.mv (.c (.nilp))) ::
 [])) (
 .seq (.ops (O 3 (.mv 0) ::
 O 4 (.build [.str (bytesOf []), .nat .i64 0] [(0, 1, 3)]) ::
 O 5 (.box 193 4) ::
 O 2 (.mv 5) ::
 [])) (
 .ret))), [.t 2]⟩
theorem is_bits_New : IsFun Go.Proofs.Tryz.prog f_bits_New c_bits_New := cFunc_is (obj := false) (by kernel_rfl)

abbrev f_inflate_reader_take : Nat := 110
def c_inflate_reader_take_p0 : List AOper :=
 O 7 (.mv 13) ::
 O 14 (.ext 7 0) ::
 O 15 (.ext 7 1) ::
 O 5 (.mv 14) ::
 O 6 (.mv 15) ::
 []
def c_inflate_reader_take_p1 : ACode :=
 .ops (
 O 18 (.mv 0) ::
 C 19 115 [18, (I 2)] ::
 [])
def c_inflate_reader_take_p2 : ACode :=
 .seq (.ops (O 20 (.mv 5) ::
 O 4 (.mv 20) ::
 [])) (
 .ret)
def c_inflate_reader_take : AFunc := ⟨21, (
 .seq (.ops (O 4 (.mv (I 0)) ::
 [])) (
 .seq (.ops (O 8 (.mv 0) ::
 O 9 (.nilck 8) ::
 O 10 (.faddr 0 9) ::
 O 11 (.load 1 false 10) ::
 O 12 (.mv 1) ::
 C 13 159 [11, 12] ::
 c_inflate_reader_take_p0)) (
 .seq (
 .seq (.ops (O 16 (.mv 6) ::
 O 17 (.un .not 16) ::
 [])) (
 .cond 17 (c_inflate_reader_take_p1) (.skip))) (c_inflate_reader_take_p2)))), [.t 4]⟩
theorem is_inflate_reader_take : IsFun Go.Proofs.Tryz.prog f_inflate_reader_take c_inflate_reader_take := cFunc_is (obj := false) (by kernel_rfl)

abbrev f_inflate_reader_stored : Nat := 111
def c_inflate_reader_stored_p1 : List AOper :=
 O 2 (.mv 12) ::
 O 3 (.mv 14) ::
 []
def c_inflate_reader_stored_p0 : List AOper :=
 O 13 (.mv 0) ::
 C 14 110 [13, (I 16)] ::
 c_inflate_reader_stored_p1
def c_inflate_reader_stored_p2 : List AOper :=
 OF 20 21 (.mv 2) ::
 OF 20 22 (.mv 3) ::
 OF 20 23 (.bin .xor 21 22) ::
 OF 20 24 (.bin .neq 23 (I 65535)) ::
 O 25 (.pick 20 (.c (.bool true)) 24) ::
 []
def c_inflate_reader_stored_p3 : ACode :=
 .seq (.ops (O 26 (.mv 0) ::
 C 27 115 [26, (I 2)] ::
 [])) (
 .ret)
def c_inflate_reader_stored_p5 : List AOper :=
 O 28 (.mv 34) ::
 O 35 (.ext 28 0) ::
 O 36 (.ext 28 1) ::
 O 4 (.mv 35) ::
 O 5 (.mv 36) ::
 []
def c_inflate_reader_stored_p6 : ACode :=
 .ops (
 O 39 (.mv 0) ::
 C 40 115 [39, (I 2)] ::
 [])
def c_inflate_reader_stored_p8 : ACode :=
 .ops (
 O 44 (.mv 0) ::
 O 45 (.mv 0) ::
 O 46 (.nilck 45) ::
 O 47 (.faddr 1 46) ::
 O 48 (.load 1 false 47) ::
 O 49 (.mv 4) ::
 O 50 (.app 5 1 1 48 49) ::
 O 51 (.nilck 44) ::
 O 52 (.faddr 1 51) ::
 S (.store 1 52 50) ::
 [])
def c_inflate_reader_stored_p7 : ACode :=
 .seq (.ops (O 41 (.mv 0) ::
 O 42 (.mv 2) ::
 C 43 161 [41, 42] ::
 [])) (
 .cond 43 (c_inflate_reader_stored_p8) (.skip))
def c_inflate_reader_stored_p4 : ACode :=
 .seq (.ops (O 29 (.mv 0) ::
 O 30 (.nilck 29) ::
 O 31 (.faddr 0 30) ::
 O 32 (.load 1 false 31) ::
 O 33 (.mv 2) ::
 C 34 160 [32, 33] ::
 c_inflate_reader_stored_p5)) (
 .seq (
 .seq (.ops (O 37 (.mv 5) ::
 O 38 (.un .not 37) ::
 [])) (
 .cond 38 (c_inflate_reader_stored_p6) (.skip))) (c_inflate_reader_stored_p7))
def c_inflate_reader_stored : AFunc := ⟨53, (
 .seq (.ops (O 6 (.mv 0) ::
 O 7 (.nilck 6) ::
 O 8 (.faddr 0 7) ::
 O 9 (.load 1 false 8) ::
 C 10 116 [9] ::
 [])) (
 .seq (.ops (O 11 (.mv 0) ::
 C 12 110 [11, (I 16)] ::
 c_inflate_reader_stored_p0)) (
 .seq (
 .seq (.ops (O 15 (.mv 0) ::
 O 16 (.nilck 15) ::
 O 17 (.faddr 3 16) ::
 O 18 (.load 1 false 17) ::
 O 19 (.bin .neq 18 (I 0)) ::
 O 20 (.mv 19) ::
 c_inflate_reader_stored_p2)) (
 .cond 25 (c_inflate_reader_stored_p3) (.skip))) (c_inflate_reader_stored_p4)))), []⟩
theorem is_inflate_reader_stored : IsFun Go.Proofs.Tryz.prog f_inflate_reader_stored c_inflate_reader_stored := cFunc_is (obj := false) (by kernel_rfl)

abbrev f_inflate_reader_tokens : Nat := 112
def c_inflate_reader_tokens_p2 : List AOper :=
 O 6 (.mv 16) ::
 []
def c_inflate_reader_tokens_p3 : List AOper :=
 OF 70 71 (.mv 6) ::
 OF 70 72 (.bin .eql 71 (I 256)) ::
 O 73 (.pick 70 (.c (.bool true)) 72) ::
 O 64 (.mv 73) ::
 []
def c_inflate_reader_tokens_p6 : ACode :=
 .ops (
 O 79 (.mv 0) ::
 O 80 (.mv 0) ::
 O 81 (.nilck 80) ::
 O 82 (.faddr 1 81) ::
 O 83 (.load 1 false 82) ::
 O 84 (.mv 6) ::
 O 85 (.toInt .u8 84) ::
 O 86 (.lit false 5 1 1 [.nat .u8 0] [(0, 1, 85)]) ::
 O 87 (.app 5 1 1 83 86) ::
 O 88 (.nilck 79) ::
 O 89 (.faddr 1 88) ::
 S (.store 1 89 87) ::
 [])
def c_inflate_reader_tokens_p5 : ACode :=
 .seq (.ops (O 77 (.mv 0) ::
 C 78 161 [77, (I 1)] ::
 [])) (
 .cond 78 (c_inflate_reader_tokens_p6) (.skip))
def c_inflate_reader_tokens_p8 : List AOper :=
 O 7 (.mv 19) ::
 []
def c_inflate_reader_tokens_p10 : List AOper :=
 O 8 (.mv 24) ::
 []
def c_inflate_reader_tokens_p9 : List AOper :=
 C 24 164 [20, 23] ::
 c_inflate_reader_tokens_p10
def c_inflate_reader_tokens_p11 : ACode :=
 .ops (
 O 32 (.mv 0) ::
 C 33 115 [32, (I 2)] ::
 [])
def c_inflate_reader_tokens_p13 : List AOper :=
 O 37 (.un .not 36) ::
 []
def c_inflate_reader_tokens_p16 : ACode :=
 .seq (
 .block 4 (.ops (O 41 (.mv 0) ::
 O 42 (.mv 0) ::
 O 43 (.nilck 42) ::
 O 44 (.faddr 1 43) ::
 O 45 (.load 1 false 44) ::
 O 46 (.mv 0) ::
 O 47 (.nilck 46) ::
 O 48 (.faddr 1 47) ::
 O 49 (.load 1 false 48) ::
 O 50 (.mv 0) ::
 O 51 (.nilck 50) ::
 O 52 (.faddr 1 51) ::
 O 53 (.load 1 false 52) ::
 O 54 (.lenS 53) ::
 O 55 (.mv 8) ::
 O 56 (.bin .sub 54 55) ::
 O 57 (.iadS 1 49 56) ::
 O 58 (.load 1 false 57) ::
 O 59 (.lit false 5 1 1 [.nat .u8 0] [(0, 1, 58)]) ::
 O 60 (.app 5 1 1 45 59) ::
 O 61 (.nilck 41) ::
 O 62 (.faddr 1 61) ::
 S (.store 1 62 60) ::
 []))) (.ops (O 63 (.bin .add 39 (I 1)) ::
 O 39 (.mv 63) ::
 []))
def c_inflate_reader_tokens_p15 : ACode :=
 .seq (.ops (O 40 (.bin .lss 39 38) ::
 [])) (
 .seq (
 .cond 40 (.skip) (.exit 3)) (c_inflate_reader_tokens_p16))
def c_inflate_reader_tokens_p14 : ACode :=
 .seq (.ops (O 38 (.mv 7) ::
 O 39 (.mv (I 0)) ::
 [])) (
 .block 3 (
 .loop (c_inflate_reader_tokens_p15)))
def c_inflate_reader_tokens_p12 : ACode :=
 .seq (
 .seq (.ops (O 34 (.mv 0) ::
 O 35 (.mv 7) ::
 C 36 161 [34, 35] ::
 c_inflate_reader_tokens_p13)) (
 .cond 37 (.ret) (.skip))) (c_inflate_reader_tokens_p14)
def c_inflate_reader_tokens_p7 : ACode :=
 .seq (.ops (O 17 (.mv 0) ::
 O 18 (.mv 6) ::
 C 19 163 [17, 18] ::
 c_inflate_reader_tokens_p8)) (
 .seq (.ops (O 20 (.mv 0) ::
 O 21 (.mv 0) ::
 O 22 (.mv 2) ::
 C 23 162 [21, 22] ::
 c_inflate_reader_tokens_p9)) (
 .seq (
 .seq (.ops (O 25 (.mv 8) ::
 O 26 (.mv 0) ::
 O 27 (.nilck 26) ::
 O 28 (.faddr 1 27) ::
 O 29 (.load 1 false 28) ::
 O 30 (.lenS 29) ::
 O 31 (.bin .gtr 25 30) ::
 [])) (
 .cond 31 (c_inflate_reader_tokens_p11) (.skip))) (c_inflate_reader_tokens_p12)))
def c_inflate_reader_tokens_p4 : ACode :=
 .seq (.ops (O 75 (.mv 6) ::
 O 76 (.bin .lss 75 (I 256)) ::
 O 74 (.mv 76) ::
 [])) (
 .cond 74 (c_inflate_reader_tokens_p5) (c_inflate_reader_tokens_p7))
def c_inflate_reader_tokens_p1 : ACode :=
 .block 1 (
 .seq (.ops (O 14 (.mv 0) ::
 O 15 (.mv 1) ::
 C 16 162 [14, 15] ::
 c_inflate_reader_tokens_p2)) (
 .block 2 (
 .seq (.ops (O 65 (.mv 0) ::
 O 66 (.nilck 65) ::
 O 67 (.faddr 3 66) ::
 O 68 (.load 1 false 67) ::
 O 69 (.bin .neq 68 (I 0)) ::
 O 70 (.mv 69) ::
 c_inflate_reader_tokens_p3)) (
 .cond 64 (.ret) (c_inflate_reader_tokens_p4)))))
def c_inflate_reader_tokens_p0 : ACode :=
 .seq (
 .seq (.ops (O 9 (.mv 0) ::
 O 10 (.nilck 9) ::
 O 11 (.faddr 3 10) ::
 O 12 (.load 1 false 11) ::
 O 13 (.bin .eql 12 (I 0)) ::
 [])) (
 .cond 13 (.skip) (.exit 0))) (c_inflate_reader_tokens_p1)
def c_inflate_reader_tokens : AFunc := ⟨90, (
 .block 0 (
 .loop (c_inflate_reader_tokens_p0))), []⟩
theorem is_inflate_reader_tokens : IsFun Go.Proofs.Tryz.prog f_inflate_reader_tokens c_inflate_reader_tokens := cFunc_is (obj := false) (by kernel_rfl)

abbrev f_inflate_fixed : Nat := 113
def c_inflate_fixed_p4 : List AOper :=
 O 2 (.mv 16) ::
 []
def c_inflate_fixed_p3 : List AOper :=
 O 15 (.lit false 124 4 1 [.nils] [(0, 1, 8), (1, 1, 10), (2, 1, 12), (3, 1, 14)]) ::
 C 16 165 [15] ::
 c_inflate_fixed_p4
def c_inflate_fixed_p2 : List AOper :=
 O 13 (.lit false 3 1 1 [.nat .i64 0] [(0, 1, (I 8))]) ::
 C 14 166 [13, (I 8)] ::
 c_inflate_fixed_p3
def c_inflate_fixed_p1 : List AOper :=
 O 11 (.lit false 3 1 1 [.nat .i64 0] [(0, 1, (I 7))]) ::
 C 12 166 [11, (I 24)] ::
 c_inflate_fixed_p2
def c_inflate_fixed_p0 : List AOper :=
 O 9 (.lit false 3 1 1 [.nat .i64 0] [(0, 1, (I 9))]) ::
 C 10 166 [9, (I 112)] ::
 c_inflate_fixed_p1
def c_inflate_fixed_p5 : List AOper :=
 O 17 (.mv 19) ::
 O 20 (.ext 17 0) ::
 O 21 (.ext 17 1) ::
 O 3 (.mv 20) ::
 O 4 (.mv 21) ::
 []
def c_inflate_fixed_p7 : List AOper :=
 O 22 (.mv 25) ::
 O 26 (.ext 22 0) ::
 O 27 (.ext 22 1) ::
 O 5 (.mv 26) ::
 O 6 (.mv 27) ::
 []
def c_inflate_fixed_p6 : List AOper :=
 C 25 167 [24] ::
 c_inflate_fixed_p7
def c_inflate_fixed : AFunc := ⟨30, (
 .seq (.ops (O 0 (.mv (.c (.nilp))) ::
 O 1 (.mv (.c (.nilp))) ::
 [])) (
 .seq (.ops (O 7 (.lit false 3 1 1 [.nat .i64 0] [(0, 1, (I 8))]) ::
 C 8 166 [7, (I 144)] ::
 c_inflate_fixed_p0)) (
 .seq (.ops (O 18 (.mv 2) ::
 C 19 167 [18] ::
 c_inflate_fixed_p5)) (
 .seq (.ops (O 23 (.lit false 3 1 1 [.nat .i64 0] [(0, 1, (I 5))]) ::
 C 24 166 [23, (I 32)] ::
 c_inflate_fixed_p6)) (
 .seq (.ops (O 28 (.mv 3) ::
 O 29 (.mv 5) ::
 O 0 (.mv 28) ::
 O 1 (.mv 29) ::
 [])) (
 .ret)))))), [.t 0, .t 1]⟩
theorem is_inflate_fixed : IsFun Go.Proofs.Tryz.prog f_inflate_fixed c_inflate_fixed := cFunc_is (obj := false) (by kernel_rfl)

abbrev f_inflate_reader_dynamic : Nat := 114
def c_inflate_reader_dynamic_p2 : List AOper :=
 O 20 (.bin .add (I 4) 19) ::
 O 4 (.mv 14) ::
 O 5 (.mv 17) ::
 O 6 (.mv 20) ::
 []
def c_inflate_reader_dynamic_p1 : List AOper :=
 O 17 (.bin .add (I 1) 16) ::
 O 18 (.mv 0) ::
 C 19 110 [18, (I 4)] ::
 c_inflate_reader_dynamic_p2
def c_inflate_reader_dynamic_p0 : List AOper :=
 O 14 (.bin .add (I 257) 13) ::
 O 15 (.mv 0) ::
 C 16 110 [15, (I 5)] ::
 c_inflate_reader_dynamic_p1
def c_inflate_reader_dynamic_p3 : List AOper :=
 OF 23 24 (.mv 5) ::
 OF 23 25 (.bin .gtr 24 (I 30)) ::
 O 26 (.pick 23 (.c (.bool true)) 25) ::
 []
def c_inflate_reader_dynamic_p4 : ACode :=
 .ops (
 O 27 (.mv 0) ::
 C 28 115 [27, (I 2)] ::
 [])
def c_inflate_reader_dynamic_p8 : List AOper :=
 OT 37 38 (.mv 0) ::
 OT 37 39 (.nilck 38) ::
 OT 37 40 (.faddr 3 39) ::
 OT 37 41 (.load 1 false 40) ::
 OT 37 42 (.bin .eql 41 (I 0)) ::
 O 43 (.pick 37 42 (.c (.bool false))) ::
 []
def c_inflate_reader_dynamic_p10 : List AOper :=
 O 47 (.iadA 19 1 7 44) ::
 S (.store 1 47 46) ::
 []
def c_inflate_reader_dynamic_p9 : ACode :=
 .ops (
 O 44 (.mv 9) ::
 O 45 (.mv 0) ::
 C 46 110 [45, (I 3)] ::
 c_inflate_reader_dynamic_p10)
def c_inflate_reader_dynamic_p11 : ACode :=
 .ops (
 O 48 (.bin .add 30 (I 1)) ::
 O 30 (.mv 48) ::
 [])
def c_inflate_reader_dynamic_p7 : ACode :=
 .seq (
 .block 1 (
 .seq (.ops (O 32 (.mv 30) ::
 O 33 (.idxA 19 1 false 29 30) ::
 O 8 (.mv 32) ::
 O 9 (.mv 33) ::
 [])) (
 .seq (.ops (O 34 (.mv 8) ::
 O 35 (.mv 6) ::
 O 36 (.bin .lss 34 35) ::
 O 37 (.mv 36) ::
 c_inflate_reader_dynamic_p8)) (
 .cond 43 (c_inflate_reader_dynamic_p9) (.skip))))) (c_inflate_reader_dynamic_p11)
def c_inflate_reader_dynamic_p6 : ACode :=
 .seq (.ops (O 31 (.bin .lss 30 (I 19)) ::
 [])) (
 .seq (
 .cond 31 (.skip) (.exit 0)) (c_inflate_reader_dynamic_p7))
def c_inflate_reader_dynamic_p13 : ACode :=
 .seq (.ops (O 2 (.mv (.c (.nilp))) ::
 O 3 (.mv (.c (.nilp))) ::
 [])) (
 .ret)
def c_inflate_reader_dynamic_p15 : List AOper :=
 O 10 (.mv 56) ::
 []
def c_inflate_reader_dynamic_p16 : List AOper :=
 O 11 (.mv 62) ::
 []
def c_inflate_reader_dynamic_p17 : ACode :=
 .seq (.ops (O 2 (.mv (.c (.nilp))) ::
 O 3 (.mv (.c (.nilp))) ::
 [])) (
 .ret)
def c_inflate_reader_dynamic_p19 : ACode :=
 .ops (
 O 72 (.mv 0) ::
 C 73 115 [72, (I 2)] ::
 [])
def c_inflate_reader_dynamic_p22 : List AOper :=
 O 2 (.mv 78) ::
 O 3 (.mv 83) ::
 []
def c_inflate_reader_dynamic_p21 : List AOper :=
 O 79 (.mv 0) ::
 O 80 (.mv 11) ::
 O 81 (.mv 4) ::
 O 82 (.sliceS 1 80 (some 81) none) ::
 C 83 168 [79, 82] ::
 c_inflate_reader_dynamic_p22
def c_inflate_reader_dynamic_p20 : ACode :=
 .seq (.ops (O 74 (.mv 0) ::
 O 75 (.mv 11) ::
 O 76 (.mv 4) ::
 O 77 (.sliceS 1 75 none (some 76)) ::
 C 78 168 [74, 77] ::
 c_inflate_reader_dynamic_p21)) (
 .ret)
def c_inflate_reader_dynamic_p18 : ACode :=
 .seq (
 .seq (.ops (O 68 (.mv 11) ::
 O 69 (.iadS 1 68 (I 256)) ::
 O 70 (.load 1 false 69) ::
 O 71 (.bin .eql 70 (I 0)) ::
 [])) (
 .cond 71 (c_inflate_reader_dynamic_p19) (.skip))) (c_inflate_reader_dynamic_p20)
def c_inflate_reader_dynamic_p14 : ACode :=
 .seq (.ops (O 54 (.mv 0) ::
 O 55 (.slarr 19 1 7 none none) ::
 C 56 168 [54, 55] ::
 c_inflate_reader_dynamic_p15)) (
 .seq (.ops (O 57 (.mv 0) ::
 O 58 (.mv 10) ::
 O 59 (.mv 4) ::
 O 60 (.mv 5) ::
 O 61 (.bin .add 59 60) ::
 C 62 169 [57, 58, 61] ::
 c_inflate_reader_dynamic_p16)) (
 .seq (
 .seq (.ops (O 63 (.mv 0) ::
 O 64 (.nilck 63) ::
 O 65 (.faddr 3 64) ::
 O 66 (.load 1 false 65) ::
 O 67 (.bin .neq 66 (I 0)) ::
 [])) (
 .cond 67 (c_inflate_reader_dynamic_p17) (.skip))) (c_inflate_reader_dynamic_p18)))
def c_inflate_reader_dynamic_p12 : ACode :=
 .seq (
 .seq (.ops (O 49 (.mv 0) ::
 O 50 (.nilck 49) ::
 O 51 (.faddr 3 50) ::
 O 52 (.load 1 false 51) ::
 O 53 (.bin .neq 52 (I 0)) ::
 [])) (
 .cond 53 (c_inflate_reader_dynamic_p13) (.skip))) (c_inflate_reader_dynamic_p14)
def c_inflate_reader_dynamic_p5 : ACode :=
 .seq (.ops (O 7 (.alloc 204 (List.replicate 19 (.nat .i64 0))) ::
 [])) (
 .seq (
 .seq (.ops (O 29 (.build (List.replicate 19 (.nat .i64 0)) [(0, 1, (I 16)), (1, 1, (I 17)), (2, 1, (I 18)), (3, 1, (I 0)), (4, 1, (I 8)), (5, 1, (I 7)), (6, 1, (I 9)), (7, 1, (I 6)), (8, 1, (I 10)), (9, 1, (I 5)), (10, 1, (I 11)), (11, 1, (I 4)), (12, 1, (I 12)), (13, 1, (I 3)), (14, 1, (I 13)), (15, 1, (I 2)), (16, 1, (I 14)), (17, 1, (I 1)), (18, 1, (I 15))]) ::
 O 30 (.mv (I 0)) ::
 [])) (
 .block 0 (
 .loop (c_inflate_reader_dynamic_p6)))) (c_inflate_reader_dynamic_p12))
def c_inflate_reader_dynamic : AFunc := ⟨84, (
 .seq (.ops (O 2 (.mv (.c (.nilp))) ::
 O 3 (.mv (.c (.nilp))) ::
 [])) (
 .seq (.ops (O 12 (.mv 0) ::
 C 13 110 [12, (I 5)] ::
 c_inflate_reader_dynamic_p0)) (
 .seq (
 .seq (.ops (O 21 (.mv 4) ::
 O 22 (.bin .gtr 21 (I 286)) ::
 O 23 (.mv 22) ::
 c_inflate_reader_dynamic_p3)) (
 .cond 26 (c_inflate_reader_dynamic_p4) (.skip))) (c_inflate_reader_dynamic_p5)))), [.t 2, .t 3]⟩
theorem is_inflate_reader_dynamic : IsFun Go.Proofs.Tryz.prog f_inflate_reader_dynamic c_inflate_reader_dynamic := cFunc_is (obj := false) (by kernel_rfl)

abbrev f_inflate_reader_fail : Nat := 115
def c_inflate_reader_fail_p0 : ACode :=
 .ops (
 O 9 (.mv 0) ::
 O 10 (.mv 1) ::
 O 11 (.nilck 9) ::
 O 12 (.faddr 3 11) ::
 S (.store 1 12 10) ::
 [])
def c_inflate_reader_fail : AFunc := ⟨13, (
 .seq (.ops (O 4 (.mv 0) ::
 O 5 (.nilck 4) ::
 O 6 (.faddr 3 5) ::
 O 7 (.load 1 false 6) ::
 O 8 (.bin .eql 7 (I 0)) ::
 [])) (
 .cond 8 (c_inflate_reader_fail_p0) (.skip))), []⟩
theorem is_inflate_reader_fail : IsFun Go.Proofs.Tryz.prog f_inflate_reader_fail c_inflate_reader_fail := cFunc_is (obj := false) (by kernel_rfl)

abbrev f_bits_Reader_Align : Nat := 116
def c_bits_Reader_Align_p0 : ACode :=
 .ops (
 O 4 (.mv 0) ::
 O 5 (.mv 0) ::
 O 6 (.nilck 5) ::
 O 7 (.faddr 1 6) ::
 O 8 (.load 1 false 7) ::
 O 9 (.bin .add 8 (I 7)) ::
 O 10 (.bin .quo 9 (I 8)) ::
 O 11 (.bin .mul 10 (I 8)) ::
 O 12 (.nilck 4) ::
 O 13 (.faddr 1 12) ::
 S (.store 1 13 11) ::
 [])
def c_bits_Reader_Align : AFunc := ⟨14, (
 .seq (.ops (O 2 (.mv 0) ::
 O 3 (.eqn .ptr .neq 2 (.c (.nilp))) ::
 [])) (
 .cond 3 (c_bits_Reader_Align_p0) (.skip))), []⟩
theorem is_bits_Reader_Align : IsFun Go.Proofs.Tryz.prog f_bits_Reader_Align c_bits_Reader_Align := cFunc_is (obj := false) (by kernel_rfl)

abbrev f_bits_Reader_Used : Nat := 117
def c_bits_Reader_Used_p0 : ACode :=
 .seq (.ops (O 2 (.mv (I 0)) ::
 [])) (
 .ret)
def c_bits_Reader_Used_p1 : ACode :=
 .seq (.ops (O 5 (.mv 0) ::
 O 6 (.nilck 5) ::
 O 7 (.faddr 1 6) ::
 O 8 (.load 1 false 7) ::
 O 2 (.mv 8) ::
 [])) (
 .ret)
def c_bits_Reader_Used : AFunc := ⟨9, (
 .seq (.ops (O 2 (.mv (I 0)) ::
 [])) (
 .seq (
 .seq (.ops (O 3 (.mv 0) ::
 O 4 (.eqn .ptr .eql 3 (.c (.nilp))) ::
 [])) (
 .cond 4 (c_bits_Reader_Used_p0) (.skip))) (c_bits_Reader_Used_p1))), [.t 2]⟩
theorem is_bits_Reader_Used : IsFun Go.Proofs.Tryz.prog f_bits_Reader_Used c_bits_Reader_Used := cFunc_is (obj := false) (by kernel_rfl)

abbrev f_enc_TakeNum : Nat := 118
def c_enc_TakeNum_p1 : ACode :=
 .seq (.ops (O 2 (.mv (I 0)) ::
 O 3 (.mv (.c (.str (bytesOf [])))) ::
 O 4 (.mv (I 2)) ::
 [])) (
 .ret)
def c_enc_TakeNum_p3 : ACode :=
 .seq (.ops (O 16 (.mv 0) ::
 O 17 (.idxS 16 (I 0)) ::
 O 18 (.toInt .i64 17) ::
 O 19 (.mv 0) ::
 O 20 (.sliceT 19 (some (I 1)) none) ::
 O 2 (.mv 18) ::
 O 3 (.mv 20) ::
 O 4 (.mv (I 0)) ::
 [])) (
 .ret)
def c_enc_TakeNum_p5 : List AOper :=
 OF 23 24 (.mv 7) ::
 OF 23 25 (.mv 0) ::
 OF 23 26 (.lenT 25) ::
 OF 23 27 (.bin .geq 24 26) ::
 O 28 (.pick 23 (.c (.bool true)) 27) ::
 []
def c_enc_TakeNum_p6 : ACode :=
 .seq (.ops (O 2 (.mv (I 0)) ::
 O 3 (.mv (.c (.str (bytesOf [])))) ::
 O 4 (.mv (I 2)) ::
 [])) (
 .ret)
def c_enc_TakeNum_p10 : List AOper :=
 OF 43 46 (.mv 5) ::
 OF 43 47 (.bin .lss 45 46) ::
 O 48 (.pick 43 (.c (.bool true)) 47) ::
 []
def c_enc_TakeNum_p9 : List AOper :=
 OF 43 44 (.mv 6) ::
 CF 43 45 170 [44] ::
 c_enc_TakeNum_p10
def c_enc_TakeNum_p11 : ACode :=
 .seq (.ops (O 2 (.mv (I 0)) ::
 O 3 (.mv (.c (.str (bytesOf [])))) ::
 O 4 (.mv (I 2)) ::
 [])) (
 .ret)
def c_enc_TakeNum_p12 : ACode :=
 .seq (.ops (O 49 (.mv 6) ::
 O 50 (.mv 0) ::
 O 51 (.mv 7) ::
 O 52 (.sliceT 50 (some 51) none) ::
 O 2 (.mv 49) ::
 O 3 (.mv 52) ::
 O 4 (.mv (I 0)) ::
 [])) (
 .ret)
def c_enc_TakeNum_p8 : ACode :=
 .seq (
 .seq (.ops (O 41 (.mv 6) ::
 O 42 (.bin .leq 41 (I 247)) ::
 O 43 (.mv 42) ::
 c_enc_TakeNum_p9)) (
 .cond 48 (c_enc_TakeNum_p11) (.skip))) (c_enc_TakeNum_p12)
def c_enc_TakeNum_p7 : ACode :=
 .seq (.ops (O 29 (.mv 6) ::
 O 30 (.bin .shl 29 (U64 8)) ::
 O 31 (.mv 0) ::
 O 32 (.mv 7) ::
 O 33 (.idxS 31 32) ::
 O 34 (.toInt .i64 33) ::
 O 35 (.bin .or 30 34) ::
 O 6 (.mv 35) ::
 [])) (
 .seq (
 .seq (.ops (O 36 (.mv 7) ::
 O 37 (.bin .add 36 (I 1)) ::
 O 7 (.mv 37) ::
 [])) (
 .seq (.ops (O 38 (.mv 7) ::
 O 39 (.mv 5) ::
 O 40 (.bin .leq 38 39) ::
 [])) (
 .cond 40 (.goto 0) (.skip)))) (c_enc_TakeNum_p8))
def c_enc_TakeNum_p4 : ACode :=
 .seq (.ops (O 6 (.mv (I 0)) ::
 O 7 (.mv (I 1)) ::
 [])) (
 .seq (
 .label 0) (
 .seq (
 .seq (.ops (O 21 (.mv 5) ::
 O 22 (.bin .gtr 21 (I 7)) ::
 O 23 (.mv 22) ::
 c_enc_TakeNum_p5)) (
 .cond 28 (c_enc_TakeNum_p6) (.skip))) (c_enc_TakeNum_p7)))
def c_enc_TakeNum_p2 : ACode :=
 .seq (.ops (O 10 (.mv 0) ::
 O 11 (.idxS 10 (I 0)) ::
 O 12 (.toInt .i64 11) ::
 O 13 (.bin .sub 12 (I 247)) ::
 O 5 (.mv 13) ::
 [])) (
 .seq (
 .seq (.ops (O 14 (.mv 5) ::
 O 15 (.bin .leq 14 (I 0)) ::
 [])) (
 .cond 15 (c_enc_TakeNum_p3) (.skip))) (c_enc_TakeNum_p4))
def c_enc_TakeNum_p0 : ACode :=
 .seq (
 .seq (.ops (O 8 (.mv 0) ::
 O 9 (.bin .eql 8 (.c (.str (bytesOf [])))) ::
 [])) (
 .cond 9 (c_enc_TakeNum_p1) (.skip))) (c_enc_TakeNum_p2)
def c_enc_TakeNum_p14 : List AOper :=
 OF 23 24 (.mv 7) ::
 OF 23 25 (.mv 0) ::
 OF 23 26 (.lenT 25) ::
 OF 23 27 (.bin .geq 24 26) ::
 O 28 (.pick 23 (.c (.bool true)) 27) ::
 []
def c_enc_TakeNum_p15 : ACode :=
 .seq (.ops (O 2 (.mv (I 0)) ::
 O 3 (.mv (.c (.str (bytesOf [])))) ::
 O 4 (.mv (I 2)) ::
 [])) (
 .ret)
def c_enc_TakeNum_p19 : List AOper :=
 OF 43 46 (.mv 5) ::
 OF 43 47 (.bin .lss 45 46) ::
 O 48 (.pick 43 (.c (.bool true)) 47) ::
 []
def c_enc_TakeNum_p18 : List AOper :=
 OF 43 44 (.mv 6) ::
 CF 43 45 170 [44] ::
 c_enc_TakeNum_p19
def c_enc_TakeNum_p20 : ACode :=
 .seq (.ops (O 2 (.mv (I 0)) ::
 O 3 (.mv (.c (.str (bytesOf [])))) ::
 O 4 (.mv (I 2)) ::
 [])) (
 .ret)
def c_enc_TakeNum_p21 : ACode :=
 .seq (.ops (O 49 (.mv 6) ::
 O 50 (.mv 0) ::
 O 51 (.mv 7) ::
 O 52 (.sliceT 50 (some 51) none) ::
 O 2 (.mv 49) ::
 O 3 (.mv 52) ::
 O 4 (.mv (I 0)) ::
 [])) (
 .ret)
def c_enc_TakeNum_p17 : ACode :=
 .seq (
 .seq (.ops (O 41 (.mv 6) ::
 O 42 (.bin .leq 41 (I 247)) ::
 O 43 (.mv 42) ::
 c_enc_TakeNum_p18)) (
 .cond 48 (c_enc_TakeNum_p20) (.skip))) (c_enc_TakeNum_p21)
def c_enc_TakeNum_p16 : ACode :=
 .seq (.ops (O 29 (.mv 6) ::
 O 30 (.bin .shl 29 (U64 8)) ::
 O 31 (.mv 0) ::
 O 32 (.mv 7) ::
 O 33 (.idxS 31 32) ::
 O 34 (.toInt .i64 33) ::
 O 35 (.bin .or 30 34) ::
 O 6 (.mv 35) ::
 [])) (
 .seq (
 .seq (.ops (O 36 (.mv 7) ::
 O 37 (.bin .add 36 (I 1)) ::
 O 7 (.mv 37) ::
 [])) (
 .seq (.ops (O 38 (.mv 7) ::
 O 39 (.mv 5) ::
 O 40 (.bin .leq 38 39) ::
 [])) (
 .cond 40 (.goto 0) (.skip)))) (c_enc_TakeNum_p17))
def c_enc_TakeNum_p13 : ACode :=
 .seq (
 .skip) (
 .seq (
 .seq (.ops (O 21 (.mv 5) ::
 O 22 (.bin .gtr 21 (I 7)) ::
 O 23 (.mv 22) ::
 c_enc_TakeNum_p14)) (
 .cond 28 (c_enc_TakeNum_p15) (.skip))) (c_enc_TakeNum_p16))
def c_enc_TakeNum : AFunc := ⟨53, (
 .seq (.ops (O 2 (.mv (I 0)) ::
 O 3 (.mv (.c (.str (bytesOf [])))) ::
 O 4 (.mv (I 0)) ::
 [])) (
 .jump 0 (c_enc_TakeNum_p0) (c_enc_TakeNum_p13))), [.t 2, .t 3, .t 4]⟩
theorem is_enc_TakeNum : IsFun Go.Proofs.Tryz.prog f_enc_TakeNum c_enc_TakeNum := cFunc_is (obj := false) (by kernel_rfl)

abbrev f_enc_TakeText : Nat := 119
def c_enc_TakeText_p0 : List AOper :=
 O 10 (.mv 12) ::
 O 13 (.ext 10 0) ::
 O 14 (.ext 10 1) ::
 O 15 (.ext 10 2) ::
 O 7 (.mv 13) ::
 O 8 (.mv 14) ::
 O 9 (.mv 15) ::
 []
def c_enc_TakeText_p1 : ACode :=
 .seq (.ops (O 19 (.mv 9) ::
 O 4 (.mv (.c (.str (bytesOf [])))) ::
 O 5 (.mv (.c (.str (bytesOf [])))) ::
 O 6 (.mv 19) ::
 [])) (
 .ret)
def c_enc_TakeText_p3 : ACode :=
 .seq (.ops (O 4 (.mv (.c (.str (bytesOf [])))) ::
 O 5 (.mv (.c (.str (bytesOf [])))) ::
 O 6 (.mv (I 3)) ::
 [])) (
 .ret)
def c_enc_TakeText_p5 : ACode :=
 .seq (.ops (O 4 (.mv (.c (.str (bytesOf [])))) ::
 O 5 (.mv (.c (.str (bytesOf [])))) ::
 O 6 (.mv (I 2)) ::
 [])) (
 .ret)
def c_enc_TakeText_p4 : ACode :=
 .seq (.ops (O 25 (.mv 7) ::
 O 26 (.mv 8) ::
 O 27 (.lenT 26) ::
 O 28 (.bin .gtr 25 27) ::
 O 24 (.mv 28) ::
 [])) (
 .cond 24 (c_enc_TakeText_p5) (.skip))
def c_enc_TakeText_p2 : ACode :=
 .seq (.ops (O 21 (.mv 7) ::
 O 22 (.mv 1) ::
 O 23 (.bin .gtr 21 22) ::
 O 20 (.mv 23) ::
 [])) (
 .cond 20 (c_enc_TakeText_p3) (c_enc_TakeText_p4))
def c_enc_TakeText_p6 : ACode :=
 .seq (.ops (O 29 (.mv 8) ::
 O 30 (.mv 7) ::
 O 31 (.sliceT 29 none (some 30)) ::
 O 32 (.mv 8) ::
 O 33 (.mv 7) ::
 O 34 (.sliceT 32 (some 33) none) ::
 O 4 (.mv 31) ::
 O 5 (.mv 34) ::
 O 6 (.mv (I 0)) ::
 [])) (
 .ret)
def c_enc_TakeText : AFunc := ⟨35, (
 .seq (.ops (O 4 (.mv (.c (.str (bytesOf [])))) ::
 O 5 (.mv (.c (.str (bytesOf [])))) ::
 O 6 (.mv (I 0)) ::
 [])) (
 .seq (.ops (O 11 (.mv 0) ::
 C 12 118 [11] ::
 c_enc_TakeText_p0)) (
 .seq (
 .block 0 (
 .seq (.ops (O 17 (.mv 9) ::
 O 18 (.bin .neq 17 (I 0)) ::
 O 16 (.mv 18) ::
 [])) (
 .cond 16 (c_enc_TakeText_p1) (c_enc_TakeText_p2)))) (c_enc_TakeText_p6)))), [.t 4, .t 5, .t 6]⟩
theorem is_enc_TakeText : IsFun Go.Proofs.Tryz.prog f_enc_TakeText c_enc_TakeText := cFunc_is (obj := false) (by kernel_rfl)

abbrev f_path_Compare : Nat := 121
def c_path_Compare_p0 : List AOper :=
 O 4 (.mv 7) ::
 []
def c_path_Compare : AFunc := ⟨8, (
 .seq (.ops (O 4 (.mv (I 0)) ::
 [])) (
 .seq (.ops (O 5 (.mv 0) ::
 O 6 (.mv 1) ::
 C 7 173 [5, 6] ::
 c_path_Compare_p0)) (
 .ret))), [.t 4]⟩
theorem is_path_Compare : IsFun Go.Proofs.Tryz.prog f_path_Compare c_path_Compare := cFunc_is (obj := false) (by kernel_rfl)

abbrev f_filemap_Check : Nat := 122
def c_filemap_Check_p0 : ACode :=
 .seq (.ops (O 2 (.mv (I 3)) ::
 [])) (
 .ret)
def c_filemap_Check_p4 : List AOper :=
 O 5 (.mv 21) ::
 []
def c_filemap_Check_p5 : ACode :=
 .seq (.ops (O 24 (.mv 5) ::
 O 2 (.mv 24) ::
 [])) (
 .ret)
def c_filemap_Check_p7 : ACode :=
 .seq (.ops (O 2 (.mv (I 3)) ::
 [])) (
 .ret)
def c_filemap_Check_p6 : ACode :=
 .seq (.ops (O 25 (.faddr 1 4) ::
 O 26 (.load 1 false 25) ::
 O 27 (.lenT 26) ::
 O 28 (.bin .gtr 27 (I 1048576)) ::
 [])) (
 .cond 28 (c_filemap_Check_p7) (.skip))
def c_filemap_Check_p8 : ACode :=
 .ops (
 O 29 (.bin .add 15 (I 1)) ::
 O 15 (.mv 29) ::
 [])
def c_filemap_Check_p3 : ACode :=
 .seq (
 .block 1 (
 .seq (.ops (O 17 (.iadS 2 13 15) ::
 O 18 (.load 2 true 17) ::
 O 4 (.alloc 61 [.str (bytesOf []), .str (bytesOf [])]) ::
 S (.store 2 4 18) ::
 [])) (
 .seq (
 .seq (.ops (O 19 (.faddr 0 4) ::
 O 20 (.load 1 false 19) ::
 C 21 120 [20] ::
 c_filemap_Check_p4)) (
 .seq (.ops (O 22 (.mv 5) ::
 O 23 (.bin .neq 22 (I 0)) ::
 [])) (
 .cond 23 (c_filemap_Check_p5) (.skip)))) (c_filemap_Check_p6)))) (c_filemap_Check_p8)
def c_filemap_Check_p2 : ACode :=
 .seq (.ops (O 16 (.bin .lss 15 14) ::
 [])) (
 .seq (
 .cond 16 (.skip) (.exit 0)) (c_filemap_Check_p3))
def c_filemap_Check_p16 : List AOper :=
 O 53 (.pick 49 (.c (.bool true)) 52) ::
 []
def c_filemap_Check_p15 : List AOper :=
 OF 49 50 (.load 2 true 9) ::
 OF 49 51 (.load 2 true 7) ::
 CF 49 52 174 [50, 51] ::
 c_filemap_Check_p16
def c_filemap_Check_p14 : List AOper :=
 O 49 (.mv 48) ::
 c_filemap_Check_p15
def c_filemap_Check_p17 : ACode :=
 .seq (.ops (O 2 (.mv (I 6)) ::
 [])) (
 .ret)
def c_filemap_Check_p18 : ACode :=
 .ops (
 O 54 (.bin .add 42 (I 1)) ::
 O 42 (.mv 54) ::
 [])
def c_filemap_Check_p13 : ACode :=
 .seq (
 .block 5 (
 .seq (.ops (O 44 (.iadS 2 40 42) ::
 O 45 (.load 2 true 44) ::
 O 9 (.alloc 61 [.str (bytesOf []), .str (bytesOf [])]) ::
 S (.store 2 9 45) ::
 [])) (
 .seq (.ops (O 46 (.load 2 true 7) ::
 O 47 (.load 2 true 9) ::
 C 48 174 [46, 47] ::
 c_filemap_Check_p14)) (
 .cond 53 (c_filemap_Check_p17) (.skip))))) (c_filemap_Check_p18)
def c_filemap_Check_p12 : ACode :=
 .seq (.ops (O 43 (.bin .lss 42 41) ::
 [])) (
 .seq (
 .cond 43 (.skip) (.exit 4)) (c_filemap_Check_p13))
def c_filemap_Check_p19 : ACode :=
 .ops (
 O 55 (.bin .add 32 (I 1)) ::
 O 32 (.mv 55) ::
 [])
def c_filemap_Check_p11 : ACode :=
 .seq (
 .block 3 (
 .seq (.ops (O 34 (.mv 32) ::
 O 35 (.iadS 2 30 32) ::
 O 36 (.load 2 true 35) ::
 O 7 (.alloc 61 [.str (bytesOf []), .str (bytesOf [])]) ::
 O 6 (.mv 34) ::
 S (.store 2 7 36) ::
 [])) (
 .seq (.ops (O 37 (.mv 0) ::
 O 38 (.mv 6) ::
 O 39 (.bin .add 38 (I 1)) ::
 O 40 (.sliceS 2 37 (some 39) none) ::
 O 41 (.lenS 40) ::
 O 42 (.mv (I 0)) ::
 [])) (
 .block 4 (
 .loop (c_filemap_Check_p12)))))) (c_filemap_Check_p19)
def c_filemap_Check_p10 : ACode :=
 .seq (.ops (O 33 (.bin .lss 32 31) ::
 [])) (
 .seq (
 .cond 33 (.skip) (.exit 2)) (c_filemap_Check_p11))
def c_filemap_Check_p20 : ACode :=
 .seq (.ops (O 2 (.mv (I 0)) ::
 [])) (
 .ret)
def c_filemap_Check_p9 : ACode :=
 .seq (
 .seq (.ops (O 30 (.mv 0) ::
 O 31 (.lenS 30) ::
 O 32 (.mv (I 0)) ::
 [])) (
 .block 2 (
 .loop (c_filemap_Check_p10)))) (c_filemap_Check_p20)
def c_filemap_Check_p1 : ACode :=
 .seq (
 .seq (.ops (O 13 (.mv 0) ::
 O 14 (.lenS 13) ::
 O 15 (.mv (I 0)) ::
 [])) (
 .block 0 (
 .loop (c_filemap_Check_p2)))) (c_filemap_Check_p9)
def c_filemap_Check : AFunc := ⟨56, (
 .seq (.ops (O 2 (.mv (I 0)) ::
 [])) (
 .seq (
 .seq (.ops (O 10 (.mv 0) ::
 O 11 (.lenS 10) ::
 O 12 (.bin .gtr 11 (I 64)) ::
 [])) (
 .cond 12 (c_filemap_Check_p0) (.skip))) (c_filemap_Check_p1))), [.t 2]⟩
theorem is_filemap_Check : IsFun Go.Proofs.Tryz.prog f_filemap_Check c_filemap_Check := cFunc_is (obj := false) (by kernel_rfl)

abbrev f_r04_right : Nat := 123
def c_r04_right_p2 : List AOper :=
 OT 19 20 (.mv 2) ::
 OT 19 21 (.bin .leq 20 (I 4294967295)) ::
 O 22 (.pick 19 21 (.c (.bool false))) ::
 O 6 (.mv 22) ::
 []
def c_r04_right_p1 : List AOper :=
 OT 15 16 (.mv 2) ::
 OT 15 17 (.bin .geq 16 (I 0)) ::
 O 18 (.pick 15 17 (.c (.bool false))) ::
 O 19 (.mv 18) ::
 c_r04_right_p2
def c_r04_right_p0 : List AOper :=
 OT 10 11 (.mv 1) ::
 OT 10 12 (.lenT 11) ::
 OT 10 13 (.bin .eql 12 (I 12)) ::
 O 14 (.pick 10 13 (.c (.bool false))) ::
 O 15 (.mv 14) ::
 c_r04_right_p1
def c_r04_right : AFunc := ⟨23, (
 .seq (.ops (O 6 (.mv (.c (.bool false))) ::
 [])) (
 .seq (.ops (O 7 (.mv 0) ::
 O 8 (.lenT 7) ::
 O 9 (.bin .eql 8 (I 32)) ::
 O 10 (.mv 9) ::
 c_r04_right_p0)) (
 .ret))), [.t 6]⟩
theorem is_r04_right : IsFun Go.Proofs.Tryz.prog f_r04_right c_r04_right := cFunc_is (obj := false) (by kernel_rfl)

abbrev f_r04_block : Nat := 124
def c_r04_block_p0 : List AOper :=
 O 25 (.app 3 1 8 22 24) ::
 O 7 (.mv 25) ::
 []
def c_r04_block_p1 : List AOper :=
 O 33 (.app 3 1 8 30 32) ::
 O 7 (.mv 33) ::
 []
def c_r04_block_p6 : List AOper :=
 O 58 (.mv 83) ::
 O 84 (.ext 58 0) ::
 O 85 (.ext 58 1) ::
 O 86 (.ext 58 2) ::
 O 87 (.ext 58 3) ::
 O 13 (.mv 84) ::
 O 14 (.mv 85) ::
 O 15 (.mv 86) ::
 O 16 (.mv 87) ::
 []
def c_r04_block_p5 : ACode :=
 .seq (
 .block 3 (
 .seq (.ops (O 54 (.mv 9) ::
 O 55 (.mv 11) ::
 O 56 (.iadS 1 54 55) ::
 O 57 (.load 1 false 56) ::
 O 12 (.mv 57) ::
 [])) (
 .seq (.ops (O 59 (.mv 8) ::
 O 60 (.mv 12) ::
 O 61 (.iadS 1 60 (I 0)) ::
 O 62 (.load 1 false 61) ::
 O 63 (.iadS 1 59 62) ::
 O 64 (.load 1 false 63) ::
 O 65 (.mv 8) ::
 O 66 (.mv 12) ::
 O 67 (.iadS 1 66 (I 1)) ::
 O 68 (.load 1 false 67) ::
 O 69 (.iadS 1 65 68) ::
 O 70 (.load 1 false 69) ::
 O 71 (.mv 8) ::
 O 72 (.mv 12) ::
 O 73 (.iadS 1 72 (I 2)) ::
 O 74 (.load 1 false 73) ::
 O 75 (.iadS 1 71 74) ::
 O 76 (.load 1 false 75) ::
 O 77 (.mv 8) ::
 O 78 (.mv 12) ::
 O 79 (.iadS 1 78 (I 3)) ::
 O 80 (.load 1 false 79) ::
 O 81 (.iadS 1 77 80) ::
 O 82 (.load 1 false 81) ::
 C 83 176 [64, 70, 76, 82] ::
 c_r04_block_p6)) (
 .seq (.ops (O 88 (.mv 8) ::
 O 89 (.mv 12) ::
 O 90 (.iadS 1 89 (I 0)) ::
 O 91 (.load 1 false 90) ::
 O 92 (.mv 13) ::
 O 93 (.iadS 1 88 91) ::
 S (.store 1 93 92) ::
 [])) (
 .seq (.ops (O 94 (.mv 8) ::
 O 95 (.mv 12) ::
 O 96 (.iadS 1 95 (I 1)) ::
 O 97 (.load 1 false 96) ::
 O 98 (.mv 14) ::
 O 99 (.iadS 1 94 97) ::
 S (.store 1 99 98) ::
 [])) (
 .seq (.ops (O 100 (.mv 8) ::
 O 101 (.mv 12) ::
 O 102 (.iadS 1 101 (I 2)) ::
 O 103 (.load 1 false 102) ::
 O 104 (.mv 15) ::
 O 105 (.iadS 1 100 103) ::
 S (.store 1 105 104) ::
 [])) (.ops (O 106 (.mv 8) ::
 O 107 (.mv 12) ::
 O 108 (.iadS 1 107 (I 3)) ::
 O 109 (.load 1 false 108) ::
 O 110 (.mv 16) ::
 O 111 (.iadS 1 106 109) ::
 S (.store 1 111 110) ::
 [])))))))) (.ops (O 52 (.mv 11) ::
 O 53 (.bin .add 52 (I 1)) ::
 O 11 (.mv 53) ::
 []))
def c_r04_block_p4 : ACode :=
 .seq (
 .seq (.ops (O 50 (.mv 11) ::
 O 51 (.bin .lss 50 (I 8)) ::
 [])) (
 .cond 51 (.skip) (.exit 2))) (c_r04_block_p5)
def c_r04_block_p7 : ACode :=
 .ops (
 O 48 (.mv 10) ::
 O 49 (.bin .add 48 (I 1)) ::
 O 10 (.mv 49) ::
 [])
def c_r04_block_p3 : ACode :=
 .seq (
 .block 1 (
 .seq (.ops (O 11 (.mv (I 0)) ::
 [])) (
 .block 2 (
 .loop (c_r04_block_p4))))) (c_r04_block_p7)
def c_r04_block_p2 : ACode :=
 .seq (
 .seq (.ops (O 46 (.mv 10) ::
 O 47 (.bin .lss 46 (I 10)) ::
 [])) (
 .cond 47 (.skip) (.exit 0))) (c_r04_block_p3)
def c_r04_block_p12 : ACode :=
 .seq (
 .block 7 (
 .seq (.ops (O 130 (.mv 17) ::
 O 131 (.mv 19) ::
 O 132 (.bin .and 131 (I 255)) ::
 O 133 (.toInt .u8 132) ::
 O 134 (.lit false 5 1 1 [.nat .u8 0] [(0, 1, 133)]) ::
 O 135 (.app 5 1 1 130 134) ::
 O 17 (.mv 135) ::
 [])) (.ops (O 136 (.mv 19) ::
 O 137 (.bin .shr 136 (U64 8)) ::
 O 19 (.mv 137) ::
 [])))) (.ops (O 128 (.mv 20) ::
 O 129 (.bin .add 128 (I 1)) ::
 O 20 (.mv 129) ::
 []))
def c_r04_block_p11 : ACode :=
 .seq (
 .seq (.ops (O 126 (.mv 20) ::
 O 127 (.bin .lss 126 (I 4)) ::
 [])) (
 .cond 127 (.skip) (.exit 6))) (c_r04_block_p12)
def c_r04_block_p13 : ACode :=
 .ops (
 O 114 (.mv 18) ::
 O 115 (.bin .add 114 (I 1)) ::
 O 18 (.mv 115) ::
 [])
def c_r04_block_p10 : ACode :=
 .seq (
 .block 5 (
 .seq (.ops (O 116 (.mv 8) ::
 O 117 (.mv 18) ::
 O 118 (.iadS 1 116 117) ::
 O 119 (.load 1 false 118) ::
 O 120 (.mv 7) ::
 O 121 (.mv 18) ::
 O 122 (.iadS 1 120 121) ::
 O 123 (.load 1 false 122) ::
 O 124 (.bin .add 119 123) ::
 O 125 (.bin .and 124 (I 4294967295)) ::
 O 19 (.mv 125) ::
 [])) (
 .seq (.ops (O 20 (.mv (I 0)) ::
 [])) (
 .block 6 (
 .loop (c_r04_block_p11)))))) (c_r04_block_p13)
def c_r04_block_p9 : ACode :=
 .seq (
 .seq (.ops (O 112 (.mv 18) ::
 O 113 (.bin .lss 112 (I 16)) ::
 [])) (
 .cond 113 (.skip) (.exit 4))) (c_r04_block_p10)
def c_r04_block_p14 : ACode :=
 .seq (.ops (O 138 (.mv 17) ::
 O 6 (.mv 138) ::
 [])) (
 .ret)
def c_r04_block_p8 : ACode :=
 .seq (.ops (O 17 (.mv (.c (.nils))) ::
 [])) (
 .seq (
 .seq (.ops (O 18 (.mv (I 0)) ::
 [])) (
 .block 4 (
 .loop (c_r04_block_p9)))) (c_r04_block_p14))
def c_r04_block : AFunc := ⟨139, (
 .seq (.ops (O 6 (.mv (.c (.nils))) ::
 [])) (
 .seq (.ops (O 21 (.lit false 3 4 1 [.nat .i64 0] [(0, 1, (I 1634760805)), (1, 1, (I 857760878)), (2, 1, (I 2036477234)), (3, 1, (I 1797285236))]) ::
 O 7 (.mv 21) ::
 [])) (
 .seq (.ops (O 22 (.mv 7) ::
 O 23 (.mv 0) ::
 C 24 175 [23] ::
 c_r04_block_p0)) (
 .seq (.ops (O 26 (.mv 7) ::
 O 27 (.mv 2) ::
 O 28 (.lit false 3 1 1 [.nat .i64 0] [(0, 1, 27)]) ::
 O 29 (.app 3 1 8 26 28) ::
 O 7 (.mv 29) ::
 [])) (
 .seq (.ops (O 30 (.mv 7) ::
 O 31 (.mv 1) ::
 C 32 175 [31] ::
 c_r04_block_p1)) (
 .seq (.ops (O 8 (.mv (.c (.nils))) ::
 [])) (
 .seq (.ops (O 34 (.mv 8) ::
 O 35 (.mv 7) ::
 O 36 (.app 3 1 8 34 35) ::
 O 8 (.mv 36) ::
 [])) (
 .seq (.ops (O 37 (.lit false 3 4 1 [.nat .i64 0] [(0, 1, (I 0)), (1, 1, (I 4)), (2, 1, (I 8)), (3, 1, (I 12))]) ::
 O 38 (.lit false 3 4 1 [.nat .i64 0] [(0, 1, (I 1)), (1, 1, (I 5)), (2, 1, (I 9)), (3, 1, (I 13))]) ::
 O 39 (.lit false 3 4 1 [.nat .i64 0] [(0, 1, (I 2)), (1, 1, (I 6)), (2, 1, (I 10)), (3, 1, (I 14))]) ::
 O 40 (.lit false 3 4 1 [.nat .i64 0] [(0, 1, (I 3)), (1, 1, (I 7)), (2, 1, (I 11)), (3, 1, (I 15))]) ::
 O 41 (.lit false 3 4 1 [.nat .i64 0] [(0, 1, (I 0)), (1, 1, (I 5)), (2, 1, (I 10)), (3, 1, (I 15))]) ::
 O 42 (.lit false 3 4 1 [.nat .i64 0] [(0, 1, (I 1)), (1, 1, (I 6)), (2, 1, (I 11)), (3, 1, (I 12))]) ::
 O 43 (.lit false 3 4 1 [.nat .i64 0] [(0, 1, (I 2)), (1, 1, (I 7)), (2, 1, (I 8)), (3, 1, (I 13))]) ::
 O 44 (.lit false 3 4 1 [.nat .i64 0] [(0, 1, (I 3)), (1, 1, (I 4)), (2, 1, (I 9)), (3, 1, (I 14))]) ::
 O 45 (.lit false 124 8 1 [.nils] [(0, 1, 37), (1, 1, 38), (2, 1, 39), (3, 1, 40), (4, 1, 41), (5, 1, 42), (6, 1, 43), (7, 1, 44)]) ::
 O 9 (.mv 45) ::
 [])) (
 .seq (
 .seq (.ops (O 10 (.mv (I 0)) ::
 [])) (
 .block 0 (
 .loop (c_r04_block_p2)))) (c_r04_block_p8)))))))))), [.t 6]⟩
theorem is_r04_block : IsFun Go.Proofs.Tryz.prog f_r04_block c_r04_block := cFunc_is (obj := false) (by kernel_rfl)

end Go.Proofs.Ah
