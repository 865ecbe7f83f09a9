/- The code of 54 functions, as the abstract machine reads it; that it is the program's. -/
import Derived.Test.YtncghckcdhfhjaaGreatDoorProg
import Derived.Test.YtncghckcdhfhjaaGreatDoorAh16
import Derived.KernelRfl
set_option maxRecDepth 100000
set_option maxHeartbeats 40000000
set_option linter.unusedVariables false
namespace Go.Proofs.Ah
open Go

abbrev f_strings_IndexRune : Nat := 206
def c_strings_IndexRune_p0 : List AOper :=
 OT 163 164 (.mv 1) ::
 OT 163 165 (.bin .lss 164 (.c (.nat .i32 128))) ::
 O 166 (.pick 163 165 (.c (.bool false))) ::
 O 160 (.mv 166) ::
 []
def c_strings_IndexRune_p2 : List AOper :=
 O 4 (.mv 170) ::
 []
def c_strings_IndexRune_p1 : ACode :=
 .seq (.ops (O 167 (.mv 0) ::
 O 168 (.mv 1) ::
 O 169 (.toInt .u8 168) ::
 C 170 242 [167, 169] ::
 c_strings_IndexRune_p2)) (
 .ret)
def c_strings_IndexRune_p6 : List AOper :=
 O 177 (.ext 176 0) ::
 []
def c_strings_IndexRune_p8 : ACode :=
 .seq (.ops (O 182 (.mv 5) ::
 O 4 (.mv 182) ::
 [])) (
 .ret)
def c_strings_IndexRune_p7 : ACode :=
 .block 10 (
 .seq (.ops (O 178 (.ext 176 1) ::
 O 179 (.ext 176 2) ::
 O 5 (.mv 178) ::
 O 6 (.mv 179) ::
 [])) (
 .seq (.ops (O 180 (.mv 6) ::
 O 181 (.bin .eql 180 (.c (.nat .i32 65533))) ::
 [])) (
 .cond 181 (c_strings_IndexRune_p8) (.skip))))
def c_strings_IndexRune_p5 : ACode :=
 .seq (.ops (⟨(some 176), .bad, none⟩ ::
 c_strings_IndexRune_p6)) (
 .seq (
 .cond 177 (.skip) (.exit 9)) (c_strings_IndexRune_p7))
def c_strings_IndexRune_p9 : ACode :=
 .seq (.ops (O 4 (.mv (.c (.int .i64 (-1)))) ::
 [])) (
 .ret)
def c_strings_IndexRune_p4 : ACode :=
 .seq (
 .seq (.ops (O 174 (.mv 0) ::
 ⟨(some 175), .bad, none⟩ ::
 [])) (
 .block 9 (
 .loop (c_strings_IndexRune_p5)))) (c_strings_IndexRune_p9)
def c_strings_IndexRune_p11 : List AOper :=
 O 186 (.un .not 185) ::
 O 183 (.mv 186) ::
 []
def c_strings_IndexRune_p12 : ACode :=
 .seq (.ops (O 4 (.mv (.c (.int .i64 (-1)))) ::
 [])) (
 .ret)
def c_strings_IndexRune_p15 : List AOper :=
 O 7 (.mv 18) ::
 []
def c_strings_IndexRune_p20 : List AOper :=
 O 11 (.mv 41) ::
 []
def c_strings_IndexRune_p21 : ACode :=
 .seq (.ops (O 4 (.mv (.c (.int .i64 (-1)))) ::
 [])) (
 .ret)
def c_strings_IndexRune_p22 : ACode :=
 .ops (
 O 44 (.mv 9) ::
 O 45 (.mv 11) ::
 O 46 (.bin .add 45 (I 1)) ::
 O 47 (.bin .add 44 46) ::
 O 9 (.mv 47) ::
 [])
def c_strings_IndexRune_p19 : ACode :=
 .seq (.ops (O 34 (.mv 0) ::
 O 35 (.mv 9) ::
 O 36 (.bin .add 35 (I 1)) ::
 O 37 (.sliceT 34 (some 36) none) ::
 O 38 (.mv 7) ::
 O 39 (.mv 8) ::
 O 40 (.idxS 38 39) ::
 C 41 242 [37, 40] ::
 c_strings_IndexRune_p20)) (
 .seq (
 .seq (.ops (O 42 (.mv 11) ::
 O 43 (.bin .lss 42 (I 0)) ::
 [])) (
 .cond 43 (c_strings_IndexRune_p21) (.skip))) (c_strings_IndexRune_p22))
def c_strings_IndexRune_p26 : ACode :=
 .ops (
 O 52 (.mv 12) ::
 O 53 (.bin .add 52 (I 1)) ::
 O 12 (.mv 53) ::
 [])
def c_strings_IndexRune_p25 : ACode :=
 .seq (
 .block 4 (
 .seq (.ops (O 54 (.mv 0) ::
 O 55 (.mv 9) ::
 O 56 (.mv 12) ::
 O 57 (.bin .sub 55 56) ::
 O 58 (.idxS 54 57) ::
 O 59 (.mv 7) ::
 O 60 (.mv 8) ::
 O 61 (.mv 12) ::
 O 62 (.bin .sub 60 61) ::
 O 63 (.idxS 59 62) ::
 O 64 (.bin .neq 58 63) ::
 [])) (
 .cond 64 (.goto 0) (.skip)))) (c_strings_IndexRune_p26)
def c_strings_IndexRune_p24 : ACode :=
 .seq (
 .seq (.ops (O 48 (.mv 12) ::
 O 49 (.mv 7) ::
 O 50 (.lenT 49) ::
 O 51 (.bin .lss 48 50) ::
 [])) (
 .cond 51 (.skip) (.exit 3))) (c_strings_IndexRune_p25)
def c_strings_IndexRune_p35 : List AOper :=
 OF 84 97 (.pick 92 96 (.c (.bool false))) ::
 O 98 (.pick 84 (.c (.bool true)) 97) ::
 []
def c_strings_IndexRune_p34 : List AOper :=
 OT 92 93 (.mv 9) ::
 OT 92 94 (.mv 0) ::
 OT 92 95 (.lenT 94) ::
 OT 92 96 (.bin .lss 93 95) ::
 c_strings_IndexRune_p35
def c_strings_IndexRune_p33 : List AOper :=
 OF 84 91 (.pick 85 90 (.c (.bool false))) ::
 OF 84 92 (.mv 91) ::
 c_strings_IndexRune_p34
def c_strings_IndexRune_p32 : List AOper :=
 OT 85 86 (.mv 10) ::
 OT 85 87 (.mv 9) ::
 OT 85 88 (.bin .shr 87 (U64 4)) ::
 OT 85 89 (.bin .add (I 4) 88) ::
 OT 85 90 (.bin .geq 86 89) ::
 c_strings_IndexRune_p33
def c_strings_IndexRune_p31 : List AOper :=
 OF 84 85 (.mv (.c (.bool false))) ::
 c_strings_IndexRune_p32
def c_strings_IndexRune_p30 : List AOper :=
 OT 78 79 (.mv 9) ::
 OT 78 80 (.mv 0) ::
 OT 78 81 (.lenT 80) ::
 OT 78 82 (.bin .lss 79 81) ::
 O 83 (.pick 78 82 (.c (.bool false))) ::
 O 84 (.mv 83) ::
 c_strings_IndexRune_p31
def c_strings_IndexRune_p29 : List AOper :=
 OT 72 76 (.bin .gtr 73 75) ::
 O 77 (.pick 72 76 (.c (.bool false))) ::
 O 78 (.mv 77) ::
 c_strings_IndexRune_p30
def c_strings_IndexRune_p28 : List AOper :=
 OT 72 73 (.mv 10) ::
 OT 72 74 (.mv 9) ::
 CT 72 75 244 [74] ::
 c_strings_IndexRune_p29
def c_strings_IndexRune_p27 : ACode :=
 .seq (
 .seq (.ops (O 65 (.mv 9) ::
 O 66 (.mv 8) ::
 O 67 (.bin .sub 65 66) ::
 O 4 (.mv 67) ::
 [])) (
 .ret)) (
 .seq (
 .label 0) (
 .seq (.ops (O 68 (.mv 10) ::
 O 69 (.bin .add 68 (I 1)) ::
 O 10 (.mv 69) ::
 [])) (
 .seq (.ops (O 70 (.mv 9) ::
 O 71 (.bin .add 70 (I 1)) ::
 O 9 (.mv 71) ::
 [])) (
 .seq (.ops (O 72 (.mv (.c (.bool true))) ::
 c_strings_IndexRune_p28)) (
 .cond 98 (.goto 1) (.skip))))))
def c_strings_IndexRune_p23 : ACode :=
 .seq (
 .seq (.ops (O 12 (.mv (I 1)) ::
 [])) (
 .block 3 (
 .loop (c_strings_IndexRune_p24)))) (c_strings_IndexRune_p27)
def c_strings_IndexRune_p18 : ACode :=
 .seq (
 .seq (.ops (O 27 (.mv 0) ::
 O 28 (.mv 9) ::
 O 29 (.idxS 27 28) ::
 O 30 (.mv 7) ::
 O 31 (.mv 8) ::
 O 32 (.idxS 30 31) ::
 O 33 (.bin .neq 29 32) ::
 [])) (
 .cond 33 (c_strings_IndexRune_p19) (.skip))) (c_strings_IndexRune_p23)
def c_strings_IndexRune_p44 : List AOper :=
 OF 84 97 (.pick 92 96 (.c (.bool false))) ::
 O 98 (.pick 84 (.c (.bool true)) 97) ::
 []
def c_strings_IndexRune_p43 : List AOper :=
 OT 92 93 (.mv 9) ::
 OT 92 94 (.mv 0) ::
 OT 92 95 (.lenT 94) ::
 OT 92 96 (.bin .lss 93 95) ::
 c_strings_IndexRune_p44
def c_strings_IndexRune_p42 : List AOper :=
 OF 84 91 (.pick 85 90 (.c (.bool false))) ::
 OF 84 92 (.mv 91) ::
 c_strings_IndexRune_p43
def c_strings_IndexRune_p41 : List AOper :=
 OT 85 86 (.mv 10) ::
 OT 85 87 (.mv 9) ::
 OT 85 88 (.bin .shr 87 (U64 4)) ::
 OT 85 89 (.bin .add (I 4) 88) ::
 OT 85 90 (.bin .geq 86 89) ::
 c_strings_IndexRune_p42
def c_strings_IndexRune_p40 : List AOper :=
 OF 84 85 (.mv (.c (.bool false))) ::
 c_strings_IndexRune_p41
def c_strings_IndexRune_p39 : List AOper :=
 OT 78 79 (.mv 9) ::
 OT 78 80 (.mv 0) ::
 OT 78 81 (.lenT 80) ::
 OT 78 82 (.bin .lss 79 81) ::
 O 83 (.pick 78 82 (.c (.bool false))) ::
 O 84 (.mv 83) ::
 c_strings_IndexRune_p40
def c_strings_IndexRune_p38 : List AOper :=
 OT 72 76 (.bin .gtr 73 75) ::
 O 77 (.pick 72 76 (.c (.bool false))) ::
 O 78 (.mv 77) ::
 c_strings_IndexRune_p39
def c_strings_IndexRune_p37 : List AOper :=
 OT 72 73 (.mv 10) ::
 OT 72 74 (.mv 9) ::
 CT 72 75 244 [74] ::
 c_strings_IndexRune_p38
def c_strings_IndexRune_p36 : ACode :=
 .seq (
 .skip) (
 .seq (.ops (O 68 (.mv 10) ::
 O 69 (.bin .add 68 (I 1)) ::
 O 10 (.mv 69) ::
 [])) (
 .seq (.ops (O 70 (.mv 9) ::
 O 71 (.bin .add 70 (I 1)) ::
 O 9 (.mv 71) ::
 [])) (
 .seq (.ops (O 72 (.mv (.c (.bool true))) ::
 c_strings_IndexRune_p37)) (
 .cond 98 (.goto 1) (.skip)))))
def c_strings_IndexRune_p17 : ACode :=
 .block 2 (
 .jump 0 (c_strings_IndexRune_p18) (c_strings_IndexRune_p36))
def c_strings_IndexRune_p16 : ACode :=
 .seq (
 .seq (.ops (O 23 (.mv 9) ::
 O 24 (.mv 0) ::
 O 25 (.lenT 24) ::
 O 26 (.bin .lss 23 25) ::
 [])) (
 .cond 26 (.skip) (.exit 1))) (c_strings_IndexRune_p17)
def c_strings_IndexRune_p48 : List AOper :=
 O 13 (.mv 106) ::
 []
def c_strings_IndexRune_p47 : List AOper :=
 C 106 245 [103, 105] ::
 c_strings_IndexRune_p48
def c_strings_IndexRune_p49 : ACode :=
 .seq (.ops (O 109 (.mv 9) ::
 O 110 (.mv 13) ::
 O 111 (.bin .add 109 110) ::
 O 112 (.mv 8) ::
 O 113 (.bin .sub 111 112) ::
 O 4 (.mv 113) ::
 [])) (
 .ret)
def c_strings_IndexRune_p46 : ACode :=
 .seq (.ops (O 99 (.mv 0) ::
 O 100 (.mv 9) ::
 O 101 (.mv 8) ::
 O 102 (.bin .sub 100 101) ::
 O 103 (.sliceT 99 (some 102) none) ::
 O 104 (.mv 1) ::
 ⟨(some 105), .bad, none⟩ ::
 c_strings_IndexRune_p47)) (
 .seq (.ops (O 107 (.mv 13) ::
 O 108 (.bin .geq 107 (I 0)) ::
 [])) (
 .cond 108 (c_strings_IndexRune_p49) (.skip)))
def c_strings_IndexRune_p54 : List AOper :=
 OT 132 133 (.mv 0) ::
 OT 132 134 (.mv 9) ::
 OT 132 135 (.bin .sub 134 (I 1)) ::
 OT 132 136 (.idxS 133 135) ::
 OT 132 137 (.mv 15) ::
 OT 132 138 (.bin .eql 136 137) ::
 O 139 (.pick 132 138 (.c (.bool false))) ::
 []
def c_strings_IndexRune_p58 : ACode :=
 .ops (
 O 144 (.mv 16) ::
 O 145 (.bin .add 144 (I 1)) ::
 O 16 (.mv 145) ::
 [])
def c_strings_IndexRune_p57 : ACode :=
 .seq (
 .block 8 (
 .seq (.ops (O 146 (.mv 0) ::
 O 147 (.mv 9) ::
 O 148 (.mv 16) ::
 O 149 (.bin .sub 147 148) ::
 O 150 (.idxS 146 149) ::
 O 151 (.mv 7) ::
 O 152 (.mv 8) ::
 O 153 (.mv 16) ::
 O 154 (.bin .sub 152 153) ::
 O 155 (.idxS 151 154) ::
 O 156 (.bin .neq 150 155) ::
 [])) (
 .cond 156 (.exit 6) (.skip)))) (c_strings_IndexRune_p58)
def c_strings_IndexRune_p56 : ACode :=
 .seq (
 .seq (.ops (O 140 (.mv 16) ::
 O 141 (.mv 7) ::
 O 142 (.lenT 141) ::
 O 143 (.bin .lss 140 142) ::
 [])) (
 .cond 143 (.skip) (.exit 7))) (c_strings_IndexRune_p57)
def c_strings_IndexRune_p59 : ACode :=
 .seq (.ops (O 157 (.mv 9) ::
 O 158 (.mv 8) ::
 O 159 (.bin .sub 157 158) ::
 O 4 (.mv 159) ::
 [])) (
 .ret)
def c_strings_IndexRune_p55 : ACode :=
 .seq (
 .seq (.ops (O 16 (.mv (I 2)) ::
 [])) (
 .block 7 (
 .loop (c_strings_IndexRune_p56)))) (c_strings_IndexRune_p59)
def c_strings_IndexRune_p60 : ACode :=
 .ops (
 O 125 (.mv 9) ::
 O 126 (.bin .add 125 (I 1)) ::
 O 9 (.mv 126) ::
 [])
def c_strings_IndexRune_p53 : ACode :=
 .seq (
 .block 6 (
 .seq (.ops (O 127 (.mv 0) ::
 O 128 (.mv 9) ::
 O 129 (.idxS 127 128) ::
 O 130 (.mv 14) ::
 O 131 (.bin .eql 129 130) ::
 O 132 (.mv 131) ::
 c_strings_IndexRune_p54)) (
 .cond 139 (c_strings_IndexRune_p55) (.skip)))) (c_strings_IndexRune_p60)
def c_strings_IndexRune_p52 : ACode :=
 .seq (
 .seq (.ops (O 121 (.mv 9) ::
 O 122 (.mv 0) ::
 O 123 (.lenT 122) ::
 O 124 (.bin .lss 121 123) ::
 [])) (
 .cond 124 (.skip) (.exit 5))) (c_strings_IndexRune_p53)
def c_strings_IndexRune_p51 : ACode :=
 .seq (.ops (O 114 (.mv 7) ::
 O 115 (.mv 8) ::
 O 116 (.idxS 114 115) ::
 O 14 (.mv 116) ::
 [])) (
 .seq (.ops (O 117 (.mv 7) ::
 O 118 (.mv 8) ::
 O 119 (.bin .sub 118 (I 1)) ::
 O 120 (.idxS 117 119) ::
 O 15 (.mv 120) ::
 [])) (
 .seq (
 .label 2) (
 .block 5 (
 .loop (c_strings_IndexRune_p52)))))
def c_strings_IndexRune_p64 : List AOper :=
 OT 132 133 (.mv 0) ::
 OT 132 134 (.mv 9) ::
 OT 132 135 (.bin .sub 134 (I 1)) ::
 OT 132 136 (.idxS 133 135) ::
 OT 132 137 (.mv 15) ::
 OT 132 138 (.bin .eql 136 137) ::
 O 139 (.pick 132 138 (.c (.bool false))) ::
 []
def c_strings_IndexRune_p68 : ACode :=
 .ops (
 O 144 (.mv 16) ::
 O 145 (.bin .add 144 (I 1)) ::
 O 16 (.mv 145) ::
 [])
def c_strings_IndexRune_p67 : ACode :=
 .seq (
 .block 8 (
 .seq (.ops (O 146 (.mv 0) ::
 O 147 (.mv 9) ::
 O 148 (.mv 16) ::
 O 149 (.bin .sub 147 148) ::
 O 150 (.idxS 146 149) ::
 O 151 (.mv 7) ::
 O 152 (.mv 8) ::
 O 153 (.mv 16) ::
 O 154 (.bin .sub 152 153) ::
 O 155 (.idxS 151 154) ::
 O 156 (.bin .neq 150 155) ::
 [])) (
 .cond 156 (.exit 6) (.skip)))) (c_strings_IndexRune_p68)
def c_strings_IndexRune_p66 : ACode :=
 .seq (
 .seq (.ops (O 140 (.mv 16) ::
 O 141 (.mv 7) ::
 O 142 (.lenT 141) ::
 O 143 (.bin .lss 140 142) ::
 [])) (
 .cond 143 (.skip) (.exit 7))) (c_strings_IndexRune_p67)
def c_strings_IndexRune_p69 : ACode :=
 .seq (.ops (O 157 (.mv 9) ::
 O 158 (.mv 8) ::
 O 159 (.bin .sub 157 158) ::
 O 4 (.mv 159) ::
 [])) (
 .ret)
def c_strings_IndexRune_p65 : ACode :=
 .seq (
 .seq (.ops (O 16 (.mv (I 2)) ::
 [])) (
 .block 7 (
 .loop (c_strings_IndexRune_p66)))) (c_strings_IndexRune_p69)
def c_strings_IndexRune_p70 : ACode :=
 .ops (
 O 125 (.mv 9) ::
 O 126 (.bin .add 125 (I 1)) ::
 O 9 (.mv 126) ::
 [])
def c_strings_IndexRune_p63 : ACode :=
 .seq (
 .block 6 (
 .seq (.ops (O 127 (.mv 0) ::
 O 128 (.mv 9) ::
 O 129 (.idxS 127 128) ::
 O 130 (.mv 14) ::
 O 131 (.bin .eql 129 130) ::
 O 132 (.mv 131) ::
 c_strings_IndexRune_p64)) (
 .cond 139 (c_strings_IndexRune_p65) (.skip)))) (c_strings_IndexRune_p70)
def c_strings_IndexRune_p62 : ACode :=
 .seq (
 .seq (.ops (O 121 (.mv 9) ::
 O 122 (.mv 0) ::
 O 123 (.lenT 122) ::
 O 124 (.bin .lss 121 123) ::
 [])) (
 .cond 124 (.skip) (.exit 5))) (c_strings_IndexRune_p63)
def c_strings_IndexRune_p61 : ACode :=
 .seq (
 .skip) (
 .block 5 (
 .loop (c_strings_IndexRune_p62)))
def c_strings_IndexRune_p50 : ACode :=
 .jump 2 (c_strings_IndexRune_p51) (c_strings_IndexRune_p61)
def c_strings_IndexRune_p71 : ACode :=
 .seq (.ops (O 4 (.mv (.c (.int .i64 (-1)))) ::
 [])) (
 .ret)
def c_strings_IndexRune_p45 : ACode :=
 .seq (
 .seq (.ops (O 4 (.mv (.c (.int .i64 (-1)))) ::
 [])) (
 .ret)) (
 .seq (
 .label 1) (
 .seq (
 .cond (.c (.bool true)) (c_strings_IndexRune_p46) (c_strings_IndexRune_p50)) (c_strings_IndexRune_p71)))
def c_strings_IndexRune_p14 : ACode :=
 .seq (.ops (O 17 (.mv 1) ::
 ⟨(some 18), .bad, none⟩ ::
 c_strings_IndexRune_p15)) (
 .seq (.ops (O 19 (.mv 7) ::
 O 20 (.lenT 19) ::
 O 21 (.bin .sub 20 (I 1)) ::
 O 8 (.mv 21) ::
 [])) (
 .seq (.ops (O 22 (.mv 8) ::
 O 9 (.mv 22) ::
 [])) (
 .seq (.ops (O 10 (.mv (I 0)) ::
 [])) (
 .seq (
 .block 1 (
 .loop (c_strings_IndexRune_p16))) (c_strings_IndexRune_p45)))))
def c_strings_IndexRune_p75 : List AOper :=
 O 13 (.mv 106) ::
 []
def c_strings_IndexRune_p74 : List AOper :=
 C 106 245 [103, 105] ::
 c_strings_IndexRune_p75
def c_strings_IndexRune_p76 : ACode :=
 .seq (.ops (O 109 (.mv 9) ::
 O 110 (.mv 13) ::
 O 111 (.bin .add 109 110) ::
 O 112 (.mv 8) ::
 O 113 (.bin .sub 111 112) ::
 O 4 (.mv 113) ::
 [])) (
 .ret)
def c_strings_IndexRune_p73 : ACode :=
 .seq (.ops (O 99 (.mv 0) ::
 O 100 (.mv 9) ::
 O 101 (.mv 8) ::
 O 102 (.bin .sub 100 101) ::
 O 103 (.sliceT 99 (some 102) none) ::
 O 104 (.mv 1) ::
 ⟨(some 105), .bad, none⟩ ::
 c_strings_IndexRune_p74)) (
 .seq (.ops (O 107 (.mv 13) ::
 O 108 (.bin .geq 107 (I 0)) ::
 [])) (
 .cond 108 (c_strings_IndexRune_p76) (.skip)))
def c_strings_IndexRune_p81 : List AOper :=
 OT 132 133 (.mv 0) ::
 OT 132 134 (.mv 9) ::
 OT 132 135 (.bin .sub 134 (I 1)) ::
 OT 132 136 (.idxS 133 135) ::
 OT 132 137 (.mv 15) ::
 OT 132 138 (.bin .eql 136 137) ::
 O 139 (.pick 132 138 (.c (.bool false))) ::
 []
def c_strings_IndexRune_p85 : ACode :=
 .ops (
 O 144 (.mv 16) ::
 O 145 (.bin .add 144 (I 1)) ::
 O 16 (.mv 145) ::
 [])
def c_strings_IndexRune_p84 : ACode :=
 .seq (
 .block 8 (
 .seq (.ops (O 146 (.mv 0) ::
 O 147 (.mv 9) ::
 O 148 (.mv 16) ::
 O 149 (.bin .sub 147 148) ::
 O 150 (.idxS 146 149) ::
 O 151 (.mv 7) ::
 O 152 (.mv 8) ::
 O 153 (.mv 16) ::
 O 154 (.bin .sub 152 153) ::
 O 155 (.idxS 151 154) ::
 O 156 (.bin .neq 150 155) ::
 [])) (
 .cond 156 (.exit 6) (.skip)))) (c_strings_IndexRune_p85)
def c_strings_IndexRune_p83 : ACode :=
 .seq (
 .seq (.ops (O 140 (.mv 16) ::
 O 141 (.mv 7) ::
 O 142 (.lenT 141) ::
 O 143 (.bin .lss 140 142) ::
 [])) (
 .cond 143 (.skip) (.exit 7))) (c_strings_IndexRune_p84)
def c_strings_IndexRune_p86 : ACode :=
 .seq (.ops (O 157 (.mv 9) ::
 O 158 (.mv 8) ::
 O 159 (.bin .sub 157 158) ::
 O 4 (.mv 159) ::
 [])) (
 .ret)
def c_strings_IndexRune_p82 : ACode :=
 .seq (
 .seq (.ops (O 16 (.mv (I 2)) ::
 [])) (
 .block 7 (
 .loop (c_strings_IndexRune_p83)))) (c_strings_IndexRune_p86)
def c_strings_IndexRune_p87 : ACode :=
 .ops (
 O 125 (.mv 9) ::
 O 126 (.bin .add 125 (I 1)) ::
 O 9 (.mv 126) ::
 [])
def c_strings_IndexRune_p80 : ACode :=
 .seq (
 .block 6 (
 .seq (.ops (O 127 (.mv 0) ::
 O 128 (.mv 9) ::
 O 129 (.idxS 127 128) ::
 O 130 (.mv 14) ::
 O 131 (.bin .eql 129 130) ::
 O 132 (.mv 131) ::
 c_strings_IndexRune_p81)) (
 .cond 139 (c_strings_IndexRune_p82) (.skip)))) (c_strings_IndexRune_p87)
def c_strings_IndexRune_p79 : ACode :=
 .seq (
 .seq (.ops (O 121 (.mv 9) ::
 O 122 (.mv 0) ::
 O 123 (.lenT 122) ::
 O 124 (.bin .lss 121 123) ::
 [])) (
 .cond 124 (.skip) (.exit 5))) (c_strings_IndexRune_p80)
def c_strings_IndexRune_p78 : ACode :=
 .seq (.ops (O 114 (.mv 7) ::
 O 115 (.mv 8) ::
 O 116 (.idxS 114 115) ::
 O 14 (.mv 116) ::
 [])) (
 .seq (.ops (O 117 (.mv 7) ::
 O 118 (.mv 8) ::
 O 119 (.bin .sub 118 (I 1)) ::
 O 120 (.idxS 117 119) ::
 O 15 (.mv 120) ::
 [])) (
 .seq (
 .label 2) (
 .block 5 (
 .loop (c_strings_IndexRune_p79)))))
def c_strings_IndexRune_p91 : List AOper :=
 OT 132 133 (.mv 0) ::
 OT 132 134 (.mv 9) ::
 OT 132 135 (.bin .sub 134 (I 1)) ::
 OT 132 136 (.idxS 133 135) ::
 OT 132 137 (.mv 15) ::
 OT 132 138 (.bin .eql 136 137) ::
 O 139 (.pick 132 138 (.c (.bool false))) ::
 []
def c_strings_IndexRune_p95 : ACode :=
 .ops (
 O 144 (.mv 16) ::
 O 145 (.bin .add 144 (I 1)) ::
 O 16 (.mv 145) ::
 [])
def c_strings_IndexRune_p94 : ACode :=
 .seq (
 .block 8 (
 .seq (.ops (O 146 (.mv 0) ::
 O 147 (.mv 9) ::
 O 148 (.mv 16) ::
 O 149 (.bin .sub 147 148) ::
 O 150 (.idxS 146 149) ::
 O 151 (.mv 7) ::
 O 152 (.mv 8) ::
 O 153 (.mv 16) ::
 O 154 (.bin .sub 152 153) ::
 O 155 (.idxS 151 154) ::
 O 156 (.bin .neq 150 155) ::
 [])) (
 .cond 156 (.exit 6) (.skip)))) (c_strings_IndexRune_p95)
def c_strings_IndexRune_p93 : ACode :=
 .seq (
 .seq (.ops (O 140 (.mv 16) ::
 O 141 (.mv 7) ::
 O 142 (.lenT 141) ::
 O 143 (.bin .lss 140 142) ::
 [])) (
 .cond 143 (.skip) (.exit 7))) (c_strings_IndexRune_p94)
def c_strings_IndexRune_p96 : ACode :=
 .seq (.ops (O 157 (.mv 9) ::
 O 158 (.mv 8) ::
 O 159 (.bin .sub 157 158) ::
 O 4 (.mv 159) ::
 [])) (
 .ret)
def c_strings_IndexRune_p92 : ACode :=
 .seq (
 .seq (.ops (O 16 (.mv (I 2)) ::
 [])) (
 .block 7 (
 .loop (c_strings_IndexRune_p93)))) (c_strings_IndexRune_p96)
def c_strings_IndexRune_p97 : ACode :=
 .ops (
 O 125 (.mv 9) ::
 O 126 (.bin .add 125 (I 1)) ::
 O 9 (.mv 126) ::
 [])
def c_strings_IndexRune_p90 : ACode :=
 .seq (
 .block 6 (
 .seq (.ops (O 127 (.mv 0) ::
 O 128 (.mv 9) ::
 O 129 (.idxS 127 128) ::
 O 130 (.mv 14) ::
 O 131 (.bin .eql 129 130) ::
 O 132 (.mv 131) ::
 c_strings_IndexRune_p91)) (
 .cond 139 (c_strings_IndexRune_p92) (.skip)))) (c_strings_IndexRune_p97)
def c_strings_IndexRune_p89 : ACode :=
 .seq (
 .seq (.ops (O 121 (.mv 9) ::
 O 122 (.mv 0) ::
 O 123 (.lenT 122) ::
 O 124 (.bin .lss 121 123) ::
 [])) (
 .cond 124 (.skip) (.exit 5))) (c_strings_IndexRune_p90)
def c_strings_IndexRune_p88 : ACode :=
 .seq (
 .skip) (
 .block 5 (
 .loop (c_strings_IndexRune_p89)))
def c_strings_IndexRune_p77 : ACode :=
 .jump 2 (c_strings_IndexRune_p78) (c_strings_IndexRune_p88)
def c_strings_IndexRune_p98 : ACode :=
 .seq (.ops (O 4 (.mv (.c (.int .i64 (-1)))) ::
 [])) (
 .ret)
def c_strings_IndexRune_p72 : ACode :=
 .seq (
 .skip) (
 .seq (
 .cond (.c (.bool true)) (c_strings_IndexRune_p73) (c_strings_IndexRune_p77)) (c_strings_IndexRune_p98))
def c_strings_IndexRune_p13 : ACode :=
 .jump 1 (c_strings_IndexRune_p14) (c_strings_IndexRune_p72)
def c_strings_IndexRune_p10 : ACode :=
 .seq (.ops (O 184 (.mv 1) ::
 C 185 243 [184] ::
 c_strings_IndexRune_p11)) (
 .cond 183 (c_strings_IndexRune_p12) (c_strings_IndexRune_p13))
def c_strings_IndexRune_p3 : ACode :=
 .seq (.ops (O 172 (.mv 1) ::
 O 173 (.bin .eql 172 (.c (.nat .i32 65533))) ::
 O 171 (.mv 173) ::
 [])) (
 .cond 171 (c_strings_IndexRune_p4) (c_strings_IndexRune_p10))
def c_strings_IndexRune : AFunc := ⟨187, (
 .seq (.ops (O 4 (.mv (I 0)) ::
 [])) (
 .block 0 (
 .seq (.ops (O 161 (.mv 1) ::
 O 162 (.bin .leq (.c (.nat .i32 0)) 161) ::
 O 163 (.mv 162) ::
 c_strings_IndexRune_p0)) (
 .cond 160 (c_strings_IndexRune_p1) (c_strings_IndexRune_p3))))), [.t 4]⟩
theorem is_strings_IndexRune : IsFun Go.Proofs.Tryz.prog f_strings_IndexRune c_strings_IndexRune := cFunc_is (obj := false) (by kernel_rfl)

abbrev f_unicode_utf8_RuneStart : Nat := 207
def c_unicode_utf8_RuneStart : AFunc := ⟨6, (
 .seq (.ops (O 2 (.mv (.c (.bool false))) ::
 [])) (
 .seq (.ops (O 3 (.mv 0) ::
 O 4 (.bin .and 3 (U8 192)) ::
 O 5 (.bin .neq 4 (U8 128)) ::
 O 2 (.mv 5) ::
 [])) (
 .ret))), [.t 2]⟩
theorem is_unicode_utf8_RuneStart : IsFun Go.Proofs.Tryz.prog f_unicode_utf8_RuneStart c_unicode_utf8_RuneStart := cFunc_is (obj := false) (by kernel_rfl)

abbrev f_bits_Reader_Left : Nat := 208
def c_bits_Reader_Left_p0 : ACode :=
 .seq (.ops (O 2 (.mv (I 0)) ::
 [])) (
 .ret)
def c_bits_Reader_Left_p1 : ACode :=
 .seq (.ops (O 5 (.mv 0) ::
 O 6 (.nilck 5) ::
 O 7 (.faddr 0 6) ::
 O 8 (.load 1 false 7) ::
 O 9 (.lenT 8) ::
 O 10 (.bin .mul (I 8) 9) ::
 O 11 (.mv 0) ::
 O 12 (.nilck 11) ::
 O 13 (.faddr 1 12) ::
 O 14 (.load 1 false 13) ::
 O 15 (.bin .sub 10 14) ::
 O 2 (.mv 15) ::
 [])) (
 .ret)
def c_bits_Reader_Left : AFunc := ⟨16, (
 .seq (.ops (O 2 (.mv (I 0)) ::
 [])) (
 .seq (
 .seq (.ops (O 3 (.mv 0) ::
 O 4 (.eqn .ptr .eql 3 (.c (.nilp))) ::
 [])) (
 .cond 4 (c_bits_Reader_Left_p0) (.skip))) (c_bits_Reader_Left_p1))), [.t 2]⟩
theorem is_bits_Reader_Left : IsFun Go.Proofs.Tryz.prog f_bits_Reader_Left c_bits_Reader_Left := cFunc_is (obj := false) (by kernel_rfl)

abbrev f_huff_Table_Decode : Nat := 209
def c_huff_Table_Decode_p0 : ACode :=
 .seq (.ops (O 4 (.mv (I 0)) ::
 O 5 (.mv (I 2)) ::
 [])) (
 .ret)
def c_huff_Table_Decode_p4 : List AOper :=
 O 24 (.mv 26) ::
 O 27 (.ext 24 0) ::
 O 28 (.ext 24 1) ::
 O 11 (.mv 27) ::
 O 12 (.mv 28) ::
 []
def c_huff_Table_Decode_p5 : ACode :=
 .seq (.ops (O 4 (.mv (I 0)) ::
 O 5 (.mv (I 2)) ::
 [])) (
 .ret)
def c_huff_Table_Decode_p7 : ACode :=
 .seq (.ops (O 39 (.mv 0) ::
 O 40 (.nilck 39) ::
 O 41 (.faddr 16 40) ::
 O 42 (.load 1 false 41) ::
 O 43 (.mv 8) ::
 O 44 (.mv 6) ::
 O 45 (.bin .add 43 44) ::
 O 46 (.mv 7) ::
 O 47 (.bin .sub 45 46) ::
 O 48 (.iadS 1 42 47) ::
 O 49 (.load 1 false 48) ::
 O 4 (.mv 49) ::
 O 5 (.mv (I 0)) ::
 [])) (
 .ret)
def c_huff_Table_Decode_p8 : ACode :=
 .seq (.ops (O 50 (.mv 8) ::
 O 51 (.mv 10) ::
 O 52 (.bin .add 50 51) ::
 O 8 (.mv 52) ::
 [])) (
 .seq (.ops (O 53 (.mv 7) ::
 O 54 (.mv 10) ::
 O 55 (.bin .add 53 54) ::
 O 56 (.bin .shl 55 (U64 1)) ::
 O 7 (.mv 56) ::
 [])) (.ops (O 57 (.mv 6) ::
 O 58 (.bin .shl 57 (U64 1)) ::
 O 6 (.mv 58) ::
 [])))
def c_huff_Table_Decode_p6 : ACode :=
 .seq (.ops (O 31 (.mv 6) ::
 O 32 (.mv 11) ::
 O 33 (.bin .or 31 32) ::
 O 6 (.mv 33) ::
 [])) (
 .seq (
 .seq (.ops (O 34 (.mv 6) ::
 O 35 (.mv 7) ::
 O 36 (.bin .sub 34 35) ::
 O 37 (.mv 10) ::
 O 38 (.bin .lss 36 37) ::
 [])) (
 .cond 38 (c_huff_Table_Decode_p7) (.skip))) (c_huff_Table_Decode_p8))
def c_huff_Table_Decode_p9 : ACode :=
 .ops (
 O 59 (.bin .add 20 (I 1)) ::
 O 20 (.mv 59) ::
 [])
def c_huff_Table_Decode_p3 : ACode :=
 .seq (
 .block 1 (
 .seq (.ops (O 22 (.iadS 1 18 20) ::
 O 23 (.load 1 false 22) ::
 O 10 (.mv 23) ::
 [])) (
 .seq (.ops (O 25 (.mv 1) ::
 C 26 159 [25, (I 1)] ::
 c_huff_Table_Decode_p4)) (
 .seq (
 .seq (.ops (O 29 (.mv 12) ::
 O 30 (.un .not 29) ::
 [])) (
 .cond 30 (c_huff_Table_Decode_p5) (.skip))) (c_huff_Table_Decode_p6))))) (c_huff_Table_Decode_p9)
def c_huff_Table_Decode_p2 : ACode :=
 .seq (.ops (O 21 (.bin .lss 20 19) ::
 [])) (
 .seq (
 .cond 21 (.skip) (.exit 0)) (c_huff_Table_Decode_p3))
def c_huff_Table_Decode_p10 : ACode :=
 .seq (.ops (O 4 (.mv (I 0)) ::
 O 5 (.mv (I 2)) ::
 [])) (
 .ret)
def c_huff_Table_Decode_p1 : ACode :=
 .seq (.ops (O 6 (.mv (I 0)) ::
 O 7 (.mv (I 0)) ::
 O 8 (.mv (I 0)) ::
 [])) (
 .seq (
 .seq (.ops (O 15 (.mv 0) ::
 O 16 (.nilck 15) ::
 O 17 (.faddr 0 16) ::
 O 18 (.slarr 16 1 17 (some (I 1)) none) ::
 O 19 (.lenS 18) ::
 O 20 (.mv (I 0)) ::
 [])) (
 .block 0 (
 .loop (c_huff_Table_Decode_p2)))) (c_huff_Table_Decode_p10))
def c_huff_Table_Decode : AFunc := ⟨60, (
 .seq (.ops (O 4 (.mv (I 0)) ::
 O 5 (.mv (I 0)) ::
 [])) (
 .seq (
 .seq (.ops (O 13 (.mv 0) ::
 O 14 (.eqn .ptr .eql 13 (.c (.nilp))) ::
 [])) (
 .cond 14 (c_huff_Table_Decode_p0) (.skip))) (c_huff_Table_Decode_p1))), [.t 4, .t 5]⟩
theorem is_huff_Table_Decode : IsFun Go.Proofs.Tryz.prog f_huff_Table_Decode c_huff_Table_Decode := cFunc_is (obj := false) (by kernel_rfl)

abbrev f_slices_Grow_int : Nat := 210
def c_slices_Grow_int_p1 : List AOper :=
 ⟨none, .bad, none⟩ ::
 []
def c_slices_Grow_int_p0 : ACode :=
 .ops (
 ⟨(some 7), .bad, none⟩ ::
 c_slices_Grow_int_p1)
def c_slices_Grow_int_p4 : List AOper :=
 O 23 (.mv 0) ::
 O 24 (.lenS 23) ::
 O 25 (.sliceS 1 22 none (some 24)) ::
 O 0 (.mv 25) ::
 []
def c_slices_Grow_int_p3 : ACode :=
 .ops (
 O 17 (.mv 0) ::
 O 18 (.mv 0) ::
 O 19 (.capS 18) ::
 O 20 (.sliceS 1 17 none (some 19)) ::
 O 21 (.mv 1) ::
 O 22 (.appM 3 1 8 [.nat .i64 0] 20 21) ::
 c_slices_Grow_int_p4)
def c_slices_Grow_int_p5 : ACode :=
 .seq (.ops (O 26 (.mv 0) ::
 O 4 (.mv 26) ::
 [])) (
 .ret)
def c_slices_Grow_int_p2 : ACode :=
 .seq (
 .seq (.ops (O 8 (.mv 1) ::
 O 9 (.mv 0) ::
 O 10 (.capS 9) ::
 O 11 (.mv 0) ::
 O 12 (.lenS 11) ::
 O 13 (.bin .sub 10 12) ::
 O 14 (.bin .sub 8 13) ::
 O 1 (.mv 14) ::
 [])) (
 .seq (.ops (O 15 (.mv 1) ::
 O 16 (.bin .gtr 15 (I 0)) ::
 [])) (
 .cond 16 (c_slices_Grow_int_p3) (.skip)))) (c_slices_Grow_int_p5)
def c_slices_Grow_int : AFunc := ⟨27, (
 .seq (.ops (O 4 (.mv (.c (.nils))) ::
 [])) (
 .seq (
 .seq (.ops (O 5 (.mv 1) ::
 O 6 (.bin .lss 5 (I 0)) ::
 [])) (
 .cond 6 (c_slices_Grow_int_p0) (.skip))) (c_slices_Grow_int_p2))), [.t 4]⟩
theorem is_slices_Grow_int : IsFun Go.Proofs.Tryz.prog f_slices_Grow_int c_slices_Grow_int := cFunc_is (obj := false) (by kernel_rfl)

abbrev f_huff_counts : Nat := 211
def c_huff_counts_p0 : ACode :=
 .seq (.ops (O 10 (.load 16 true 4) ::
 S (.store 16 2 10) ::
 O 3 (.mv (.c (.bool false))) ::
 [])) (
 .ret)
def c_huff_counts_p4 : List AOper :=
 OF 19 20 (.mv 6) ::
 OF 19 21 (.bin .gtr 20 (I 15)) ::
 O 22 (.pick 19 (.c (.bool true)) 21) ::
 []
def c_huff_counts_p5 : ACode :=
 .seq (.ops (O 23 (.load 16 true 4) ::
 S (.store 16 2 23) ::
 O 3 (.mv (.c (.bool false))) ::
 [])) (
 .ret)
def c_huff_counts_p6 : ACode :=
 .ops (
 O 24 (.mv 6) ::
 O 25 (.iadA 16 1 4 24) ::
 O 26 (.load 1 false 25) ::
 O 27 (.bin .add 26 (I 1)) ::
 O 28 (.iadA 16 1 4 24) ::
 S (.store 1 28 27) ::
 [])
def c_huff_counts_p7 : ACode :=
 .ops (
 O 29 (.bin .add 13 (I 1)) ::
 O 13 (.mv 29) ::
 [])
def c_huff_counts_p3 : ACode :=
 .seq (
 .block 1 (
 .seq (.ops (O 15 (.iadS 1 11 13) ::
 O 16 (.load 1 false 15) ::
 O 6 (.mv 16) ::
 [])) (
 .seq (
 .seq (.ops (O 17 (.mv 6) ::
 O 18 (.bin .lss 17 (I 0)) ::
 O 19 (.mv 18) ::
 c_huff_counts_p4)) (
 .cond 22 (c_huff_counts_p5) (.skip))) (c_huff_counts_p6)))) (c_huff_counts_p7)
def c_huff_counts_p2 : ACode :=
 .seq (.ops (O 14 (.bin .lss 13 12) ::
 [])) (
 .seq (
 .cond 14 (.skip) (.exit 0)) (c_huff_counts_p3))
def c_huff_counts_p8 : ACode :=
 .seq (.ops (O 30 (.iadA 16 1 4 (I 0)) ::
 S (.store 1 30 (I 0)) ::
 [])) (
 .seq (.ops (O 31 (.load 16 true 4) ::
 S (.store 16 2 31) ::
 O 3 (.mv (.c (.bool true))) ::
 [])) (
 .ret))
def c_huff_counts_p1 : ACode :=
 .seq (
 .seq (.ops (O 11 (.mv 0) ::
 O 12 (.lenS 11) ::
 O 13 (.mv (I 0)) ::
 [])) (
 .block 0 (
 .loop (c_huff_counts_p2)))) (c_huff_counts_p8)
def c_huff_counts : AFunc := ⟨32, (
 .seq (.ops (O 2 (.alloc 247 (List.replicate 16 (.nat .i64 0))) ::
 O 3 (.mv (.c (.bool false))) ::
 [])) (
 .seq (.ops (O 4 (.alloc 247 (List.replicate 16 (.nat .i64 0))) ::
 [])) (
 .seq (
 .seq (.ops (O 7 (.mv 0) ::
 O 8 (.lenS 7) ::
 O 9 (.bin .gtr 8 (I 320)) ::
 [])) (
 .cond 9 (c_huff_counts_p0) (.skip))) (c_huff_counts_p1)))), [.cell 2 16 true, .t 3]⟩
theorem is_huff_counts : IsFun Go.Proofs.Tryz.prog f_huff_counts c_huff_counts := cFunc_is (obj := false) (by kernel_rfl)

abbrev f_huff_left : Nat := 212
def c_huff_left_p2 : ACode :=
 .seq (.ops (O 2 (.mv (.c (.int .i64 (-1)))) ::
 [])) (
 .ret)
def c_huff_left_p3 : ACode :=
 .ops (
 O 18 (.bin .add 8 (I 1)) ::
 O 8 (.mv 18) ::
 [])
def c_huff_left_p1 : ACode :=
 .seq (
 .block 1 (
 .seq (.ops (O 10 (.iadS 1 6 8) ::
 O 11 (.load 1 false 10) ::
 O 5 (.mv 11) ::
 [])) (
 .seq (.ops (O 12 (.mv 3) ::
 O 13 (.bin .mul (I 2) 12) ::
 O 14 (.mv 5) ::
 O 15 (.bin .sub 13 14) ::
 O 3 (.mv 15) ::
 [])) (
 .seq (.ops (O 16 (.mv 3) ::
 O 17 (.bin .lss 16 (I 0)) ::
 [])) (
 .cond 17 (c_huff_left_p2) (.skip)))))) (c_huff_left_p3)
def c_huff_left_p0 : ACode :=
 .seq (.ops (O 9 (.bin .lss 8 7) ::
 [])) (
 .seq (
 .cond 9 (.skip) (.exit 0)) (c_huff_left_p1))
def c_huff_left_p4 : ACode :=
 .seq (.ops (O 19 (.mv 3) ::
 O 2 (.mv 19) ::
 [])) (
 .ret)
def c_huff_left : AFunc := ⟨20, (
 .seq (.ops (O 1 (.box 247 0) ::
 O 2 (.mv (I 0)) ::
 [])) (
 .seq (.ops (O 3 (.mv (I 1)) ::
 [])) (
 .seq (
 .seq (.ops (O 6 (.slarr 16 1 1 (some (I 1)) none) ::
 O 7 (.lenS 6) ::
 O 8 (.mv (I 0)) ::
 [])) (
 .block 0 (
 .loop (c_huff_left_p0)))) (c_huff_left_p4)))), [.t 2]⟩
theorem is_huff_left : IsFun Go.Proofs.Tryz.prog f_huff_left c_huff_left := cFunc_is (obj := false) (by kernel_rfl)

abbrev f_inflate_reader_lengths_fn1 : Nat := 213
def c_inflate_reader_lengths_fn1_p0 : ACode :=
 .seq (.ops (O 13 (.load 1 false 4) ::
 C 14 115 [13, (I 2)] ::
 [])) (
 .ret)
def c_inflate_reader_lengths_fn1_p3 : List (AOper × List Nat) :=
 (O 20 (.app 3 1 8 15 19), []) ::
 (S (.store 1 3 20), []) ::
 []
def c_inflate_reader_lengths_fn1_p2 : List (AOper × List Nat) :=
 (O 15 (.load 1 false 3), []) ::
 (O 16 (.mv 0), []) ::
 (O 17 (.lit false 3 1 1 [.nat .i64 0] [(0, 1, 16)]), []) ::
 (O 18 (.mv 1), []) ::
 (C 19 166 [17, 18], [0]) ::
 c_inflate_reader_lengths_fn1_p3
def c_inflate_reader_lengths_fn1_p2a : List AOper := fstsOf c_inflate_reader_lengths_fn1_p2
def c_inflate_reader_lengths_fn1_p1 : ACode :=
 .draw c_inflate_reader_lengths_fn1_p2a c_inflate_reader_lengths_fn1_p2
def c_inflate_reader_lengths_fn1 : AFunc := ⟨21, (
 .seq (
 .seq (.ops (O 7 (.mv 1) ::
 O 8 (.load 1 false 2) ::
 O 9 (.load 1 false 3) ::
 O 10 (.lenS 9) ::
 O 11 (.bin .sub 8 10) ::
 O 12 (.bin .gtr 7 11) ::
 [])) (
 .cond 12 (c_inflate_reader_lengths_fn1_p0) (.skip))) (c_inflate_reader_lengths_fn1_p1)), []⟩
theorem is_inflate_reader_lengths_fn1 : IsFun Go.Proofs.Tryz.prog f_inflate_reader_lengths_fn1 c_inflate_reader_lengths_fn1 := cFunc_is (obj := false) (by kernel_rfl)

abbrev f_strings_Index : Nat := 214
def c_strings_Index_p0 : List AOper :=
 O 4 (.mv 7) ::
 []
def c_strings_Index : AFunc := ⟨8, (
 .seq (.ops (O 4 (.mv (I 0)) ::
 [])) (
 .seq (.ops (O 5 (.mv 0) ::
 O 6 (.mv 1) ::
 C 7 246 [5, 6] ::
 c_strings_Index_p0)) (
 .ret))), [.t 4]⟩
theorem is_strings_Index : IsFun Go.Proofs.Tryz.prog f_strings_Index c_strings_Index := cFunc_is (obj := false) (by kernel_rfl)

abbrev f_path_parts_fn1 : Nat := 215
def c_path_parts_fn1_p1 : List AOper :=
 O 6 (.mv 8) ::
 O 9 (.ext 6 0) ::
 O 10 (.ext 6 1) ::
 O 11 (.ext 6 2) ::
 O 3 (.mv 9) ::
 O 4 (.mv 10) ::
 O 5 (.mv 11) ::
 []
def c_path_parts_fn1_p3 : List AOper :=
 OF 16 17 (.mv 5) ::
 OF 16 18 (.un .not 17) ::
 O 19 (.pick 16 (.c (.bool true)) 18) ::
 []
def c_path_parts_fn1_p2 : List AOper :=
 O 15 (.un .not 14) ::
 O 16 (.mv 15) ::
 c_path_parts_fn1_p3
def c_path_parts_fn1_p4 : ACode :=
 .ops (
 O 20 (.mv 4) ::
 S (.store 1 1 20) ::
 [])
def c_path_parts_fn1_p0 : ACode :=
 .block 1 (
 .seq (.ops (O 7 (.load 1 false 1) ::
 C 8 216 [7, (.c (.str (bytesOf [47])))] ::
 c_path_parts_fn1_p1)) (
 .seq (
 .seq (.ops (O 12 (.mv 0) ::
 O 13 (.mv 3) ::
 CV 14 12 [13] ::
 c_path_parts_fn1_p2)) (
 .cond 19 (.ret) (.skip))) (c_path_parts_fn1_p4)))
def c_path_parts_fn1 : AFunc := ⟨21, (
 .block 0 (
 .loop (c_path_parts_fn1_p0))), []⟩
theorem is_path_parts_fn1 : IsFun Go.Proofs.Tryz.prog f_path_parts_fn1 c_path_parts_fn1 := cFunc_is (obj := false) (by kernel_rfl)

abbrev f_strings_Cut : Nat := 216
def c_strings_Cut_p0 : List AOper :=
 O 10 (.ext 9 0) ::
 O 11 (.ext 9 1) ::
 O 12 (.ext 9 2) ::
 O 4 (.mv 10) ::
 O 5 (.mv 11) ::
 O 6 (.mv 12) ::
 []
def c_strings_Cut : AFunc := ⟨13, (
 .seq (.ops (O 4 (.mv (.c (.str (bytesOf [])))) ::
 O 5 (.mv (.c (.str (bytesOf [])))) ::
 O 6 (.mv (.c (.bool false))) ::
 [])) (
 .seq (.ops (O 7 (.mv 0) ::
 O 8 (.mv 1) ::
 C 9 247 [7, 8] ::
 c_strings_Cut_p0)) (
 .ret))), [.t 4, .t 5, .t 6]⟩
theorem is_strings_Cut : IsFun Go.Proofs.Tryz.prog f_strings_Cut c_strings_Cut := cFunc_is (obj := false) (by kernel_rfl)

abbrev f_internal_bytealg_CompareString : Nat := 217
def c_internal_bytealg_CompareString_p0 : List AOper :=
 O 4 (.mv 7) ::
 []
def c_internal_bytealg_CompareString : AFunc := ⟨8, (
 .seq (.ops (O 4 (.mv (I 0)) ::
 [])) (
 .seq (.ops (O 5 (.mv 0) ::
 O 6 (.mv 1) ::
 C 7 248 [5, 6] ::
 c_internal_bytealg_CompareString_p0)) (
 .ret))), [.t 4]⟩
theorem is_internal_bytealg_CompareString : IsFun Go.Proofs.Tryz.prog f_internal_bytealg_CompareString c_internal_bytealg_CompareString := cFunc_is (obj := false) (by kernel_rfl)

abbrev f_path_Under : Nat := 218
def c_path_Under_p2 : List AOper :=
 O 21 (.pick 17 20 (.c (.bool false))) ::
 O 4 (.mv 21) ::
 []
def c_path_Under_p1 : List AOper :=
 OT 17 18 (.mv 0) ::
 OT 17 19 (.mv 1) ::
 CT 17 20 150 [18, 19] ::
 c_path_Under_p2
def c_path_Under_p0 : List AOper :=
 OT 10 11 (.mv 0) ::
 OT 10 12 (.mv 1) ::
 OT 10 13 (.lenT 12) ::
 OT 10 14 (.idxS 11 13) ::
 OT 10 15 (.bin .eql 14 (U8 47)) ::
 O 16 (.pick 10 15 (.c (.bool false))) ::
 O 17 (.mv 16) ::
 c_path_Under_p1
def c_path_Under : AFunc := ⟨22, (
 .seq (.ops (O 4 (.mv (.c (.bool false))) ::
 [])) (
 .seq (.ops (O 5 (.mv 0) ::
 O 6 (.lenT 5) ::
 O 7 (.mv 1) ::
 O 8 (.lenT 7) ::
 O 9 (.bin .gtr 6 8) ::
 O 10 (.mv 9) ::
 c_path_Under_p0)) (
 .ret))), [.t 4]⟩
theorem is_path_Under : IsFun Go.Proofs.Tryz.prog f_path_Under c_path_Under := cFunc_is (obj := false) (by kernel_rfl)

abbrev f_r04_rotl : Nat := 219
def c_r04_rotl : AFunc := ⟨14, (
 .seq (.ops (O 4 (.mv (I 0)) ::
 [])) (
 .seq (.ops (O 5 (.mv 0) ::
 O 6 (.mv 1) ::
 O 7 (.bin .shl 5 6) ::
 O 8 (.mv 0) ::
 O 9 (.mv 1) ::
 O 10 (.bin .sub (I 32) 9) ::
 O 11 (.bin .shr 8 10) ::
 O 12 (.bin .or 7 11) ::
 O 13 (.bin .and 12 (I 4294967295)) ::
 O 4 (.mv 13) ::
 [])) (
 .ret))), [.t 4]⟩
theorem is_r04_rotl : IsFun Go.Proofs.Tryz.prog f_r04_rotl c_r04_rotl := cFunc_is (obj := false) (by kernel_rfl)

abbrev f_r06_Reader_Take : Nat := 220
def c_r06_Reader_Take_p2 : List AOper :=
 OF 15 19 (.bin .gtr 16 18) ::
 O 20 (.pick 15 (.c (.bool true)) 19) ::
 []
def c_r06_Reader_Take_p1 : List AOper :=
 OF 15 16 (.mv 1) ::
 OF 15 17 (.mv 0) ::
 CF 15 18 249 [17] ::
 c_r06_Reader_Take_p2
def c_r06_Reader_Take_p0 : List AOper :=
 OF 11 12 (.mv 1) ::
 OF 11 13 (.bin .gtr 12 (I 62)) ::
 O 14 (.pick 11 (.c (.bool true)) 13) ::
 O 15 (.mv 14) ::
 c_r06_Reader_Take_p1
def c_r06_Reader_Take_p3 : ACode :=
 .seq (.ops (O 4 (.mv (I 0)) ::
 O 5 (.mv (.c (.bool false))) ::
 [])) (
 .ret)
def c_r06_Reader_Take_p6 : ACode :=
 .seq (
 .block 1 (
 .seq (.ops (O 27 (.mv 0) ::
 O 28 (.nilck 27) ::
 O 29 (.faddr 1 28) ::
 O 30 (.load 1 false 29) ::
 O 31 (.mv 7) ::
 O 32 (.bin .add 30 31) ::
 O 8 (.mv 32) ::
 [])) (.ops (O 33 (.mv 6) ::
 O 34 (.bin .mul (I 2) 33) ::
 O 35 (.mv 0) ::
 O 36 (.nilck 35) ::
 O 37 (.faddr 0 36) ::
 O 38 (.load 1 false 37) ::
 O 39 (.mv 8) ::
 O 40 (.bin .quo 39 (I 8)) ::
 O 41 (.idxS 38 40) ::
 O 42 (.toInt .i64 41) ::
 O 43 (.mv 8) ::
 O 44 (.bin .rem 43 (I 8)) ::
 O 45 (.bin .shr 42 44) ::
 O 46 (.bin .and 45 (I 1)) ::
 O 47 (.bin .add 34 46) ::
 O 6 (.mv 47) ::
 [])))) (.ops (O 25 (.mv 7) ::
 O 26 (.bin .sub 25 (I 1)) ::
 O 7 (.mv 26) ::
 []))
def c_r06_Reader_Take_p5 : ACode :=
 .seq (
 .seq (.ops (O 23 (.mv 7) ::
 O 24 (.bin .geq 23 (I 0)) ::
 [])) (
 .cond 24 (.skip) (.exit 0))) (c_r06_Reader_Take_p6)
def c_r06_Reader_Take_p7 : ACode :=
 .seq (.ops (O 48 (.mv 0) ::
 O 49 (.mv 0) ::
 O 50 (.nilck 49) ::
 O 51 (.faddr 1 50) ::
 O 52 (.load 1 false 51) ::
 O 53 (.mv 1) ::
 O 54 (.bin .add 52 53) ::
 O 55 (.nilck 48) ::
 O 56 (.faddr 1 55) ::
 S (.store 1 56 54) ::
 [])) (
 .seq (.ops (O 57 (.mv 6) ::
 O 4 (.mv 57) ::
 O 5 (.mv (.c (.bool true))) ::
 [])) (
 .ret))
def c_r06_Reader_Take_p4 : ACode :=
 .seq (.ops (O 6 (.mv (I 0)) ::
 [])) (
 .seq (
 .seq (.ops (O 21 (.mv 1) ::
 O 22 (.bin .sub 21 (I 1)) ::
 O 7 (.mv 22) ::
 [])) (
 .block 0 (
 .loop (c_r06_Reader_Take_p5)))) (c_r06_Reader_Take_p7))
def c_r06_Reader_Take : AFunc := ⟨58, (
 .seq (.ops (O 4 (.mv (I 0)) ::
 O 5 (.mv (.c (.bool false))) ::
 [])) (
 .seq (
 .seq (.ops (O 9 (.mv 1) ::
 O 10 (.bin .lss 9 (I 0)) ::
 O 11 (.mv 10) ::
 c_r06_Reader_Take_p0)) (
 .cond 20 (c_r06_Reader_Take_p3) (.skip))) (c_r06_Reader_Take_p4))), [.t 4, .t 5]⟩
theorem is_r06_Reader_Take : IsFun Go.Proofs.Tryz.prog f_r06_Reader_Take c_r06_Reader_Take := cFunc_is (obj := false) (by kernel_rfl)

abbrev f_r10_State_ran : Nat := 221
def c_r10_State_ran_p0 : List AOper :=
 OT 5 6 (.mv 0) ::
 OT 5 7 (.nilck 6) ::
 OT 5 8 (.faddr 3 7) ::
 OT 5 9 (.load 1 false 8) ::
 OT 5 10 (.bin .eql 9 (I 0)) ::
 O 11 (.pick 5 10 (.c (.bool false))) ::
 []
def c_r10_State_ran_p1 : ACode :=
 .seq (.ops (O 12 (.mv 0) ::
 O 13 (.nilck 12) ::
 O 14 (.faddr 3 13) ::
 S (.store 1 14 (I 2)) ::
 [])) (.ops (O 15 (.mv 0) ::
 O 16 (.nilck 15) ::
 O 17 (.faddr 4 16) ::
 S (.store 1 17 (.c (.bool true))) ::
 []))
def c_r10_State_ran : AFunc := ⟨18, (
 .seq (.ops (O 4 (.mv 1) ::
 O 5 (.mv 4) ::
 c_r10_State_ran_p0)) (
 .cond 11 (c_r10_State_ran_p1) (.skip))), []⟩
theorem is_r10_State_ran : IsFun Go.Proofs.Tryz.prog f_r10_State_ran c_r10_State_ran := cFunc_is (obj := false) (by kernel_rfl)

abbrev f_r06_Reader_Align : Nat := 222
def c_r06_Reader_Align_p1 : ACode :=
 .block 1 (.ops (O 8 (.mv 0) ::
 O 9 (.mv 0) ::
 O 10 (.nilck 9) ::
 O 11 (.faddr 1 10) ::
 O 12 (.load 1 false 11) ::
 O 13 (.bin .add 12 (I 1)) ::
 O 14 (.nilck 8) ::
 O 15 (.faddr 1 14) ::
 S (.store 1 15 13) ::
 []))
def c_r06_Reader_Align_p0 : ACode :=
 .seq (
 .seq (.ops (O 2 (.mv 0) ::
 O 3 (.nilck 2) ::
 O 4 (.faddr 1 3) ::
 O 5 (.load 1 false 4) ::
 O 6 (.bin .rem 5 (I 8)) ::
 O 7 (.bin .neq 6 (I 0)) ::
 [])) (
 .cond 7 (.skip) (.exit 0))) (c_r06_Reader_Align_p1)
def c_r06_Reader_Align : AFunc := ⟨16, (
 .block 0 (
 .loop (c_r06_Reader_Align_p0))), []⟩
theorem is_r06_Reader_Align : IsFun Go.Proofs.Tryz.prog f_r06_Reader_Align c_r06_Reader_Align := cFunc_is (obj := false) (by kernel_rfl)

abbrev f_r06_Reader_Text : Nat := 223
def c_r06_Reader_Text_p0 : List AOper :=
 OF 15 16 (.mv 1) ::
 OF 15 17 (.mv 0) ::
 OF 15 18 (.nilck 17) ::
 OF 15 19 (.faddr 0 18) ::
 OF 15 20 (.load 1 false 19) ::
 OF 15 21 (.lenT 20) ::
 OF 15 22 (.mv 6) ::
 OF 15 23 (.bin .sub 21 22) ::
 OF 15 24 (.bin .gtr 16 23) ::
 O 25 (.pick 15 (.c (.bool true)) 24) ::
 []
def c_r06_Reader_Text_p1 : ACode :=
 .seq (.ops (O 4 (.mv (.c (.str (bytesOf [])))) ::
 O 5 (.mv (.c (.bool false))) ::
 [])) (
 .ret)
def c_r06_Reader_Text_p2 : ACode :=
 .seq (.ops (O 26 (.mv 0) ::
 O 27 (.mv 6) ::
 O 28 (.mv 1) ::
 O 29 (.bin .add 27 28) ::
 O 30 (.bin .mul (I 8) 29) ::
 O 31 (.nilck 26) ::
 O 32 (.faddr 1 31) ::
 S (.store 1 32 30) ::
 [])) (
 .seq (.ops (O 33 (.mv 0) ::
 O 34 (.nilck 33) ::
 O 35 (.faddr 0 34) ::
 O 36 (.load 1 false 35) ::
 O 37 (.mv 6) ::
 O 38 (.mv 6) ::
 O 39 (.mv 1) ::
 O 40 (.bin .add 38 39) ::
 O 41 (.sliceT 36 (some 37) (some 40)) ::
 O 4 (.mv 41) ::
 O 5 (.mv (.c (.bool true))) ::
 [])) (
 .ret))
def c_r06_Reader_Text : AFunc := ⟨42, (
 .seq (.ops (O 4 (.mv (.c (.str (bytesOf [])))) ::
 O 5 (.mv (.c (.bool false))) ::
 [])) (
 .seq (.ops (O 7 (.mv 0) ::
 O 8 (.nilck 7) ::
 O 9 (.faddr 1 8) ::
 O 10 (.load 1 false 9) ::
 O 11 (.bin .add 10 (I 7)) ::
 O 12 (.bin .quo 11 (I 8)) ::
 O 6 (.mv 12) ::
 [])) (
 .seq (
 .seq (.ops (O 13 (.mv 1) ::
 O 14 (.bin .lss 13 (I 0)) ::
 O 15 (.mv 14) ::
 c_r06_Reader_Text_p0)) (
 .cond 25 (c_r06_Reader_Text_p1) (.skip))) (c_r06_Reader_Text_p2)))), [.t 4, .t 5]⟩
theorem is_r06_Reader_Text : IsFun Go.Proofs.Tryz.prog f_r06_Reader_Text c_r06_Reader_Text := cFunc_is (obj := false) (by kernel_rfl)

abbrev f_r09_Lens : Nat := 224
def c_r09_Lens_p2 : ACode :=
 .ops (
 O 13 (.mv 5) ::
 O 14 (.bin .sub 13 (I 261)) ::
 O 15 (.bin .quo 14 (I 4)) ::
 O 6 (.mv 15) ::
 [])
def c_r09_Lens_p3 : ACode :=
 .seq (.ops (O 16 (.mv 2) ::
 O 17 (.mv 4) ::
 O 18 (.lit false 3 1 1 [.nat .i64 0] [(0, 1, 17)]) ::
 O 19 (.app 3 1 8 16 18) ::
 O 2 (.mv 19) ::
 [])) (
 .seq (.ops (O 20 (.mv 3) ::
 O 21 (.mv 6) ::
 O 22 (.lit false 3 1 1 [.nat .i64 0] [(0, 1, 21)]) ::
 O 23 (.app 3 1 8 20 22) ::
 O 3 (.mv 23) ::
 [])) (.ops (O 24 (.mv 4) ::
 O 25 (.mv 6) ::
 O 26 (.bin .shl (I 1) 25) ::
 O 27 (.bin .add 24 26) ::
 O 4 (.mv 27) ::
 [])))
def c_r09_Lens_p4 : ACode :=
 .ops (
 O 9 (.mv 5) ::
 O 10 (.bin .add 9 (I 1)) ::
 O 5 (.mv 10) ::
 [])
def c_r09_Lens_p1 : ACode :=
 .seq (
 .block 1 (
 .seq (.ops (O 6 (.mv (I 0)) ::
 [])) (
 .seq (
 .seq (.ops (O 11 (.mv 5) ::
 O 12 (.bin .geq 11 (I 265)) ::
 [])) (
 .cond 12 (c_r09_Lens_p2) (.skip))) (c_r09_Lens_p3)))) (c_r09_Lens_p4)
def c_r09_Lens_p0 : ACode :=
 .seq (
 .seq (.ops (O 7 (.mv 5) ::
 O 8 (.bin .lss 7 (I 285)) ::
 [])) (
 .cond 8 (.skip) (.exit 0))) (c_r09_Lens_p1)
def c_r09_Lens_p5 : ACode :=
 .seq (.ops (O 28 (.mv 2) ::
 O 29 (.lit false 3 1 1 [.nat .i64 0] [(0, 1, (I 258))]) ::
 O 30 (.app 3 1 8 28 29) ::
 O 2 (.mv 30) ::
 [])) (
 .seq (.ops (O 31 (.mv 3) ::
 O 32 (.lit false 3 1 1 [.nat .i64 0] [(0, 1, (I 0))]) ::
 O 33 (.app 3 1 8 31 32) ::
 O 3 (.mv 33) ::
 [])) (
 .seq (.ops (O 34 (.mv 2) ::
 O 35 (.mv 3) ::
 O 0 (.mv 34) ::
 O 1 (.mv 35) ::
 [])) (
 .ret)))
def c_r09_Lens : AFunc := ⟨36, (
 .seq (.ops (O 0 (.mv (.c (.nils))) ::
 O 1 (.mv (.c (.nils))) ::
 [])) (
 .seq (.ops (O 2 (.mv (.c (.nils))) ::
 O 3 (.mv (.c (.nils))) ::
 [])) (
 .seq (.ops (O 4 (.mv (I 3)) ::
 [])) (
 .seq (
 .seq (.ops (O 5 (.mv (I 257)) ::
 [])) (
 .block 0 (
 .loop (c_r09_Lens_p0)))) (c_r09_Lens_p5))))), [.t 0, .t 1]⟩
theorem is_r09_Lens : IsFun Go.Proofs.Tryz.prog f_r09_Lens c_r09_Lens := cFunc_is (obj := false) (by kernel_rfl)

abbrev f_r09_Dists : Nat := 225
def c_r09_Dists_p2 : ACode :=
 .ops (
 O 13 (.mv 5) ::
 O 14 (.bin .sub 13 (I 2)) ::
 O 15 (.bin .quo 14 (I 2)) ::
 O 6 (.mv 15) ::
 [])
def c_r09_Dists_p3 : ACode :=
 .seq (.ops (O 16 (.mv 2) ::
 O 17 (.mv 4) ::
 O 18 (.lit false 3 1 1 [.nat .i64 0] [(0, 1, 17)]) ::
 O 19 (.app 3 1 8 16 18) ::
 O 2 (.mv 19) ::
 [])) (
 .seq (.ops (O 20 (.mv 3) ::
 O 21 (.mv 6) ::
 O 22 (.lit false 3 1 1 [.nat .i64 0] [(0, 1, 21)]) ::
 O 23 (.app 3 1 8 20 22) ::
 O 3 (.mv 23) ::
 [])) (.ops (O 24 (.mv 4) ::
 O 25 (.mv 6) ::
 O 26 (.bin .shl (I 1) 25) ::
 O 27 (.bin .add 24 26) ::
 O 4 (.mv 27) ::
 [])))
def c_r09_Dists_p4 : ACode :=
 .ops (
 O 9 (.mv 5) ::
 O 10 (.bin .add 9 (I 1)) ::
 O 5 (.mv 10) ::
 [])
def c_r09_Dists_p1 : ACode :=
 .seq (
 .block 1 (
 .seq (.ops (O 6 (.mv (I 0)) ::
 [])) (
 .seq (
 .seq (.ops (O 11 (.mv 5) ::
 O 12 (.bin .geq 11 (I 4)) ::
 [])) (
 .cond 12 (c_r09_Dists_p2) (.skip))) (c_r09_Dists_p3)))) (c_r09_Dists_p4)
def c_r09_Dists_p0 : ACode :=
 .seq (
 .seq (.ops (O 7 (.mv 5) ::
 O 8 (.bin .lss 7 (I 30)) ::
 [])) (
 .cond 8 (.skip) (.exit 0))) (c_r09_Dists_p1)
def c_r09_Dists_p5 : ACode :=
 .seq (.ops (O 28 (.mv 2) ::
 O 29 (.mv 3) ::
 O 0 (.mv 28) ::
 O 1 (.mv 29) ::
 [])) (
 .ret)
def c_r09_Dists : AFunc := ⟨30, (
 .seq (.ops (O 0 (.mv (.c (.nils))) ::
 O 1 (.mv (.c (.nils))) ::
 [])) (
 .seq (.ops (O 2 (.mv (.c (.nils))) ::
 O 3 (.mv (.c (.nils))) ::
 [])) (
 .seq (.ops (O 4 (.mv (I 1)) ::
 [])) (
 .seq (
 .seq (.ops (O 5 (.mv (I 0)) ::
 [])) (
 .block 0 (
 .loop (c_r09_Dists_p0)))) (c_r09_Dists_p5))))), [.t 0, .t 1]⟩
theorem is_r09_Dists : IsFun Go.Proofs.Tryz.prog f_r09_Dists c_r09_Dists := cFunc_is (obj := false) (by kernel_rfl)

abbrev f_r10_table : Nat := 226
def c_r10_table_p0 : List AOper :=
 O 5 (.mv 7) ::
 O 8 (.ext 5 0) ::
 O 9 (.ext 5 1) ::
 O 3 (.mv 8) ::
 O 4 (.mv 9) ::
 []
def c_r10_table : AFunc := ⟨13, (
 .seq (.ops (O 2 (.alloc 256 [.nils, .nils]) ::
 [])) (
 .seq (.ops (O 6 (.mv 0) ::
 C 7 250 [6] ::
 c_r10_table_p0)) (
 .seq (.ops (O 10 (.mv 0) ::
 O 11 (.mv 3) ::
 O 12 (.build [.nils, .nils] [(0, 1, 10), (1, 1, 11)]) ::
 S (.store 2 2 12) ::
 [])) (
 .ret)))), [.cell 2 2 true]⟩
theorem is_r10_table : IsFun Go.Proofs.Tryz.prog f_r10_table c_r10_table := cFunc_is (obj := false) (by kernel_rfl)

abbrev f_r10_State_sym : Nat := 227
def c_r10_State_sym_p0 : ACode :=
 .seq (.ops (O 4 (.mv (I 0)) ::
 [])) (
 .ret)
def c_r10_State_sym_p2 : List AOper :=
 O 20 (.mv 29) ::
 O 30 (.ext 20 0) ::
 O 31 (.ext 20 1) ::
 O 6 (.mv 30) ::
 O 7 (.mv 31) ::
 []
def c_r10_State_sym_p3 : List AOper :=
 OT 35 36 (.mv 0) ::
 OT 35 37 (.nilck 36) ::
 OT 35 38 (.faddr 0 37) ::
 OT 35 39 (.load 1 false 38) ::
 OT 35 40 (.nilck 39) ::
 OT 35 41 (.faddr 1 40) ::
 OT 35 42 (.load 1 false 41) ::
 OT 35 43 (.mv 5) ::
 OT 35 44 (.bin .sub 42 43) ::
 OT 35 45 (.bin .lss 44 (I 15)) ::
 O 46 (.pick 35 45 (.c (.bool false))) ::
 C 47 221 [32, 46] ::
 []
def c_r10_State_sym_p1 : ACode :=
 .seq (.ops (O 13 (.mv 0) ::
 O 14 (.nilck 13) ::
 O 15 (.faddr 0 14) ::
 O 16 (.load 1 false 15) ::
 O 17 (.nilck 16) ::
 O 18 (.faddr 1 17) ::
 O 19 (.load 1 false 18) ::
 O 5 (.mv 19) ::
 [])) (
 .seq (.ops (O 21 (.faddr 0 3) ::
 O 22 (.load 1 false 21) ::
 O 23 (.faddr 1 3) ::
 O 24 (.load 1 false 23) ::
 O 25 (.mv 0) ::
 O 26 (.nilck 25) ::
 O 27 (.faddr 0 26) ::
 O 28 (.load 1 false 27) ::
 C 29 251 [22, 24, 28] ::
 c_r10_State_sym_p2)) (
 .seq (.ops (O 32 (.mv 0) ::
 O 33 (.mv 7) ::
 O 34 (.bin .neq 33 (I 0)) ::
 O 35 (.mv 34) ::
 c_r10_State_sym_p3)) (
 .seq (.ops (O 48 (.mv 0) ::
 O 49 (.mv 7) ::
 O 50 (.bin .neq 49 (I 0)) ::
 O 51 (.mv 7) ::
 C 52 178 [48, 50, 51] ::
 [])) (
 .seq (.ops (O 53 (.mv 6) ::
 O 4 (.mv 53) ::
 [])) (
 .ret)))))
def c_r10_State_sym : AFunc := ⟨54, (
 .seq (.ops (O 3 (.box 256 1) ::
 O 4 (.mv (I 0)) ::
 [])) (
 .seq (
 .seq (.ops (O 8 (.mv 0) ::
 O 9 (.nilck 8) ::
 O 10 (.faddr 3 9) ::
 O 11 (.load 1 false 10) ::
 O 12 (.bin .neq 11 (I 0)) ::
 [])) (
 .cond 12 (c_r10_State_sym_p0) (.skip))) (c_r10_State_sym_p1))), [.t 4]⟩
theorem is_r10_State_sym : IsFun Go.Proofs.Tryz.prog f_r10_State_sym c_r10_State_sym := cFunc_is (obj := false) (by kernel_rfl)

abbrev f_r07_MayTable : Nat := 228
def c_r07_MayTable_p0 : List AOper :=
 O 7 (.un .not 6) ::
 []
def c_r07_MayTable_p1 : ACode :=
 .seq (.ops (O 2 (.mv (I 1)) ::
 [])) (
 .ret)
def c_r07_MayTable_p3 : List AOper :=
 O 3 (.mv 9) ::
 []
def c_r07_MayTable_p4 : List AOper :=
 O 4 (.mv 11) ::
 []
def c_r07_MayTable_p8 : List AOper :=
 OF 18 24 (.pick 21 23 (.c (.bool false))) ::
 O 25 (.pick 18 (.c (.bool true)) 24) ::
 []
def c_r07_MayTable_p7 : List AOper :=
 OT 21 22 (.mv 3) ::
 OT 21 23 (.bin .eql 22 (I 16384)) ::
 c_r07_MayTable_p8
def c_r07_MayTable_p6 : List AOper :=
 OF 18 19 (.mv 4) ::
 OF 18 20 (.bin .eql 19 (I 1)) ::
 OF 18 21 (.mv 20) ::
 c_r07_MayTable_p7
def c_r07_MayTable_p5 : List AOper :=
 OF 14 15 (.mv 4) ::
 OF 14 16 (.bin .eql 15 (I 0)) ::
 O 17 (.pick 14 (.c (.bool true)) 16) ::
 O 18 (.mv 17) ::
 c_r07_MayTable_p6
def c_r07_MayTable_p9 : ACode :=
 .seq (.ops (O 2 (.mv (I 0)) ::
 [])) (
 .ret)
def c_r07_MayTable_p10 : ACode :=
 .seq (.ops (O 2 (.mv (I 2)) ::
 [])) (
 .ret)
def c_r07_MayTable_p2 : ACode :=
 .seq (.ops (O 8 (.mv 0) ::
 C 9 253 [8] ::
 c_r07_MayTable_p3)) (
 .seq (.ops (O 10 (.mv 0) ::
 C 11 254 [10] ::
 c_r07_MayTable_p4)) (
 .seq (
 .seq (.ops (O 12 (.mv 3) ::
 O 13 (.bin .eql 12 (I 32768)) ::
 O 14 (.mv 13) ::
 c_r07_MayTable_p5)) (
 .cond 25 (c_r07_MayTable_p9) (.skip))) (c_r07_MayTable_p10)))
def c_r07_MayTable : AFunc := ⟨26, (
 .seq (.ops (O 2 (.mv (I 0)) ::
 [])) (
 .seq (
 .seq (.ops (O 5 (.mv 0) ::
 C 6 252 [5] ::
 c_r07_MayTable_p0)) (
 .cond 7 (c_r07_MayTable_p1) (.skip))) (c_r07_MayTable_p2))), [.t 2]⟩
theorem is_r07_MayTable : IsFun Go.Proofs.Tryz.prog f_r07_MayTable c_r07_MayTable := cFunc_is (obj := false) (by kernel_rfl)

abbrev f_r10_State_lengths : Nat := 229
def c_r10_State_lengths_p0 : List AOper :=
 O 8 (.alloc 256 [.nils, .nils]) ::
 S (.store 2 8 14) ::
 []
def c_r10_State_lengths_p2 : List AOper :=
 OT 19 20 (.mv 0) ::
 OT 19 21 (.nilck 20) ::
 OT 19 22 (.faddr 3 21) ::
 OT 19 23 (.load 1 false 22) ::
 OT 19 24 (.bin .eql 23 (I 0)) ::
 O 25 (.pick 19 24 (.c (.bool false))) ::
 []
def c_r10_State_lengths_p4 : List AOper :=
 O 9 (.mv 28) ::
 []
def c_r10_State_lengths_p5 : ACode :=
 .seq (.ops (O 31 (.mv 7) ::
 O 32 (.mv 9) ::
 O 33 (.lit false 3 1 1 [.nat .i64 0] [(0, 1, 32)]) ::
 O 34 (.app 3 1 8 31 33) ::
 O 7 (.mv 34) ::
 [])) (
 .exit 1)
def c_r10_State_lengths_p8 : List AOper :=
 O 44 (.bin .add (I 3) 43) ::
 O 11 (.mv 44) ::
 []
def c_r10_State_lengths_p7 : ACode :=
 .seq (.ops (O 37 (.mv 0) ::
 O 38 (.mv 7) ::
 O 39 (.lenS 38) ::
 O 40 (.bin .eql 39 (I 0)) ::
 C 41 178 [37, 40, (I 2)] ::
 [])) (.ops (O 42 (.mv 0) ::
 C 43 177 [42, (I 2)] ::
 c_r10_State_lengths_p8))
def c_r10_State_lengths_p11 : List AOper :=
 O 49 (.bin .add (I 3) 48) ::
 O 11 (.mv 49) ::
 []
def c_r10_State_lengths_p10 : ACode :=
 .ops (
 O 47 (.mv 0) ::
 C 48 177 [47, (I 3)] ::
 c_r10_State_lengths_p11)
def c_r10_State_lengths_p13 : List AOper :=
 O 52 (.bin .add (I 11) 51) ::
 O 11 (.mv 52) ::
 []
def c_r10_State_lengths_p12 : ACode :=
 .ops (
 O 50 (.mv 0) ::
 C 51 177 [50, (I 7)] ::
 c_r10_State_lengths_p13)
def c_r10_State_lengths_p9 : ACode :=
 .seq (.ops (O 45 (.mv 9) ::
 O 46 (.bin .eql 45 (I 17)) ::
 [])) (
 .cond 46 (c_r10_State_lengths_p10) (c_r10_State_lengths_p12))
def c_r10_State_lengths_p15 : List AOper :=
 OT 63 64 (.mv 7) ::
 OT 63 65 (.lenS 64) ::
 OT 63 66 (.bin .gtr 65 (I 0)) ::
 O 67 (.pick 63 66 (.c (.bool false))) ::
 []
def c_r10_State_lengths_p16 : ACode :=
 .ops (
 O 68 (.mv 7) ::
 O 69 (.mv 7) ::
 O 70 (.lenS 69) ::
 O 71 (.bin .sub 70 (I 1)) ::
 O 72 (.iadS 1 68 71) ::
 O 73 (.load 1 false 72) ::
 O 10 (.mv 73) ::
 [])
def c_r10_State_lengths_p19 : List AOper :=
 OT 77 78 (.mv 0) ::
 OT 77 79 (.nilck 78) ::
 OT 77 80 (.faddr 3 79) ::
 OT 77 81 (.load 1 false 80) ::
 OT 77 82 (.bin .eql 81 (I 0)) ::
 O 83 (.pick 77 82 (.c (.bool false))) ::
 []
def c_r10_State_lengths_p20 : ACode :=
 .seq (
 .block 3 (.ops (O 86 (.mv 7) ::
 O 87 (.mv 10) ::
 O 88 (.lit false 3 1 1 [.nat .i64 0] [(0, 1, 87)]) ::
 O 89 (.app 3 1 8 86 88) ::
 O 7 (.mv 89) ::
 []))) (.ops (O 84 (.mv 12) ::
 O 85 (.bin .add 84 (I 1)) ::
 O 12 (.mv 85) ::
 []))
def c_r10_State_lengths_p18 : ACode :=
 .seq (
 .seq (.ops (O 74 (.mv 12) ::
 O 75 (.mv 11) ::
 O 76 (.bin .lss 74 75) ::
 O 77 (.mv 76) ::
 c_r10_State_lengths_p19)) (
 .cond 83 (.skip) (.exit 2))) (c_r10_State_lengths_p20)
def c_r10_State_lengths_p17 : ACode :=
 .seq (.ops (O 12 (.mv (I 0)) ::
 [])) (
 .block 2 (
 .loop (c_r10_State_lengths_p18)))
def c_r10_State_lengths_p14 : ACode :=
 .seq (.ops (O 53 (.mv 0) ::
 O 54 (.mv 11) ::
 O 55 (.mv 2) ::
 O 56 (.mv 7) ::
 O 57 (.lenS 56) ::
 O 58 (.bin .sub 55 57) ::
 O 59 (.bin .gtr 54 58) ::
 C 60 178 [53, 59, (I 2)] ::
 [])) (
 .seq (
 .seq (.ops (O 61 (.mv 9) ::
 O 62 (.bin .eql 61 (I 16)) ::
 O 63 (.mv 62) ::
 c_r10_State_lengths_p15)) (
 .cond 67 (c_r10_State_lengths_p16) (.skip))) (c_r10_State_lengths_p17))
def c_r10_State_lengths_p6 : ACode :=
 .seq (.ops (O 10 (.mv (I 0)) ::
 O 11 (.mv (I 0)) ::
 [])) (
 .seq (
 .seq (.ops (O 35 (.mv 9) ::
 O 36 (.bin .eql 35 (I 16)) ::
 [])) (
 .cond 36 (c_r10_State_lengths_p7) (c_r10_State_lengths_p9))) (c_r10_State_lengths_p14))
def c_r10_State_lengths_p3 : ACode :=
 .block 1 (
 .seq (.ops (O 26 (.mv 0) ::
 O 27 (.load 2 true 8) ::
 C 28 227 [26, 27] ::
 c_r10_State_lengths_p4)) (
 .seq (
 .seq (.ops (O 29 (.mv 9) ::
 O 30 (.bin .lss 29 (I 16)) ::
 [])) (
 .cond 30 (c_r10_State_lengths_p5) (.skip))) (c_r10_State_lengths_p6)))
def c_r10_State_lengths_p1 : ACode :=
 .seq (
 .seq (.ops (O 15 (.mv 7) ::
 O 16 (.lenS 15) ::
 O 17 (.mv 2) ::
 O 18 (.bin .lss 16 17) ::
 O 19 (.mv 18) ::
 c_r10_State_lengths_p2)) (
 .cond 25 (.skip) (.exit 0))) (c_r10_State_lengths_p3)
def c_r10_State_lengths_p21 : ACode :=
 .seq (.ops (O 90 (.mv 7) ::
 O 6 (.mv 90) ::
 [])) (
 .ret)
def c_r10_State_lengths : AFunc := ⟨91, (
 .seq (.ops (O 6 (.mv (.c (.nils))) ::
 [])) (
 .seq (.ops (O 7 (.mv (.c (.nils))) ::
 [])) (
 .seq (.ops (O 13 (.mv 1) ::
 C 14 226 [13] ::
 c_r10_State_lengths_p0)) (
 .seq (
 .block 0 (
 .loop (c_r10_State_lengths_p1))) (c_r10_State_lengths_p21))))), [.t 6]⟩
theorem is_r10_State_lengths : IsFun Go.Proofs.Tryz.prog f_r10_State_lengths c_r10_State_lengths := cFunc_is (obj := false) (by kernel_rfl)

abbrev f_sha_words : Nat := 230
def c_sha_words_p1 : ACode :=
 .seq (
 .block 1 (
 .seq (.ops (O 10 (.mv 8) ::
 O 4 (.mv 10) ::
 [])) (.ops (O 11 (.mv 4) ::
 O 12 (.mv 0) ::
 O 13 (.mv 4) ::
 O 14 (.bin .mul (I 4) 13) ::
 O 15 (.iadS 1 12 14) ::
 O 16 (.load 1 false 15) ::
 O 17 (.toInt .u32 16) ::
 O 18 (.bin .shl 17 (U64 24)) ::
 O 19 (.mv 0) ::
 O 20 (.mv 4) ::
 O 21 (.bin .mul (I 4) 20) ::
 O 22 (.bin .add 21 (I 1)) ::
 O 23 (.iadS 1 19 22) ::
 O 24 (.load 1 false 23) ::
 O 25 (.toInt .u32 24) ::
 O 26 (.bin .shl 25 (U64 16)) ::
 O 27 (.bin .or 18 26) ::
 O 28 (.mv 0) ::
 O 29 (.mv 4) ::
 O 30 (.bin .mul (I 4) 29) ::
 O 31 (.bin .add 30 (I 2)) ::
 O 32 (.iadS 1 28 31) ::
 O 33 (.load 1 false 32) ::
 O 34 (.toInt .u32 33) ::
 O 35 (.bin .shl 34 (U64 8)) ::
 O 36 (.bin .or 27 35) ::
 O 37 (.mv 0) ::
 O 38 (.mv 4) ::
 O 39 (.bin .mul (I 4) 38) ::
 O 40 (.bin .add 39 (I 3)) ::
 O 41 (.iadS 1 37 40) ::
 O 42 (.load 1 false 41) ::
 O 43 (.toInt .u32 42) ::
 O 44 (.bin .or 36 43) ::
 O 45 (.iadA 64 1 3 11) ::
 S (.store 1 45 44) ::
 [])))) (.ops (O 46 (.bin .add 8 (I 1)) ::
 O 8 (.mv 46) ::
 []))
def c_sha_words_p0 : ACode :=
 .seq (.ops (O 9 (.bin .lss 8 (I 16)) ::
 [])) (
 .seq (
 .cond 9 (.skip) (.exit 0)) (c_sha_words_p1))
def c_sha_words_p7 : List (AOper × List Nat) :=
 (O 61 (.bin .xor 55 60), []) ::
 (O 62 (.mv 5), []) ::
 (O 63 (.bin .sub 62 (I 15)), []) ::
 (O 64 (.iadA 64 1 3 63), []) ::
 (O 65 (.load 1 false 64), [4, 9]) ::
 (O 66 (.bin .shr 65 (U64 3)), []) ::
 (O 67 (.bin .xor 61 66), []) ::
 (O 6 (.mv 67), []) ::
 []
def c_sha_words_p6 : List (AOper × List Nat) :=
 (O 56 (.mv 5), []) ::
 (O 57 (.bin .sub 56 (I 15)), []) ::
 (O 58 (.iadA 64 1 3 57), []) ::
 (O 59 (.load 1 false 58), [4]) ::
 (C 60 231 [59, (I 18)], []) ::
 c_sha_words_p7
def c_sha_words_p5 : List (AOper × List Nat) :=
 (O 51 (.mv 5), []) ::
 (O 52 (.bin .sub 51 (I 15)), []) ::
 (O 53 (.iadA 64 1 3 52), []) ::
 (O 54 (.load 1 false 53), []) ::
 (C 55 231 [54, (I 7)], []) ::
 c_sha_words_p6
def c_sha_words_p5a : List AOper := fstsOf c_sha_words_p5
def c_sha_words_p10 : List (AOper × List Nat) :=
 (O 78 (.bin .xor 72 77), []) ::
 (O 79 (.mv 5), []) ::
 (O 80 (.bin .sub 79 (I 2)), []) ::
 (O 81 (.iadA 64 1 3 80), []) ::
 (O 82 (.load 1 false 81), [4, 9]) ::
 (O 83 (.bin .shr 82 (U64 10)), []) ::
 (O 84 (.bin .xor 78 83), []) ::
 (O 7 (.mv 84), []) ::
 []
def c_sha_words_p9 : List (AOper × List Nat) :=
 (O 73 (.mv 5), []) ::
 (O 74 (.bin .sub 73 (I 2)), []) ::
 (O 75 (.iadA 64 1 3 74), []) ::
 (O 76 (.load 1 false 75), [4]) ::
 (C 77 231 [76, (I 19)], []) ::
 c_sha_words_p10
def c_sha_words_p8 : List (AOper × List Nat) :=
 (O 68 (.mv 5), []) ::
 (O 69 (.bin .sub 68 (I 2)), []) ::
 (O 70 (.iadA 64 1 3 69), []) ::
 (O 71 (.load 1 false 70), []) ::
 (C 72 231 [71, (I 17)], []) ::
 c_sha_words_p9
def c_sha_words_p8a : List AOper := fstsOf c_sha_words_p8
def c_sha_words_p4 : ACode :=
 .seq (
 .block 3 (
 .seq (
 .draw c_sha_words_p5a c_sha_words_p5) (
 .seq (
 .draw c_sha_words_p8a c_sha_words_p8) (.ops (O 85 (.mv 5) ::
 O 86 (.mv 5) ::
 O 87 (.bin .sub 86 (I 16)) ::
 O 88 (.iadA 64 1 3 87) ::
 O 89 (.load 1 false 88) ::
 O 90 (.mv 6) ::
 O 91 (.bin .add 89 90) ::
 O 92 (.mv 5) ::
 O 93 (.bin .sub 92 (I 7)) ::
 O 94 (.iadA 64 1 3 93) ::
 O 95 (.load 1 false 94) ::
 O 96 (.bin .add 91 95) ::
 O 97 (.mv 7) ::
 O 98 (.bin .add 96 97) ::
 O 99 (.iadA 64 1 3 85) ::
 S (.store 1 99 98) ::
 []))))) (.ops (O 49 (.mv 5) ::
 O 50 (.bin .add 49 (I 1)) ::
 O 5 (.mv 50) ::
 []))
def c_sha_words_p3 : ACode :=
 .seq (
 .seq (.ops (O 47 (.mv 5) ::
 O 48 (.bin .lss 47 (I 64)) ::
 [])) (
 .cond 48 (.skip) (.exit 2))) (c_sha_words_p4)
def c_sha_words_p11 : ACode :=
 .seq (.ops (O 100 (.load 64 true 3) ::
 S (.store 64 2 100) ::
 [])) (
 .ret)
def c_sha_words_p2 : ACode :=
 .seq (
 .seq (.ops (O 5 (.mv (I 16)) ::
 [])) (
 .block 2 (
 .loop (c_sha_words_p3)))) (c_sha_words_p11)
def c_sha_words : AFunc := ⟨101, (
 .seq (.ops (O 2 (.alloc 260 (List.replicate 64 (.nat .u32 0))) ::
 [])) (
 .seq (.ops (O 3 (.alloc 260 (List.replicate 64 (.nat .u32 0))) ::
 [])) (
 .seq (
 .seq (.ops (O 8 (.mv (I 0)) ::
 [])) (
 .block 0 (
 .loop (c_sha_words_p0)))) (c_sha_words_p2)))), [.cell 2 64 true]⟩
theorem is_sha_words : IsFun Go.Proofs.Tryz.prog f_sha_words c_sha_words := cFunc_is (obj := false) (by kernel_rfl)

abbrev f_sha_turn : Nat := 231
def c_sha_turn : AFunc := ⟨13, (
 .seq (.ops (O 4 (.mv (U32 0)) ::
 [])) (
 .seq (.ops (O 5 (.mv 0) ::
 O 6 (.mv 1) ::
 O 7 (.bin .shr 5 6) ::
 O 8 (.mv 0) ::
 O 9 (.mv 1) ::
 O 10 (.bin .sub (I 32) 9) ::
 O 11 (.bin .shl 8 10) ::
 O 12 (.bin .or 7 11) ::
 O 4 (.mv 12) ::
 [])) (
 .ret))), [.t 4]⟩
theorem is_sha_turn : IsFun Go.Proofs.Tryz.prog f_sha_turn c_sha_turn := cFunc_is (obj := false) (by kernel_rfl)

abbrev f_sha_round : Nat := 232
def c_sha_round : AFunc := ⟨8, (
 .seq (.ops (O 2 (.mv (U32 0)) ::
 [])) (
 .seq (.ops (O 4 (.build (List.replicate 64 (.nat .u32 0)) [(0, 1, (U32 1116352408)), (1, 1, (U32 1899447441)), (2, 1, (U32 3049323471)), (3, 1, (U32 3921009573)), (4, 1, (U32 961987163)), (5, 1, (U32 1508970993)), (6, 1, (U32 2453635748)), (7, 1, (U32 2870763221)), (8, 1, (U32 3624381080)), (9, 1, (U32 310598401)), (10, 1, (U32 607225278)), (11, 1, (U32 1426881987)), (12, 1, (U32 1925078388)), (13, 1, (U32 2162078206)), (14, 1, (U32 2614888103)), (15, 1, (U32 3248222580)), (16, 1, (U32 3835390401)), (17, 1, (U32 4022224774)), (18, 1, (U32 264347078)), (19, 1, (U32 604807628)), (20, 1, (U32 770255983)), (21, 1, (U32 1249150122)), (22, 1, (U32 1555081692)), (23, 1, (U32 1996064986)), (24, 1, (U32 2554220882)), (25, 1, (U32 2821834349)), (26, 1, (U32 2952996808)), (27, 1, (U32 3210313671)), (28, 1, (U32 3336571891)), (29, 1, (U32 3584528711)), (30, 1, (U32 113926993)), (31, 1, (U32 338241895)), (32, 1, (U32 666307205)), (33, 1, (U32 773529912)), (34, 1, (U32 1294757372)), (35, 1, (U32 1396182291)), (36, 1, (U32 1695183700)), (37, 1, (U32 1986661051)), (38, 1, (U32 2177026350)), (39, 1, (U32 2456956037)), (40, 1, (U32 2730485921)), (41, 1, (U32 2820302411)), (42, 1, (U32 3259730800)), (43, 1, (U32 3345764771)), (44, 1, (U32 3516065817)), (45, 1, (U32 3600352804)), (46, 1, (U32 4094571909)), (47, 1, (U32 275423344)), (48, 1, (U32 430227734)), (49, 1, (U32 506948616)), (50, 1, (U32 659060556)), (51, 1, (U32 883997877)), (52, 1, (U32 958139571)), (53, 1, (U32 1322822218)), (54, 1, (U32 1537002063)), (55, 1, (U32 1747873779)), (56, 1, (U32 1955562222)), (57, 1, (U32 2024104815)), (58, 1, (U32 2227730452)), (59, 1, (U32 2361852424)), (60, 1, (U32 2428436474)), (61, 1, (U32 2756734187)), (62, 1, (U32 3204031479)), (63, 1, (U32 3329325298))]) ::
 O 3 (.alloc 260 (List.replicate 64 (.nat .u32 0))) ::
 S (.store 64 3 4) ::
 [])) (
 .seq (.ops (O 5 (.mv 0) ::
 O 6 (.iadA 64 1 3 5) ::
 O 7 (.load 1 false 6) ::
 O 2 (.mv 7) ::
 [])) (
 .ret)))), [.t 2]⟩
theorem is_sha_round : IsFun Go.Proofs.Tryz.prog f_sha_round c_sha_round := cFunc_is (obj := false) (by kernel_rfl)

abbrev f_slices_stableCmpFunc_apiFile : Nat := 233
def c_slices_stableCmpFunc_apiFile_p1 : ACode :=
 .block 1 (
 .seq (.ops (O 14 (.mv 0) ::
 O 15 (.mv 7) ::
 O 16 (.mv 8) ::
 O 17 (.mv 2) ::
 C 18 255 [14, 15, 16, 17] ::
 [])) (
 .seq (.ops (O 19 (.mv 8) ::
 O 7 (.mv 19) ::
 [])) (.ops (O 20 (.mv 8) ::
 O 21 (.mv 6) ::
 O 22 (.bin .add 20 21) ::
 O 8 (.mv 22) ::
 []))))
def c_slices_stableCmpFunc_apiFile_p0 : ACode :=
 .seq (
 .seq (.ops (O 11 (.mv 8) ::
 O 12 (.mv 1) ::
 O 13 (.bin .leq 11 12) ::
 [])) (
 .cond 13 (.skip) (.exit 0))) (c_slices_stableCmpFunc_apiFile_p1)
def c_slices_stableCmpFunc_apiFile_p6 : ACode :=
 .block 5 (
 .seq (.ops (O 36 (.mv 0) ::
 O 37 (.mv 7) ::
 O 38 (.mv 7) ::
 O 39 (.mv 6) ::
 O 40 (.bin .add 38 39) ::
 O 41 (.mv 8) ::
 O 42 (.mv 2) ::
 C 43 256 [36, 37, 40, 41, 42] ::
 [])) (
 .seq (.ops (O 44 (.mv 8) ::
 O 7 (.mv 44) ::
 [])) (.ops (O 45 (.mv 8) ::
 O 46 (.mv 6) ::
 O 47 (.bin .mul (I 2) 46) ::
 O 48 (.bin .add 45 47) ::
 O 8 (.mv 48) ::
 []))))
def c_slices_stableCmpFunc_apiFile_p5 : ACode :=
 .seq (
 .seq (.ops (O 33 (.mv 8) ::
 O 34 (.mv 1) ::
 O 35 (.bin .leq 33 34) ::
 [])) (
 .cond 35 (.skip) (.exit 4))) (c_slices_stableCmpFunc_apiFile_p6)
def c_slices_stableCmpFunc_apiFile_p8 : ACode :=
 .ops (
 O 55 (.mv 0) ::
 O 56 (.mv 7) ::
 O 57 (.mv 9) ::
 O 58 (.mv 1) ::
 O 59 (.mv 2) ::
 C 60 256 [55, 56, 57, 58, 59] ::
 [])
def c_slices_stableCmpFunc_apiFile_p9 : ACode :=
 .ops (
 O 61 (.mv 6) ::
 O 62 (.bin .mul 61 (I 2)) ::
 O 6 (.mv 62) ::
 [])
def c_slices_stableCmpFunc_apiFile_p7 : ACode :=
 .seq (
 .seq (.ops (O 49 (.mv 7) ::
 O 50 (.mv 6) ::
 O 51 (.bin .add 49 50) ::
 O 9 (.mv 51) ::
 [])) (
 .seq (.ops (O 52 (.mv 9) ::
 O 53 (.mv 1) ::
 O 54 (.bin .lss 52 53) ::
 [])) (
 .cond 54 (c_slices_stableCmpFunc_apiFile_p8) (.skip)))) (c_slices_stableCmpFunc_apiFile_p9)
def c_slices_stableCmpFunc_apiFile_p4 : ACode :=
 .block 3 (
 .seq (.ops (O 31 (.mv 6) ::
 O 32 (.bin .mul (I 2) 31) ::
 O 7 (.mv (I 0)) ::
 O 8 (.mv 32) ::
 [])) (
 .seq (
 .block 4 (
 .loop (c_slices_stableCmpFunc_apiFile_p5))) (c_slices_stableCmpFunc_apiFile_p7)))
def c_slices_stableCmpFunc_apiFile_p3 : ACode :=
 .seq (
 .seq (.ops (O 28 (.mv 6) ::
 O 29 (.mv 1) ::
 O 30 (.bin .lss 28 29) ::
 [])) (
 .cond 30 (.skip) (.exit 2))) (c_slices_stableCmpFunc_apiFile_p4)
def c_slices_stableCmpFunc_apiFile_p2 : ACode :=
 .seq (.ops (O 23 (.mv 0) ::
 O 24 (.mv 7) ::
 O 25 (.mv 1) ::
 O 26 (.mv 2) ::
 C 27 255 [23, 24, 25, 26] ::
 [])) (
 .block 2 (
 .loop (c_slices_stableCmpFunc_apiFile_p3)))
def c_slices_stableCmpFunc_apiFile : AFunc := ⟨63, (
 .seq (.ops (O 6 (.mv (I 20)) ::
 [])) (
 .seq (.ops (O 10 (.mv 6) ::
 O 7 (.mv (I 0)) ::
 O 8 (.mv 10) ::
 [])) (
 .seq (
 .block 0 (
 .loop (c_slices_stableCmpFunc_apiFile_p0))) (c_slices_stableCmpFunc_apiFile_p2)))), []⟩
theorem is_slices_stableCmpFunc_apiFile : IsFun Go.Proofs.Tryz.prog f_slices_stableCmpFunc_apiFile c_slices_stableCmpFunc_apiFile := cFunc_is (obj := false) (by kernel_rfl)

abbrev f_bits_Writer_bit : Nat := 234
def c_bits_Writer_bit_p0 : ACode :=
 .ops (
 O 10 (.mv 0) ::
 O 11 (.mv 0) ::
 O 12 (.nilck 11) ::
 O 13 (.faddr 0 12) ::
 O 14 (.load 1 false 13) ::
 O 15 (.lit false 5 1 1 [.nat .u8 0] [(0, 1, (U8 0))]) ::
 O 16 (.app 5 1 1 14 15) ::
 O 17 (.nilck 10) ::
 O 18 (.faddr 0 17) ::
 S (.store 1 18 16) ::
 [])
def c_bits_Writer_bit_p1 : ACode :=
 .seq (.ops (O 19 (.mv 0) ::
 O 20 (.nilck 19) ::
 O 21 (.faddr 0 20) ::
 O 22 (.load 1 false 21) ::
 O 23 (.mv 0) ::
 O 24 (.nilck 23) ::
 O 25 (.faddr 1 24) ::
 O 26 (.load 1 false 25) ::
 O 27 (.bin .quo 26 (I 8)) ::
 O 28 (.iadS 1 22 27) ::
 O 29 (.load 1 false 28) ::
 O 30 (.mv 1) ::
 O 31 (.mv 0) ::
 O 32 (.nilck 31) ::
 O 33 (.faddr 1 32) ::
 O 34 (.load 1 false 33) ::
 O 35 (.bin .rem 34 (I 8)) ::
 O 36 (.bin .shl 30 35) ::
 O 37 (.toInt .u8 36) ::
 O 38 (.bin .or 29 37) ::
 O 39 (.iadS 1 22 27) ::
 S (.store 1 39 38) ::
 [])) (.ops (O 40 (.mv 0) ::
 O 41 (.nilck 40) ::
 O 42 (.faddr 1 41) ::
 O 43 (.load 1 false 42) ::
 O 44 (.bin .add 43 (I 1)) ::
 O 45 (.nilck 40) ::
 O 46 (.faddr 1 45) ::
 S (.store 1 46 44) ::
 []))
def c_bits_Writer_bit : AFunc := ⟨47, (
 .seq (
 .seq (.ops (O 4 (.mv 0) ::
 O 5 (.nilck 4) ::
 O 6 (.faddr 1 5) ::
 O 7 (.load 1 false 6) ::
 O 8 (.bin .rem 7 (I 8)) ::
 O 9 (.bin .eql 8 (I 0)) ::
 [])) (
 .cond 9 (c_bits_Writer_bit_p0) (.skip))) (c_bits_Writer_bit_p1)), []⟩
theorem is_bits_Writer_bit : IsFun Go.Proofs.Tryz.prog f_bits_Writer_bit c_bits_Writer_bit := cFunc_is (obj := false) (by kernel_rfl)

abbrev f_flate_Fixed : Nat := 235
def c_flate_Fixed_p4 : List AOper :=
 O 2 (.mv 12) ::
 []
def c_flate_Fixed_p3 : List AOper :=
 O 11 (.lit false 124 4 1 [.nils] [(0, 1, 4), (1, 1, 6), (2, 1, 8), (3, 1, 10)]) ::
 C 12 165 [11] ::
 c_flate_Fixed_p4
def c_flate_Fixed_p2 : List AOper :=
 O 9 (.lit false 3 1 1 [.nat .i64 0] [(0, 1, (I 8))]) ::
 C 10 166 [9, (I 8)] ::
 c_flate_Fixed_p3
def c_flate_Fixed_p1 : List AOper :=
 O 7 (.lit false 3 1 1 [.nat .i64 0] [(0, 1, (I 7))]) ::
 C 8 166 [7, (I 24)] ::
 c_flate_Fixed_p2
def c_flate_Fixed_p0 : List AOper :=
 O 5 (.lit false 3 1 1 [.nat .i64 0] [(0, 1, (I 9))]) ::
 C 6 166 [5, (I 112)] ::
 c_flate_Fixed_p1
def c_flate_Fixed_p5 : List AOper :=
 O 0 (.mv 13) ::
 O 1 (.mv 15) ::
 []
def c_flate_Fixed : AFunc := ⟨16, (
 .seq (.ops (O 0 (.mv (.c (.nils))) ::
 O 1 (.mv (.c (.nils))) ::
 [])) (
 .seq (.ops (O 3 (.lit false 3 1 1 [.nat .i64 0] [(0, 1, (I 8))]) ::
 C 4 166 [3, (I 144)] ::
 c_flate_Fixed_p0)) (
 .seq (.ops (O 13 (.mv 2) ::
 O 14 (.lit false 3 1 1 [.nat .i64 0] [(0, 1, (I 5))]) ::
 C 15 166 [14, (I 32)] ::
 c_flate_Fixed_p5)) (
 .ret)))), [.t 0, .t 1]⟩
theorem is_flate_Fixed : IsFun Go.Proofs.Tryz.prog f_flate_Fixed c_flate_Fixed := cFunc_is (obj := false) (by kernel_rfl)

abbrev f_flate_body : Nat := 236
def c_flate_body_p2 : ACode :=
 .seq (.ops (O 22 (.load 2 true 6) ::
 O 23 (.mv 0) ::
 O 24 (.faddr 2 9) ::
 O 25 (.load 1 false 24) ::
 C 26 257 [22, 23, 25] ::
 [])) (
 .exit 1)
def c_flate_body_p4 : List AOper :=
 O 27 (.mv 30) ::
 O 31 (.ext 27 0) ::
 O 32 (.ext 27 1) ::
 O 33 (.ext 27 2) ::
 O 10 (.mv 31) ::
 O 11 (.mv 32) ::
 O 12 (.mv 33) ::
 []
def c_flate_body_p5 : List AOper :=
 O 42 (.mv 45) ::
 O 46 (.ext 42 0) ::
 O 47 (.ext 42 1) ::
 O 48 (.ext 42 2) ::
 O 10 (.mv 46) ::
 O 11 (.mv 47) ::
 O 12 (.mv 48) ::
 []
def c_flate_body_p3 : ACode :=
 .seq (.ops (O 28 (.faddr 0 9) ::
 O 29 (.load 1 false 28) ::
 C 30 258 [29] ::
 c_flate_body_p4)) (
 .seq (.ops (O 34 (.load 2 true 6) ::
 O 35 (.mv 0) ::
 O 36 (.mv 10) ::
 C 37 257 [34, 35, 36] ::
 [])) (
 .seq (.ops (O 38 (.mv 0) ::
 O 39 (.mv 12) ::
 O 40 (.mv 11) ::
 C 41 195 [38, 39, 40] ::
 [])) (
 .seq (.ops (O 43 (.faddr 1 9) ::
 O 44 (.load 1 false 43) ::
 C 45 259 [44] ::
 c_flate_body_p5)) (
 .seq (.ops (O 49 (.load 2 true 7) ::
 O 50 (.mv 0) ::
 O 51 (.mv 10) ::
 C 52 257 [49, 50, 51] ::
 [])) (.ops (O 53 (.mv 0) ::
 O 54 (.mv 12) ::
 O 55 (.mv 11) ::
 C 56 195 [53, 54, 55] ::
 []))))))
def c_flate_body_p6 : ACode :=
 .ops (
 O 57 (.bin .add 15 (I 1)) ::
 O 15 (.mv 57) ::
 [])
def c_flate_body_p1 : ACode :=
 .seq (
 .block 1 (
 .seq (.ops (O 17 (.iadS 3 13 15) ::
 O 18 (.load 3 true 17) ::
 O 9 (.alloc 278 [.nat .i64 0, .nat .i64 0, .nat .i64 0]) ::
 S (.store 3 9 18) ::
 [])) (
 .seq (
 .seq (.ops (O 19 (.faddr 0 9) ::
 O 20 (.load 1 false 19) ::
 O 21 (.bin .eql 20 (I 0)) ::
 [])) (
 .cond 21 (c_flate_body_p2) (.skip))) (c_flate_body_p3)))) (c_flate_body_p6)
def c_flate_body_p0 : ACode :=
 .seq (.ops (O 16 (.bin .lss 15 14) ::
 [])) (
 .seq (
 .cond 16 (.skip) (.exit 0)) (c_flate_body_p1))
def c_flate_body_p7 : ACode :=
 .ops (
 O 58 (.load 2 true 6) ::
 O 59 (.mv 0) ::
 C 60 257 [58, 59, (I 256)] ::
 [])
def c_flate_body : AFunc := ⟨61, (
 .seq (.ops (O 6 (.box 268 2) ::
 O 7 (.box 268 3) ::
 [])) (
 .seq (
 .seq (.ops (O 13 (.mv 1) ::
 O 14 (.lenS 13) ::
 O 15 (.mv (I 0)) ::
 [])) (
 .block 0 (
 .loop (c_flate_body_p0)))) (c_flate_body_p7))), []⟩
theorem is_flate_body : IsFun Go.Proofs.Tryz.prog f_flate_body c_flate_body := cFunc_is (obj := false) (by kernel_rfl)

abbrev f_flate_made : Nat := 237
def c_flate_made_p0 : List AOper :=
 O 5 (.mv 7) ::
 O 8 (.ext 5 0) ::
 O 9 (.ext 5 1) ::
 O 3 (.mv 8) ::
 O 4 (.mv 9) ::
 []
def c_flate_made : AFunc := ⟨13, (
 .seq (.ops (O 2 (.alloc 268 [.nils, .nils]) ::
 [])) (
 .seq (.ops (O 6 (.mv 0) ::
 C 7 260 [6] ::
 c_flate_made_p0)) (
 .seq (.ops (O 10 (.mv 0) ::
 O 11 (.mv 3) ::
 O 12 (.build [.nils, .nils] [(0, 1, 10), (1, 1, 11)]) ::
 S (.store 2 2 12) ::
 [])) (
 .ret)))), [.cell 2 2 true]⟩
theorem is_flate_made : IsFun Go.Proofs.Tryz.prog f_flate_made c_flate_made := cFunc_is (obj := false) (by kernel_rfl)

abbrev f_flate_rich : Nat := 238
def c_flate_rich_p0 : List AOper :=
 O 26 (.mv 28) ::
 O 29 (.ext 26 0) ::
 O 30 (.ext 26 1) ::
 O 6 (.mv 29) ::
 O 7 (.mv 30) ::
 []
def c_flate_rich_p1 : List AOper :=
 O 31 (.mv 33) ::
 O 34 (.ext 31 0) ::
 O 35 (.ext 31 1) ::
 O 8 (.mv 34) ::
 O 9 (.mv 35) ::
 []
def c_flate_rich_p2 : List AOper :=
 O 36 (.mv 38) ::
 O 39 (.ext 36 0) ::
 O 40 (.ext 36 1) ::
 O 10 (.mv 39) ::
 O 11 (.mv 40) ::
 []
def c_flate_rich_p4 : List AOper :=
 O 8 (.mv 42) ::
 O 10 (.mv 44) ::
 []
def c_flate_rich_p3 : List AOper :=
 O 43 (.mv 10) ::
 C 44 263 [43, (I 1)] ::
 c_flate_rich_p4
def c_flate_rich_p6 : List AOper :=
 O 12 (.mv 49) ::
 []
def c_flate_rich_p5 : List AOper :=
 C 49 264 [48] ::
 c_flate_rich_p6
def c_flate_rich_p8 : ACode :=
 .seq (
 .block 1 (
 .seq (.ops (O 55 (.iadS 3 51 53) ::
 O 56 (.load 3 true 55) ::
 O 15 (.alloc 301 [.nat .i64 0, .nat .i64 0, .nat .i64 0]) ::
 S (.store 3 15 56) ::
 [])) (.ops (O 57 (.mv 13) ::
 O 58 (.faddr 0 15) ::
 O 59 (.load 1 false 58) ::
 O 60 (.iadS 1 57 59) ::
 O 61 (.load 1 false 60) ::
 O 62 (.bin .add 61 (I 1)) ::
 O 63 (.iadS 1 57 59) ::
 S (.store 1 63 62) ::
 [])))) (.ops (O 64 (.bin .add 53 (I 1)) ::
 O 53 (.mv 64) ::
 []))
def c_flate_rich_p7 : ACode :=
 .seq (.ops (O 54 (.bin .lss 53 52) ::
 [])) (
 .seq (
 .cond 54 (.skip) (.exit 0)) (c_flate_rich_p8))
def c_flate_rich_p10 : List AOper :=
 O 65 (.mv 67) ::
 O 68 (.ext 65 0) ::
 O 69 (.ext 65 1) ::
 O 16 (.mv 68) ::
 O 17 (.mv 69) ::
 []
def c_flate_rich_p11 : List AOper :=
 O 71 (.mv (I 0)) ::
 []
def c_flate_rich_p13 : ACode :=
 .seq (
 .block 3 (
 .seq (.ops (O 73 (.idxA 19 1 false 70 71) ::
 O 20 (.mv 73) ::
 [])) (.ops (O 74 (.mv 18) ::
 O 75 (.mv 16) ::
 O 76 (.mv 20) ::
 O 77 (.iadS 1 75 76) ::
 O 78 (.load 1 false 77) ::
 O 79 (.lit false 3 1 1 [.nat .i64 0] [(0, 1, 78)]) ::
 O 80 (.app 3 1 8 74 79) ::
 O 18 (.mv 80) ::
 [])))) (.ops (O 81 (.bin .add 71 (I 1)) ::
 O 71 (.mv 81) ::
 []))
def c_flate_rich_p12 : ACode :=
 .seq (.ops (O 72 (.bin .lss 71 (I 19)) ::
 [])) (
 .seq (
 .cond 72 (.skip) (.exit 2)) (c_flate_rich_p13))
def c_flate_rich_p15 : List AOper :=
 O 18 (.mv 83) ::
 []
def c_flate_rich_p17 : ACode :=
 .seq (
 .block 5 (
 .seq (.ops (O 107 (.iadS 1 103 105) ::
 O 108 (.load 1 false 107) ::
 O 22 (.mv 108) ::
 [])) (.ops (O 109 (.mv 0) ::
 O 110 (.mv 22) ::
 C 111 195 [109, 110, (I 3)] ::
 [])))) (.ops (O 112 (.bin .add 105 (I 1)) ::
 O 105 (.mv 112) ::
 []))
def c_flate_rich_p16 : ACode :=
 .seq (.ops (O 106 (.bin .lss 105 104) ::
 [])) (
 .seq (
 .cond 106 (.skip) (.exit 4)) (c_flate_rich_p17))
def c_flate_rich_p19 : List AOper :=
 O 23 (.alloc 268 [.nils, .nils]) ::
 S (.store 2 23 114) ::
 []
def c_flate_rich_p21 : ACode :=
 .seq (
 .block 7 (
 .seq (.ops (O 119 (.iadS 3 115 117) ::
 O 120 (.load 3 true 119) ::
 O 25 (.alloc 301 [.nat .i64 0, .nat .i64 0, .nat .i64 0]) ::
 S (.store 3 25 120) ::
 [])) (
 .seq (.ops (O 121 (.load 2 true 23) ::
 O 122 (.mv 0) ::
 O 123 (.faddr 0 25) ::
 O 124 (.load 1 false 123) ::
 C 125 257 [121, 122, 124] ::
 [])) (.ops (O 126 (.mv 0) ::
 O 127 (.faddr 2 25) ::
 O 128 (.load 1 false 127) ::
 O 129 (.faddr 1 25) ::
 O 130 (.load 1 false 129) ::
 C 131 195 [126, 128, 130] ::
 []))))) (.ops (O 132 (.bin .add 117 (I 1)) ::
 O 117 (.mv 132) ::
 []))
def c_flate_rich_p20 : ACode :=
 .seq (.ops (O 118 (.bin .lss 117 116) ::
 [])) (
 .seq (
 .cond 118 (.skip) (.exit 6)) (c_flate_rich_p21))
def c_flate_rich_p24 : List AOper :=
 C 139 236 [133, 134, 136, 138] ::
 []
def c_flate_rich_p23 : List AOper :=
 O 137 (.mv 10) ::
 C 138 237 [137] ::
 c_flate_rich_p24
def c_flate_rich_p22 : ACode :=
 .ops (
 O 133 (.mv 0) ::
 O 134 (.mv 1) ::
 O 135 (.mv 8) ::
 C 136 237 [135] ::
 c_flate_rich_p23)
def c_flate_rich_p18 : ACode :=
 .seq (.ops (O 113 (.mv 16) ::
 C 114 237 [113] ::
 c_flate_rich_p19)) (
 .seq (
 .seq (.ops (O 115 (.mv 12) ::
 O 116 (.lenS 115) ::
 O 117 (.mv (I 0)) ::
 [])) (
 .block 6 (
 .loop (c_flate_rich_p20)))) (c_flate_rich_p22))
def c_flate_rich_p14 : ACode :=
 .seq (.ops (O 82 (.mv 18) ::
 C 83 263 [82, (I 4)] ::
 c_flate_rich_p15)) (
 .seq (.ops (O 84 (.mv 0) ::
 O 85 (.mv 2) ::
 C 86 193 [84, 85, (I 2)] ::
 [])) (
 .seq (.ops (O 87 (.mv 0) ::
 O 88 (.mv 8) ::
 O 89 (.lenS 88) ::
 O 90 (.bin .sub 89 (I 256)) ::
 O 91 (.bin .sub 90 (I 1)) ::
 C 92 195 [87, 91, (I 5)] ::
 [])) (
 .seq (.ops (O 93 (.mv 0) ::
 O 94 (.mv 10) ::
 O 95 (.lenS 94) ::
 O 96 (.bin .sub 95 (I 1)) ::
 C 97 195 [93, 96, (I 5)] ::
 [])) (
 .seq (.ops (O 98 (.mv 0) ::
 O 99 (.mv 18) ::
 O 100 (.lenS 99) ::
 O 101 (.bin .sub 100 (I 4)) ::
 C 102 195 [98, 101, (I 4)] ::
 [])) (
 .seq (
 .seq (.ops (O 103 (.mv 18) ::
 O 104 (.lenS 103) ::
 O 105 (.mv (I 0)) ::
 [])) (
 .block 4 (
 .loop (c_flate_rich_p16)))) (c_flate_rich_p18))))))
def c_flate_rich_p9 : ACode :=
 .seq (.ops (O 66 (.mv 13) ::
 C 67 262 [66, (I 7)] ::
 c_flate_rich_p10)) (
 .seq (.ops (O 18 (.mv (.c (.nils))) ::
 [])) (
 .seq (
 .seq (.ops (C 70 265 [] ::
 c_flate_rich_p11)) (
 .block 2 (
 .loop (c_flate_rich_p12)))) (c_flate_rich_p14)))
def c_flate_rich : AFunc := ⟨140, (
 .seq (.ops (O 27 (.mv 1) ::
 C 28 261 [27] ::
 c_flate_rich_p0)) (
 .seq (.ops (O 32 (.mv 6) ::
 C 33 262 [32, (I 15)] ::
 c_flate_rich_p1)) (
 .seq (.ops (O 37 (.mv 7) ::
 C 38 262 [37, (I 15)] ::
 c_flate_rich_p2)) (
 .seq (.ops (O 41 (.mv 8) ::
 C 42 263 [41, (I 257)] ::
 c_flate_rich_p3)) (
 .seq (.ops (O 45 (.mv 8) ::
 O 46 (.mv 10) ::
 O 47 (.lit false 124 2 1 [.nils] [(0, 1, 45), (1, 1, 46)]) ::
 C 48 165 [47] ::
 c_flate_rich_p5)) (
 .seq (.ops (O 50 (.mks 3 1 8 [.nat .i64 0] (I 19) (I 19)) ::
 O 13 (.mv 50) ::
 [])) (
 .seq (
 .seq (.ops (O 51 (.mv 12) ::
 O 52 (.lenS 51) ::
 O 53 (.mv (I 0)) ::
 [])) (
 .block 0 (
 .loop (c_flate_rich_p7)))) (c_flate_rich_p9)))))))), []⟩
theorem is_flate_rich : IsFun Go.Proofs.Tryz.prog f_flate_rich c_flate_rich := cFunc_is (obj := false) (by kernel_rfl)

abbrev f_lz_finder_find : Nat := 239
def c_lz_finder_find_p0 : ACode :=
 .seq (.ops (O 4 (.mv (I 0)) ::
 O 5 (.mv (I 0)) ::
 [])) (
 .ret)
def c_lz_finder_find_p3 : List (AOper × List Nat) :=
 (O 25 (.look (.arr 3 .u8) (.nat .i64 0) false 21 24), []) ::
 (O 8 (.mv 25), []) ::
 []
def c_lz_finder_find_p2 : List (AOper × List Nat) :=
 (O 18 (.mv 0), []) ::
 (O 19 (.nilck 18), []) ::
 (O 20 (.faddr 1 19), []) ::
 (O 21 (.load 1 false 20), []) ::
 (O 22 (.mv 0), []) ::
 (O 23 (.mv 1), []) ::
 (C 24 266 [22, 23], [3]) ::
 c_lz_finder_find_p3
def c_lz_finder_find_p2a : List AOper := fstsOf c_lz_finder_find_p2
def c_lz_finder_find_p5 : List AOper :=
 OT 28 29 (.mv 1) ::
 OT 28 30 (.mv 8) ::
 OT 28 31 (.bin .sub 30 (I 1)) ::
 OT 28 32 (.bin .sub 29 31) ::
 OT 28 33 (.bin .leq 32 (I 4096)) ::
 O 34 (.pick 28 33 (.c (.bool false))) ::
 []
def c_lz_finder_find_p7 : List AOper :=
 O 9 (.mv 47) ::
 []
def c_lz_finder_find_p8 : ACode :=
 .ops (
 O 51 (.mv 9) ::
 O 52 (.mv 1) ::
 O 53 (.mv 8) ::
 O 54 (.bin .sub 53 (I 1)) ::
 O 55 (.bin .sub 52 54) ::
 O 6 (.mv 51) ::
 O 7 (.mv 55) ::
 [])
def c_lz_finder_find_p9 : ACode :=
 .ops (
 O 35 (.mv 0) ::
 O 36 (.nilck 35) ::
 O 37 (.faddr 2 36) ::
 O 38 (.load 1 false 37) ::
 O 39 (.mv 8) ::
 O 40 (.bin .sub 39 (I 1)) ::
 O 41 (.iadS 1 38 40) ::
 O 42 (.load 1 false 41) ::
 O 8 (.mv 42) ::
 [])
def c_lz_finder_find_p6 : ACode :=
 .seq (
 .block 1 (
 .seq (.ops (O 43 (.mv 0) ::
 O 44 (.mv 8) ::
 O 45 (.bin .sub 44 (I 1)) ::
 O 46 (.mv 1) ::
 C 47 267 [43, 45, 46] ::
 c_lz_finder_find_p7)) (
 .seq (.ops (O 48 (.mv 9) ::
 O 49 (.mv 6) ::
 O 50 (.bin .gtr 48 49) ::
 [])) (
 .cond 50 (c_lz_finder_find_p8) (.skip))))) (c_lz_finder_find_p9)
def c_lz_finder_find_p4 : ACode :=
 .seq (
 .seq (.ops (O 26 (.mv 8) ::
 O 27 (.bin .gtr 26 (I 0)) ::
 O 28 (.mv 27) ::
 c_lz_finder_find_p5)) (
 .cond 34 (.skip) (.exit 0))) (c_lz_finder_find_p6)
def c_lz_finder_find_p10 : ACode :=
 .seq (.ops (O 56 (.mv 6) ::
 O 57 (.mv 7) ::
 O 4 (.mv 56) ::
 O 5 (.mv 57) ::
 [])) (
 .ret)
def c_lz_finder_find_p1 : ACode :=
 .seq (.ops (O 6 (.mv (I 0)) ::
 O 7 (.mv (I 0)) ::
 [])) (
 .seq (
 .seq (
 .draw c_lz_finder_find_p2a c_lz_finder_find_p2) (
 .block 0 (
 .loop (c_lz_finder_find_p4)))) (c_lz_finder_find_p10))
def c_lz_finder_find : AFunc := ⟨58, (
 .seq (.ops (O 4 (.mv (I 0)) ::
 O 5 (.mv (I 0)) ::
 [])) (
 .seq (
 .seq (.ops (O 10 (.mv 1) ::
 O 11 (.bin .add 10 (I 3)) ::
 O 12 (.mv 0) ::
 O 13 (.nilck 12) ::
 O 14 (.faddr 0 13) ::
 O 15 (.load 1 false 14) ::
 O 16 (.lenT 15) ::
 O 17 (.bin .gtr 11 16) ::
 [])) (
 .cond 17 (c_lz_finder_find_p0) (.skip))) (c_lz_finder_find_p1))), [.t 4, .t 5]⟩
theorem is_lz_finder_find : IsFun Go.Proofs.Tryz.prog f_lz_finder_find c_lz_finder_find := cFunc_is (obj := false) (by kernel_rfl)

abbrev f_lz_finder_put : Nat := 240
def c_lz_finder_put_p1 : List AOper :=
 O 4 (.alloc 303 [.nat .u8 0, .nat .u8 0, .nat .u8 0]) ::
 S (.store 3 4 15) ::
 []
def c_lz_finder_put_p0 : ACode :=
 .seq (.ops (O 13 (.mv 0) ::
 O 14 (.mv 1) ::
 C 15 266 [13, 14] ::
 c_lz_finder_put_p1)) (
 .seq (.ops (O 16 (.mv 0) ::
 O 17 (.nilck 16) ::
 O 18 (.faddr 2 17) ::
 O 19 (.load 1 false 18) ::
 O 20 (.mv 1) ::
 O 21 (.mv 0) ::
 O 22 (.nilck 21) ::
 O 23 (.faddr 1 22) ::
 O 24 (.load 1 false 23) ::
 O 25 (.load 3 true 4) ::
 O 26 (.look (.arr 3 .u8) (.nat .i64 0) false 24 25) ::
 O 27 (.iadS 1 19 20) ::
 S (.store 1 27 26) ::
 [])) (.ops (O 28 (.mv 0) ::
 O 29 (.nilck 28) ::
 O 30 (.faddr 1 29) ::
 O 31 (.load 1 false 30) ::
 O 32 (.load 3 true 4) ::
 O 33 (.mv 1) ::
 O 34 (.bin .add 33 (I 1)) ::
 S (.mset (.arr 3 .u8) 31 32 34) ::
 [])))
def c_lz_finder_put : AFunc := ⟨35, (
 .seq (.ops (O 5 (.mv 1) ::
 O 6 (.bin .add 5 (I 3)) ::
 O 7 (.mv 0) ::
 O 8 (.nilck 7) ::
 O 9 (.faddr 0 8) ::
 O 10 (.load 1 false 9) ::
 O 11 (.lenT 10) ::
 O 12 (.bin .leq 6 11) ::
 [])) (
 .cond 12 (c_lz_finder_put_p0) (.skip))), []⟩
theorem is_lz_finder_put : IsFun Go.Proofs.Tryz.prog f_lz_finder_put c_lz_finder_put := cFunc_is (obj := false) (by kernel_rfl)

abbrev f_chacha_turn : Nat := 241
def c_chacha_turn : AFunc := ⟨13, (
 .seq (.ops (O 4 (.mv (U32 0)) ::
 [])) (
 .seq (.ops (O 5 (.mv 0) ::
 O 6 (.mv 1) ::
 O 7 (.bin .shl 5 6) ::
 O 8 (.mv 0) ::
 O 9 (.mv 1) ::
 O 10 (.bin .sub (I 32) 9) ::
 O 11 (.bin .shr 8 10) ::
 O 12 (.bin .or 7 11) ::
 O 4 (.mv 12) ::
 [])) (
 .ret))), [.t 4]⟩
theorem is_chacha_turn : IsFun Go.Proofs.Tryz.prog f_chacha_turn c_chacha_turn := cFunc_is (obj := false) (by kernel_rfl)

abbrev f_strings_IndexByte : Nat := 242
def c_strings_IndexByte_p0 : List AOper :=
 O 4 (.mv 7) ::
 []
def c_strings_IndexByte : AFunc := ⟨8, (
 .seq (.ops (O 4 (.mv (I 0)) ::
 [])) (
 .seq (.ops (O 5 (.mv 0) ::
 O 6 (.mv 1) ::
 C 7 268 [5, 6] ::
 c_strings_IndexByte_p0)) (
 .ret))), [.t 4]⟩
theorem is_strings_IndexByte : IsFun Go.Proofs.Tryz.prog f_strings_IndexByte c_strings_IndexByte := cFunc_is (obj := false) (by kernel_rfl)

abbrev f_unicode_utf8_ValidRune : Nat := 243
def c_unicode_utf8_ValidRune_p0 : List AOper :=
 OT 6 7 (.mv 0) ::
 OT 6 8 (.bin .lss 7 (.c (.nat .i32 55296))) ::
 O 9 (.pick 6 8 (.c (.bool false))) ::
 O 3 (.mv 9) ::
 []
def c_unicode_utf8_ValidRune_p1 : ACode :=
 .seq (.ops (O 2 (.mv (.c (.bool true))) ::
 [])) (
 .ret)
def c_unicode_utf8_ValidRune_p3 : List AOper :=
 OT 13 14 (.mv 0) ::
 OT 13 15 (.bin .leq 14 (.c (.nat .i32 1114111))) ::
 O 16 (.pick 13 15 (.c (.bool false))) ::
 O 10 (.mv 16) ::
 []
def c_unicode_utf8_ValidRune_p4 : ACode :=
 .seq (.ops (O 2 (.mv (.c (.bool true))) ::
 [])) (
 .ret)
def c_unicode_utf8_ValidRune_p2 : ACode :=
 .seq (.ops (O 11 (.mv 0) ::
 O 12 (.bin .lss (.c (.nat .i32 57343)) 11) ::
 O 13 (.mv 12) ::
 c_unicode_utf8_ValidRune_p3)) (
 .cond 10 (c_unicode_utf8_ValidRune_p4) (.skip))
def c_unicode_utf8_ValidRune_p5 : ACode :=
 .seq (.ops (O 2 (.mv (.c (.bool false))) ::
 [])) (
 .ret)
def c_unicode_utf8_ValidRune : AFunc := ⟨17, (
 .seq (.ops (O 2 (.mv (.c (.bool false))) ::
 [])) (
 .seq (
 .block 0 (
 .seq (.ops (O 4 (.mv 0) ::
 O 5 (.bin .leq (.c (.nat .i32 0)) 4) ::
 O 6 (.mv 5) ::
 c_unicode_utf8_ValidRune_p0)) (
 .cond 3 (c_unicode_utf8_ValidRune_p1) (c_unicode_utf8_ValidRune_p2)))) (c_unicode_utf8_ValidRune_p5))), [.t 2]⟩
theorem is_unicode_utf8_ValidRune : IsFun Go.Proofs.Tryz.prog f_unicode_utf8_ValidRune c_unicode_utf8_ValidRune := cFunc_is (obj := false) (by kernel_rfl)

abbrev f_internal_bytealg_Cutover : Nat := 244
def c_internal_bytealg_Cutover : AFunc := ⟨6, (
 .seq (.ops (O 2 (.mv (I 0)) ::
 [])) (
 .seq (.ops (O 3 (.mv 0) ::
 O 4 (.bin .add 3 (I 16)) ::
 O 5 (.bin .quo 4 (I 8)) ::
 O 2 (.mv 5) ::
 [])) (
 .ret))), [.t 2]⟩
theorem is_internal_bytealg_Cutover : IsFun Go.Proofs.Tryz.prog f_internal_bytealg_Cutover c_internal_bytealg_Cutover := cFunc_is (obj := false) (by kernel_rfl)

abbrev f_internal_stringslite_Index : Nat := 246
def c_internal_stringslite_Index_p0 : List AOper :=
 OF 19 20 (.mv 1) ::
 OF 19 21 (.mv 0) ::
 OF 19 22 (.bin .eql 20 21) ::
 O 23 (.pick 19 (.c (.bool true)) 22) ::
 O 16 (.mv 23) ::
 []
def c_internal_stringslite_Index_p1 : ACode :=
 .seq (.ops (O 4 (.mv (I 0)) ::
 [])) (
 .ret)
def c_internal_stringslite_Index_p4 : List AOper :=
 O 4 (.mv 30) ::
 []
def c_internal_stringslite_Index_p3 : ACode :=
 .seq (.ops (O 27 (.mv 0) ::
 O 28 (.mv 1) ::
 O 29 (.idxS 28 (I 0)) ::
 C 30 268 [27, 29] ::
 c_internal_stringslite_Index_p4)) (
 .ret)
def c_internal_stringslite_Index_p6 : ACode :=
 .seq (.ops (O 4 (.mv (.c (.int .i64 (-1)))) ::
 [])) (
 .ret)
def c_internal_stringslite_Index_p9 : List AOper :=
 OT 40 41 (.mv 0) ::
 OT 40 42 (.lenT 41) ::
 OT 40 43 (.bin .leq 42 (I 64)) ::
 O 44 (.pick 40 43 (.c (.bool false))) ::
 O 36 (.mv 44) ::
 []
def c_internal_stringslite_Index_p8 : List AOper :=
 O 39 (.bin .leq 37 38) ::
 O 40 (.mv 39) ::
 c_internal_stringslite_Index_p9
def c_internal_stringslite_Index_p11 : List AOper :=
 O 4 (.mv 47) ::
 []
def c_internal_stringslite_Index_p10 : ACode :=
 .seq (.ops (O 45 (.mv 0) ::
 O 46 (.mv 1) ::
 C 47 245 [45, 46] ::
 c_internal_stringslite_Index_p11)) (
 .ret)
def c_internal_stringslite_Index_p7 : ACode :=
 .seq (.ops (O 37 (.mv 5) ::
 ⟨(some 38), .bad, none⟩ ::
 c_internal_stringslite_Index_p8)) (
 .cond 36 (c_internal_stringslite_Index_p10) (.skip))
def c_internal_stringslite_Index_p5 : ACode :=
 .seq (.ops (O 32 (.mv 5) ::
 O 33 (.mv 0) ::
 O 34 (.lenT 33) ::
 O 35 (.bin .geq 32 34) ::
 O 31 (.mv 35) ::
 [])) (
 .cond 31 (c_internal_stringslite_Index_p6) (c_internal_stringslite_Index_p7))
def c_internal_stringslite_Index_p2 : ACode :=
 .seq (.ops (O 25 (.mv 5) ::
 O 26 (.bin .eql 25 (I 1)) ::
 O 24 (.mv 26) ::
 [])) (
 .cond 24 (c_internal_stringslite_Index_p3) (c_internal_stringslite_Index_p5))
def c_internal_stringslite_Index_p16 : List AOper :=
 O 11 (.mv 71) ::
 []
def c_internal_stringslite_Index_p17 : ACode :=
 .seq (.ops (O 4 (.mv (.c (.int .i64 (-1)))) ::
 [])) (
 .ret)
def c_internal_stringslite_Index_p18 : ACode :=
 .ops (
 O 74 (.mv 8) ::
 O 75 (.mv 11) ::
 O 76 (.bin .add 75 (I 1)) ::
 O 77 (.bin .add 74 76) ::
 O 8 (.mv 77) ::
 [])
def c_internal_stringslite_Index_p15 : ACode :=
 .seq (.ops (O 65 (.mv 0) ::
 O 66 (.mv 8) ::
 O 67 (.bin .add 66 (I 1)) ::
 O 68 (.mv 9) ::
 O 69 (.sliceT 65 (some 67) (some 68)) ::
 O 70 (.mv 6) ::
 C 71 268 [69, 70] ::
 c_internal_stringslite_Index_p16)) (
 .seq (
 .seq (.ops (O 72 (.mv 11) ::
 O 73 (.bin .lss 72 (I 0)) ::
 [])) (
 .cond 73 (c_internal_stringslite_Index_p17) (.skip))) (c_internal_stringslite_Index_p18))
def c_internal_stringslite_Index_p20 : List AOper :=
 OT 84 85 (.mv 0) ::
 OT 84 86 (.mv 8) ::
 OT 84 87 (.mv 8) ::
 OT 84 88 (.mv 5) ::
 OT 84 89 (.bin .add 87 88) ::
 OT 84 90 (.sliceT 85 (some 86) (some 89)) ::
 OT 84 91 (.mv 1) ::
 OT 84 92 (.bin .eql 90 91) ::
 O 93 (.pick 84 92 (.c (.bool false))) ::
 []
def c_internal_stringslite_Index_p21 : ACode :=
 .seq (.ops (O 94 (.mv 8) ::
 O 4 (.mv 94) ::
 [])) (
 .ret)
def c_internal_stringslite_Index_p25 : List AOper :=
 OT 102 106 (.bin .gtr 103 105) ::
 O 107 (.pick 102 106 (.c (.bool false))) ::
 []
def c_internal_stringslite_Index_p24 : List AOper :=
 OT 102 103 (.mv 10) ::
 OT 102 104 (.mv 8) ::
 CT 102 105 244 [104] ::
 c_internal_stringslite_Index_p25
def c_internal_stringslite_Index_p23 : List AOper :=
 O 101 (.bin .leq 99 100) ::
 O 102 (.mv 101) ::
 c_internal_stringslite_Index_p24
def c_internal_stringslite_Index_p27 : List AOper :=
 O 12 (.mv 112) ::
 []
def c_internal_stringslite_Index_p28 : ACode :=
 .seq (.ops (O 115 (.mv 12) ::
 O 116 (.mv 8) ::
 O 117 (.bin .add 115 116) ::
 O 4 (.mv 117) ::
 [])) (
 .ret)
def c_internal_stringslite_Index_p29 : ACode :=
 .seq (.ops (O 4 (.mv (.c (.int .i64 (-1)))) ::
 [])) (
 .ret)
def c_internal_stringslite_Index_p26 : ACode :=
 .seq (.ops (O 108 (.mv 0) ::
 O 109 (.mv 8) ::
 O 110 (.sliceT 108 (some 109) none) ::
 O 111 (.mv 1) ::
 C 112 245 [110, 111] ::
 c_internal_stringslite_Index_p27)) (
 .seq (
 .seq (.ops (O 113 (.mv 12) ::
 O 114 (.bin .geq 113 (I 0)) ::
 [])) (
 .cond 114 (c_internal_stringslite_Index_p28) (.skip))) (c_internal_stringslite_Index_p29))
def c_internal_stringslite_Index_p33 : List AOper :=
 OT 128 129 (.mv 8) ::
 OT 128 130 (.mv 9) ::
 OT 128 131 (.bin .lss 129 130) ::
 O 132 (.pick 128 131 (.c (.bool false))) ::
 []
def c_internal_stringslite_Index_p32 : List AOper :=
 OT 121 122 (.mv 10) ::
 OT 121 123 (.mv 8) ::
 OT 121 124 (.bin .shr 123 (U64 4)) ::
 OT 121 125 (.bin .add (I 4) 124) ::
 OT 121 126 (.bin .geq 122 125) ::
 O 127 (.pick 121 126 (.c (.bool false))) ::
 O 128 (.mv 127) ::
 c_internal_stringslite_Index_p33
def c_internal_stringslite_Index_p31 : List AOper :=
 O 120 (.bin .gtr 118 119) ::
 O 121 (.mv 120) ::
 c_internal_stringslite_Index_p32
def c_internal_stringslite_Index_p35 : List AOper :=
 O 13 (.mv 137) ::
 []
def c_internal_stringslite_Index_p36 : ACode :=
 .seq (.ops (O 4 (.mv (.c (.int .i64 (-1)))) ::
 [])) (
 .ret)
def c_internal_stringslite_Index_p37 : ACode :=
 .seq (.ops (O 140 (.mv 8) ::
 O 141 (.mv 13) ::
 O 142 (.bin .add 140 141) ::
 O 4 (.mv 142) ::
 [])) (
 .ret)
def c_internal_stringslite_Index_p34 : ACode :=
 .seq (.ops (O 133 (.mv 0) ::
 O 134 (.mv 8) ::
 O 135 (.sliceT 133 (some 134) none) ::
 O 136 (.mv 1) ::
 C 137 269 [135, 136] ::
 c_internal_stringslite_Index_p35)) (
 .seq (
 .seq (.ops (O 138 (.mv 13) ::
 O 139 (.bin .lss 138 (I 0)) ::
 [])) (
 .cond 139 (c_internal_stringslite_Index_p36) (.skip))) (c_internal_stringslite_Index_p37))
def c_internal_stringslite_Index_p30 : ACode :=
 .seq (.ops (O 118 (.mv 5) ::
 ⟨(some 119), .bad, none⟩ ::
 c_internal_stringslite_Index_p31)) (
 .cond 132 (c_internal_stringslite_Index_p34) (.skip))
def c_internal_stringslite_Index_p22 : ACode :=
 .seq (.ops (O 95 (.mv 8) ::
 O 96 (.bin .add 95 (I 1)) ::
 O 8 (.mv 96) ::
 [])) (
 .seq (.ops (O 97 (.mv 10) ::
 O 98 (.bin .add 97 (I 1)) ::
 O 10 (.mv 98) ::
 [])) (
 .seq (.ops (O 99 (.mv 5) ::
 ⟨(some 100), .bad, none⟩ ::
 c_internal_stringslite_Index_p23)) (
 .cond 107 (c_internal_stringslite_Index_p26) (c_internal_stringslite_Index_p30))))
def c_internal_stringslite_Index_p19 : ACode :=
 .seq (
 .seq (.ops (O 78 (.mv 0) ::
 O 79 (.mv 8) ::
 O 80 (.bin .add 79 (I 1)) ::
 O 81 (.idxS 78 80) ::
 O 82 (.mv 7) ::
 O 83 (.bin .eql 81 82) ::
 O 84 (.mv 83) ::
 c_internal_stringslite_Index_p20)) (
 .cond 93 (c_internal_stringslite_Index_p21) (.skip))) (c_internal_stringslite_Index_p22)
def c_internal_stringslite_Index_p14 : ACode :=
 .block 2 (
 .seq (
 .seq (.ops (O 60 (.mv 0) ::
 O 61 (.mv 8) ::
 O 62 (.idxS 60 61) ::
 O 63 (.mv 6) ::
 O 64 (.bin .neq 62 63) ::
 [])) (
 .cond 64 (c_internal_stringslite_Index_p15) (.skip))) (c_internal_stringslite_Index_p19))
def c_internal_stringslite_Index_p13 : ACode :=
 .seq (
 .seq (.ops (O 57 (.mv 8) ::
 O 58 (.mv 9) ::
 O 59 (.bin .lss 57 58) ::
 [])) (
 .cond 59 (.skip) (.exit 1))) (c_internal_stringslite_Index_p14)
def c_internal_stringslite_Index_p38 : ACode :=
 .seq (.ops (O 4 (.mv (.c (.int .i64 (-1)))) ::
 [])) (
 .ret)
def c_internal_stringslite_Index_p12 : ACode :=
 .seq (.ops (O 48 (.mv 1) ::
 O 49 (.idxS 48 (I 0)) ::
 O 6 (.mv 49) ::
 [])) (
 .seq (.ops (O 50 (.mv 1) ::
 O 51 (.idxS 50 (I 1)) ::
 O 7 (.mv 51) ::
 [])) (
 .seq (.ops (O 8 (.mv (I 0)) ::
 [])) (
 .seq (.ops (O 52 (.mv 0) ::
 O 53 (.lenT 52) ::
 O 54 (.mv 5) ::
 O 55 (.bin .sub 53 54) ::
 O 56 (.bin .add 55 (I 1)) ::
 O 9 (.mv 56) ::
 [])) (
 .seq (.ops (O 10 (.mv (I 0)) ::
 [])) (
 .seq (
 .block 1 (
 .loop (c_internal_stringslite_Index_p13))) (c_internal_stringslite_Index_p38))))))
def c_internal_stringslite_Index : AFunc := ⟨143, (
 .seq (.ops (O 4 (.mv (I 0)) ::
 [])) (
 .seq (.ops (O 14 (.mv 1) ::
 O 15 (.lenT 14) ::
 O 5 (.mv 15) ::
 [])) (
 .seq (
 .block 0 (
 .seq (.ops (O 17 (.mv 5) ::
 O 18 (.bin .eql 17 (I 0)) ::
 O 19 (.mv 18) ::
 c_internal_stringslite_Index_p0)) (
 .cond 16 (c_internal_stringslite_Index_p1) (c_internal_stringslite_Index_p2)))) (c_internal_stringslite_Index_p12)))), [.t 4]⟩
theorem is_internal_stringslite_Index : IsFun Go.Proofs.Tryz.prog f_internal_stringslite_Index c_internal_stringslite_Index := cFunc_is (obj := false) (by kernel_rfl)

abbrev f_internal_stringslite_Cut : Nat := 247
def c_internal_stringslite_Cut_p0 : List AOper :=
 O 7 (.mv 10) ::
 []
def c_internal_stringslite_Cut_p1 : ACode :=
 .seq (.ops (O 13 (.mv 0) ::
 O 14 (.mv 7) ::
 O 15 (.sliceT 13 none (some 14)) ::
 O 16 (.mv 0) ::
 O 17 (.mv 7) ::
 O 18 (.mv 1) ::
 O 19 (.lenT 18) ::
 O 20 (.bin .add 17 19) ::
 O 21 (.sliceT 16 (some 20) none) ::
 O 4 (.mv 15) ::
 O 5 (.mv 21) ::
 O 6 (.mv (.c (.bool true))) ::
 [])) (
 .ret)
def c_internal_stringslite_Cut_p2 : ACode :=
 .seq (.ops (O 22 (.mv 0) ::
 O 4 (.mv 22) ::
 O 5 (.mv (.c (.str (bytesOf [])))) ::
 O 6 (.mv (.c (.bool false))) ::
 [])) (
 .ret)
def c_internal_stringslite_Cut : AFunc := ⟨23, (
 .seq (.ops (O 4 (.mv (.c (.str (bytesOf [])))) ::
 O 5 (.mv (.c (.str (bytesOf [])))) ::
 O 6 (.mv (.c (.bool false))) ::
 [])) (
 .seq (
 .seq (.ops (O 8 (.mv 0) ::
 O 9 (.mv 1) ::
 C 10 246 [8, 9] ::
 c_internal_stringslite_Cut_p0)) (
 .seq (.ops (O 11 (.mv 7) ::
 O 12 (.bin .geq 11 (I 0)) ::
 [])) (
 .cond 12 (c_internal_stringslite_Cut_p1) (.skip)))) (c_internal_stringslite_Cut_p2))), [.t 4, .t 5, .t 6]⟩
theorem is_internal_stringslite_Cut : IsFun Go.Proofs.Tryz.prog f_internal_stringslite_Cut c_internal_stringslite_Cut := cFunc_is (obj := false) (by kernel_rfl)

abbrev f_r06_Reader_Left : Nat := 249
def c_r06_Reader_Left : AFunc := ⟨14, (
 .seq (.ops (O 2 (.mv (I 0)) ::
 [])) (
 .seq (.ops (O 3 (.mv 0) ::
 O 4 (.nilck 3) ::
 O 5 (.faddr 0 4) ::
 O 6 (.load 1 false 5) ::
 O 7 (.lenT 6) ::
 O 8 (.bin .mul (I 8) 7) ::
 O 9 (.mv 0) ::
 O 10 (.nilck 9) ::
 O 11 (.faddr 1 10) ::
 O 12 (.load 1 false 11) ::
 O 13 (.bin .sub 8 12) ::
 O 2 (.mv 13) ::
 [])) (
 .ret))), [.t 2]⟩
theorem is_r06_Reader_Left : IsFun Go.Proofs.Tryz.prog f_r06_Reader_Left c_r06_Reader_Left := cFunc_is (obj := false) (by kernel_rfl)

abbrev f_r07_Codes : Nat := 250
def c_r07_Codes_p0 : List AOper :=
 O 10 (.un .not 9) ::
 []
def c_r07_Codes_p1 : ACode :=
 .seq (.ops (O 2 (.mv (.c (.nils))) ::
 O 3 (.mv (I 1)) ::
 [])) (
 .ret)
def c_r07_Codes_p3 : List AOper :=
 O 13 (.bin .gtr 12 (I 32768)) ::
 []
def c_r07_Codes_p4 : ACode :=
 .seq (.ops (O 2 (.mv (.c (.nils))) ::
 O 3 (.mv (I 2)) ::
 [])) (
 .ret)
def c_r07_Codes_p8 : ACode :=
 .seq (.ops (O 25 (.mv 4) ::
 O 26 (.lit false 3 1 1 [.nat .i64 0] [(0, 1, (I 0))]) ::
 O 27 (.app 3 1 8 25 26) ::
 O 4 (.mv 27) ::
 [])) (
 .exit 1)
def c_r07_Codes_p16 : List AOper :=
 OT 39 64 (.pick 49 (.c (.bool true)) 63) ::
 O 65 (.pick 39 64 (.c (.bool false))) ::
 []
def c_r07_Codes_p15 : List AOper :=
 OF 49 63 (.pick 59 62 (.c (.bool false))) ::
 c_r07_Codes_p16
def c_r07_Codes_p14 : List AOper :=
 OT 59 60 (.mv 7) ::
 OT 59 61 (.mv 5) ::
 OT 59 62 (.bin .lss 60 61) ::
 c_r07_Codes_p15
def c_r07_Codes_p13 : List AOper :=
 OF 49 50 (.mv 0) ::
 OF 49 51 (.mv 7) ::
 OF 49 52 (.iadS 1 50 51) ::
 OF 49 53 (.load 1 false 52) ::
 OF 49 54 (.mv 0) ::
 OF 49 55 (.mv 5) ::
 OF 49 56 (.iadS 1 54 55) ::
 OF 49 57 (.load 1 false 56) ::
 OF 49 58 (.bin .eql 53 57) ::
 OF 49 59 (.mv 58) ::
 c_r07_Codes_p14
def c_r07_Codes_p12 : List AOper :=
 OT 39 40 (.mv 0) ::
 OT 39 41 (.mv 7) ::
 OT 39 42 (.iadS 1 40 41) ::
 OT 39 43 (.load 1 false 42) ::
 OT 39 44 (.mv 0) ::
 OT 39 45 (.mv 5) ::
 OT 39 46 (.iadS 1 44 45) ::
 OT 39 47 (.load 1 false 46) ::
 OT 39 48 (.bin .lss 43 47) ::
 OT 39 49 (.mv 48) ::
 c_r07_Codes_p13
def c_r07_Codes_p17 : ACode :=
 .ops (
 O 66 (.mv 6) ::
 O 67 (.mv 0) ::
 O 68 (.mv 7) ::
 O 69 (.iadS 1 67 68) ::
 O 70 (.load 1 false 69) ::
 O 71 (.bin .sub (I 15) 70) ::
 O 72 (.bin .shl (I 1) 71) ::
 O 73 (.bin .add 66 72) ::
 O 6 (.mv 73) ::
 [])
def c_r07_Codes_p18 : ACode :=
 .ops (
 O 32 (.mv 7) ::
 O 33 (.bin .add 32 (I 1)) ::
 O 7 (.mv 33) ::
 [])
def c_r07_Codes_p11 : ACode :=
 .seq (
 .block 3 (
 .seq (.ops (O 34 (.mv 0) ::
 O 35 (.mv 7) ::
 O 36 (.iadS 1 34 35) ::
 O 37 (.load 1 false 36) ::
 O 38 (.bin .gtr 37 (I 0)) ::
 O 39 (.mv 38) ::
 c_r07_Codes_p12)) (
 .cond 65 (c_r07_Codes_p17) (.skip)))) (c_r07_Codes_p18)
def c_r07_Codes_p10 : ACode :=
 .seq (
 .seq (.ops (O 28 (.mv 7) ::
 O 29 (.mv 0) ::
 O 30 (.lenS 29) ::
 O 31 (.bin .lss 28 30) ::
 [])) (
 .cond 31 (.skip) (.exit 2))) (c_r07_Codes_p11)
def c_r07_Codes_p19 : ACode :=
 .ops (
 O 74 (.mv 4) ::
 O 75 (.mv 6) ::
 O 76 (.mv 0) ::
 O 77 (.mv 5) ::
 O 78 (.iadS 1 76 77) ::
 O 79 (.load 1 false 78) ::
 O 80 (.bin .sub (I 15) 79) ::
 O 81 (.bin .shr 75 80) ::
 O 82 (.lit false 3 1 1 [.nat .i64 0] [(0, 1, 81)]) ::
 O 83 (.app 3 1 8 74 82) ::
 O 4 (.mv 83) ::
 [])
def c_r07_Codes_p9 : ACode :=
 .seq (.ops (O 6 (.mv (I 0)) ::
 [])) (
 .seq (
 .seq (.ops (O 7 (.mv (I 0)) ::
 [])) (
 .block 2 (
 .loop (c_r07_Codes_p10)))) (c_r07_Codes_p19))
def c_r07_Codes_p20 : ACode :=
 .ops (
 O 18 (.mv 5) ::
 O 19 (.bin .add 18 (I 1)) ::
 O 5 (.mv 19) ::
 [])
def c_r07_Codes_p7 : ACode :=
 .seq (
 .block 1 (
 .seq (
 .seq (.ops (O 20 (.mv 0) ::
 O 21 (.mv 5) ::
 O 22 (.iadS 1 20 21) ::
 O 23 (.load 1 false 22) ::
 O 24 (.bin .eql 23 (I 0)) ::
 [])) (
 .cond 24 (c_r07_Codes_p8) (.skip))) (c_r07_Codes_p9))) (c_r07_Codes_p20)
def c_r07_Codes_p6 : ACode :=
 .seq (
 .seq (.ops (O 14 (.mv 5) ::
 O 15 (.mv 0) ::
 O 16 (.lenS 15) ::
 O 17 (.bin .lss 14 16) ::
 [])) (
 .cond 17 (.skip) (.exit 0))) (c_r07_Codes_p7)
def c_r07_Codes_p21 : ACode :=
 .seq (.ops (O 84 (.mv 4) ::
 O 2 (.mv 84) ::
 O 3 (.mv (I 0)) ::
 [])) (
 .ret)
def c_r07_Codes_p5 : ACode :=
 .seq (.ops (O 4 (.mv (.c (.nils))) ::
 [])) (
 .seq (
 .seq (.ops (O 5 (.mv (I 0)) ::
 [])) (
 .block 0 (
 .loop (c_r07_Codes_p6)))) (c_r07_Codes_p21))
def c_r07_Codes_p2 : ACode :=
 .seq (
 .seq (.ops (O 11 (.mv 0) ::
 C 12 253 [11] ::
 c_r07_Codes_p3)) (
 .cond 13 (c_r07_Codes_p4) (.skip))) (c_r07_Codes_p5)
def c_r07_Codes : AFunc := ⟨85, (
 .seq (.ops (O 2 (.mv (.c (.nils))) ::
 O 3 (.mv (I 0)) ::
 [])) (
 .seq (
 .seq (.ops (O 8 (.mv 0) ::
 C 9 252 [8] ::
 c_r07_Codes_p0)) (
 .cond 10 (c_r07_Codes_p1) (.skip))) (c_r07_Codes_p2))), [.t 2, .t 3]⟩
theorem is_r07_Codes : IsFun Go.Proofs.Tryz.prog f_r07_Codes c_r07_Codes := cFunc_is (obj := false) (by kernel_rfl)

abbrev f_r07_Find : Nat := 251
def c_r07_Find_p2 : List AOper :=
 O 17 (.mv 19) ::
 O 20 (.ext 17 0) ::
 O 21 (.ext 17 1) ::
 O 10 (.mv 20) ::
 O 11 (.mv 21) ::
 []
def c_r07_Find_p3 : ACode :=
 .seq (.ops (O 6 (.mv (I 0)) ::
 O 7 (.mv (I 2)) ::
 [])) (
 .ret)
def c_r07_Find_p7 : List AOper :=
 OT 40 41 (.mv 1) ::
 OT 40 42 (.mv 12) ::
 OT 40 43 (.iadS 1 41 42) ::
 OT 40 44 (.load 1 false 43) ::
 OT 40 45 (.mv 8) ::
 OT 40 46 (.bin .eql 44 45) ::
 O 47 (.pick 40 46 (.c (.bool false))) ::
 []
def c_r07_Find_p8 : ACode :=
 .seq (.ops (O 48 (.mv 12) ::
 O 6 (.mv 48) ::
 O 7 (.mv (I 0)) ::
 [])) (
 .ret)
def c_r07_Find_p9 : ACode :=
 .ops (
 O 32 (.mv 12) ::
 O 33 (.bin .add 32 (I 1)) ::
 O 12 (.mv 33) ::
 [])
def c_r07_Find_p6 : ACode :=
 .seq (
 .block 3 (
 .seq (.ops (O 34 (.mv 0) ::
 O 35 (.mv 12) ::
 O 36 (.iadS 1 34 35) ::
 O 37 (.load 1 false 36) ::
 O 38 (.mv 9) ::
 O 39 (.bin .eql 37 38) ::
 O 40 (.mv 39) ::
 c_r07_Find_p7)) (
 .cond 47 (c_r07_Find_p8) (.skip)))) (c_r07_Find_p9)
def c_r07_Find_p5 : ACode :=
 .seq (
 .seq (.ops (O 28 (.mv 12) ::
 O 29 (.mv 1) ::
 O 30 (.lenS 29) ::
 O 31 (.bin .lss 28 30) ::
 [])) (
 .cond 31 (.skip) (.exit 2))) (c_r07_Find_p6)
def c_r07_Find_p4 : ACode :=
 .seq (.ops (O 24 (.mv 8) ::
 O 25 (.bin .mul (I 2) 24) ::
 O 26 (.mv 10) ::
 O 27 (.bin .add 25 26) ::
 O 8 (.mv 27) ::
 [])) (
 .seq (.ops (O 12 (.mv (I 0)) ::
 [])) (
 .block 2 (
 .loop (c_r07_Find_p5))))
def c_r07_Find_p10 : ACode :=
 .ops (
 O 15 (.mv 9) ::
 O 16 (.bin .add 15 (I 1)) ::
 O 9 (.mv 16) ::
 [])
def c_r07_Find_p1 : ACode :=
 .seq (
 .block 1 (
 .seq (.ops (O 18 (.mv 2) ::
 C 19 220 [18, (I 1)] ::
 c_r07_Find_p2)) (
 .seq (
 .seq (.ops (O 22 (.mv 11) ::
 O 23 (.un .not 22) ::
 [])) (
 .cond 23 (c_r07_Find_p3) (.skip))) (c_r07_Find_p4)))) (c_r07_Find_p10)
def c_r07_Find_p0 : ACode :=
 .seq (
 .seq (.ops (O 13 (.mv 9) ::
 O 14 (.bin .leq 13 (I 15)) ::
 [])) (
 .cond 14 (.skip) (.exit 0))) (c_r07_Find_p1)
def c_r07_Find_p11 : ACode :=
 .seq (.ops (O 6 (.mv (I 0)) ::
 O 7 (.mv (I 2)) ::
 [])) (
 .ret)
def c_r07_Find : AFunc := ⟨49, (
 .seq (.ops (O 6 (.mv (I 0)) ::
 O 7 (.mv (I 0)) ::
 [])) (
 .seq (.ops (O 8 (.mv (I 0)) ::
 [])) (
 .seq (
 .seq (.ops (O 9 (.mv (I 1)) ::
 [])) (
 .block 0 (
 .loop (c_r07_Find_p0)))) (c_r07_Find_p11)))), [.t 6, .t 7]⟩
theorem is_r07_Find : IsFun Go.Proofs.Tryz.prog f_r07_Find c_r07_Find := cFunc_is (obj := false) (by kernel_rfl)

abbrev f_r07_May : Nat := 252
def c_r07_May_p1 : List AOper :=
 OT 8 9 (.mv 3) ::
 OT 8 10 (.bin .leq 9 (I 320)) ::
 O 11 (.pick 8 10 (.c (.bool false))) ::
 []
def c_r07_May_p3 : List AOper :=
 OF 19 20 (.mv 0) ::
 OF 19 21 (.mv 3) ::
 OF 19 22 (.iadS 1 20 21) ::
 OF 19 23 (.load 1 false 22) ::
 OF 19 24 (.bin .gtr 23 (I 15)) ::
 O 25 (.pick 19 (.c (.bool true)) 24) ::
 []
def c_r07_May_p4 : ACode :=
 .seq (.ops (O 2 (.mv (.c (.bool false))) ::
 [])) (
 .ret)
def c_r07_May_p5 : ACode :=
 .ops (
 O 12 (.mv 3) ::
 O 13 (.bin .add 12 (I 1)) ::
 O 3 (.mv 13) ::
 [])
def c_r07_May_p2 : ACode :=
 .seq (
 .block 1 (
 .seq (.ops (O 14 (.mv 0) ::
 O 15 (.mv 3) ::
 O 16 (.iadS 1 14 15) ::
 O 17 (.load 1 false 16) ::
 O 18 (.bin .lss 17 (I 0)) ::
 O 19 (.mv 18) ::
 c_r07_May_p3)) (
 .cond 25 (c_r07_May_p4) (.skip)))) (c_r07_May_p5)
def c_r07_May_p0 : ACode :=
 .seq (
 .seq (.ops (O 4 (.mv 3) ::
 O 5 (.mv 0) ::
 O 6 (.lenS 5) ::
 O 7 (.bin .lss 4 6) ::
 O 8 (.mv 7) ::
 c_r07_May_p1)) (
 .cond 11 (.skip) (.exit 0))) (c_r07_May_p2)
def c_r07_May_p6 : ACode :=
 .seq (.ops (O 26 (.mv 0) ::
 O 27 (.lenS 26) ::
 O 28 (.bin .leq 27 (I 320)) ::
 O 2 (.mv 28) ::
 [])) (
 .ret)
def c_r07_May : AFunc := ⟨29, (
 .seq (.ops (O 2 (.mv (.c (.bool false))) ::
 [])) (
 .seq (
 .seq (.ops (O 3 (.mv (I 0)) ::
 [])) (
 .block 0 (
 .loop (c_r07_May_p0)))) (c_r07_May_p6))), [.t 2]⟩
theorem is_r07_May : IsFun Go.Proofs.Tryz.prog f_r07_May c_r07_May := cFunc_is (obj := false) (by kernel_rfl)

abbrev f_r07_Weight : Nat := 253
def c_r07_Weight_p2 : ACode :=
 .ops (
 O 16 (.mv 3) ::
 O 17 (.mv 0) ::
 O 18 (.mv 4) ::
 O 19 (.iadS 1 17 18) ::
 O 20 (.load 1 false 19) ::
 O 21 (.bin .sub (I 15) 20) ::
 O 22 (.bin .shl (I 1) 21) ::
 O 23 (.bin .add 16 22) ::
 O 3 (.mv 23) ::
 [])
def c_r07_Weight_p3 : ACode :=
 .ops (
 O 9 (.mv 4) ::
 O 10 (.bin .add 9 (I 1)) ::
 O 4 (.mv 10) ::
 [])
def c_r07_Weight_p1 : ACode :=
 .seq (
 .block 1 (
 .seq (.ops (O 11 (.mv 0) ::
 O 12 (.mv 4) ::
 O 13 (.iadS 1 11 12) ::
 O 14 (.load 1 false 13) ::
 O 15 (.bin .gtr 14 (I 0)) ::
 [])) (
 .cond 15 (c_r07_Weight_p2) (.skip)))) (c_r07_Weight_p3)
def c_r07_Weight_p0 : ACode :=
 .seq (
 .seq (.ops (O 5 (.mv 4) ::
 O 6 (.mv 0) ::
 O 7 (.lenS 6) ::
 O 8 (.bin .lss 5 7) ::
 [])) (
 .cond 8 (.skip) (.exit 0))) (c_r07_Weight_p1)
def c_r07_Weight_p4 : ACode :=
 .seq (.ops (O 24 (.mv 3) ::
 O 2 (.mv 24) ::
 [])) (
 .ret)
def c_r07_Weight : AFunc := ⟨25, (
 .seq (.ops (O 2 (.mv (I 0)) ::
 [])) (
 .seq (.ops (O 3 (.mv (I 0)) ::
 [])) (
 .seq (
 .seq (.ops (O 4 (.mv (I 0)) ::
 [])) (
 .block 0 (
 .loop (c_r07_Weight_p0)))) (c_r07_Weight_p4)))), [.t 2]⟩
theorem is_r07_Weight : IsFun Go.Proofs.Tryz.prog f_r07_Weight c_r07_Weight := cFunc_is (obj := false) (by kernel_rfl)

abbrev f_r07_Used : Nat := 254
def c_r07_Used_p2 : ACode :=
 .ops (
 O 16 (.mv 3) ::
 O 17 (.bin .add 16 (I 1)) ::
 O 3 (.mv 17) ::
 [])
def c_r07_Used_p3 : ACode :=
 .ops (
 O 9 (.mv 4) ::
 O 10 (.bin .add 9 (I 1)) ::
 O 4 (.mv 10) ::
 [])
def c_r07_Used_p1 : ACode :=
 .seq (
 .block 1 (
 .seq (.ops (O 11 (.mv 0) ::
 O 12 (.mv 4) ::
 O 13 (.iadS 1 11 12) ::
 O 14 (.load 1 false 13) ::
 O 15 (.bin .gtr 14 (I 0)) ::
 [])) (
 .cond 15 (c_r07_Used_p2) (.skip)))) (c_r07_Used_p3)
def c_r07_Used_p0 : ACode :=
 .seq (
 .seq (.ops (O 5 (.mv 4) ::
 O 6 (.mv 0) ::
 O 7 (.lenS 6) ::
 O 8 (.bin .lss 5 7) ::
 [])) (
 .cond 8 (.skip) (.exit 0))) (c_r07_Used_p1)
def c_r07_Used_p4 : ACode :=
 .seq (.ops (O 18 (.mv 3) ::
 O 2 (.mv 18) ::
 [])) (
 .ret)
def c_r07_Used : AFunc := ⟨19, (
 .seq (.ops (O 2 (.mv (I 0)) ::
 [])) (
 .seq (.ops (O 3 (.mv (I 0)) ::
 [])) (
 .seq (
 .seq (.ops (O 4 (.mv (I 0)) ::
 [])) (
 .block 0 (
 .loop (c_r07_Used_p0)))) (c_r07_Used_p4)))), [.t 2]⟩
theorem is_r07_Used : IsFun Go.Proofs.Tryz.prog f_r07_Used c_r07_Used := cFunc_is (obj := false) (by kernel_rfl)

abbrev f_slices_insertionSortCmpFunc_apiFile : Nat := 255
def c_slices_insertionSortCmpFunc_apiFile_p4 : List AOper :=
 OT 21 33 (.bin .lss 32 (I 0)) ::
 O 34 (.pick 21 33 (.c (.bool false))) ::
 []
def c_slices_insertionSortCmpFunc_apiFile_p3 : List AOper :=
 OT 21 22 (.mv 3) ::
 OT 21 23 (.mv 0) ::
 OT 21 24 (.mv 9) ::
 OT 21 25 (.iadS 2 23 24) ::
 OT 21 26 (.load 2 true 25) ::
 OT 21 27 (.mv 0) ::
 OT 21 28 (.mv 9) ::
 OT 21 29 (.bin .sub 28 (I 1)) ::
 OT 21 30 (.iadS 2 27 29) ::
 OT 21 31 (.load 2 true 30) ::
 ⟨(some 32), .callv 22 [26, 31], (some (21, true))⟩ ::
 c_slices_insertionSortCmpFunc_apiFile_p4
def c_slices_insertionSortCmpFunc_apiFile_p5 : ACode :=
 .seq (
 .block 3 (.ops (O 37 (.mv 0) ::
 O 38 (.mv 9) ::
 O 39 (.mv 0) ::
 O 40 (.mv 9) ::
 O 41 (.bin .sub 40 (I 1)) ::
 O 42 (.mv 0) ::
 O 43 (.mv 9) ::
 O 44 (.bin .sub 43 (I 1)) ::
 O 45 (.iadS 2 42 44) ::
 O 46 (.load 2 true 45) ::
 O 47 (.mv 0) ::
 O 48 (.mv 9) ::
 O 49 (.iadS 2 47 48) ::
 O 50 (.load 2 true 49) ::
 O 51 (.iadS 2 37 38) ::
 S (.store 2 51 46) ::
 O 52 (.iadS 2 39 41) ::
 S (.store 2 52 50) ::
 []))) (.ops (O 35 (.mv 9) ::
 O 36 (.bin .sub 35 (I 1)) ::
 O 9 (.mv 36) ::
 []))
def c_slices_insertionSortCmpFunc_apiFile_p2 : ACode :=
 .seq (
 .seq (.ops (O 18 (.mv 9) ::
 O 19 (.mv 1) ::
 O 20 (.bin .gtr 18 19) ::
 O 21 (.mv 20) ::
 c_slices_insertionSortCmpFunc_apiFile_p3)) (
 .cond 34 (.skip) (.exit 2))) (c_slices_insertionSortCmpFunc_apiFile_p5)
def c_slices_insertionSortCmpFunc_apiFile_p6 : ACode :=
 .ops (
 O 15 (.mv 8) ::
 O 16 (.bin .add 15 (I 1)) ::
 O 8 (.mv 16) ::
 [])
def c_slices_insertionSortCmpFunc_apiFile_p1 : ACode :=
 .seq (
 .block 1 (
 .seq (.ops (O 17 (.mv 8) ::
 O 9 (.mv 17) ::
 [])) (
 .block 2 (
 .loop (c_slices_insertionSortCmpFunc_apiFile_p2))))) (c_slices_insertionSortCmpFunc_apiFile_p6)
def c_slices_insertionSortCmpFunc_apiFile_p0 : ACode :=
 .seq (
 .seq (.ops (O 12 (.mv 8) ::
 O 13 (.mv 2) ::
 O 14 (.bin .lss 12 13) ::
 [])) (
 .cond 14 (.skip) (.exit 0))) (c_slices_insertionSortCmpFunc_apiFile_p1)
def c_slices_insertionSortCmpFunc_apiFile : AFunc := ⟨53, (
 .seq (.ops (O 10 (.mv 1) ::
 O 11 (.bin .add 10 (I 1)) ::
 O 8 (.mv 11) ::
 [])) (
 .block 0 (
 .loop (c_slices_insertionSortCmpFunc_apiFile_p0)))), []⟩
theorem is_slices_insertionSortCmpFunc_apiFile : IsFun Go.Proofs.Tryz.prog f_slices_insertionSortCmpFunc_apiFile c_slices_insertionSortCmpFunc_apiFile := cFunc_is (obj := false) (by kernel_rfl)

abbrev f_slices_symMergeCmpFunc_apiFile : Nat := 256
def c_slices_symMergeCmpFunc_apiFile_p3 : List AOper :=
 O 50 (.bin .lss 49 (I 0)) ::
 []
def c_slices_symMergeCmpFunc_apiFile_p4 : ACode :=
 .ops (
 O 51 (.mv 12) ::
 O 52 (.bin .add 51 (I 1)) ::
 O 10 (.mv 52) ::
 [])
def c_slices_symMergeCmpFunc_apiFile_p5 : ACode :=
 .ops (
 O 53 (.mv 12) ::
 O 11 (.mv 53) ::
 [])
def c_slices_symMergeCmpFunc_apiFile_p2 : ACode :=
 .block 1 (
 .seq (.ops (O 34 (.mv 10) ::
 O 35 (.mv 11) ::
 O 36 (.bin .add 34 35) ::
 O 37 (.toInt .u64 36) ::
 O 38 (.bin .shr 37 (U64 1)) ::
 O 39 (.toInt .i64 38) ::
 O 12 (.mv 39) ::
 [])) (
 .seq (.ops (O 40 (.mv 4) ::
 O 41 (.mv 0) ::
 O 42 (.mv 12) ::
 O 43 (.iadS 2 41 42) ::
 O 44 (.load 2 true 43) ::
 O 45 (.mv 0) ::
 O 46 (.mv 1) ::
 O 47 (.iadS 2 45 46) ::
 O 48 (.load 2 true 47) ::
 CV 49 40 [44, 48] ::
 c_slices_symMergeCmpFunc_apiFile_p3)) (
 .cond 50 (c_slices_symMergeCmpFunc_apiFile_p4) (c_slices_symMergeCmpFunc_apiFile_p5))))
def c_slices_symMergeCmpFunc_apiFile_p1 : ACode :=
 .seq (
 .seq (.ops (O 31 (.mv 10) ::
 O 32 (.mv 11) ::
 O 33 (.bin .lss 31 32) ::
 [])) (
 .cond 33 (.skip) (.exit 0))) (c_slices_symMergeCmpFunc_apiFile_p2)
def c_slices_symMergeCmpFunc_apiFile_p8 : ACode :=
 .seq (
 .block 3 (.ops (O 61 (.mv 0) ::
 O 62 (.mv 13) ::
 O 63 (.mv 0) ::
 O 64 (.mv 13) ::
 O 65 (.bin .add 64 (I 1)) ::
 O 66 (.mv 0) ::
 O 67 (.mv 13) ::
 O 68 (.bin .add 67 (I 1)) ::
 O 69 (.iadS 2 66 68) ::
 O 70 (.load 2 true 69) ::
 O 71 (.mv 0) ::
 O 72 (.mv 13) ::
 O 73 (.iadS 2 71 72) ::
 O 74 (.load 2 true 73) ::
 O 75 (.iadS 2 61 62) ::
 S (.store 2 75 70) ::
 O 76 (.iadS 2 63 65) ::
 S (.store 2 76 74) ::
 []))) (.ops (O 59 (.mv 13) ::
 O 60 (.bin .add 59 (I 1)) ::
 O 13 (.mv 60) ::
 []))
def c_slices_symMergeCmpFunc_apiFile_p7 : ACode :=
 .seq (
 .seq (.ops (O 55 (.mv 13) ::
 O 56 (.mv 10) ::
 O 57 (.bin .sub 56 (I 1)) ::
 O 58 (.bin .lss 55 57) ::
 [])) (
 .cond 58 (.skip) (.exit 2))) (c_slices_symMergeCmpFunc_apiFile_p8)
def c_slices_symMergeCmpFunc_apiFile_p6 : ACode :=
 .seq (
 .seq (.ops (O 54 (.mv 1) ::
 O 13 (.mv 54) ::
 [])) (
 .block 2 (
 .loop (c_slices_symMergeCmpFunc_apiFile_p7)))) (.ret)
def c_slices_symMergeCmpFunc_apiFile_p0 : ACode :=
 .seq (.ops (O 29 (.mv 2) ::
 O 10 (.mv 29) ::
 [])) (
 .seq (.ops (O 30 (.mv 3) ::
 O 11 (.mv 30) ::
 [])) (
 .seq (
 .block 0 (
 .loop (c_slices_symMergeCmpFunc_apiFile_p1))) (c_slices_symMergeCmpFunc_apiFile_p6)))
def c_slices_symMergeCmpFunc_apiFile_p13 : List AOper :=
 O 102 (.bin .lss 101 (I 0)) ::
 O 103 (.un .not 102) ::
 []
def c_slices_symMergeCmpFunc_apiFile_p14 : ACode :=
 .ops (
 O 104 (.mv 16) ::
 O 105 (.bin .add 104 (I 1)) ::
 O 14 (.mv 105) ::
 [])
def c_slices_symMergeCmpFunc_apiFile_p15 : ACode :=
 .ops (
 O 106 (.mv 16) ::
 O 15 (.mv 106) ::
 [])
def c_slices_symMergeCmpFunc_apiFile_p12 : ACode :=
 .block 5 (
 .seq (.ops (O 86 (.mv 14) ::
 O 87 (.mv 15) ::
 O 88 (.bin .add 86 87) ::
 O 89 (.toInt .u64 88) ::
 O 90 (.bin .shr 89 (U64 1)) ::
 O 91 (.toInt .i64 90) ::
 O 16 (.mv 91) ::
 [])) (
 .seq (.ops (O 92 (.mv 4) ::
 O 93 (.mv 0) ::
 O 94 (.mv 2) ::
 O 95 (.iadS 2 93 94) ::
 O 96 (.load 2 true 95) ::
 O 97 (.mv 0) ::
 O 98 (.mv 16) ::
 O 99 (.iadS 2 97 98) ::
 O 100 (.load 2 true 99) ::
 CV 101 92 [96, 100] ::
 c_slices_symMergeCmpFunc_apiFile_p13)) (
 .cond 103 (c_slices_symMergeCmpFunc_apiFile_p14) (c_slices_symMergeCmpFunc_apiFile_p15))))
def c_slices_symMergeCmpFunc_apiFile_p11 : ACode :=
 .seq (
 .seq (.ops (O 83 (.mv 14) ::
 O 84 (.mv 15) ::
 O 85 (.bin .lss 83 84) ::
 [])) (
 .cond 85 (.skip) (.exit 4))) (c_slices_symMergeCmpFunc_apiFile_p12)
def c_slices_symMergeCmpFunc_apiFile_p18 : ACode :=
 .seq (
 .block 7 (.ops (O 113 (.mv 0) ::
 O 114 (.mv 17) ::
 O 115 (.mv 0) ::
 O 116 (.mv 17) ::
 O 117 (.bin .sub 116 (I 1)) ::
 O 118 (.mv 0) ::
 O 119 (.mv 17) ::
 O 120 (.bin .sub 119 (I 1)) ::
 O 121 (.iadS 2 118 120) ::
 O 122 (.load 2 true 121) ::
 O 123 (.mv 0) ::
 O 124 (.mv 17) ::
 O 125 (.iadS 2 123 124) ::
 O 126 (.load 2 true 125) ::
 O 127 (.iadS 2 113 114) ::
 S (.store 2 127 122) ::
 O 128 (.iadS 2 115 117) ::
 S (.store 2 128 126) ::
 []))) (.ops (O 111 (.mv 17) ::
 O 112 (.bin .sub 111 (I 1)) ::
 O 17 (.mv 112) ::
 []))
def c_slices_symMergeCmpFunc_apiFile_p17 : ACode :=
 .seq (
 .seq (.ops (O 108 (.mv 17) ::
 O 109 (.mv 14) ::
 O 110 (.bin .gtr 108 109) ::
 [])) (
 .cond 110 (.skip) (.exit 6))) (c_slices_symMergeCmpFunc_apiFile_p18)
def c_slices_symMergeCmpFunc_apiFile_p16 : ACode :=
 .seq (
 .seq (.ops (O 107 (.mv 2) ::
 O 17 (.mv 107) ::
 [])) (
 .block 6 (
 .loop (c_slices_symMergeCmpFunc_apiFile_p17)))) (.ret)
def c_slices_symMergeCmpFunc_apiFile_p10 : ACode :=
 .seq (.ops (O 81 (.mv 1) ::
 O 14 (.mv 81) ::
 [])) (
 .seq (.ops (O 82 (.mv 2) ::
 O 15 (.mv 82) ::
 [])) (
 .seq (
 .block 4 (
 .loop (c_slices_symMergeCmpFunc_apiFile_p11))) (c_slices_symMergeCmpFunc_apiFile_p16)))
def c_slices_symMergeCmpFunc_apiFile_p20 : ACode :=
 .seq (.ops (O 141 (.mv 19) ::
 O 142 (.mv 3) ::
 O 143 (.bin .sub 141 142) ::
 O 20 (.mv 143) ::
 [])) (.ops (O 144 (.mv 18) ::
 O 21 (.mv 144) ::
 []))
def c_slices_symMergeCmpFunc_apiFile_p21 : ACode :=
 .seq (.ops (O 145 (.mv 1) ::
 O 20 (.mv 145) ::
 [])) (.ops (O 146 (.mv 2) ::
 O 21 (.mv 146) ::
 []))
def c_slices_symMergeCmpFunc_apiFile_p25 : List AOper :=
 O 170 (.bin .lss 169 (I 0)) ::
 O 171 (.un .not 170) ::
 []
def c_slices_symMergeCmpFunc_apiFile_p26 : ACode :=
 .ops (
 O 172 (.mv 23) ::
 O 173 (.bin .add 172 (I 1)) ::
 O 20 (.mv 173) ::
 [])
def c_slices_symMergeCmpFunc_apiFile_p27 : ACode :=
 .ops (
 O 174 (.mv 23) ::
 O 21 (.mv 174) ::
 [])
def c_slices_symMergeCmpFunc_apiFile_p24 : ACode :=
 .block 9 (
 .seq (.ops (O 152 (.mv 20) ::
 O 153 (.mv 21) ::
 O 154 (.bin .add 152 153) ::
 O 155 (.toInt .u64 154) ::
 O 156 (.bin .shr 155 (U64 1)) ::
 O 157 (.toInt .i64 156) ::
 O 23 (.mv 157) ::
 [])) (
 .seq (.ops (O 158 (.mv 4) ::
 O 159 (.mv 0) ::
 O 160 (.mv 22) ::
 O 161 (.mv 23) ::
 O 162 (.bin .sub 160 161) ::
 O 163 (.iadS 2 159 162) ::
 O 164 (.load 2 true 163) ::
 O 165 (.mv 0) ::
 O 166 (.mv 23) ::
 O 167 (.iadS 2 165 166) ::
 O 168 (.load 2 true 167) ::
 CV 169 158 [164, 168] ::
 c_slices_symMergeCmpFunc_apiFile_p25)) (
 .cond 171 (c_slices_symMergeCmpFunc_apiFile_p26) (c_slices_symMergeCmpFunc_apiFile_p27))))
def c_slices_symMergeCmpFunc_apiFile_p23 : ACode :=
 .seq (
 .seq (.ops (O 149 (.mv 20) ::
 O 150 (.mv 21) ::
 O 151 (.bin .lss 149 150) ::
 [])) (
 .cond 151 (.skip) (.exit 8))) (c_slices_symMergeCmpFunc_apiFile_p24)
def c_slices_symMergeCmpFunc_apiFile_p29 : List AOper :=
 OT 181 182 (.mv 2) ::
 OT 181 183 (.mv 24) ::
 OT 181 184 (.bin .lss 182 183) ::
 O 185 (.pick 181 184 (.c (.bool false))) ::
 []
def c_slices_symMergeCmpFunc_apiFile_p30 : ACode :=
 .ops (
 O 186 (.mv 0) ::
 O 187 (.mv 20) ::
 O 188 (.mv 2) ::
 O 189 (.mv 24) ::
 O 190 (.mv 4) ::
 C 191 270 [186, 187, 188, 189, 190] ::
 [])
def c_slices_symMergeCmpFunc_apiFile_p32 : List AOper :=
 OT 195 196 (.mv 20) ::
 OT 195 197 (.mv 18) ::
 OT 195 198 (.bin .lss 196 197) ::
 O 199 (.pick 195 198 (.c (.bool false))) ::
 []
def c_slices_symMergeCmpFunc_apiFile_p33 : ACode :=
 .ops (
 O 200 (.mv 0) ::
 O 201 (.mv 1) ::
 O 202 (.mv 20) ::
 O 203 (.mv 18) ::
 O 204 (.mv 4) ::
 C 205 256 [200, 201, 202, 203, 204] ::
 [])
def c_slices_symMergeCmpFunc_apiFile_p35 : List AOper :=
 OT 209 210 (.mv 24) ::
 OT 209 211 (.mv 3) ::
 OT 209 212 (.bin .lss 210 211) ::
 O 213 (.pick 209 212 (.c (.bool false))) ::
 []
def c_slices_symMergeCmpFunc_apiFile_p36 : ACode :=
 .ops (
 O 214 (.mv 0) ::
 O 215 (.mv 18) ::
 O 216 (.mv 24) ::
 O 217 (.mv 3) ::
 O 218 (.mv 4) ::
 C 219 256 [214, 215, 216, 217, 218] ::
 [])
def c_slices_symMergeCmpFunc_apiFile_p34 : ACode :=
 .seq (.ops (O 206 (.mv 18) ::
 O 207 (.mv 24) ::
 O 208 (.bin .lss 206 207) ::
 O 209 (.mv 208) ::
 c_slices_symMergeCmpFunc_apiFile_p35)) (
 .cond 213 (c_slices_symMergeCmpFunc_apiFile_p36) (.skip))
def c_slices_symMergeCmpFunc_apiFile_p31 : ACode :=
 .seq (
 .seq (.ops (O 192 (.mv 1) ::
 O 193 (.mv 20) ::
 O 194 (.bin .lss 192 193) ::
 O 195 (.mv 194) ::
 c_slices_symMergeCmpFunc_apiFile_p32)) (
 .cond 199 (c_slices_symMergeCmpFunc_apiFile_p33) (.skip))) (c_slices_symMergeCmpFunc_apiFile_p34)
def c_slices_symMergeCmpFunc_apiFile_p28 : ACode :=
 .seq (.ops (O 175 (.mv 19) ::
 O 176 (.mv 20) ::
 O 177 (.bin .sub 175 176) ::
 O 24 (.mv 177) ::
 [])) (
 .seq (
 .seq (.ops (O 178 (.mv 20) ::
 O 179 (.mv 2) ::
 O 180 (.bin .lss 178 179) ::
 O 181 (.mv 180) ::
 c_slices_symMergeCmpFunc_apiFile_p29)) (
 .cond 185 (c_slices_symMergeCmpFunc_apiFile_p30) (.skip))) (c_slices_symMergeCmpFunc_apiFile_p31))
def c_slices_symMergeCmpFunc_apiFile_p22 : ACode :=
 .seq (.ops (O 147 (.mv 19) ::
 O 148 (.bin .sub 147 (I 1)) ::
 O 22 (.mv 148) ::
 [])) (
 .seq (
 .block 8 (
 .loop (c_slices_symMergeCmpFunc_apiFile_p23))) (c_slices_symMergeCmpFunc_apiFile_p28))
def c_slices_symMergeCmpFunc_apiFile_p19 : ACode :=
 .seq (.ops (O 129 (.mv 1) ::
 O 130 (.mv 3) ::
 O 131 (.bin .add 129 130) ::
 O 132 (.toInt .u64 131) ::
 O 133 (.bin .shr 132 (U64 1)) ::
 O 134 (.toInt .i64 133) ::
 O 18 (.mv 134) ::
 [])) (
 .seq (.ops (O 135 (.mv 18) ::
 O 136 (.mv 2) ::
 O 137 (.bin .add 135 136) ::
 O 19 (.mv 137) ::
 [])) (
 .seq (.ops (O 20 (.mv (I 0)) ::
 O 21 (.mv (I 0)) ::
 [])) (
 .seq (
 .seq (.ops (O 138 (.mv 2) ::
 O 139 (.mv 18) ::
 O 140 (.bin .gtr 138 139) ::
 [])) (
 .cond 140 (c_slices_symMergeCmpFunc_apiFile_p20) (c_slices_symMergeCmpFunc_apiFile_p21))) (c_slices_symMergeCmpFunc_apiFile_p22))))
def c_slices_symMergeCmpFunc_apiFile_p9 : ACode :=
 .seq (
 .seq (.ops (O 77 (.mv 3) ::
 O 78 (.mv 2) ::
 O 79 (.bin .sub 77 78) ::
 O 80 (.bin .eql 79 (I 1)) ::
 [])) (
 .cond 80 (c_slices_symMergeCmpFunc_apiFile_p10) (.skip))) (c_slices_symMergeCmpFunc_apiFile_p19)
def c_slices_symMergeCmpFunc_apiFile : AFunc := ⟨220, (
 .seq (
 .seq (.ops (O 25 (.mv 2) ::
 O 26 (.mv 1) ::
 O 27 (.bin .sub 25 26) ::
 O 28 (.bin .eql 27 (I 1)) ::
 [])) (
 .cond 28 (c_slices_symMergeCmpFunc_apiFile_p0) (.skip))) (c_slices_symMergeCmpFunc_apiFile_p9)), []⟩
theorem is_slices_symMergeCmpFunc_apiFile : IsFun Go.Proofs.Tryz.prog f_slices_symMergeCmpFunc_apiFile c_slices_symMergeCmpFunc_apiFile := cFunc_is (obj := false) (by kernel_rfl)

abbrev f_flate_code_put : Nat := 257
def c_flate_code_put : AFunc := ⟨18, (
 .seq (.ops (O 3 (.box 268 0) ::
 [])) (.ops (O 6 (.mv 1) ::
 O 7 (.faddr 1 3) ::
 O 8 (.load 1 false 7) ::
 O 9 (.mv 2) ::
 O 10 (.iadS 1 8 9) ::
 O 11 (.load 1 false 10) ::
 O 12 (.faddr 0 3) ::
 O 13 (.load 1 false 12) ::
 O 14 (.mv 2) ::
 O 15 (.iadS 1 13 14) ::
 O 16 (.load 1 false 15) ::
 C 17 271 [6, 11, 16] ::
 []))), []⟩
theorem is_flate_code_put : IsFun Go.Proofs.Tryz.prog f_flate_code_put c_flate_code_put := cFunc_is (obj := false) (by kernel_rfl)

abbrev f_flate_Length : Nat := 258
def c_flate_Length_p0 : ACode :=
 .seq (.ops (O 2 (.mv (I 285)) ::
 O 3 (.mv (I 0)) ::
 O 4 (.mv (I 0)) ::
 [])) (
 .ret)
def c_flate_Length_p2 : ACode :=
 .seq (.ops (O 14 (.mv 0) ::
 O 15 (.bin .add (I 254) 14) ::
 O 2 (.mv 15) ::
 O 3 (.mv (I 0)) ::
 O 4 (.mv (I 0)) ::
 [])) (
 .ret)
def c_flate_Length_p1 : ACode :=
 .seq (.ops (O 12 (.mv 0) ::
 O 13 (.bin .lss 12 (I 11)) ::
 O 11 (.mv 13) ::
 [])) (
 .cond 11 (c_flate_Length_p2) (.skip))
def c_flate_Length_p4 : List AOper :=
 O 16 (.mv 19) ::
 O 20 (.ext 16 0) ::
 O 21 (.ext 16 1) ::
 O 22 (.ext 16 2) ::
 O 5 (.mv 20) ::
 O 6 (.mv 21) ::
 O 7 (.mv 22) ::
 []
def c_flate_Length_p3 : ACode :=
 .seq (.ops (O 17 (.mv 0) ::
 O 18 (.bin .sub 17 (I 3)) ::
 C 19 272 [18, (I 2)] ::
 c_flate_Length_p4)) (
 .seq (.ops (O 23 (.mv 5) ::
 O 24 (.bin .add (I 257) 23) ::
 O 25 (.mv 6) ::
 O 26 (.mv 7) ::
 O 2 (.mv 24) ::
 O 3 (.mv 25) ::
 O 4 (.mv 26) ::
 [])) (
 .ret))
def c_flate_Length : AFunc := ⟨27, (
 .seq (.ops (O 2 (.mv (I 0)) ::
 O 3 (.mv (I 0)) ::
 O 4 (.mv (I 0)) ::
 [])) (
 .seq (
 .block 0 (
 .seq (.ops (O 9 (.mv 0) ::
 O 10 (.bin .eql 9 (I 258)) ::
 O 8 (.mv 10) ::
 [])) (
 .cond 8 (c_flate_Length_p0) (c_flate_Length_p1)))) (c_flate_Length_p3))), [.t 2, .t 3, .t 4]⟩
theorem is_flate_Length : IsFun Go.Proofs.Tryz.prog f_flate_Length c_flate_Length := cFunc_is (obj := false) (by kernel_rfl)

abbrev f_flate_Dist : Nat := 259
def c_flate_Dist_p0 : ACode :=
 .seq (.ops (O 7 (.mv 0) ::
 O 8 (.bin .sub 7 (I 1)) ::
 O 2 (.mv 8) ::
 O 3 (.mv (I 0)) ::
 O 4 (.mv (I 0)) ::
 [])) (
 .ret)
def c_flate_Dist_p2 : List AOper :=
 O 12 (.ext 11 0) ::
 O 13 (.ext 11 1) ::
 O 14 (.ext 11 2) ::
 O 2 (.mv 12) ::
 O 3 (.mv 13) ::
 O 4 (.mv 14) ::
 []
def c_flate_Dist_p1 : ACode :=
 .seq (.ops (O 9 (.mv 0) ::
 O 10 (.bin .sub 9 (I 1)) ::
 C 11 272 [10, (I 1)] ::
 c_flate_Dist_p2)) (
 .ret)
def c_flate_Dist : AFunc := ⟨15, (
 .seq (.ops (O 2 (.mv (I 0)) ::
 O 3 (.mv (I 0)) ::
 O 4 (.mv (I 0)) ::
 [])) (
 .seq (
 .seq (.ops (O 5 (.mv 0) ::
 O 6 (.bin .lss 5 (I 5)) ::
 [])) (
 .cond 6 (c_flate_Dist_p0) (.skip))) (c_flate_Dist_p1))), [.t 2, .t 3, .t 4]⟩
theorem is_flate_Dist : IsFun Go.Proofs.Tryz.prog f_flate_Dist c_flate_Dist := cFunc_is (obj := false) (by kernel_rfl)

abbrev f_huff_Codes : Nat := 260
def c_huff_Codes_p0 : List AOper :=
 O 11 (.mv 13) ::
 O 14 (.ext 11 0) ::
 O 15 (.ext 11 1) ::
 O 4 (.alloc 247 (List.replicate 16 (.nat .i64 0))) ::
 S (.store 16 4 14) ::
 O 5 (.mv 15) ::
 []
def c_huff_Codes_p1 : ACode :=
 .seq (.ops (O 2 (.mv (.c (.nils))) ::
 O 3 (.mv (I 1)) ::
 [])) (
 .ret)
def c_huff_Codes_p3 : List AOper :=
 O 22 (.bin .lss 21 (I 0)) ::
 O 19 (.mv 22) ::
 []
def c_huff_Codes_p4 : ACode :=
 .seq (.ops (O 2 (.mv (.c (.nils))) ::
 O 3 (.mv (I 2)) ::
 [])) (
 .ret)
def c_huff_Codes_p2 : ACode :=
 .seq (.ops (O 20 (.load 16 true 4) ::
 C 21 212 [20] ::
 c_huff_Codes_p3)) (
 .cond 19 (c_huff_Codes_p4) (.skip))
def c_huff_Codes_p7 : ACode :=
 .seq (
 .block 2 (.ops (O 27 (.mv 7) ::
 O 28 (.bin .add 27 (I 1)) ::
 O 29 (.mv 7) ::
 O 30 (.iadA 16 1 6 29) ::
 O 31 (.load 1 false 30) ::
 O 32 (.mv 7) ::
 O 33 (.iadA 16 1 4 32) ::
 O 34 (.load 1 false 33) ::
 O 35 (.bin .add 31 34) ::
 O 36 (.bin .shl 35 (U64 1)) ::
 O 37 (.iadA 16 1 6 28) ::
 S (.store 1 37 36) ::
 []))) (.ops (O 25 (.mv 7) ::
 O 26 (.bin .add 25 (I 1)) ::
 O 7 (.mv 26) ::
 []))
def c_huff_Codes_p6 : ACode :=
 .seq (
 .seq (.ops (O 23 (.mv 7) ::
 O 24 (.bin .lss 23 (I 15)) ::
 [])) (
 .cond 24 (.skip) (.exit 1))) (c_huff_Codes_p7)
def c_huff_Codes_p11 : ACode :=
 .seq (.ops (O 50 (.mv 8) ::
 O 51 (.mv 9) ::
 O 52 (.mv 10) ::
 O 53 (.iadA 16 1 6 52) ::
 O 54 (.load 1 false 53) ::
 O 55 (.iadS 1 50 51) ::
 S (.store 1 55 54) ::
 [])) (.ops (O 56 (.mv 10) ::
 O 57 (.iadA 16 1 6 56) ::
 O 58 (.load 1 false 57) ::
 O 59 (.bin .add 58 (I 1)) ::
 O 60 (.iadA 16 1 6 56) ::
 S (.store 1 60 59) ::
 []))
def c_huff_Codes_p12 : ACode :=
 .ops (
 O 61 (.bin .add 43 (I 1)) ::
 O 43 (.mv 61) ::
 [])
def c_huff_Codes_p10 : ACode :=
 .seq (
 .block 4 (
 .seq (.ops (O 45 (.mv 43) ::
 O 46 (.iadS 1 41 43) ::
 O 47 (.load 1 false 46) ::
 O 9 (.mv 45) ::
 O 10 (.mv 47) ::
 [])) (
 .seq (.ops (O 48 (.mv 10) ::
 O 49 (.bin .gtr 48 (I 0)) ::
 [])) (
 .cond 49 (c_huff_Codes_p11) (.skip))))) (c_huff_Codes_p12)
def c_huff_Codes_p9 : ACode :=
 .seq (.ops (O 44 (.bin .lss 43 42) ::
 [])) (
 .seq (
 .cond 44 (.skip) (.exit 3)) (c_huff_Codes_p10))
def c_huff_Codes_p13 : ACode :=
 .seq (.ops (O 62 (.mv 8) ::
 O 2 (.mv 62) ::
 O 3 (.mv (I 0)) ::
 [])) (
 .ret)
def c_huff_Codes_p8 : ACode :=
 .seq (.ops (O 38 (.mv 0) ::
 O 39 (.lenS 38) ::
 O 40 (.mks 3 1 8 [.nat .i64 0] 39 39) ::
 O 8 (.mv 40) ::
 [])) (
 .seq (
 .seq (.ops (O 41 (.mv 0) ::
 O 42 (.lenS 41) ::
 O 43 (.mv (I 0)) ::
 [])) (
 .block 3 (
 .loop (c_huff_Codes_p9)))) (c_huff_Codes_p13))
def c_huff_Codes_p5 : ACode :=
 .seq (.ops (O 6 (.alloc 247 (List.replicate 16 (.nat .i64 0))) ::
 [])) (
 .seq (
 .seq (.ops (O 7 (.mv (I 1)) ::
 [])) (
 .block 1 (
 .loop (c_huff_Codes_p6)))) (c_huff_Codes_p8))
def c_huff_Codes : AFunc := ⟨63, (
 .seq (.ops (O 2 (.mv (.c (.nils))) ::
 O 3 (.mv (I 0)) ::
 [])) (
 .seq (.ops (O 12 (.mv 0) ::
 C 13 211 [12] ::
 c_huff_Codes_p0)) (
 .seq (
 .block 0 (
 .seq (.ops (O 17 (.mv 5) ::
 O 18 (.un .not 17) ::
 O 16 (.mv 18) ::
 [])) (
 .cond 16 (c_huff_Codes_p1) (c_huff_Codes_p2)))) (c_huff_Codes_p5)))), [.t 2, .t 3]⟩
theorem is_huff_Codes : IsFun Go.Proofs.Tryz.prog f_huff_Codes c_huff_Codes := cFunc_is (obj := false) (by kernel_rfl)

abbrev f_flate_counted : Nat := 261
def c_flate_counted_p2 : ACode :=
 .seq (.ops (O 24 (.mv 4) ::
 O 25 (.faddr 2 7) ::
 O 26 (.load 1 false 25) ::
 O 27 (.iadS 1 24 26) ::
 O 28 (.load 1 false 27) ::
 O 29 (.bin .add 28 (I 1)) ::
 O 30 (.iadS 1 24 26) ::
 S (.store 1 30 29) ::
 [])) (
 .exit 1)
def c_flate_counted_p4 : List AOper :=
 O 31 (.mv 34) ::
 O 35 (.ext 31 0) ::
 O 36 (.ext 31 1) ::
 O 37 (.ext 31 2) ::
 O 8 (.mv 35) ::
 O 9 (.mv 36) ::
 O 10 (.mv 37) ::
 []
def c_flate_counted_p5 : List AOper :=
 O 44 (.mv 47) ::
 O 48 (.ext 44 0) ::
 O 49 (.ext 44 1) ::
 O 50 (.ext 44 2) ::
 O 8 (.mv 48) ::
 []
def c_flate_counted_p3 : ACode :=
 .seq (.ops (O 32 (.faddr 0 7) ::
 O 33 (.load 1 false 32) ::
 C 34 258 [33] ::
 c_flate_counted_p4)) (
 .seq (.ops (O 38 (.mv 4) ::
 O 39 (.mv 8) ::
 O 40 (.iadS 1 38 39) ::
 O 41 (.load 1 false 40) ::
 O 42 (.bin .add 41 (I 1)) ::
 O 43 (.iadS 1 38 39) ::
 S (.store 1 43 42) ::
 [])) (
 .seq (.ops (O 45 (.faddr 1 7) ::
 O 46 (.load 1 false 45) ::
 C 47 259 [46] ::
 c_flate_counted_p5)) (.ops (O 51 (.mv 5) ::
 O 52 (.mv 8) ::
 O 53 (.iadS 1 51 52) ::
 O 54 (.load 1 false 53) ::
 O 55 (.bin .add 54 (I 1)) ::
 O 56 (.iadS 1 51 52) ::
 S (.store 1 56 55) ::
 []))))
def c_flate_counted_p6 : ACode :=
 .ops (
 O 57 (.bin .add 17 (I 1)) ::
 O 17 (.mv 57) ::
 [])
def c_flate_counted_p1 : ACode :=
 .seq (
 .block 1 (
 .seq (.ops (O 19 (.iadS 3 15 17) ::
 O 20 (.load 3 true 19) ::
 O 7 (.alloc 278 [.nat .i64 0, .nat .i64 0, .nat .i64 0]) ::
 S (.store 3 7 20) ::
 [])) (
 .seq (
 .seq (.ops (O 21 (.faddr 0 7) ::
 O 22 (.load 1 false 21) ::
 O 23 (.bin .eql 22 (I 0)) ::
 [])) (
 .cond 23 (c_flate_counted_p2) (.skip))) (c_flate_counted_p3)))) (c_flate_counted_p6)
def c_flate_counted_p0 : ACode :=
 .seq (.ops (O 18 (.bin .lss 17 16) ::
 [])) (
 .seq (
 .cond 18 (.skip) (.exit 0)) (c_flate_counted_p1))
def c_flate_counted_p7 : ACode :=
 .seq (.ops (O 58 (.mv 4) ::
 O 59 (.mv 5) ::
 O 2 (.mv 58) ::
 O 3 (.mv 59) ::
 [])) (
 .ret)
def c_flate_counted : AFunc := ⟨60, (
 .seq (.ops (O 2 (.mv (.c (.nils))) ::
 O 3 (.mv (.c (.nils))) ::
 [])) (
 .seq (.ops (O 11 (.mks 3 1 8 [.nat .i64 0] (I 286) (I 286)) ::
 O 12 (.mks 3 1 8 [.nat .i64 0] (I 30) (I 30)) ::
 O 4 (.mv 11) ::
 O 5 (.mv 12) ::
 [])) (
 .seq (.ops (O 13 (.mv 4) ::
 O 14 (.iadS 1 13 (I 256)) ::
 S (.store 1 14 (I 1)) ::
 [])) (
 .seq (
 .seq (.ops (O 15 (.mv 0) ::
 O 16 (.lenS 15) ::
 O 17 (.mv (I 0)) ::
 [])) (
 .block 0 (
 .loop (c_flate_counted_p0)))) (c_flate_counted_p7))))), [.t 2, .t 3]⟩
theorem is_flate_counted : IsFun Go.Proofs.Tryz.prog f_flate_counted c_flate_counted := cFunc_is (obj := false) (by kernel_rfl)

end Go.Proofs.Ah
