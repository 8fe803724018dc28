/- Functions of the program in the fast form, by name, and that it is theirs. Written by a program (genR.py). -/
import Derived.Test.YtgmclgajlofljaaGreatDoorTmRun
import Derived.Test.YtgmclgajlofljaaGreatDoorTmKo
import Derived.Test.YtgmclgajlofljaaGreatDoorProg
import Derived.Test.YtgmclgajlofljaaGreatDoorA8KF
set_option linter.all false
namespace Go.TM.R8
open Go Go.TM Go.Proofs
open Go.TM.A8 (K_expr_Size_b0 K_expr_Size_h0 K_expr_Size K_expr_named K_expr_arity K_expr_Check K_expr_checkNodes_b0 K_expr_identifier K_expr_system K_expr_Format K_expr_writer_expr_b0 K_expr_writer_put_b0 K_expr_writer_put_h0 K_expr_writer_put K_expr_writer_around_b0 K_expr_writer_around_h0 K_expr_writer_around K_expr_writer_list_b0 K_expr_writer_list_h0 K_expr_writer_list K_expr_unarySymbol K_expr_binarySymbol K_Builder_String K_Builder_WriteString K_Builder_copyCheck K_Builder_Len K_token_Format K_token_whole K_token_nameEnd_b0 K_token_nameEnd_h0 K_token_nameEnd K_token_letter K_token_digit K_token_IsKeyword K_token_decimal_b0 K_token_decimal_h0 K_token_decimal K_token_number K_vec_Check_b0 K_vec_Check_h0 K_vec_Check K_bit_Valid an_26 an_48 an_54 an_19 an_81 an_82 an_17 an_74 an_75 an_76 an_77 an_78 an_44 an_62 an_90 an_43 an_73 an_100 an_130 an_148 an_151 an_101 an_131 an_102 an_83 an_114)
set_option maxRecDepth 100000
def K_ref08_Size_b0 : KC := (.seq (.q (.m 9 6<|.o 10 (.faddr 4 (.t 1))<|.o 11 (.load false 1 (.t 10))<|.o 12 (.len (.t 11))<|.e 13 (.bin .lss (.t 9) (.t 12))) (.cond (.t 13) .skip (.exit ⟨[],[4,5],[],false⟩ 0))) (.seq (.block 1 (.q (.o 17 (.faddr 4 (.t 1))<|.o 18 (.load false 1 (.t 17))<|.m 19 6<|.o 20 (.iaddr 8 (.t 18) (.t 19))<|.o 21 (.load true 8 (.t 20))<|.o 22 (.call (.f 29) [.t 21])<|.m 16 22<|.o 23 (.ext (.t 16) 0)<|.o 24 (.ext (.t 16) 1)<|.m 7 23<|.m 8 24<|.nil) (.ops (.m 25 4<|.m 26 7<|.o 27 (.bin .add (.t 25) (.t 26))<|.m 28 5<|.m 29 8<|.o 30 (.mm true (.t 28) (.t 29))<|.m 4 27<|.m 5 30<|.nil)))) (.ops (.m 14 6<|.o 15 (.bin .add (.t 14) (.i 1))<|.m 6 15<|.nil))))
@[reducible] def K_ref08_Size_h0 : Head := ⟨[1], [1, 4, 5, 6], [], true⟩
def K_ref08_Size : KF := ⟨34,(.q (.o 1 (.box 28 (.t 0))<|.o 2 (.mv (.i 0))<|.e 3 (.mv (.i 0))) (.q (.o 4 (.mv (.i 1))<|.e 5 (.mv (.i 0))) (.seq (.q (.e 6 (.mv (.i 0))) (.block 0 (.loop K_ref08_Size_h0 K_ref08_Size_b0))) (.q (.m 31 4<|.m 32 5<|.o 33 (.bin .add (.t 32) (.i 1))<|.m 2 31<|.m 3 33<|.nil) (.v [2,3]))))),[.tmp 2,.tmp 3],true⟩
def K_law08_wide_b0 : KC := (.seq (.q (.m 15 3<|.o 16 (.faddr 4 (.t 1))<|.o 17 (.load false 1 (.t 16))<|.o 18 (.len (.t 17))<|.e 19 (.bin .lss (.t 15) (.t 18))) (.cond (.t 19) .skip (.exit ⟨[],[],[],false⟩ 0))) (.seq (.block 1 (.q (.o 22 (.faddr 4 (.t 1))<|.o 23 (.load false 1 (.t 22))<|.m 24 3<|.o 25 (.iaddr 8 (.t 23) (.t 24))<|.o 26 (.load true 8 (.t 25))<|.e 27 (.call (.f 41) [.t 26])) (.cond (.t 27) (.q (.e 2 (.mv (.b true))) (.v [2])) .skip))) (.ops (.m 20 3<|.o 21 (.bin .add (.t 20) (.i 1))<|.m 3 21<|.nil))))
@[reducible] def K_law08_wide_h0 : Head := ⟨[1], [1, 3], [], true⟩
def K_law08_wide : KF := ⟨28,(.q (.o 1 (.box 28 (.t 0))<|.e 2 (.mv (.b false))) (.seq (.q (.o 4 (.faddr 1 (.t 1))<|.o 5 (.load false 1 (.t 4))<|.o 6 (.lenS (.t 5))<|.o 7 (.bin .gtr (.t 6) (.i 200))<|.m 8 7<|.og 9 8 false (.faddr 2 (.t 1))<|.og 10 8 false (.faddr 0 (.t 9))<|.og 11 8 false (.load false 1 (.t 10))<|.og 12 8 false (.len (.t 11))<|.og 13 8 false (.bin .gtr (.t 12) (.i 300))<|.e 14 (.pick (.t 8) (.b true) (.t 13))) (.cond (.t 14) (.q (.e 2 (.mv (.b true))) (.v [2])) .skip)) (.seq (.q (.e 3 (.mv (.i 0))) (.block 0 (.loop K_law08_wide_h0 K_law08_wide_b0))) (.q (.e 2 (.mv (.b false))) (.v [2]))))),[.tmp 2],true⟩
def K_law08_Long_b0 : KC := (.seq (.q (.m 6 3<|.m 7 0<|.o 8 (.len (.t 7))<|.e 9 (.bin .lss (.t 6) (.t 8))) (.cond (.t 9) .skip (.exit ⟨[],[],[],false⟩ 0))) (.seq (.block 1 (.q (.m 13 0<|.m 14 3<|.o 15 (.iaddr 8 (.t 13) (.t 14))<|.o 16 (.load true 8 (.t 15))<|.o 17 (.call (.f 29) [.t 16])<|.m 12 17<|.o 18 (.ext (.t 12) 0)<|.o 19 (.ext (.t 12) 1)<|.m 4 18<|.m 5 19<|.nil) (.q (.m 20 4<|.o 21 (.bin .gtr (.t 20) (.i 400))<|.m 22 21<|.og 23 22 false (.mv (.t 5))<|.og 24 22 false (.bin .gtr (.t 23) (.i 80))<|.o 25 (.pick (.t 22) (.b true) (.t 24))<|.m 26 25<|.og 27 26 false (.mv (.t 0))<|.og 28 26 false (.mv (.t 3))<|.og 29 26 false (.iaddr 8 (.t 27) (.t 28))<|.og 30 26 false (.load true 8 (.t 29))<|.og 31 26 false (.call (.f 41) [.t 30])<|.e 32 (.pick (.t 26) (.b true) (.t 31))) (.cond (.t 32) (.q (.e 2 (.mv (.b true))) (.v [2])) .skip)))) (.ops (.m 10 3<|.o 11 (.bin .add (.t 10) (.i 1))<|.m 3 11<|.nil))))
@[reducible] def K_law08_Long_h0 : Head := ⟨[], [0, 3], [], true⟩
def K_law08_Long : KF := ⟨33,(.q (.e 2 (.mv (.b false))) (.seq (.q (.e 3 (.mv (.i 0))) (.block 0 (.loop K_law08_Long_h0 K_law08_Long_b0))) (.q (.e 2 (.mv (.b false))) (.v [2])))),[.tmp 2],true⟩
def K_ref08_Named : KF := ⟨21,(.q (.e 2 (.mv (.b false))) (.q (.m 3 0<|.o 4 (.bin .eql (.t 3) (.p 256 2))<|.m 5 4<|.og 6 5 false (.mv (.t 0))<|.og 7 5 false (.bin .eql (.t 6) (.p 256 3))<|.o 8 (.pick (.t 5) (.b true) (.t 7))<|.m 9 8<|.og 10 9 false (.mv (.t 0))<|.og 11 9 false (.bin .eql (.t 10) (.p 256 4))<|.o 12 (.pick (.t 9) (.b true) (.t 11))<|.m 13 12<|.og 14 13 false (.mv (.t 0))<|.og 15 13 false (.bin .eql (.t 14) (.p 256 5))<|.o 16 (.pick (.t 13) (.b true) (.t 15))<|.m 17 16<|.og 18 17 false (.mv (.t 0))<|.og 19 17 false (.bin .eql (.t 18) (.p 256 8))<|.o 20 (.pick (.t 17) (.b true) (.t 19))<|.m 2 20<|.nil) (.v [2]))),[.tmp 2],true⟩
def K_ref08_Args : KF := ⟨76,(.q (.o 1 (.box 28 (.t 0))<|.e 2 (.mv (.b false))) (.q (.o 4 (.faddr 4 (.t 1))<|.o 5 (.load false 1 (.t 4))<|.o 6 (.len (.t 5))<|.m 3 6<|.nil) (.seq (.block 0 (.q (.o 8 (.faddr 0 (.t 1))<|.o 9 (.load false 1 (.t 8))<|.o 10 (.bin .eql (.t 9) (.p 256 1))<|.m 11 10<|.og 12 11 false (.faddr 0 (.t 1))<|.og 13 11 false (.load false 1 (.t 12))<|.og 14 11 false (.bin .eql (.t 13) (.p 256 2))<|.o 15 (.pick (.t 11) (.b true) (.t 14))<|.m 7 15<|.nil) (.cond (.t 7) (.q (.m 16 3<|.o 17 (.bin .eql (.t 16) (.i 0))<|.m 2 17<|.nil) (.v [2])) (.q (.o 19 (.faddr 0 (.t 1))<|.o 20 (.load false 1 (.t 19))<|.o 21 (.bin .eql (.t 20) (.p 256 3))<|.m 18 21<|.nil) (.cond (.t 18) (.q (.m 22 3<|.o 23 (.bin .eql (.t 22) (.i 1))<|.m 24 23<|.og 25 24 false (.mv (.t 3))<|.og 26 24 false (.bin .eql (.t 25) (.i 2))<|.o 27 (.pick (.t 24) (.b true) (.t 26))<|.m 2 27<|.nil) (.v [2])) (.q (.o 29 (.faddr 0 (.t 1))<|.o 30 (.load false 1 (.t 29))<|.o 31 (.bin .eql (.t 30) (.p 256 4))<|.m 32 31<|.og 33 32 false (.faddr 0 (.t 1))<|.og 34 32 false (.load false 1 (.t 33))<|.og 35 32 false (.bin .eql (.t 34) (.p 256 5))<|.o 36 (.pick (.t 32) (.b true) (.t 35))<|.m 28 36<|.nil) (.cond (.t 28) (.q (.m 37 3<|.o 38 (.bin .eql (.t 37) (.i 2))<|.m 2 38<|.nil) (.v [2])) (.q (.o 40 (.faddr 0 (.t 1))<|.o 41 (.load false 1 (.t 40))<|.o 42 (.bin .eql (.t 41) (.p 256 6))<|.m 43 42<|.og 44 43 false (.faddr 0 (.t 1))<|.og 45 43 false (.load false 1 (.t 44))<|.og 46 43 false (.bin .eql (.t 45) (.p 256 8))<|.o 47 (.pick (.t 43) (.b true) (.t 46))<|.m 39 47<|.nil) (.cond (.t 39) (.q (.m 48 3<|.o 49 (.bin .geq (.t 48) (.i 1))<|.m 2 49<|.nil) (.v [2])) (.q (.o 51 (.faddr 0 (.t 1))<|.o 52 (.load false 1 (.t 51))<|.o 53 (.bin .eql (.t 52) (.p 256 7))<|.m 50 53<|.nil) (.cond (.t 50) (.q (.m 54 3<|.o 55 (.bin .geq (.t 54) (.i 2))<|.m 2 55<|.nil) (.v [2])) (.q (.o 57 (.faddr 0 (.t 1))<|.o 58 (.load false 1 (.t 57))<|.o 59 (.bin .eql (.t 58) (.p 256 9))<|.m 56 59<|.nil) (.cond (.t 56) (.q (.m 60 3<|.o 61 (.bin .leq (.t 60) (.i 1))<|.m 2 61<|.nil) (.v [2])) (.q (.o 63 (.faddr 0 (.t 1))<|.o 64 (.load false 1 (.t 63))<|.o 65 (.bin .eql (.t 64) (.p 256 10))<|.m 62 65<|.nil) (.cond (.t 62) (.q (.m 66 3<|.o 67 (.bin .eql (.t 66) (.i 3))<|.m 2 67<|.nil) (.v [2])) (.q (.o 69 (.faddr 0 (.t 1))<|.o 70 (.load false 1 (.t 69))<|.o 71 (.bin .leq (.t 70) (.p 256 20))<|.m 68 71<|.nil) (.cond (.t 68) (.q (.m 72 3<|.o 73 (.bin .eql (.t 72) (.i 1))<|.m 2 73<|.nil) (.v [2])) .skip))))))))))))))))) (.q (.m 74 3<|.o 75 (.bin .eql (.t 74) (.i 2))<|.m 2 75<|.nil) (.v [2]))))),[.tmp 2],true⟩
@[reducible] def K_expr_checkNodes_h0 : Head := ⟨[1], [44, 45, 46], [], true⟩
def K_expr_checkNodes : KF := ⟨56,(.q (.o 1 (.box 28 (.t 0))<|.e 2 (.mv (.i 0))) (.seq (.block 0 (.q (.o 7 (.faddr 0 (.t 1))<|.o 8 (.load false 1 (.t 7))<|.o 9 (.bin .lss (.t 8) (.p 256 1))<|.m 10 9<|.og 11 10 false (.faddr 0 (.t 1))<|.og 12 10 false (.load false 1 (.t 11))<|.og 13 10 false (.bin .gtr (.t 12) (.p 256 44))<|.o 14 (.pick (.t 10) (.b true) (.t 13))<|.m 6 14<|.nil) (.cond (.t 6) (.q (.e 2 (.mv (.i 11))) (.v [2])) (.seq (.q (.o 16 (.load true 8 (.t 1))<|.o 17 (.call (.f 54) [.t 16])<|.o 18 (.not (.t 17))<|.m 15 18<|.nil) (.cond (.t 15) .skip (.q (.o 19 (.faddr 0 (.t 1))<|.o 20 (.load false 1 (.t 19))<|.o 21 (.call (.f 48) [.t 20])<|.m 22 21<|.og 23 22 true (.faddr 1 (.t 1))<|.og 24 22 true (.load false 1 (.t 23))<|.og 25 22 true (.call (.f 81) [.t 24])<|.og 26 22 true (.not (.t 25))<|.o 27 (.pick (.t 22) (.t 26) (.b false))<|.m 15 27<|.nil) (.cond (.t 15) .skip (.ops (.o 28 (.faddr 0 (.t 1))<|.o 29 (.load false 1 (.t 28))<|.o 30 (.bin .eql (.t 29) (.p 256 9))<|.m 31 30<|.og 32 31 true (.load true 8 (.t 1))<|.og 33 31 true (.call (.f 82) [.t 32])<|.og 34 31 true (.not (.t 33))<|.o 35 (.pick (.t 31) (.t 34) (.b false))<|.m 15 35<|.nil)))))) (.cond (.t 15) (.q (.e 2 (.mv (.i 3))) (.v [2])) (.q (.o 37 (.faddr 0 (.t 1))<|.o 38 (.load false 1 (.t 37))<|.o 39 (.bin .eql (.t 38) (.p 256 1))<|.m 36 39<|.nil) (.cond (.t 36) (.q (.o 40 (.faddr 2 (.t 1))<|.o 41 (.load true 2 (.t 40))<|.o 42 (.call (.f 83) [.t 41])<|.m 2 42<|.nil) (.v [2])) .skip))))))) (.seq (.q (.o 43 (.faddr 4 (.t 1))<|.o 44 (.load false 1 (.t 43))<|.o 45 (.len (.t 44))<|.e 46 (.mv (.i 0))) (.block 1 (.loop K_expr_checkNodes_h0 K_expr_checkNodes_b0))) (.q (.e 2 (.mv (.i 0))) (.v [2]))))),[.tmp 2],true⟩
@[reducible] def K_expr_writer_expr_h0 : Head := ⟨[3], [0, 3, 60, 61], [], true⟩
def K_expr_writer_expr : KF := ⟨159,(.q (.e 3 (.box 28 (.t 1))) (.q (.o 7 (.faddr 0 (.t 3))<|.e 8 (.load false 1 (.t 7))) (.block 0 (.q (.o 32 (.bin .eql (.t 8) (.p 256 1))<|.m 31 32<|.nil) (.cond (.t 31) (.q (.o 34 (.faddr 2 (.t 3))<|.o 35 (.load true 2 (.t 34))<|.o 36 (.bld [(0,1),(1,1),(2,2)] [.p 256 0,.s 0 0,.ns,.b false] [(0,(.p 256 4)),(2,(.t 35))])<|.o 37 (.call (.f 73) [.t 36])<|.m 33 37<|.o 38 (.ext (.t 33) 0)<|.o 39 (.ext (.t 33) 1)<|.m 4 38<|.m 5 39<|.nil) (.ops (.m 40 0<|.m 41 4<|.o 42 (.bsl 9 1 [.t 41])<|.e 43 (.call (.f 74) [.t 40,.t 42])))) (.q (.o 45 (.bin .eql (.t 8) (.p 256 2))<|.m 44 45<|.nil) (.cond (.t 44) (.ops (.m 46 0<|.o 47 (.faddr 1 (.t 3))<|.o 48 (.load false 1 (.t 47))<|.o 49 (.bsl 9 1 [.t 48])<|.e 50 (.call (.f 74) [.t 46,.t 49]))) (.q (.o 52 (.bin .eql (.t 8) (.p 256 3))<|.m 51 52<|.nil) (.cond (.t 51) (.q (.m 53 0<|.o 54 (.faddr 1 (.t 3))<|.o 55 (.load false 1 (.t 54))<|.o 56 (.bsl 9 1 [.t 55])<|.e 57 (.call (.f 74) [.t 53,.t 56])) (.q (.o 58 (.faddr 4 (.t 3))<|.o 59 (.load false 1 (.t 58))<|.o 60 (.len (.t 59))<|.e 61 (.mv (.i 0))) (.block 1 (.loop K_expr_writer_expr_h0 K_expr_writer_expr_b0)))) (.q (.o 75 (.bin .eql (.t 8) (.p 256 4))<|.m 74 75<|.nil) (.cond (.t 74) (.ops (.m 76 0<|.o 77 (.faddr 4 (.t 3))<|.o 78 (.load false 1 (.t 77))<|.o 79 (.faddr 1 (.t 3))<|.o 80 (.load false 1 (.t 79))<|.o 81 (.bin .add (.t 80) (.s 1 91))<|.o 82 (.bsl 9 1 [.t 81,(.s 1 58),(.s 1 93)])<|.e 83 (.call (.f 75) [.t 76,.t 78,.t 82]))) (.q (.o 85 (.bin .eql (.t 8) (.p 256 5))<|.m 84 85<|.nil) (.cond (.t 84) (.ops (.m 86 0<|.o 87 (.faddr 4 (.t 3))<|.o 88 (.load false 1 (.t 87))<|.o 89 (.faddr 1 (.t 3))<|.o 90 (.load false 1 (.t 89))<|.o 91 (.bin .add (.t 90) (.s 1 91))<|.o 92 (.bsl 9 1 [.t 91,(.s 2 14891),(.s 1 93)])<|.e 93 (.call (.f 75) [.t 86,.t 88,.t 92]))) (.q (.o 95 (.bin .eql (.t 8) (.p 256 6))<|.m 94 95<|.nil) (.cond (.t 94) (.q (.m 96 0<|.o 97 (.bsl 9 1 [(.s 1 123)])<|.e 98 (.call (.f 74) [.t 96,.t 97])) (.q (.m 99 0<|.o 100 (.faddr 4 (.t 3))<|.o 101 (.load false 1 (.t 100))<|.e 102 (.call (.f 76) [.t 99,.t 101])) (.ops (.m 103 0<|.o 104 (.bsl 9 1 [(.s 1 125)])<|.e 105 (.call (.f 74) [.t 103,.t 104]))))) (.q (.o 107 (.bin .eql (.t 8) (.p 256 7))<|.m 106 107<|.nil) (.cond (.t 106) (.q (.m 108 0<|.o 109 (.faddr 4 (.t 3))<|.o 110 (.load false 1 (.t 109))<|.o 111 (.slc 8 (.t 110) none (some (.i 1)) none)<|.o 112 (.bsl 9 1 [(.s 1 123),(.s 1 123)])<|.e 113 (.call (.f 75) [.t 108,.t 111,.t 112])) (.q (.m 114 0<|.o 115 (.faddr 4 (.t 3))<|.o 116 (.load false 1 (.t 115))<|.o 117 (.slc 8 (.t 116) (some (.i 1)) none none)<|.e 118 (.call (.f 76) [.t 114,.t 117])) (.ops (.m 119 0<|.o 120 (.bsl 9 1 [(.s 2 32125)])<|.e 121 (.call (.f 74) [.t 119,.t 120]))))) (.q (.o 123 (.bin .eql (.t 8) (.p 256 8))<|.m 122 123<|.nil) (.cond (.t 122) (.q (.m 124 0<|.o 125 (.faddr 1 (.t 3))<|.o 126 (.load false 1 (.t 125))<|.o 127 (.bsl 9 1 [.t 126,(.s 1 40)])<|.e 128 (.call (.f 74) [.t 124,.t 127])) (.q (.m 129 0<|.o 130 (.faddr 4 (.t 3))<|.o 131 (.load false 1 (.t 130))<|.e 132 (.call (.f 76) [.t 129,.t 131])) (.ops (.m 133 0<|.o 134 (.bsl 9 1 [(.s 1 41)])<|.e 135 (.call (.f 74) [.t 133,.t 134]))))) (.q (.o 137 (.bin .eql (.t 8) (.p 256 9))<|.m 136 137<|.nil) (.cond (.t 136) (.q (.m 138 0<|.o 139 (.faddr 1 (.t 3))<|.o 140 (.load false 1 (.t 139))<|.o 141 (.bsl 9 1 [.t 140])<|.e 142 (.call (.f 74) [.t 138,.t 141])) (.q (.o 143 (.faddr 4 (.t 3))<|.o 144 (.load false 1 (.t 143))<|.o 145 (.len (.t 144))<|.e 146 (.bin .gtr (.t 145) (.i 0))) (.cond (.t 146) (.ops (.m 147 0<|.o 148 (.faddr 4 (.t 3))<|.o 149 (.load false 1 (.t 148))<|.o 150 (.bsl 9 1 [(.s 1 40),(.s 1 41)])<|.e 151 (.call (.f 75) [.t 147,.t 149,.t 150]))) .skip))) (.q (.o 153 (.bin .eql (.t 8) (.p 256 10))<|.m 152 153<|.nil) (.cond (.t 152) (.ops (.m 154 0<|.o 155 (.faddr 4 (.t 3))<|.o 156 (.load false 1 (.t 155))<|.o 157 (.bsl 9 1 [(.s 1 40),(.s 3 2113312),(.s 3 2112032),(.s 1 41)])<|.e 158 (.call (.f 75) [.t 154,.t 156,.t 157]))) (.q (.o 9 (.faddr 0 (.t 3))<|.o 10 (.load false 1 (.t 9))<|.e 11 (.bin .lss (.t 10) (.p 256 21))) (.cond (.t 11) (.drq (.m 12 0<|.o 13 (.faddr 4 (.t 3))<|.o 14 (.load false 1 (.t 13))<|.o 15 (.faddr 0 (.t 3))<|.o 16 (.load false 1 (.t 15))<|.o 17 (.call (.f 77) [.t 16])<|.o 18 (.bin .add (.s 1 40) (.t 17))<|.o 19 (.bsl 9 1 [.t 18,(.s 1 41)])<|.e 20 (.call (.f 75) [.t 12,.t 14,.t 19])) [([],[]),([],[]),([3],[]),([],[]),([3],[]),([],[]),([],[]),([19],[19]),([19,9999999],[19,9999999])]) (.drq (.m 21 0<|.o 22 (.faddr 4 (.t 3))<|.o 23 (.load false 1 (.t 22))<|.o 24 (.faddr 0 (.t 3))<|.o 25 (.load false 1 (.t 24))<|.o 26 (.call (.f 78) [.t 25])<|.o 27 (.bin .add (.s 1 32) (.t 26))<|.o 28 (.bin .add (.t 27) (.s 1 32))<|.o 29 (.bsl 9 1 [(.s 1 40),.t 28,(.s 1 41)])<|.e 30 (.call (.f 75) [.t 21,.t 23,.t 29])) [([],[]),([],[]),([3],[]),([],[]),([3],[]),([],[]),([],[]),([],[]),([29],[29]),([29,9999999],[29,9999999])])))))))))))))))))))))))))),[],true⟩
def K_ref08_Check : KF := ⟨18,(.q (.o 1 (.box 28 (.t 0))<|.e 2 (.mv (.i 0))) (.q (.o 6 (.load true 8 (.t 1))<|.o 7 (.call (.f 29) [.t 6])<|.m 5 7<|.o 8 (.ext (.t 5) 0)<|.o 9 (.ext (.t 5) 1)<|.m 3 8<|.m 4 9<|.nil) (.seq (.q (.m 10 3<|.o 11 (.bin .gtr (.t 10) (.i 4096))<|.m 12 11<|.og 13 12 false (.mv (.t 4))<|.og 14 12 false (.bin .gtr (.t 13) (.i 64))<|.e 15 (.pick (.t 12) (.b true) (.t 14))) (.cond (.t 15) (.q (.e 2 (.mv (.i 5))) (.v [2])) .skip)) (.q (.o 16 (.load true 8 (.t 1))<|.o 17 (.call (.f 47) [.t 16])<|.m 2 17<|.nil) (.v [2]))))),[.tmp 2],true⟩
def K_ref08_walk_b0 : KC := (.seq (.q (.m 7 4<|.o 8 (.faddr 4 (.t 1))<|.o 9 (.load false 1 (.t 8))<|.o 10 (.len (.t 9))<|.o 11 (.bin .lss (.t 7) (.t 10))<|.m 12 11<|.og 13 12 true (.mv (.t 3))<|.og 14 12 true (.bin .eql (.t 13) (.i 0))<|.e 15 (.pick (.t 12) (.t 14) (.b false))) (.cond (.t 15) .skip (.exit ⟨[],[3],[],false⟩ 0))) (.seq (.block 1 (.ops (.o 18 (.faddr 4 (.t 1))<|.o 19 (.load false 1 (.t 18))<|.m 20 4<|.o 21 (.iaddr 8 (.t 19) (.t 20))<|.o 22 (.load true 8 (.t 21))<|.o 23 (.call (.f 47) [.t 22])<|.m 3 23<|.nil))) (.ops (.m 16 4<|.o 17 (.bin .add (.t 16) (.i 1))<|.m 4 17<|.nil))))
@[reducible] def K_ref08_walk_h0 : Head := ⟨[1, 7000, 7001, 7002, 7003], [1, 3, 4], [], true⟩
def K_ref08_walk : KF := ⟨25,(.q (.o 1 (.box 28 (.t 0))<|.e 2 (.mv (.i 0))) (.q (.o 5 (.load true 8 (.t 1))<|.o 6 (.call (.f 84) [.t 5])<|.m 3 6<|.nil) (.seq (.q (.e 4 (.mv (.i 0))) (.block 0 (.loop K_ref08_walk_h0 K_ref08_walk_b0))) (.q (.m 24 3<|.m 2 24<|.nil) (.v [2]))))),[.tmp 2],true⟩
def K_ref08_own : KF := ⟨60,(.q (.o 1 (.box 28 (.t 0))<|.e 2 (.mv (.i 0))) (.seq (.q (.o 3 (.faddr 0 (.t 1))<|.o 4 (.load false 1 (.t 3))<|.o 5 (.bin .lss (.t 4) (.p 256 1))<|.m 6 5<|.og 7 6 false (.faddr 0 (.t 1))<|.og 8 6 false (.load false 1 (.t 7))<|.og 9 6 false (.bin .gtr (.t 8) (.p 256 44))<|.e 10 (.pick (.t 6) (.b true) (.t 9))) (.cond (.t 10) (.q (.e 2 (.mv (.i 11))) (.v [2])) .skip)) (.seq (.q (.o 11 (.load true 8 (.t 1))<|.o 12 (.call (.f 57) [.t 11])<|.e 13 (.not (.t 12))) (.cond (.t 13) (.q (.e 2 (.mv (.i 3))) (.v [2])) .skip)) (.seq (.q (.o 14 (.faddr 0 (.t 1))<|.o 15 (.load false 1 (.t 14))<|.o 16 (.call (.f 58) [.t 15])<|.m 17 16<|.og 18 17 true (.faddr 1 (.t 1))<|.og 19 17 true (.load false 1 (.t 18))<|.og 20 17 true (.call (.f 115) [.t 19])<|.og 21 17 true (.not (.t 20))<|.e 22 (.pick (.t 17) (.t 21) (.b false))) (.cond (.t 22) (.q (.e 2 (.mv (.i 3))) (.v [2])) .skip)) (.seq (.q (.o 23 (.faddr 0 (.t 1))<|.o 24 (.load false 1 (.t 23))<|.o 25 (.bin .eql (.t 24) (.p 256 9))<|.m 26 25<|.og 27 26 true (.faddr 1 (.t 1))<|.og 28 26 true (.load false 1 (.t 27))<|.og 29 26 true (.bin .eql (.t 28) (.s 5 435627324452))<|.og 30 26 true (.mv (.t 29))<|.og 31 30 true (.faddr 4 (.t 1))<|.og 32 30 true (.load false 1 (.t 31))<|.og 33 30 true (.len (.t 32))<|.og 34 30 true (.bin .eql (.t 33) (.i 0))<|.og 35 26 true (.pick (.t 30) (.t 34) (.b false))<|.og 36 26 true (.mv (.t 35))<|.og 37 36 false (.faddr 1 (.t 1))<|.og 38 36 false (.load false 1 (.t 37))<|.og 39 36 false (.bin .eql (.t 38) (.s 7 28259022526837540))<|.og 40 36 false (.mv (.t 39))<|.og 41 40 false (.faddr 1 (.t 1))<|.og 42 40 false (.load false 1 (.t 41))<|.og 43 40 false (.bin .eql (.t 42) (.s 9 1851983300318829901092))<|.og 44 36 false (.pick (.t 40) (.b true) (.t 43))<|.og 45 36 false (.mv (.t 44))<|.og 46 45 true (.faddr 4 (.t 1))<|.og 47 45 true (.load false 1 (.t 46))<|.og 48 45 true (.len (.t 47))<|.og 49 45 true (.bin .eql (.t 48) (.i 1))<|.og 50 36 false (.pick (.t 45) (.t 49) (.b false))<|.og 51 26 true (.pick (.t 36) (.b true) (.t 50))<|.og 52 26 true (.not (.t 51))<|.e 53 (.pick (.t 26) (.t 52) (.b false))) (.cond (.t 53) (.q (.e 2 (.mv (.i 3))) (.v [2])) .skip)) (.seq (.q (.o 54 (.faddr 0 (.t 1))<|.o 55 (.load false 1 (.t 54))<|.e 56 (.bin .eql (.t 55) (.p 256 1))) (.cond (.t 56) (.q (.o 57 (.faddr 2 (.t 1))<|.o 58 (.load true 2 (.t 57))<|.o 59 (.call (.f 107) [.t 58])<|.m 2 59<|.nil) (.v [2])) .skip)) (.q (.e 2 (.mv (.i 0))) (.v [2])))))))),[.tmp 2],true⟩
def K_ref08_Ident : KF := ⟨13,(.q (.e 2 (.mv (.b false))) (.q (.m 6 0<|.o 7 (.bld [(0,1),(1,1),(2,2)] [.p 256 0,.s 0 0,.ns,.b false] [(0,(.p 256 1)),(1,(.t 6))])<|.o 8 (.call (.f 79) [.t 7])<|.m 5 8<|.o 9 (.ext (.t 5) 0)<|.o 10 (.ext (.t 5) 1)<|.m 3 9<|.m 4 10<|.nil) (.q (.m 11 4<|.o 12 (.bin .eql (.t 11) (.i 0))<|.m 2 12<|.nil) (.v [2])))),[.tmp 2],true⟩
def K_ref08_Format : KF := ⟨17,(.q (.o 1 (.box 28 (.t 0))<|.o 2 (.mv (.s 0 0))<|.e 3 (.mv (.i 0))) (.q (.o 6 (.load true 8 (.t 1))<|.o 7 (.call (.f 20) [.t 6])<|.m 4 7<|.nil) (.seq (.q (.m 8 4<|.e 9 (.bin .neq (.t 8) (.i 0))) (.cond (.t 9) (.q (.m 10 4<|.o 2 (.mv (.s 0 0))<|.m 3 10<|.nil) (.v [2,3])) .skip)) (.q (.o 11 (.load true 8 (.t 1))<|.o 12 (.call (.f 45) [.t 11])<|.m 5 12<|.nil) (.seq (.q (.m 13 5<|.o 14 (.lenS (.t 13))<|.e 15 (.bin .gtr (.t 14) (.i 65536))) (.cond (.t 15) (.q (.o 2 (.mv (.s 0 0))<|.e 3 (.mv (.i 5))) (.v [2,3])) .skip)) (.q (.m 16 5<|.m 2 16<|.e 3 (.mv (.i 0))) (.v [2,3]))))))),[.tmp 2,.tmp 3],true⟩
def K_ref08_Text : KF := ⟨182,(.q (.o 1 (.box 28 (.t 0))<|.e 2 (.mv (.s 0 0))) (.q (.o 7 (.faddr 4 (.t 1))<|.o 8 (.load false 1 (.t 7))<|.m 3 8<|.nil) (.seq (.q (.o 9 (.faddr 0 (.t 1))<|.e 10 (.load false 1 (.t 9))) (.block 0 (.q (.o 12 (.bin .eql (.t 10) (.p 256 1))<|.m 11 12<|.nil) (.cond (.t 11) (.q (.o 14 (.faddr 2 (.t 1))<|.o 15 (.load true 2 (.t 14))<|.o 16 (.bld [(0,1),(1,1),(2,2)] [.p 256 0,.s 0 0,.ns,.b false] [(0,(.p 256 4)),(2,(.t 15))])<|.o 17 (.call (.f 79) [.t 16])<|.m 13 17<|.o 18 (.ext (.t 13) 0)<|.o 19 (.ext (.t 13) 1)<|.m 4 18<|.m 5 19<|.nil) (.q (.m 20 4<|.m 2 20<|.nil) (.v [2]))) (.q (.o 22 (.bin .eql (.t 10) (.p 256 2))<|.m 21 22<|.nil) (.cond (.t 21) (.q (.o 23 (.faddr 1 (.t 1))<|.o 24 (.load false 1 (.t 23))<|.m 2 24<|.nil) (.v [2])) (.q (.o 26 (.bin .eql (.t 10) (.p 256 3))<|.m 25 26<|.nil) (.cond (.t 25) (.seq (.drq (.o 27 (.faddr 1 (.t 1))<|.o 28 (.load false 1 (.t 27))<|.o 29 (.bin .add (.t 28) (.s 1 91))<|.m 30 3<|.o 31 (.iaddr 8 (.t 30) (.i 0))<|.o 32 (.load true 8 (.t 31))<|.o 33 (.call (.f 45) [.t 32])<|.o 34 (.bin .add (.t 29) (.t 33))<|.o 35 (.bin .add (.t 34) (.s 1 93))<|.m 6 35<|.nil) [([],[]),([1],[]),([],[]),([],[]),([],[]),([],[]),([],[]),([],[]),([],[]),([],[])]) (.seq (.q (.m 36 3<|.o 37 (.len (.t 36))<|.e 38 (.bin .eql (.t 37) (.i 2))) (.cond (.t 38) (.ops (.m 39 6<|.o 40 (.bin .add (.t 39) (.s 1 91))<|.m 41 3<|.o 42 (.iaddr 8 (.t 41) (.i 1))<|.o 43 (.load true 8 (.t 42))<|.o 44 (.call (.f 45) [.t 43])<|.o 45 (.bin .add (.t 40) (.t 44))<|.o 46 (.bin .add (.t 45) (.s 1 93))<|.m 6 46<|.nil)) .skip)) (.q (.m 47 6<|.m 2 47<|.nil) (.v [2])))) (.q (.o 49 (.bin .eql (.t 10) (.p 256 4))<|.m 48 49<|.nil) (.cond (.t 48) (.seq (.drq (.o 50 (.faddr 1 (.t 1))<|.o 51 (.load false 1 (.t 50))<|.o 52 (.bin .add (.t 51) (.s 1 91))<|.m 53 3<|.o 54 (.iaddr 8 (.t 53) (.i 0))<|.o 55 (.load true 8 (.t 54))<|.o 56 (.call (.f 45) [.t 55])<|.o 57 (.bin .add (.t 52) (.t 56))<|.o 58 (.bin .add (.t 57) (.s 1 58))<|.m 59 3<|.o 60 (.iaddr 8 (.t 59) (.i 1))<|.o 61 (.load true 8 (.t 60))<|.o 62 (.call (.f 45) [.t 61])<|.o 63 (.bin .add (.t 58) (.t 62))<|.o 64 (.bin .add (.t 63) (.s 1 93))<|.m 2 64<|.nil) [([],[]),([1],[]),([],[]),([],[]),([],[]),([],[]),([],[]),([],[]),([],[]),([],[]),([],[]),([],[]),([],[]),([],[]),([],[]),([],[])]) (.v [2])) (.q (.o 66 (.bin .eql (.t 10) (.p 256 5))<|.m 65 66<|.nil) (.cond (.t 65) (.seq (.drq (.o 67 (.faddr 1 (.t 1))<|.o 68 (.load false 1 (.t 67))<|.o 69 (.bin .add (.t 68) (.s 1 91))<|.m 70 3<|.o 71 (.iaddr 8 (.t 70) (.i 0))<|.o 72 (.load true 8 (.t 71))<|.o 73 (.call (.f 45) [.t 72])<|.o 74 (.bin .add (.t 69) (.t 73))<|.o 75 (.bin .add (.t 74) (.s 2 14891))<|.m 76 3<|.o 77 (.iaddr 8 (.t 76) (.i 1))<|.o 78 (.load true 8 (.t 77))<|.o 79 (.call (.f 45) [.t 78])<|.o 80 (.bin .add (.t 75) (.t 79))<|.o 81 (.bin .add (.t 80) (.s 1 93))<|.m 2 81<|.nil) [([],[]),([1],[]),([],[]),([],[]),([],[]),([],[]),([],[]),([],[]),([],[]),([],[]),([],[]),([],[]),([],[]),([],[]),([],[]),([],[])]) (.v [2])) (.q (.o 83 (.bin .eql (.t 10) (.p 256 6))<|.m 82 83<|.nil) (.cond (.t 82) (.q (.m 84 3<|.o 85 (.call (.f 80) [.t 84])<|.o 86 (.bin .add (.s 1 123) (.t 85))<|.o 87 (.bin .add (.t 86) (.s 1 125))<|.m 2 87<|.nil) (.v [2])) (.q (.o 89 (.bin .eql (.t 10) (.p 256 7))<|.m 88 89<|.nil) (.cond (.t 88) (.seq (.drq (.m 90 3<|.o 91 (.iaddr 8 (.t 90) (.i 0))<|.o 92 (.load true 8 (.t 91))<|.o 93 (.call (.f 45) [.t 92])<|.o 94 (.bin .add (.s 1 123) (.t 93))<|.o 95 (.bin .add (.t 94) (.s 1 123))<|.m 96 3<|.o 97 (.slc 8 (.t 96) (some (.i 1)) none none)<|.o 98 (.call (.f 80) [.t 97])<|.o 99 (.bin .add (.t 95) (.t 98))<|.o 100 (.bin .add (.t 99) (.s 2 32125))<|.m 2 100<|.nil) [([],[]),([],[]),([],[]),([],[]),([],[]),([],[]),([],[]),([],[]),([],[]),([],[]),([],[]),([],[])]) (.v [2])) (.q (.o 102 (.bin .eql (.t 10) (.p 256 8))<|.m 101 102<|.nil) (.cond (.t 101) (.seq (.drq (.o 103 (.faddr 1 (.t 1))<|.o 104 (.load false 1 (.t 103))<|.o 105 (.bin .add (.t 104) (.s 1 40))<|.m 106 3<|.o 107 (.call (.f 80) [.t 106])<|.o 108 (.bin .add (.t 105) (.t 107))<|.o 109 (.bin .add (.t 108) (.s 1 41))<|.m 2 109<|.nil) [([],[]),([1],[]),([],[]),([],[]),([],[]),([],[]),([],[]),([],[])]) (.v [2])) (.q (.o 111 (.bin .eql (.t 10) (.p 256 9))<|.m 110 111<|.nil) (.cond (.t 110) (.seq (.q (.m 112 3<|.o 113 (.len (.t 112))<|.e 114 (.bin .eql (.t 113) (.i 0))) (.cond (.t 114) (.q (.o 115 (.faddr 1 (.t 1))<|.o 116 (.load false 1 (.t 115))<|.m 2 116<|.nil) (.v [2])) .skip)) (.seq (.drq (.o 117 (.faddr 1 (.t 1))<|.o 118 (.load false 1 (.t 117))<|.o 119 (.bin .add (.t 118) (.s 1 40))<|.m 120 3<|.o 121 (.iaddr 8 (.t 120) (.i 0))<|.o 122 (.load true 8 (.t 121))<|.o 123 (.call (.f 45) [.t 122])<|.o 124 (.bin .add (.t 119) (.t 123))<|.o 125 (.bin .add (.t 124) (.s 1 41))<|.m 2 125<|.nil) [([],[]),([1],[]),([],[]),([],[]),([],[]),([],[]),([],[]),([],[]),([],[]),([],[])]) (.v [2]))) (.q (.o 127 (.bin .eql (.t 10) (.p 256 10))<|.m 126 127<|.nil) (.cond (.t 126) (.seq (.drq (.m 128 3<|.o 129 (.iaddr 8 (.t 128) (.i 0))<|.o 130 (.load true 8 (.t 129))<|.o 131 (.call (.f 45) [.t 130])<|.o 132 (.bin .add (.s 1 40) (.t 131))<|.o 133 (.bin .add (.t 132) (.s 3 2113312))<|.m 134 3<|.o 135 (.iaddr 8 (.t 134) (.i 1))<|.o 136 (.load true 8 (.t 135))<|.o 137 (.call (.f 45) [.t 136])<|.o 138 (.bin .add (.t 133) (.t 137))<|.o 139 (.bin .add (.t 138) (.s 3 2112032))<|.m 140 3<|.o 141 (.iaddr 8 (.t 140) (.i 2))<|.o 142 (.load true 8 (.t 141))<|.o 143 (.call (.f 45) [.t 142])<|.o 144 (.bin .add (.t 139) (.t 143))<|.o 145 (.bin .add (.t 144) (.s 1 41))<|.m 2 145<|.nil) [([],[]),([],[]),([],[]),([],[]),([],[]),([],[]),([],[]),([],[]),([],[]),([],[]),([],[]),([],[]),([],[]),([],[]),([],[]),([],[]),([],[]),([],[]),([],[])]) (.v [2])) .skip)))))))))))))))))))))) (.seq (.q (.o 146 (.faddr 0 (.t 1))<|.o 147 (.load false 1 (.t 146))<|.e 148 (.bin .leq (.t 147) (.p 256 20))) (.cond (.t 148) (.seq (.drq (.o 149 (.call (.f 33) [])<|.o 150 (.faddr 0 (.t 1))<|.o 151 (.load false 1 (.t 150))<|.o 152 (.bin .sub (.t 151) (.p 256 11))<|.o 153 (.iaddr 1 (.t 149) (.t 152))<|.o 154 (.load false 1 (.t 153))<|.o 155 (.bin .add (.s 1 40) (.t 154))<|.m 156 3<|.o 157 (.iaddr 8 (.t 156) (.i 0))<|.o 158 (.load true 8 (.t 157))<|.o 159 (.call (.f 45) [.t 158])<|.o 160 (.bin .add (.t 155) (.t 159))<|.o 161 (.bin .add (.t 160) (.s 1 41))<|.m 2 161<|.nil) [([],[]),([],[]),([1],[]),([],[]),([],[]),([],[]),([],[]),([],[]),([],[]),([],[]),([],[]),([],[]),([],[]),([],[])]) (.v [2])) .skip)) (.seq (.drq (.m 162 3<|.o 163 (.iaddr 8 (.t 162) (.i 0))<|.o 164 (.load true 8 (.t 163))<|.o 165 (.call (.f 45) [.t 164])<|.o 166 (.bin .add (.s 1 40) (.t 165))<|.o 167 (.bin .add (.t 166) (.s 1 32))<|.o 168 (.call (.f 21) [])<|.o 169 (.faddr 0 (.t 1))<|.o 170 (.load false 1 (.t 169))<|.o 171 (.bin .sub (.t 170) (.p 256 21))<|.o 172 (.iaddr 1 (.t 168) (.t 171))<|.o 173 (.load false 1 (.t 172))<|.o 174 (.bin .add (.t 167) (.t 173))<|.o 175 (.bin .add (.t 174) (.s 1 32))<|.m 176 3<|.o 177 (.iaddr 8 (.t 176) (.i 1))<|.o 178 (.load true 8 (.t 177))<|.o 179 (.call (.f 45) [.t 178])<|.o 180 (.bin .add (.t 175) (.t 179))<|.o 181 (.bin .add (.t 180) (.s 1 41))<|.m 2 181<|.nil) [([],[]),([],[]),([],[]),([],[]),([],[]),([],[]),([],[]),([],[]),([1],[]),([],[]),([],[]),([],[]),([],[]),([],[]),([],[]),([],[]),([],[]),([],[]),([],[]),([],[]),([],[])]) (.v [2])))))),[.tmp 2],true⟩
def K_ref08_list_b0 : KC := (.seq (.q (.m 5 4<|.m 6 0<|.o 7 (.len (.t 6))<|.e 8 (.bin .lss (.t 5) (.t 7))) (.cond (.t 8) .skip (.exit ⟨[],[3],[],false⟩ 0))) (.seq (.block 1 (.seq (.q (.m 11 4<|.e 12 (.bin .gtr (.t 11) (.i 0))) (.cond (.t 12) (.ops (.m 13 3<|.o 14 (.bin .add (.t 13) (.s 2 8236))<|.m 3 14<|.nil)) .skip)) (.ops (.m 15 3<|.m 16 0<|.m 17 4<|.o 18 (.iaddr 8 (.t 16) (.t 17))<|.o 19 (.load true 8 (.t 18))<|.o 20 (.call (.f 45) [.t 19])<|.o 21 (.bin .add (.t 15) (.t 20))<|.m 3 21<|.nil)))) (.ops (.m 9 4<|.o 10 (.bin .add (.t 9) (.i 1))<|.m 4 10<|.nil))))
@[reducible] def K_ref08_list_h0 : Head := ⟨[], [0, 3, 4], [], true⟩
def K_ref08_list : KF := ⟨23,(.q (.e 2 (.mv (.s 0 0))) (.q (.e 3 (.mv (.s 0 0))) (.seq (.q (.e 4 (.mv (.i 0))) (.block 0 (.loop K_ref08_list_h0 K_ref08_list_b0))) (.q (.m 22 3<|.m 2 22<|.nil) (.v [2]))))),[.tmp 2],true⟩
def K_ref08_Unary : KF := ⟨2,(.q (.e 0 (.mv .ns)) (.q (.o 1 (.bsl 9 1 [(.s 1 43),(.s 1 45),(.s 1 33),(.s 1 126),(.s 1 38),(.s 1 124),(.s 1 94),(.s 2 9854),(.s 2 31870),(.s 2 24190)])<|.m 0 1<|.nil) (.v [0]))),[.tmp 0],true⟩
def K_ref08_Binary : KF := ⟨2,(.q (.e 0 (.mv .ns)) (.q (.o 1 (.bsl 9 1 [(.s 1 43),(.s 1 45),(.s 1 42),(.s 1 47),(.s 1 37),(.s 2 10794),(.s 2 15677),(.s 2 15649),(.s 3 4013373),(.s 3 4013345),(.s 1 60),(.s 2 15676),(.s 1 62),(.s 2 15678),(.s 2 9766),(.s 2 31868),(.s 1 38),(.s 1 124),(.s 1 94),(.s 2 24190),(.s 2 15420),(.s 2 15934),(.s 3 3947580),(.s 3 4079166)])<|.m 0 1<|.nil) (.v [0]))),[.tmp 0],true⟩
def K_literal_group_b0 : KC := (.q (.e 10 (.bin .lss (.t 9) (.t 8))) (.seq (.cond (.t 10) .skip (.exit ⟨[],[0,3,4],[],false⟩ 0)) (.seq (.block 1 (.q (.m 11 9<|.o 12 (.iaddr 1 (.t 7) (.t 9))<|.o 13 (.load false 1 (.t 12))<|.m 5 11<|.m 6 13<|.nil) (.q (.m 14 6<|.o 15 (.iaddrA 4 1 (.t 3) (.t 14))<|.o 16 (.load false 1 (.t 15))<|.o 17 (.bin .add (.t 16) (.i 1))<|.o 18 (.iaddrA 4 1 (.t 3) (.t 14))<|.on (.store 1 (.t 18) (.t 17))<|.nil) (.q (.m 19 6<|.e 20 (.bin .eql (.t 19) (.p 256 1))) (.cond (.t 20) (.ops (.m 21 4<|.m 22 5<|.o 23 (.bin .shl (.i 1) (.t 22))<|.o 24 (.bin .or (.t 21) (.t 23))<|.m 4 24<|.nil)) .skip))))) (.ops (.o 25 (.bin .add (.t 9) (.i 1))<|.m 9 25<|.nil)))))
@[reducible] def K_literal_group_h0 : Head := ⟨[3], [0, 3, 4, 7, 8, 9], [], true⟩
def K_literal_group : KF := ⟨49,(.q (.e 2 (.mv (.p 256 0))) (.q (.e 3 (.alloc 205 [.p 9223372036854775808 0,.p 9223372036854775808 0,.p 9223372036854775808 0,.p 9223372036854775808 0])) (.q (.e 4 (.mv (.i 0))) (.seq (.q (.m 7 0<|.o 8 (.len (.t 7))<|.e 9 (.mv (.i 0))) (.block 0 (.loop K_literal_group_h0 K_literal_group_b0))) (.seq (.block 2 (.q (.o 27 (.iaddrA 4 1 (.t 3) (.p 256 2))<|.o 28 (.load false 1 (.t 27))<|.m 29 0<|.o 30 (.len (.t 29))<|.o 31 (.bin .eql (.t 28) (.t 30))<|.m 26 31<|.nil) (.cond (.t 26) (.q (.e 2 (.mv (.p 256 120))) (.v [2])) (.q (.o 33 (.iaddrA 4 1 (.t 3) (.p 256 3))<|.o 34 (.load false 1 (.t 33))<|.m 35 0<|.o 36 (.len (.t 35))<|.o 37 (.bin .eql (.t 34) (.t 36))<|.m 32 37<|.nil) (.cond (.t 32) (.q (.e 2 (.mv (.p 256 122))) (.v [2])) (.q (.o 39 (.iaddrA 4 1 (.t 3) (.p 256 2))<|.o 40 (.load false 1 (.t 39))<|.o 41 (.bin .gtr (.t 40) (.i 0))<|.m 38 41<|.nil) (.cond (.t 38) (.q (.e 2 (.mv (.p 256 88))) (.v [2])) (.q (.o 43 (.iaddrA 4 1 (.t 3) (.p 256 3))<|.o 44 (.load false 1 (.t 43))<|.o 45 (.bin .gtr (.t 44) (.i 0))<|.m 42 45<|.nil) (.cond (.t 42) (.q (.e 2 (.mv (.p 256 90))) (.v [2])) .skip))))))))) (.q (.m 46 4<|.o 47 (.bin .and (.t 46) (.i 15))<|.o 48 (.idxS (.s 16 136107713667768957684761770045455085872) (.t 47))<|.m 2 48<|.nil) (.v [2]))))))),[.tmp 2],true⟩
def K_literal_Digits_b0 : KC := (.q (.e 46 (.bin .lss (.t 45) (.t 44))) (.seq (.cond (.t 46) .skip (.exit ⟨[],[10],[],false⟩ 1)) (.seq (.block 2 (.q (.m 47 45<|.m 11 47<|.nil) (.ops (.m 48 10<|.m 49 9<|.o 50 (.bin .sub (.t 49) (.i 1))<|.m 51 11<|.o 52 (.bin .sub (.t 50) (.t 51))<|.o 53 (.faddr 0 (.t 2))<|.o 54 (.load false 1 (.t 53))<|.m 55 11<|.o 56 (.faddr 0 (.t 7))<|.o 57 (.load false 1 (.t 56))<|.o 58 (.bin .mul (.t 55) (.t 57))<|.o 59 (.faddr 0 (.t 2))<|.o 60 (.load false 1 (.t 59))<|.o 61 (.len (.t 60))<|.m 62 11<|.o 63 (.bin .add (.t 62) (.i 1))<|.o 64 (.faddr 0 (.t 7))<|.o 65 (.load false 1 (.t 64))<|.o 66 (.bin .mul (.t 63) (.t 65))<|.o 67 (.mm false (.t 61) (.t 66))<|.o 68 (.slc 1 (.t 54) (some (.t 58)) (some (.t 67)) none)<|.o 69 (.call (.f 186) [.t 68])<|.o 70 (.iaddr 1 (.t 48) (.t 52))<|.on (.store 1 (.t 70) (.t 69))<|.nil)))) (.ops (.o 71 (.bin .add (.t 45) (.i 1))<|.m 45 71<|.nil)))))
@[reducible] def K_literal_Digits_h0 : Head := ⟨[2, 7, 42, 14000, 14001, 14002, 14003, 20000, 20001, 20002, 20003, 31000, 31001, 31002, 31003], [2, 7, 9, 10, 44, 45], [], true⟩
def K_literal_Digits : KF := ⟨74,(.q (.o 2 (.box 25 (.t 0))<|.o 4 (.mv (.s 0 0))<|.e 5 (.mv (.i 0))) (.seq (.q (.o 12 (.load true 2 (.t 2))<|.o 13 (.call (.f 83) [.t 12])<|.m 6 13<|.nil) (.q (.m 14 6<|.e 15 (.bin .neq (.t 14) (.i 0))) (.cond (.t 15) (.q (.m 16 6<|.o 4 (.mv (.s 0 0))<|.m 5 16<|.nil) (.v [4,5])) .skip))) (.q (.m 18 1<|.o 19 (.call (.f 184) [.t 18])<|.m 17 19<|.o 20 (.ext (.t 17) 0)<|.o 21 (.ext (.t 17) 1)<|.o 7 (.alloc 179 [.p 9223372036854775808 0,.p 9223372036854775808 0])<|.on (.store 2 (.t 7) (.t 20))<|.m 8 21<|.nil) (.seq (.block 0 (.q (.m 23 8<|.o 24 (.not (.t 23))<|.m 22 24<|.nil) (.cond (.t 22) (.q (.o 4 (.mv (.s 0 0))<|.e 5 (.mv (.i 11))) (.v [4,5])) (.q (.o 26 (.faddr 0 (.t 7))<|.o 27 (.load false 1 (.t 26))<|.o 28 (.bin .eql (.t 27) (.i 0))<|.m 25 28<|.nil) (.cond (.t 25) (.q (.o 29 (.load true 2 (.t 2))<|.o 30 (.call (.f 185) [.t 29])<|.m 4 30<|.e 5 (.mv (.i 0))) (.v [4,5])) .skip))))) (.q (.o 31 (.faddr 0 (.t 2))<|.o 32 (.load false 1 (.t 31))<|.o 33 (.len (.t 32))<|.o 34 (.faddr 0 (.t 7))<|.o 35 (.load false 1 (.t 34))<|.o 36 (.bin .add (.t 33) (.t 35))<|.o 37 (.bin .sub (.t 36) (.i 1))<|.o 38 (.faddr 0 (.t 7))<|.o 39 (.load false 1 (.t 38))<|.o 40 (.bin .quo (.t 37) (.t 39))<|.m 9 40<|.nil) (.q (.m 41 9<|.o 42 (.mk 1 5 (.p 256 0) (.t 41) (.t 41))<|.m 10 42<|.nil) (.seq (.q (.m 43 10<|.o 44 (.len (.t 43))<|.e 45 (.mv (.i 0))) (.block 1 (.loop K_literal_Digits_h0 K_literal_Digits_b0))) (.q (.m 72 10<|.o 73 (.b2s (.t 72))<|.m 4 73<|.e 5 (.mv (.i 0))) (.v [4,5]))))))))),[.tmp 4,.tmp 5],true⟩
def K_literal_Format : KF := ⟨37,(.q (.o 2 (.box 25 (.t 0))<|.o 4 (.mv (.s 0 0))<|.e 5 (.mv (.i 0))) (.q (.o 10 (.load true 2 (.t 2))<|.m 11 1<|.o 12 (.call (.f 158) [.t 10,.t 11])<|.m 9 12<|.o 13 (.ext (.t 9) 0)<|.o 14 (.ext (.t 9) 1)<|.m 6 13<|.m 7 14<|.nil) (.seq (.block 0 (.q (.m 16 7<|.o 17 (.bin .neq (.t 16) (.i 0))<|.m 15 17<|.nil) (.cond (.t 15) (.q (.m 18 7<|.o 4 (.mv (.s 0 0))<|.m 5 18<|.nil) (.v [4,5])) (.q (.m 20 6<|.o 21 (.call (.f 159) [.t 20,(.s 3 2972248)])<|.m 19 21<|.nil) (.cond (.t 19) (.q (.o 4 (.mv (.s 0 0))<|.e 5 (.mv (.i 8))) (.v [4,5])) .skip))))) (.q (.o 22 (.faddr 0 (.t 2))<|.o 23 (.load false 1 (.t 22))<|.o 24 (.len (.t 23))<|.o 25 (.call (.f 160) [.t 24])<|.o 26 (.bin .add (.t 25) (.s 1 39))<|.m 8 26<|.nil) (.seq (.q (.o 27 (.faddr 1 (.t 2))<|.e 28 (.load false 1 (.t 27))) (.cond (.t 28) (.ops (.m 29 8<|.o 30 (.bin .add (.t 29) (.s 1 115))<|.m 8 30<|.nil)) .skip)) (.q (.m 31 8<|.m 32 1<|.o 33 (.i2s (.t 32))<|.o 34 (.bin .add (.t 31) (.t 33))<|.m 35 6<|.o 36 (.bin .add (.t 34) (.t 35))<|.m 4 36<|.e 5 (.mv (.i 0))) (.v [4,5]))))))),[.tmp 4,.tmp 5],true⟩
def K_ref04_Check_b0 : KC := (.seq (.q (.m 12 3<|.o 13 (.faddr 0 (.t 1))<|.o 14 (.load false 1 (.t 13))<|.o 15 (.len (.t 14))<|.e 16 (.bin .lss (.t 12) (.t 15))) (.cond (.t 16) .skip (.exit ⟨[],[],[],false⟩ 0))) (.seq (.block 1 (.q (.o 19 (.faddr 0 (.t 1))<|.o 20 (.load false 1 (.t 19))<|.m 21 3<|.o 22 (.iaddr 1 (.t 20) (.t 21))<|.o 23 (.load false 1 (.t 22))<|.e 24 (.bin .gtr (.t 23) (.p 256 3))) (.cond (.t 24) (.q (.e 2 (.mv (.i 1))) (.v [2])) .skip))) (.ops (.m 17 3<|.o 18 (.bin .add (.t 17) (.i 1))<|.m 3 18<|.nil))))
@[reducible] def K_ref04_Check_h0 : Head := ⟨[1], [1, 3], [], true⟩
def K_ref04_Check : KF := ⟨25,(.q (.o 1 (.box 25 (.t 0))<|.e 2 (.mv (.i 0))) (.seq (.q (.o 4 (.faddr 0 (.t 1))<|.o 5 (.load false 1 (.t 4))<|.o 6 (.len (.t 5))<|.e 7 (.bin .eql (.t 6) (.i 0))) (.cond (.t 7) (.q (.e 2 (.mv (.i 4))) (.v [2])) .skip)) (.seq (.q (.o 8 (.faddr 0 (.t 1))<|.o 9 (.load false 1 (.t 8))<|.o 10 (.len (.t 9))<|.e 11 (.bin .gtr (.t 10) (.i 128))) (.cond (.t 11) (.q (.e 2 (.mv (.i 5))) (.v [2])) .skip)) (.seq (.q (.e 3 (.mv (.i 0))) (.block 0 (.loop K_ref04_Check_h0 K_ref04_Check_b0))) (.q (.e 2 (.mv (.i 0))) (.v [2])))))),[.tmp 2],true⟩
def K_ref05_group_b0 : KC := (.seq (.q (.m 10 6<|.e 11 (.bin .geq (.t 10) (.i 0))) (.cond (.t 11) .skip (.exit ⟨[],[0,3,4,5],[],false⟩ 0))) (.seq (.block 1 (.q (.m 14 5<|.o 15 (.bin .mul (.i 2) (.t 14))<|.m 5 15<|.nil) (.q (.m 16 0<|.m 17 6<|.o 18 (.iaddr 1 (.t 16) (.t 17))<|.e 19 (.load false 1 (.t 18))) (.block 2 (.q (.o 21 (.bin .eql (.t 19) (.p 256 1))<|.m 20 21<|.nil) (.cond (.t 20) (.ops (.m 22 5<|.o 23 (.bin .add (.t 22) (.i 1))<|.m 5 23<|.nil)) (.q (.o 25 (.bin .eql (.t 19) (.p 256 2))<|.m 24 25<|.nil) (.cond (.t 24) (.ops (.m 26 3<|.o 27 (.bin .add (.t 26) (.i 1))<|.m 3 27<|.nil)) (.q (.o 29 (.bin .eql (.t 19) (.p 256 3))<|.m 28 29<|.nil) (.cond (.t 28) (.ops (.m 30 4<|.o 31 (.bin .add (.t 30) (.i 1))<|.m 4 31<|.nil)) .skip)))))))))) (.ops (.m 12 6<|.o 13 (.bin .sub (.t 12) (.i 1))<|.m 6 13<|.nil))))
@[reducible] def K_ref05_group_h0 : Head := ⟨[], [0, 3, 4, 5, 6], [], true⟩
def K_ref05_group : KF := ⟨50,(.q (.e 2 (.mv (.p 256 0))) (.q (.o 3 (.mv (.i 0))<|.o 4 (.mv (.i 0))<|.e 5 (.mv (.i 0))) (.seq (.q (.m 7 0<|.o 8 (.len (.t 7))<|.o 9 (.bin .sub (.t 8) (.i 1))<|.m 6 9<|.nil) (.block 0 (.loop K_ref05_group_h0 K_ref05_group_b0))) (.seq (.block 3 (.q (.m 33 3<|.m 34 0<|.o 35 (.len (.t 34))<|.o 36 (.bin .eql (.t 33) (.t 35))<|.m 32 36<|.nil) (.cond (.t 32) (.q (.e 2 (.mv (.p 256 120))) (.v [2])) (.q (.m 38 4<|.m 39 0<|.o 40 (.len (.t 39))<|.o 41 (.bin .eql (.t 38) (.t 40))<|.m 37 41<|.nil) (.cond (.t 37) (.q (.e 2 (.mv (.p 256 122))) (.v [2])) (.q (.m 43 3<|.o 44 (.bin .gtr (.t 43) (.i 0))<|.m 42 44<|.nil) (.cond (.t 42) (.q (.e 2 (.mv (.p 256 88))) (.v [2])) (.q (.m 46 4<|.o 47 (.bin .gtr (.t 46) (.i 0))<|.m 45 47<|.nil) (.cond (.t 45) (.q (.e 2 (.mv (.p 256 90))) (.v [2])) .skip))))))))) (.q (.m 48 5<|.o 49 (.idxS (.s 16 136107713667768957684761770045455085872) (.t 48))<|.m 2 49<|.nil) (.v [2])))))),[.tmp 2],true⟩
def K_ref05_Digits_b0 : KC := (.seq (.q (.m 44 10<|.o 45 (.faddr 0 (.t 2))<|.o 46 (.load false 1 (.t 45))<|.o 47 (.len (.t 46))<|.e 48 (.bin .lss (.t 44) (.t 47))) (.cond (.t 48) .skip (.exit ⟨[],[9],[],false⟩ 0))) (.seq (.block 1 (.ops (.o 52 (.faddr 0 (.t 2))<|.o 53 (.load false 1 (.t 52))<|.m 54 10<|.o 55 (.faddr 0 (.t 2))<|.o 56 (.load false 1 (.t 55))<|.o 57 (.len (.t 56))<|.m 58 10<|.m 59 7<|.o 60 (.bin .add (.t 58) (.t 59))<|.o 61 (.mm false (.t 57) (.t 60))<|.o 62 (.slc 1 (.t 53) (some (.t 54)) (some (.t 61)) none)<|.o 63 (.call (.f 164) [.t 62])<|.o 64 (.bsl 5 1 [.t 63])<|.o 65 (.b2s (.t 64))<|.m 66 9<|.o 67 (.bin .add (.t 65) (.t 66))<|.m 9 67<|.nil))) (.ops (.m 49 10<|.m 50 7<|.o 51 (.bin .add (.t 49) (.t 50))<|.m 10 51<|.nil))))
@[reducible] def K_ref05_Digits_h0 : Head := ⟨[2, 30, 13000, 13001, 13002, 13003, 18000, 18001, 18002, 18003, 24000, 24001, 24002, 24003, 26000, 26001, 26002, 26003, 30000, 30001, 30002, 30003, 37000, 37001, 37002, 37003, 40000, 40001, 40002, 40003, 41000, 41001, 41002, 41003, 44000, 44001, 44002, 44003], [2, 7, 9, 10], [], true⟩
def K_ref05_Digits : KF := ⟨69,(.q (.o 2 (.box 25 (.t 0))<|.o 4 (.mv (.s 0 0))<|.e 5 (.mv (.i 0))) (.q (.o 11 (.load true 2 (.t 2))<|.o 12 (.call (.f 107) [.t 11])<|.m 6 12<|.nil) (.seq (.q (.m 13 6<|.e 14 (.bin .neq (.t 13) (.i 0))) (.cond (.t 14) (.q (.m 15 6<|.o 4 (.mv (.s 0 0))<|.m 5 15<|.nil) (.v [4,5])) .skip)) (.q (.m 16 1<|.o 17 (.call (.f 161) [.t 16])<|.m 7 17<|.nil) (.seq (.q (.m 18 7<|.e 19 (.bin .lss (.t 18) (.i 0))) (.cond (.t 19) (.q (.o 4 (.mv (.s 0 0))<|.e 5 (.mv (.i 11))) (.v [4,5])) .skip)) (.seq (.q (.m 20 7<|.e 21 (.bin .eql (.t 20) (.i 0))) (.cond (.t 21) (.q (.o 22 (.load true 2 (.t 2))<|.o 23 (.call (.f 162) [.t 22])<|.m 8 23<|.nil) (.seq (.q (.o 24 (.load true 2 (.t 2))<|.o 25 (.call (.f 163) [.t 24])<|.e 26 (.not (.t 25))) (.cond (.t 26) (.q (.o 27 (.faddr 0 (.t 2))<|.o 28 (.load false 1 (.t 27))<|.o 29 (.call (.f 164) [.t 28])<|.o 30 (.bsl 5 1 [.t 29])<|.o 31 (.b2s (.t 30))<|.m 4 31<|.e 5 (.mv (.i 0))) (.v [4,5])) .skip)) (.seq (.q (.o 32 (.faddr 1 (.t 2))<|.o 33 (.load false 1 (.t 32))<|.m 34 33<|.og 35 34 true (.mv (.t 8))<|.og 36 34 true (.call (.f 165) [.t 35])<|.e 37 (.pick (.t 34) (.t 36) (.b false))) (.cond (.t 37) (.q (.m 38 8<|.o 39 (.call (.f 166) [.t 38])<|.o 40 (.call (.f 141) [.t 39])<|.o 41 (.bin .add (.s 1 45) (.t 40))<|.m 4 41<|.e 5 (.mv (.i 0))) (.v [4,5])) .skip)) (.q (.m 42 8<|.o 43 (.call (.f 141) [.t 42])<|.m 4 43<|.e 5 (.mv (.i 0))) (.v [4,5]))))) .skip)) (.q (.e 9 (.mv (.s 0 0))) (.seq (.q (.e 10 (.mv (.i 0))) (.block 0 (.loop K_ref05_Digits_h0 K_ref05_Digits_b0))) (.q (.m 68 9<|.m 4 68<|.e 5 (.mv (.i 0))) (.v [4,5])))))))))),[.tmp 4,.tmp 5],true⟩
def K_ref05_Format_b0 : KC := (.seq (.q (.m 21 8<|.m 22 6<|.o 23 (.lenS (.t 22))<|.e 24 (.bin .lss (.t 21) (.t 23))) (.cond (.t 24) .skip (.exit ⟨[],[1,2,6],[],false⟩ 0))) (.seq (.block 1 (.q (.m 27 6<|.m 28 8<|.o 29 (.idxS (.t 27) (.t 28))<|.o 30 (.bin .eql (.t 29) (.p 256 88))<|.m 31 30<|.og 32 31 false (.mv (.t 6))<|.og 33 31 false (.mv (.t 8))<|.og 34 31 false (.idxS (.t 32) (.t 33))<|.og 35 31 false (.bin .eql (.t 34) (.p 256 90))<|.o 36 (.pick (.t 31) (.b true) (.t 35))<|.m 37 36<|.og 38 37 false (.mv (.t 6))<|.og 39 37 false (.mv (.t 8))<|.og 40 37 false (.idxS (.t 38) (.t 39))<|.og 41 37 false (.bin .eql (.t 40) (.p 256 45))<|.e 42 (.pick (.t 37) (.b true) (.t 41))) (.cond (.t 42) (.q (.o 4 (.mv (.s 0 0))<|.e 5 (.mv (.i 8))) (.v [4,5])) .skip))) (.ops (.m 25 8<|.o 26 (.bin .add (.t 25) (.i 1))<|.m 8 26<|.nil))))
@[reducible] def K_ref05_Format_h0 : Head := ⟨[2, 59, 16000, 16001, 16002, 16003, 48000, 48001, 48002, 48003, 52000, 52001, 52002, 52003], [1, 2, 6, 8], [], true⟩
def K_ref05_Format : KF := ⟨64,(.q (.o 2 (.box 25 (.t 0))<|.o 4 (.mv (.s 0 0))<|.e 5 (.mv (.i 0))) (.q (.o 13 (.load true 2 (.t 2))<|.m 14 1<|.o 15 (.call (.f 139) [.t 13,.t 14])<|.m 12 15<|.o 16 (.ext (.t 12) 0)<|.o 17 (.ext (.t 12) 1)<|.m 6 16<|.m 7 17<|.nil) (.seq (.q (.m 18 7<|.e 19 (.bin .neq (.t 18) (.i 0))) (.cond (.t 19) (.q (.m 20 7<|.o 4 (.mv (.s 0 0))<|.m 5 20<|.nil) (.v [4,5])) .skip)) (.seq (.q (.e 8 (.mv (.i 0))) (.block 0 (.loop K_ref05_Format_h0 K_ref05_Format_b0))) (.q (.o 44 (.faddr 0 (.t 2))<|.o 45 (.load false 1 (.t 44))<|.o 46 (.len (.t 45))<|.o 47 (.call (.f 140) [.t 46,(.i 12)])<|.m 43 47<|.o 48 (.ext (.t 43) 0)<|.o 49 (.ext (.t 43) 1)<|.m 9 48<|.m 10 49<|.nil) (.q (.m 50 9<|.o 51 (.call (.f 141) [.t 50])<|.o 52 (.bin .add (.t 51) (.s 1 39))<|.m 11 52<|.nil) (.seq (.q (.o 53 (.faddr 1 (.t 2))<|.e 54 (.load false 1 (.t 53))) (.cond (.t 54) (.ops (.m 55 11<|.o 56 (.bin .add (.t 55) (.s 1 115))<|.m 11 56<|.nil)) .skip)) (.q (.m 57 11<|.m 58 1<|.o 59 (.bsl 5 1 [.t 58])<|.o 60 (.b2s (.t 59))<|.o 61 (.bin .add (.t 57) (.t 60))<|.m 62 6<|.o 63 (.bin .add (.t 61) (.t 62))<|.m 4 63<|.e 5 (.mv (.i 0))) (.v [4,5]))))))))),[.tmp 4,.tmp 5],true⟩
def K_ref05_Decimal_b0 : KC := (.block 1 (.q (.o 10 (.bsl 4 1 [])<|.m 11 0<|.o 12 (.app 4 1 (.t 10) (.t 11))<|.o 13 (.bsl 4 1 [(.b false),(.b false),(.b false),(.b false)])<|.o 14 (.app 4 1 (.t 12) (.t 13))<|.o 15 (.bsl 4 1 [(.b false),(.b true),(.b false),(.b true)])<|.o 16 (.call (.f 167) [.t 14,.t 15])<|.m 9 16<|.o 17 (.ext (.t 9) 0)<|.o 18 (.ext (.t 9) 1)<|.o 19 (.ext (.t 9) 2)<|.m 4 17<|.m 5 18<|.m 6 19<|.nil) (.q (.m 21 5<|.o 22 (.call (.f 168) [.t 21])<|.m 20 22<|.o 23 (.ext (.t 20) 0)<|.o 24 (.ext (.t 20) 1)<|.m 7 23<|.m 8 24<|.nil) (.q (.m 25 7<|.o 26 (.bin .add (.p 18446744073709551616 48) (.t 25))<|.o 27 (.cv 256 (.t 26))<|.o 28 (.bsl 5 1 [.t 27])<|.o 29 (.b2s (.t 28))<|.m 30 3<|.o 31 (.bin .add (.t 29) (.t 30))<|.m 3 31<|.nil) (.q (.m 32 4<|.o 33 (.call (.f 169) [.t 32])<|.m 0 33<|.nil) (.q (.m 34 0<|.o 35 (.len (.t 34))<|.e 36 (.bin .eql (.t 35) (.i 0))) (.cond (.t 36) (.q (.m 37 3<|.m 2 37<|.nil) (.v [2])) .skip)))))))
@[reducible] def K_ref05_Decimal_h0 : Head := ⟨[12, 14], [0, 3], [], true⟩
def K_ref05_Decimal : KF := ⟨38,(.q (.e 2 (.mv (.s 0 0))) (.q (.e 3 (.mv (.s 0 0))) (.block 0 (.loop K_ref05_Decimal_h0 K_ref05_Decimal_b0)))),[.tmp 2],true⟩
def K_ref03_DivMod : KF := ⟨27,(.q (.o 4 (.mv .ns)<|.o 5 (.mv .ns)<|.e 6 (.mv (.i 0))) (.seq (.q (.m 9 1<|.o 10 (.call (.f 169) [.t 9])<|.o 11 (.len (.t 10))<|.e 12 (.bin .eql (.t 11) (.i 0))) (.cond (.t 12) (.q (.o 4 (.mv .ns)<|.o 5 (.mv .ns)<|.e 6 (.mv (.i 7))) (.v [4,5,6])) .skip)) (.q (.m 14 0<|.m 15 1<|.o 16 (.call (.f 193) [.t 14,.t 15])<|.m 13 16<|.o 17 (.ext (.t 13) 0)<|.o 18 (.ext (.t 13) 1)<|.m 7 17<|.m 8 18<|.nil) (.q (.m 19 7<|.m 20 0<|.o 21 (.len (.t 20))<|.o 22 (.call (.f 194) [.t 19,.t 21])<|.m 23 8<|.m 24 0<|.o 25 (.len (.t 24))<|.o 26 (.call (.f 194) [.t 23,.t 25])<|.m 4 22<|.m 5 26<|.e 6 (.mv (.i 0))) (.v [4,5,6]))))),[.tmp 4,.tmp 5,.tmp 6],true⟩
def K_ref03_Trim_b0 : KC := (.seq (.q (.m 6 3<|.o 7 (.bin .gtr (.t 6) (.i 0))<|.m 8 7<|.og 9 8 true (.mv (.t 0))<|.og 10 8 true (.mv (.t 3))<|.og 11 8 true (.bin .sub (.t 10) (.i 1))<|.og 12 8 true (.iaddr 1 (.t 9) (.t 11))<|.og 13 8 true (.load false 1 (.t 12))<|.og 14 8 true (.not (.t 13))<|.e 15 (.pick (.t 8) (.t 14) (.b false))) (.cond (.t 15) .skip (.exit ⟨[],[0,3],[],false⟩ 0))) (.block 1 (.ops (.m 16 3<|.o 17 (.bin .sub (.t 16) (.i 1))<|.m 3 17<|.nil))))
@[reducible] def K_ref03_Trim_h0 : Head := ⟨[18, 22], [0, 3], [], true⟩
def K_ref03_Trim : KF := ⟨23,(.q (.e 2 (.mv .ns)) (.q (.m 4 0<|.o 5 (.len (.t 4))<|.m 3 5<|.nil) (.seq (.block 0 (.loop K_ref03_Trim_h0 K_ref03_Trim_b0)) (.q (.o 18 (.bsl 4 1 [])<|.m 19 0<|.m 20 3<|.o 21 (.slc 1 (.t 19) none (some (.t 20)) none)<|.o 22 (.app 4 1 (.t 18) (.t 21))<|.m 2 22<|.nil) (.v [2]))))),[.tmp 2],true⟩
def K_ref03_divide_b0 : KC := (.seq (.q (.m 15 8<|.e 16 (.bin .geq (.t 15) (.i 0))) (.cond (.t 16) .skip (.exit ⟨[],[6,7],[],false⟩ 0))) (.seq (.block 1 (.q (.m 19 0<|.m 20 8<|.o 21 (.iaddr 1 (.t 19) (.t 20))<|.o 22 (.load false 1 (.t 21))<|.o 23 (.bsl 4 1 [.t 22])<|.m 24 7<|.o 25 (.app 4 1 (.t 23) (.t 24))<|.m 7 25<|.nil) (.q (.m 26 7<|.m 27 1<|.o 28 (.call (.f 225) [.t 26,.t 27])<|.e 29 (.not (.t 28))) (.cond (.t 29) (.q (.m 30 7<|.m 31 1<|.o 32 (.call (.f 191) [.t 30,.t 31])<|.m 7 32<|.nil) (.ops (.m 33 6<|.m 34 8<|.o 35 (.iaddr 1 (.t 33) (.t 34))<|.on (.store 1 (.t 35) (.b true))<|.nil))) .skip)))) (.ops (.m 17 8<|.o 18 (.bin .sub (.t 17) (.i 1))<|.m 8 18<|.nil))))
@[reducible] def K_ref03_divide_h0 : Head := ⟨[11], [0, 1, 6, 7, 8], [7], true⟩
def K_ref03_divide : KF := ⟨38,(.q (.o 4 (.mv .ns)<|.e 5 (.mv .ns)) (.q (.m 9 0<|.o 10 (.len (.t 9))<|.o 11 (.mk 1 4 (.b false) (.t 10) (.t 10))<|.m 6 11<|.nil) (.q (.e 7 (.mv .ns)) (.seq (.q (.m 12 0<|.o 13 (.len (.t 12))<|.o 14 (.bin .sub (.t 13) (.i 1))<|.m 8 14<|.nil) (.block 0 (.loop K_ref03_divide_h0 K_ref03_divide_b0))) (.q (.m 36 6<|.m 37 7<|.m 4 36<|.m 5 37<|.nil) (.v [4,5])))))),[.tmp 4,.tmp 5],true⟩
def K_ref03_less : KF := ⟨9,(.q (.e 4 (.mv (.b false))) (.q (.m 5 0<|.m 6 1<|.o 7 (.call (.f 251) [.t 5,.t 6])<|.o 8 (.bin .lss (.t 7) (.i 0))<|.m 4 8<|.nil) (.v [4]))),[.tmp 4],true⟩
def K_ref03_Cmp_b0 : KC := (.seq (.q (.m 23 5<|.e 24 (.bin .geq (.t 23) (.i 0))) (.cond (.t 24) .skip (.exit ⟨[],[],[],false⟩ 0))) (.seq (.block 1 (.seq (.drq (.m 27 0<|.m 28 5<|.o 29 (.iaddr 1 (.t 27) (.t 28))<|.o 30 (.load false 1 (.t 29))<|.m 31 1<|.m 32 5<|.o 33 (.iaddr 1 (.t 31) (.t 32))<|.o 34 (.load false 1 (.t 33))<|.e 35 (.beq true (.t 30) (.t 34))) [([],[]),([],[]),([],[]),([],[]),([],[]),([],[]),([],[]),([],[]),([],[])]) (.cond (.t 35) (.seq (.q (.m 36 1<|.m 37 5<|.o 38 (.iaddr 1 (.t 36) (.t 37))<|.e 39 (.load false 1 (.t 38))) (.cond (.t 39) (.q (.e 4 (.mv (.m 9223372036854775808 0))) (.v [4])) .skip)) (.q (.e 4 (.mv (.i 1))) (.v [4]))) .skip))) (.ops (.m 25 5<|.o 26 (.bin .sub (.t 25) (.i 1))<|.m 5 26<|.nil))))
@[reducible] def K_ref03_Cmp_h0 : Head := ⟨[8000, 8001, 8002, 8003, 10000, 10001, 10002, 10003], [0, 1, 5], [], true⟩
def K_ref03_Cmp : KF := ⟨40,(.q (.e 4 (.mv (.i 0))) (.q (.m 6 0<|.o 7 (.call (.f 169) [.t 6])<|.m 8 1<|.o 9 (.call (.f 169) [.t 8])<|.m 0 7<|.m 1 9<|.nil) (.seq (.q (.m 10 0<|.o 11 (.len (.t 10))<|.m 12 1<|.o 13 (.len (.t 12))<|.e 14 (.bin .neq (.t 11) (.t 13))) (.cond (.t 14) (.seq (.q (.m 15 0<|.o 16 (.len (.t 15))<|.m 17 1<|.o 18 (.len (.t 17))<|.e 19 (.bin .lss (.t 16) (.t 18))) (.cond (.t 19) (.q (.e 4 (.mv (.m 9223372036854775808 0))) (.v [4])) .skip)) (.q (.e 4 (.mv (.i 1))) (.v [4]))) .skip)) (.seq (.q (.m 20 0<|.o 21 (.len (.t 20))<|.o 22 (.bin .sub (.t 21) (.i 1))<|.m 5 22<|.nil) (.block 0 (.loop K_ref03_Cmp_h0 K_ref03_Cmp_b0))) (.q (.e 4 (.mv (.i 0))) (.v [4])))))),[.tmp 4],true⟩
def K_ref03_minus_b0 : KC := (.seq (.q (.m 9 7<|.m 10 0<|.o 11 (.len (.t 10))<|.e 12 (.bin .lss (.t 9) (.t 11))) (.cond (.t 12) .skip (.exit ⟨[],[5],[],false⟩ 0))) (.seq (.block 1 (.q (.m 15 6<|.o 16 (.neg (.t 15))<|.m 8 16<|.nil) (.seq (.q (.m 17 0<|.m 18 7<|.o 19 (.iaddr 1 (.t 17) (.t 18))<|.e 20 (.load false 1 (.t 19))) (.cond (.t 20) (.ops (.m 21 8<|.o 22 (.bin .add (.t 21) (.i 1))<|.m 8 22<|.nil)) .skip)) (.seq (.q (.m 23 1<|.m 24 7<|.e 25 (.call (.f 224) [.t 23,.t 24])) (.cond (.t 25) (.ops (.m 26 8<|.o 27 (.bin .sub (.t 26) (.i 1))<|.m 8 27<|.nil)) .skip)) (.q (.e 6 (.mv (.i 0))) (.seq (.q (.m 28 8<|.e 29 (.bin .lss (.t 28) (.i 0))) (.cond (.t 29) (.q (.m 30 8<|.o 31 (.bin .add (.t 30) (.i 2))<|.m 8 31<|.nil) (.ops (.e 6 (.mv (.i 1))))) .skip)) (.ops (.m 32 5<|.m 33 8<|.o 34 (.bin .eql (.t 33) (.i 1))<|.o 35 (.bsl 4 1 [.t 34])<|.o 36 (.app 4 1 (.t 32) (.t 35))<|.m 5 36<|.nil)))))))) (.ops (.m 13 7<|.o 14 (.bin .add (.t 13) (.i 1))<|.m 7 14<|.nil))))
@[reducible] def K_ref03_minus_h0 : Head := ⟨[36], [0, 1, 5, 6, 7], [], true⟩
def K_ref03_minus : KF := ⟨38,(.q (.e 4 (.mv .ns)) (.q (.e 5 (.mv .ns)) (.q (.e 6 (.mv (.i 0))) (.seq (.q (.e 7 (.mv (.i 0))) (.block 0 (.loop K_ref03_minus_h0 K_ref03_minus_b0))) (.q (.m 37 5<|.m 4 37<|.nil) (.v [4])))))),[.tmp 4],true⟩
def K_ref03_Uint_b0 : KC := (.seq (.q (.m 11 5<|.e 12 (.bin .geq (.t 11) (.i 0))) (.cond (.t 12) .skip (.exit ⟨[],[0,4],[],false⟩ 0))) (.seq (.block 1 (.q (.m 15 4<|.o 16 (.bin .mul (.t 15) (.p 18446744073709551616 2))<|.m 4 16<|.nil) (.q (.m 17 0<|.m 18 5<|.o 19 (.iaddr 1 (.t 17) (.t 18))<|.e 20 (.load false 1 (.t 19))) (.cond (.t 20) (.ops (.m 21 4<|.o 22 (.bin .add (.t 21) (.p 18446744073709551616 1))<|.m 4 22<|.nil)) .skip)))) (.ops (.m 13 5<|.o 14 (.bin .sub (.t 13) (.i 1))<|.m 5 14<|.nil))))
@[reducible] def K_ref03_Uint_h0 : Head := ⟨[8000, 8001, 8002, 8003], [0, 4, 5], [], true⟩
def K_ref03_Uint : KF := ⟨27,(.q (.o 2 (.mv (.p 18446744073709551616 0))<|.e 3 (.mv (.b false))) (.q (.m 6 0<|.o 7 (.call (.f 169) [.t 6])<|.m 0 7<|.nil) (.q (.e 4 (.mv (.p 18446744073709551616 0))) (.seq (.q (.m 8 0<|.o 9 (.len (.t 8))<|.o 10 (.bin .sub (.t 9) (.i 1))<|.m 5 10<|.nil) (.block 0 (.loop K_ref03_Uint_h0 K_ref03_Uint_b0))) (.seq (.q (.m 23 0<|.o 24 (.len (.t 23))<|.e 25 (.bin .gtr (.t 24) (.i 64))) (.cond (.t 25) (.q (.o 2 (.mv (.p 18446744073709551616 0))<|.e 3 (.mv (.b false))) (.v [2,3])) .skip)) (.q (.m 26 4<|.m 2 26<|.e 3 (.mv (.b true))) (.v [2,3]))))))),[.tmp 2,.tmp 3],true⟩
def K_ref03_Fit_b0 : KC := (.seq (.q (.m 7 6<|.m 8 1<|.e 9 (.bin .lss (.t 7) (.t 8))) (.cond (.t 9) .skip (.exit ⟨[],[5],[],false⟩ 0))) (.seq (.block 1 (.ops (.m 12 5<|.m 13 0<|.m 14 6<|.o 15 (.call (.f 224) [.t 13,.t 14])<|.o 16 (.bsl 4 1 [.t 15])<|.o 17 (.app 4 1 (.t 12) (.t 16))<|.m 5 17<|.nil))) (.ops (.m 10 6<|.o 11 (.bin .add (.t 10) (.i 1))<|.m 6 11<|.nil))))
@[reducible] def K_ref03_Fit_h0 : Head := ⟨[17], [0, 1, 5, 6], [], true⟩
def K_ref03_Fit : KF := ⟨19,(.q (.e 4 (.mv .ns)) (.q (.e 5 (.mv .ns)) (.seq (.q (.e 6 (.mv (.i 0))) (.block 0 (.loop K_ref03_Fit_h0 K_ref03_Fit_b0))) (.q (.m 18 5<|.m 4 18<|.nil) (.v [4]))))),[.tmp 4],true⟩
def K_ref03_FromInt_b0 : KC := (.seq (.q (.m 14 7<|.m 15 1<|.e 16 (.bin .lss (.t 14) (.t 15))) (.cond (.t 16) .skip (.exit ⟨[],[6],[],false⟩ 0))) (.seq (.block 1 (.q (.m 19 6<|.m 20 0<|.o 21 (.bin .and (.t 20) (.i 1))<|.o 22 (.bin .eql (.t 21) (.i 1))<|.o 23 (.bsl 4 1 [.t 22])<|.o 24 (.app 4 1 (.t 19) (.t 23))<|.m 6 24<|.nil) (.ops (.m 25 0<|.o 26 (.bin .shr (.t 25) (.p 18446744073709551616 1))<|.m 0 26<|.nil)))) (.ops (.m 17 7<|.o 18 (.bin .add (.t 17) (.i 1))<|.m 7 18<|.nil))))
@[reducible] def K_ref03_FromInt_h0 : Head := ⟨[24], [0, 1, 6, 7], [], true⟩
def K_ref03_FromInt : KF := ⟨28,(.q (.o 4 (.mv .ns)<|.e 5 (.mv (.i 0))) (.seq (.q (.m 8 1<|.o 9 (.bin .lss (.t 8) (.i 0))<|.m 10 9<|.og 11 10 false (.mv (.t 1))<|.og 12 10 false (.bin .gtr (.t 11) (.i 128))<|.e 13 (.pick (.t 10) (.b true) (.t 12))) (.cond (.t 13) (.q (.o 4 (.mv .ns)<|.e 5 (.mv (.i 1))) (.v [4,5])) .skip)) (.q (.e 6 (.mv .ns)) (.seq (.q (.e 7 (.mv (.i 0))) (.block 0 (.loop K_ref03_FromInt_h0 K_ref03_FromInt_b0))) (.q (.m 27 6<|.m 4 27<|.e 5 (.mv (.i 0))) (.v [4,5])))))),[.tmp 4,.tmp 5],true⟩
def K_ref03_At : KF := ⟨19,(.q (.e 4 (.mv (.b false))) (.q (.m 5 1<|.o 6 (.bin .geq (.t 5) (.i 0))<|.m 7 6<|.og 8 7 true (.mv (.t 1))<|.og 9 7 true (.mv (.t 0))<|.og 10 7 true (.len (.t 9))<|.og 11 7 true (.bin .lss (.t 8) (.t 10))<|.o 12 (.pick (.t 7) (.t 11) (.b false))<|.m 13 12<|.og 14 13 true (.mv (.t 0))<|.og 15 13 true (.mv (.t 1))<|.og 16 13 true (.iaddr 1 (.t 14) (.t 15))<|.og 17 13 true (.load false 1 (.t 16))<|.o 18 (.pick (.t 13) (.t 17) (.b false))<|.m 4 18<|.nil) (.v [4]))),[.tmp 4],true⟩
def K_ref07_plain_b0 : KC := (.seq (.q (.m 14 4<|.e 15 (.bin .geq (.t 14) (.i 0))) (.cond (.t 15) .skip (.exit ⟨[],[3],[],false⟩ 0))) (.seq (.block 1 (.seq (.q (.o 18 (.faddr 0 (.t 1))<|.o 19 (.load false 1 (.t 18))<|.m 20 4<|.o 21 (.iaddr 1 (.t 19) (.t 20))<|.o 22 (.load false 1 (.t 21))<|.o 23 (.bin .gtr (.t 22) (.p 256 1))<|.m 24 23<|.og 25 24 false (.mv (.t 4))<|.og 26 24 false (.bin .eql (.t 25) (.i 31))<|.og 27 24 false (.mv (.t 26))<|.og 28 27 true (.faddr 0 (.t 1))<|.og 29 27 true (.load false 1 (.t 28))<|.og 30 27 true (.mv (.t 4))<|.og 31 27 true (.iaddr 1 (.t 29) (.t 30))<|.og 32 27 true (.load false 1 (.t 31))<|.og 33 27 true (.bin .eql (.t 32) (.p 256 1))<|.og 34 24 false (.pick (.t 27) (.t 33) (.b false))<|.e 35 (.pick (.t 24) (.b true) (.t 34))) (.cond (.t 35) (.q (.e 2 (.mv (.m 9223372036854775808 0))) (.v [2])) .skip)) (.ops (.m 36 3<|.o 37 (.bin .mul (.i 2) (.t 36))<|.o 38 (.faddr 0 (.t 1))<|.o 39 (.load false 1 (.t 38))<|.m 40 4<|.o 41 (.iaddr 1 (.t 39) (.t 40))<|.o 42 (.load false 1 (.t 41))<|.o 43 (.cv 9223372036854775808 (.t 42))<|.o 44 (.bin .add (.t 37) (.t 43))<|.m 3 44<|.nil)))) (.ops (.m 16 4<|.o 17 (.bin .sub (.t 16) (.i 1))<|.m 4 17<|.nil))))
@[reducible] def K_ref07_plain_h0 : Head := ⟨[1], [1, 3, 4], [], true⟩
def K_ref07_plain : KF := ⟨46,(.q (.o 1 (.box 25 (.t 0))<|.e 2 (.mv (.i 0))) (.seq (.q (.o 5 (.faddr 0 (.t 1))<|.o 6 (.load false 1 (.t 5))<|.o 7 (.len (.t 6))<|.o 8 (.bin .neq (.t 7) (.i 32))<|.m 9 8<|.og 10 9 false (.faddr 1 (.t 1))<|.og 11 9 false (.load false 1 (.t 10))<|.og 12 9 false (.not (.t 11))<|.e 13 (.pick (.t 9) (.b true) (.t 12))) (.cond (.t 13) (.q (.e 2 (.mv (.m 9223372036854775808 0))) (.v [2])) .skip)) (.q (.e 3 (.mv (.i 0))) (.seq (.q (.e 4 (.mv (.i 31))) (.block 0 (.loop K_ref07_plain_h0 K_ref07_plain_b0))) (.q (.m 45 3<|.m 2 45<|.nil) (.v [2])))))),[.tmp 2],true⟩
def K_ref07_Decimal_b0 : KC := (.seq (.q (.m 4 0<|.o 5 (.bin .gtr (.t 4) (.i 0))<|.m 6 5<|.og 7 6 false (.mv (.t 3))<|.og 8 6 false (.bin .eql (.t 7) (.s 0 0))<|.e 9 (.pick (.t 6) (.b true) (.t 8))) (.cond (.t 9) .skip (.exit ⟨[],[3],[],false⟩ 0))) (.block 1 (.q (.m 10 0<|.o 11 (.bin .rem (.t 10) (.i 10))<|.o 12 (.cv 256 (.t 11))<|.o 13 (.bin .add (.p 256 48) (.t 12))<|.o 14 (.bsl 5 1 [.t 13])<|.o 15 (.b2s (.t 14))<|.m 16 3<|.o 17 (.bin .add (.t 15) (.t 16))<|.m 3 17<|.nil) (.ops (.m 18 0<|.o 19 (.bin .quo (.t 18) (.i 10))<|.m 0 19<|.nil)))))
@[reducible] def K_ref07_Decimal_h0 : Head := ⟨[], [0, 3], [], true⟩
def K_ref07_Decimal : KF := ⟨21,(.q (.e 2 (.mv (.s 0 0))) (.q (.e 3 (.mv (.s 0 0))) (.seq (.block 0 (.loop K_ref07_Decimal_h0 K_ref07_Decimal_b0)) (.q (.m 20 3<|.m 2 20<|.nil) (.v [2]))))),[.tmp 2],true⟩
def K_ref07_Format : KF := ⟨96,(.q (.o 1 (.box 107 (.t 0))<|.o 2 (.mv (.s 0 0))<|.e 3 (.mv (.i 0))) (.seq (.q (.o 6 (.faddr 0 (.t 1))<|.e 7 (.load false 1 (.t 6))) (.block 0 (.q (.o 9 (.bin .eql (.t 7) (.p 256 1))<|.m 8 9<|.nil) (.cond (.t 8) (.seq (.seq (.drq (.o 10 (.faddr 1 (.t 1))<|.o 11 (.load false 1 (.t 10))<|.o 12 (.bin .eql (.t 11) (.s 0 0))<|.m 13 12<|.og 14 13 false (.faddr 1 (.t 1))<|.og 15 13 false (.load false 1 (.t 14))<|.og 16 13 false (.call (.f 105) [.t 15,(.i 0)])<|.og 17 13 false (.faddr 1 (.t 1))<|.og 18 13 false (.load false 1 (.t 17))<|.og 19 13 false (.lenS (.t 18))<|.og 20 13 false (.bin .neq (.t 16) (.t 19))<|.o 21 (.pick (.t 13) (.b true) (.t 20))<|.m 22 21<|.og 23 22 false (.faddr 1 (.t 1))<|.og 24 22 false (.load false 1 (.t 23))<|.og 25 22 false (.call (.f 106) [.t 24])<|.e 26 (.pick (.t 22) (.b true) (.t 25))) [([],[]),([1],[]),([],[]),([],[]),([],[]),([1],[]),([],[]),([],[]),([1],[]),([],[]),([],[]),([],[]),([],[]),([],[]),([1],[]),([],[]),([],[])]) (.cond (.t 26) (.q (.o 2 (.mv (.s 0 0))<|.e 3 (.mv (.i 3))) (.v [2,3])) .skip)) (.q (.o 27 (.faddr 1 (.t 1))<|.o 28 (.load false 1 (.t 27))<|.m 2 28<|.e 3 (.mv (.i 0))) (.v [2,3]))) (.q (.o 30 (.bin .eql (.t 7) (.p 256 2))<|.m 29 30<|.nil) (.cond (.t 29) (.seq (.q (.o 31 (.faddr 1 (.t 1))<|.o 32 (.load false 1 (.t 31))<|.o 33 (.call (.f 106) [.t 32])<|.e 34 (.not (.t 33))) (.cond (.t 34) (.q (.o 2 (.mv (.s 0 0))<|.e 3 (.mv (.i 3))) (.v [2,3])) .skip)) (.q (.o 35 (.faddr 1 (.t 1))<|.o 36 (.load false 1 (.t 35))<|.m 2 36<|.e 3 (.mv (.i 0))) (.v [2,3]))) (.q (.o 38 (.bin .eql (.t 7) (.p 256 3))<|.m 37 38<|.nil) (.cond (.t 37) (.seq (.seq (.drq (.o 39 (.faddr 1 (.t 1))<|.o 40 (.load false 1 (.t 39))<|.o 41 (.lenS (.t 40))<|.o 42 (.bin .lss (.t 41) (.i 2))<|.m 43 42<|.og 44 43 false (.faddr 1 (.t 1))<|.og 45 43 false (.load false 1 (.t 44))<|.og 46 43 false (.idxS (.t 45) (.i 0))<|.og 47 43 false (.bin .neq (.t 46) (.p 256 36))<|.o 48 (.pick (.t 43) (.b true) (.t 47))<|.m 49 48<|.og 50 49 false (.faddr 1 (.t 1))<|.og 51 49 false (.load false 1 (.t 50))<|.og 52 49 false (.call (.f 105) [.t 51,(.i 1)])<|.og 53 49 false (.faddr 1 (.t 1))<|.og 54 49 false (.load false 1 (.t 53))<|.og 55 49 false (.lenS (.t 54))<|.og 56 49 false (.bin .neq (.t 52) (.t 55))<|.e 57 (.pick (.t 49) (.b true) (.t 56))) [([],[]),([1],[]),([],[]),([],[]),([],[]),([],[]),([1],[]),([],[]),([],[]),([],[]),([],[]),([],[]),([1],[]),([],[]),([],[]),([1],[]),([],[]),([],[]),([],[])]) (.cond (.t 57) (.q (.o 2 (.mv (.s 0 0))<|.e 3 (.mv (.i 3))) (.v [2,3])) .skip)) (.q (.o 58 (.faddr 1 (.t 1))<|.o 59 (.load false 1 (.t 58))<|.m 2 59<|.e 3 (.mv (.i 0))) (.v [2,3]))) (.q (.o 61 (.bin .eql (.t 7) (.p 256 4))<|.m 60 61<|.nil) (.cond (.t 60) (.q (.o 62 (.faddr 2 (.t 1))<|.o 63 (.load true 2 (.t 62))<|.o 64 (.call (.f 107) [.t 63])<|.m 4 64<|.nil) (.seq (.q (.m 65 4<|.e 66 (.bin .neq (.t 65) (.i 0))) (.cond (.t 66) (.q (.m 67 4<|.o 2 (.mv (.s 0 0))<|.m 3 67<|.nil) (.v [2,3])) .skip)) (.q (.o 68 (.faddr 2 (.t 1))<|.o 69 (.load true 2 (.t 68))<|.o 70 (.call (.f 108) [.t 69])<|.m 5 70<|.nil) (.seq (.q (.m 71 5<|.e 72 (.bin .geq (.t 71) (.i 0))) (.cond (.t 72) (.q (.m 73 5<|.o 74 (.call (.f 109) [.t 73])<|.m 2 74<|.e 3 (.mv (.i 0))) (.v [2,3])) .skip)) (.q (.o 75 (.faddr 2 (.t 1))<|.o 76 (.load true 2 (.t 75))<|.o 77 (.call (.f 110) [.t 76,(.p 256 98)])<|.o 78 (.ext (.t 77) 0)<|.o 79 (.ext (.t 77) 1)<|.m 2 78<|.m 3 79<|.nil) (.v [2,3])))))) (.q (.o 81 (.bin .eql (.t 7) (.p 256 5))<|.m 80 81<|.nil) (.cond (.t 80) (.q (.o 82 (.faddr 1 (.t 1))<|.o 83 (.load false 1 (.t 82))<|.o 84 (.call (.f 111) [.t 83])<|.o 85 (.ext (.t 84) 0)<|.o 86 (.ext (.t 84) 1)<|.m 2 85<|.m 3 86<|.nil) (.v [2,3])) (.q (.o 88 (.bin .eql (.t 7) (.p 256 6))<|.m 87 88<|.nil) (.cond (.t 87) (.seq (.seq (.drq (.o 89 (.call (.f 113) [])<|.o 90 (.faddr 1 (.t 1))<|.o 91 (.load false 1 (.t 90))<|.o 92 (.call (.f 112) [.t 89,.t 91])<|.e 93 (.not (.t 92))) [([],[]),([],[]),([1],[]),([],[]),([],[])]) (.cond (.t 93) (.q (.o 2 (.mv (.s 0 0))<|.e 3 (.mv (.i 3))) (.v [2,3])) .skip)) (.q (.o 94 (.faddr 1 (.t 1))<|.o 95 (.load false 1 (.t 94))<|.m 2 95<|.e 3 (.mv (.i 0))) (.v [2,3]))) .skip)))))))))))))) (.q (.o 2 (.mv (.s 0 0))<|.e 3 (.mv (.i 11))) (.v [2,3])))),[.tmp 2,.tmp 3],true⟩
def K_ref07_name_b0 : KC := (.seq (.q (.m 17 1<|.m 18 0<|.o 19 (.lenS (.t 18))<|.o 20 (.bin .lss (.t 17) (.t 19))<|.m 21 20<|.og 22 21 true (.mv (.t 0))<|.og 23 21 true (.mv (.t 1))<|.og 24 21 true (.idxS (.t 22) (.t 23))<|.og 25 21 true (.call (.f 136) [.t 24])<|.og 26 21 true (.mv (.t 25))<|.og 27 26 false (.mv (.t 0))<|.og 28 26 false (.mv (.t 1))<|.og 29 26 false (.idxS (.t 27) (.t 28))<|.og 30 26 false (.call (.f 137) [.t 29])<|.og 31 21 true (.pick (.t 26) (.b true) (.t 30))<|.og 32 21 true (.mv (.t 31))<|.og 33 32 false (.mv (.t 0))<|.og 34 32 false (.mv (.t 1))<|.og 35 32 false (.idxS (.t 33) (.t 34))<|.og 36 32 false (.bin .eql (.t 35) (.p 256 36))<|.og 37 21 true (.pick (.t 32) (.b true) (.t 36))<|.e 38 (.pick (.t 21) (.t 37) (.b false))) (.cond (.t 38) .skip (.exit ⟨[],[1],[],false⟩ 0))) (.block 1 (.ops (.m 39 1<|.o 40 (.bin .add (.t 39) (.i 1))<|.m 1 40<|.nil))))
@[reducible] def K_ref07_name_h0 : Head := ⟨[14000, 14001, 14002, 14003], [0, 1], [], true⟩
def K_ref07_name : KF := ⟨42,(.q (.e 4 (.mv (.i 0))) (.seq (.q (.m 5 1<|.m 6 0<|.o 7 (.lenS (.t 6))<|.o 8 (.bin .geq (.t 5) (.t 7))<|.m 9 8<|.og 10 9 false (.mv (.t 0))<|.og 11 9 false (.mv (.t 1))<|.og 12 9 false (.idxS (.t 10) (.t 11))<|.og 13 9 false (.call (.f 136) [.t 12])<|.og 14 9 false (.not (.t 13))<|.e 15 (.pick (.t 9) (.b true) (.t 14))) (.cond (.t 15) (.q (.m 16 1<|.m 4 16<|.nil) (.v [4])) .skip)) (.seq (.block 0 (.loop K_ref07_name_h0 K_ref07_name_b0)) (.q (.m 41 1<|.m 4 41<|.nil) (.v [4]))))),[.tmp 4],true⟩
def K_ref07_letter : KF := ⟨21,(.q (.e 2 (.mv (.b false))) (.q (.m 3 0<|.o 4 (.bin .geq (.t 3) (.p 256 97))<|.m 5 4<|.og 6 5 true (.mv (.t 0))<|.og 7 5 true (.bin .leq (.t 6) (.p 256 122))<|.o 8 (.pick (.t 5) (.t 7) (.b false))<|.m 9 8<|.og 10 9 false (.mv (.t 0))<|.og 11 9 false (.bin .geq (.t 10) (.p 256 65))<|.og 12 9 false (.mv (.t 11))<|.og 13 12 true (.mv (.t 0))<|.og 14 12 true (.bin .leq (.t 13) (.p 256 90))<|.og 15 9 false (.pick (.t 12) (.t 14) (.b false))<|.o 16 (.pick (.t 9) (.b true) (.t 15))<|.m 17 16<|.og 18 17 false (.mv (.t 0))<|.og 19 17 false (.bin .eql (.t 18) (.p 256 95))<|.o 20 (.pick (.t 17) (.b true) (.t 19))<|.m 2 20<|.nil) (.v [2]))),[.tmp 2],true⟩
def K_ref07_digit : KF := ⟨9,(.q (.e 2 (.mv (.b false))) (.q (.m 3 0<|.o 4 (.bin .geq (.t 3) (.p 256 48))<|.m 5 4<|.og 6 5 true (.mv (.t 0))<|.og 7 5 true (.bin .leq (.t 6) (.p 256 57))<|.o 8 (.pick (.t 5) (.t 7) (.b false))<|.m 2 8<|.nil) (.v [2]))),[.tmp 2],true⟩
def K_ref07_IsKeyword : KF := ⟨6,(.q (.e 2 (.mv (.b false))) (.q (.o 3 (.call (.f 138) [])<|.m 4 0<|.o 5 (.call (.f 112) [.t 3,.t 4])<|.m 2 5<|.nil) (.v [2]))),[.tmp 2],true⟩
def K_ref07_in_b0 : KC := (.seq (.q (.m 6 5<|.m 7 0<|.o 8 (.len (.t 7))<|.e 9 (.bin .lss (.t 6) (.t 8))) (.cond (.t 9) .skip (.exit ⟨[],[],[],false⟩ 0))) (.seq (.block 1 (.q (.m 12 0<|.m 13 5<|.o 14 (.iaddr 1 (.t 12) (.t 13))<|.o 15 (.load false 1 (.t 14))<|.m 16 1<|.e 17 (.bin .eql (.t 15) (.t 16))) (.cond (.t 17) (.q (.e 4 (.mv (.b true))) (.v [4])) .skip))) (.ops (.m 10 5<|.o 11 (.bin .add (.t 10) (.i 1))<|.m 5 11<|.nil))))
@[reducible] def K_ref07_in_h0 : Head := ⟨[], [0, 1, 5], [], true⟩
def K_ref07_in : KF := ⟨18,(.q (.e 4 (.mv (.b false))) (.seq (.q (.e 5 (.mv (.i 0))) (.block 0 (.loop K_ref07_in_h0 K_ref07_in_b0))) (.q (.e 4 (.mv (.b false))) (.v [4])))),[.tmp 4],true⟩
def K_ref07_Keywords : KF := ⟨2,(.q (.e 0 (.mv .ns)) (.q (.o 1 (.bsl 9 1 [(.s 6 126965163453537),(.s 3 6581857),(.s 6 121390429860705),(.s 5 474214786402),(.s 3 6714722),(.s 6 53216413119842),(.s 6 54315924747618),(.s 4 1702060387),(.s 5 517098135907),(.s 5 525688070499),(.s 7 32770348699510116),(.s 4 1702063205),(.s 3 6581861),(.s 7 28555834764324453),(.s 11 133507968132003860941401701),(.s 9 1870936414602775522917),(.s 7 30244684909801061),(.s 3 7499622),(.s 7 32199706527559526),(.s 8 7957695015192261990),(.s 6 125762924340583),(.s 6 53302295751016),(.s 6 54401807378792),(.s 2 26217),(.s 7 30506403037277801),(.s 5 500186508905),(.s 7 32199642103180905),(.s 6 53212085379436),(.s 6 54311597007212),(.s 10 516535522800345012203372),(.s 7 13631149928899949),(.s 7 13912624905610605),(.s 6 111516500389741),(.s 4 1684955502),(.s 7 28542653543441774),(.s 3 7499630),(.s 3 7630702),(.s 6 53216414035822),(.s 6 54315925663598),(.s 2 29295),(.s 6 128047746676079),(.s 9 2110239404018478768496),(.s 7 28542653544230768),(.s 5 207977477488),(.s 5 212272444784),(.s 3 6776178),(.s 6 127961662514546),(.s 6 110386806745459),(.s 6 53242232925555),(.s 6 54341744553331),(.s 7 13624522895946867),(.s 7 13905997872657523),(.s 7 13644305531958643),(.s 7 13925780508669299),(.s 4 1802723700),(.s 4 812216948),(.s 4 828994164),(.s 4 1953063287),(.s 4 1684955511),(.s 5 207959975287),(.s 5 212254942583),(.s 5 435610544247),(.s 4 1701996919),(.s 3 7499639),(.s 4 1919905400),(.s 3 7499640)])<|.m 0 1<|.nil) (.v [0]))),[.tmp 0],true⟩
def K_law08_ExprFormats : KF := ⟨39,(.q (.o 1 (.box 28 (.t 0))<|.e 2 (.mv (.b false))) (.seq (.q (.o 7 (.load true 8 (.t 1))<|.o 8 (.bsl 28 8 [.t 7])<|.e 9 (.call (.f 16) [.t 8])) (.cond (.t 9) (.q (.o 10 (.call (.f 11) [])<|.m 2 10<|.nil) (.v [2])) .skip)) (.q (.o 12 (.load true 8 (.t 1))<|.o 13 (.call (.f 17) [.t 12])<|.m 11 13<|.o 14 (.ext (.t 11) 0)<|.o 15 (.ext (.t 11) 1)<|.m 3 14<|.m 4 15<|.nil) (.q (.o 17 (.load true 8 (.t 1))<|.o 18 (.call (.f 18) [.t 17])<|.m 16 18<|.o 19 (.ext (.t 16) 0)<|.o 20 (.ext (.t 16) 1)<|.m 5 19<|.m 6 20<|.nil) (.seq (.drq (.m 21 3<|.m 22 5<|.o 23 (.bin .eql (.t 21) (.t 22))<|.m 24 23<|.og 25 24 true (.mv (.t 4))<|.og 26 24 true (.mv (.t 6))<|.og 27 24 true (.bin .eql (.t 25) (.t 26))<|.o 28 (.pick (.t 24) (.t 27) (.b false))<|.m 29 28<|.og 30 29 true (.load true 8 (.t 1))<|.og 31 29 true (.call (.f 19) [.t 30])<|.og 32 29 true (.load true 8 (.t 1))<|.og 33 29 true (.call (.f 20) [.t 32])<|.og 34 29 true (.bin .eql (.t 31) (.t 33))<|.o 35 (.pick (.t 29) (.t 34) (.b false))<|.m 36 35<|.og 37 36 true (.call (.f 11) [])<|.o 38 (.pick (.t 36) (.t 37) (.b false))<|.m 2 38<|.nil) [([],[]),([],[]),([],[]),([],[]),([],[]),([],[]),([],[]),([],[]),([],[]),([1],[]),([],[]),([1],[]),([],[]),([],[]),([],[]),([],[]),([],[]),([],[]),([],[])]) (.v [2])))))),[.tmp 2],true⟩
def K_ref05_size : KF := ⟨12,(.q (.e 2 (.mv (.i 0))) (.seq (.q (.m 3 0<|.nil) (.block 0 (.q (.o 5 (.bin .eql (.t 3) (.p 256 98))<|.m 4 5<|.nil) (.cond (.t 4) (.q (.e 2 (.mv (.i 1))) (.v [2])) (.q (.o 7 (.bin .eql (.t 3) (.p 256 111))<|.m 6 7<|.nil) (.cond (.t 6) (.q (.e 2 (.mv (.i 3))) (.v [2])) (.q (.o 9 (.bin .eql (.t 3) (.p 256 100))<|.m 8 9<|.nil) (.cond (.t 8) (.q (.e 2 (.mv (.i 0))) (.v [2])) (.q (.o 11 (.bin .eql (.t 3) (.p 256 104))<|.m 10 11<|.nil) (.cond (.t 10) (.q (.e 2 (.mv (.i 4))) (.v [2])) .skip)))))))))) (.q (.e 2 (.mv (.m 9223372036854775808 0))) (.v [2])))),[.tmp 2],true⟩
def K_literal_baseOf : KF := ⟨18,(.q (.o 2 (.alloc 179 [.p 9223372036854775808 0,.p 9223372036854775808 0])<|.e 3 (.mv (.b false))) (.seq (.q (.m 4 0<|.nil) (.block 0 (.q (.o 6 (.bin .eql (.t 4) (.p 256 98))<|.m 5 6<|.nil) (.cond (.t 5) (.q (.o 7 (.bld [(0,1),(1,1)] [.p 9223372036854775808 0,.p 9223372036854775808 0] [(0,(.i 1)),(1,(.i 2))])<|.on (.store 2 (.t 2) (.t 7))<|.e 3 (.mv (.b true))) (.w [2,3])) (.q (.o 9 (.bin .eql (.t 4) (.p 256 111))<|.m 8 9<|.nil) (.cond (.t 8) (.q (.o 10 (.bld [(0,1),(1,1)] [.p 9223372036854775808 0,.p 9223372036854775808 0] [(0,(.i 3)),(1,(.i 8))])<|.on (.store 2 (.t 2) (.t 10))<|.e 3 (.mv (.b true))) (.w [2,3])) (.q (.o 12 (.bin .eql (.t 4) (.p 256 100))<|.m 11 12<|.nil) (.cond (.t 11) (.q (.o 13 (.bld [(0,1),(1,1)] [.p 9223372036854775808 0,.p 9223372036854775808 0] [(0,(.i 0)),(1,(.i 10))])<|.on (.store 2 (.t 2) (.t 13))<|.e 3 (.mv (.b true))) (.w [2,3])) (.q (.o 15 (.bin .eql (.t 4) (.p 256 104))<|.m 14 15<|.nil) (.cond (.t 14) (.q (.o 16 (.bld [(0,1),(1,1)] [.p 9223372036854775808 0,.p 9223372036854775808 0] [(0,(.i 4)),(1,(.i 16))])<|.on (.store 2 (.t 2) (.t 16))<|.e 3 (.mv (.b true))) (.w [2,3])) .skip)))))))))) (.q (.o 17 (.bld [(0,1),(1,1)] [.p 9223372036854775808 0,.p 9223372036854775808 0] [])<|.on (.store 2 (.t 2) (.t 17))<|.e 3 (.mv (.b false))) (.w [2,3])))),[.cell 2 true 2,.tmp 3],true⟩
def an_29 : List (Nat × Head) := [(1, ⟨[], [4, 5], [], false⟩), (9, K_ref08_Size_h0), (3000005, ⟨[], [], [], true⟩), (3000002, ⟨[], [2, 3], [2, 3], true⟩)]
def an_41 : List (Nat × Head) := [(1, ⟨[], [], [], false⟩), (12, K_law08_wide_h0), (3000005, ⟨[], [], [], true⟩), (3000002, ⟨[], [2], [2], true⟩)]
def an_16 : List (Nat × Head) := [(1, ⟨[], [], [], false⟩), (6, K_law08_Long_h0), (3000005, ⟨[], [], [], true⟩), (3000002, ⟨[], [2], [2], true⟩)]
def an_58 : List (Nat × Head) := [(3000005, ⟨[], [], [], true⟩), (3000002, ⟨[], [2], [2], true⟩)]
def an_57 : List (Nat × Head) := [(3000005, ⟨[], [], [], true⟩), (3000002, ⟨[], [2], [2], true⟩)]
def an_46 : List (Nat × Head) := [(4, ⟨[], [], [], false⟩), (30, K_expr_checkNodes_h0), (3000005, ⟨[], [], [], true⟩), (3000002, ⟨[], [2], [2], true⟩)]
def an_42 : List (Nat × Head) := [(4, ⟨[], [], [], false⟩), (39, K_expr_writer_expr_h0), (11, ⟨[0, 0, 0, 0, 1, 3, 0, 0, 0, 1, 3, 0, 0, 0, 0, 0, 1, 19, 1, 19, 2, 19, 9999999, 2, 19, 9999999], [], [], false⟩), (14, ⟨[0, 0, 0, 0, 1, 3, 0, 0, 0, 1, 3, 0, 0, 0, 0, 0, 0, 0, 1, 29, 1, 29, 2, 29, 9999999, 2, 29, 9999999], [], [], false⟩), (3000005, ⟨[], [], [], true⟩), (3000002, ⟨[], [], [], true⟩)]
def an_20 : List (Nat × Head) := [(3000005, ⟨[], [], [], true⟩), (3000002, ⟨[], [2], [2], true⟩)]
def an_47 : List (Nat × Head) := [(1, ⟨[], [3], [], false⟩), (9, K_ref08_walk_h0), (3000005, ⟨[], [], [], true⟩), (3000002, ⟨[], [2], [2], true⟩)]
def an_84 : List (Nat × Head) := [(3000005, ⟨[], [], [], true⟩), (3000002, ⟨[], [2], [2], true⟩)]
def an_115 : List (Nat × Head) := [(3000005, ⟨[], [], [], true⟩), (3000002, ⟨[], [2], [2], true⟩)]
def an_18 : List (Nat × Head) := [(3000005, ⟨[], [], [], true⟩), (3000002, ⟨[], [2, 3], [2, 3], true⟩)]
def an_45 : List (Nat × Head) := [(29, ⟨[0, 0, 1, 1, 0, 0, 0, 0, 0, 0, 0, 0, 0, 0, 0, 0, 0, 0, 0, 0, 0], [], [], false⟩), (44, ⟨[0, 0, 1, 1, 0, 0, 0, 0, 0, 0, 0, 0, 0, 0, 0, 0, 0, 0, 0, 0, 0, 0, 0, 0, 0, 0, 0, 0, 0, 0, 0, 0, 0], [], [], false⟩), (50, ⟨[0, 0, 1, 1, 0, 0, 0, 0, 0, 0, 0, 0, 0, 0, 0, 0, 0, 0, 0, 0, 0, 0, 0, 0, 0, 0, 0, 0, 0, 0, 0, 0, 0], [], [], false⟩), (62, ⟨[0, 0, 0, 0, 0, 0, 0, 0, 0, 0, 0, 0, 0, 0, 0, 0, 0, 0, 0, 0, 0, 0, 0, 0], [], [], false⟩), (68, ⟨[0, 0, 1, 1, 0, 0, 0, 0, 0, 0, 0, 0, 0, 0, 0, 0, 0], [], [], false⟩), (80, ⟨[0, 0, 1, 1, 0, 0, 0, 0, 0, 0, 0, 0, 0, 0, 0, 0, 0, 0, 0, 0, 0], [], [], false⟩), (86, ⟨[0, 0, 0, 0, 0, 0, 0, 0, 0, 0, 0, 0, 0, 0, 0, 0, 0, 0, 0, 0, 0, 0, 0, 0, 0, 0, 0, 0, 0, 0, 0, 0, 0, 0, 0, 0, 0, 0], [], [], false⟩), (92, ⟨[0, 0, 0, 0, 1, 1, 0, 0, 0, 0, 0, 0, 0, 0, 0, 0, 0, 0, 0, 0, 0, 0, 0, 0, 0, 0, 0, 0, 0], [], [], false⟩), (95, ⟨[0, 0, 0, 0, 0, 0, 0, 0, 0, 0, 0, 0, 0, 0, 0, 0, 1, 1, 0, 0, 0, 0, 0, 0, 0, 0, 0, 0, 0, 0, 0, 0, 0, 0, 0, 0, 0, 0, 0, 0, 0, 0, 0], [], [], false⟩), (3000005, ⟨[], [], [], true⟩), (3000002, ⟨[], [2], [2], true⟩)]
def an_80 : List (Nat × Head) := [(1, ⟨[], [3], [], false⟩), (9, K_ref08_list_h0), (3000005, ⟨[], [], [], true⟩), (3000002, ⟨[], [2], [2], true⟩)]
def an_33 : List (Nat × Head) := [(3000005, ⟨[], [], [], true⟩), (3000002, ⟨[], [0], [0], true⟩)]
def an_21 : List (Nat × Head) := [(3000005, ⟨[], [], [], true⟩), (3000002, ⟨[], [0], [0], true⟩)]
def an_186 : List (Nat × Head) := [(1, ⟨[], [0, 3, 4], [], false⟩), (12, K_literal_group_h0), (3000005, ⟨[], [], [], true⟩), (3000002, ⟨[], [2], [2], true⟩)]
def an_158 : List (Nat × Head) := [(4, ⟨[], [10], [], false⟩), (36, K_literal_Digits_h0), (3000005, ⟨[], [], [], true⟩), (3000002, ⟨[], [4, 5], [4, 5], true⟩)]
def an_133 : List (Nat × Head) := [(3000005, ⟨[], [], [], true⟩), (3000002, ⟨[], [4, 5], [4, 5], true⟩)]
def an_107 : List (Nat × Head) := [(1, ⟨[], [], [], false⟩), (18, K_ref04_Check_h0), (3000005, ⟨[], [], [], true⟩), (3000002, ⟨[], [2], [2], true⟩)]
def an_164 : List (Nat × Head) := [(1, ⟨[], [0, 3, 4, 5], [], false⟩), (9, K_ref05_group_h0), (3000005, ⟨[], [], [], true⟩), (3000002, ⟨[], [2], [2], true⟩)]
def an_139 : List (Nat × Head) := [(1, ⟨[], [9], [], false⟩), (48, K_ref05_Digits_h0), (3000005, ⟨[], [], [], true⟩), (3000002, ⟨[], [4, 5], [4, 5], true⟩)]
def an_110 : List (Nat × Head) := [(1, ⟨[], [1, 2, 6], [], false⟩), (15, K_ref05_Format_h0), (3000005, ⟨[], [], [], true⟩), (3000002, ⟨[], [4, 5], [4, 5], true⟩)]
def an_141 : List (Nat × Head) := [(6, K_ref05_Decimal_h0), (3000005, ⟨[], [], [], true⟩), (3000002, ⟨[], [2], [2], true⟩)]
def an_167 : List (Nat × Head) := [(3000005, ⟨[], [], [], true⟩), (3000002, ⟨[], [4, 5, 6], [4, 5, 6], true⟩)]
def an_169 : List (Nat × Head) := [(1, ⟨[], [0, 3], [], false⟩), (6, K_ref03_Trim_h0), (3000005, ⟨[], [], [], true⟩), (3000002, ⟨[], [2], [2], true⟩)]
def an_193 : List (Nat × Head) := [(1, ⟨[], [6, 7], [], false⟩), (12, K_ref03_divide_h0), (3000005, ⟨[], [], [], true⟩), (3000002, ⟨[], [4, 5], [4, 5], true⟩)]
def an_225 : List (Nat × Head) := [(3000005, ⟨[], [], [], true⟩), (3000002, ⟨[], [4], [4], true⟩)]
def an_251 : List (Nat × Head) := [(1, ⟨[], [], [], false⟩), (29, ⟨[0, 0, 0, 0, 0, 0, 0, 0, 0, 0, 0, 0, 0, 0, 0, 0, 0, 0], [], [], false⟩), (21, K_ref03_Cmp_h0), (3000005, ⟨[], [], [], true⟩), (3000002, ⟨[], [4], [4], true⟩)]
def an_191 : List (Nat × Head) := [(1, ⟨[], [5], [], false⟩), (12, K_ref03_minus_h0), (3000005, ⟨[], [], [], true⟩), (3000002, ⟨[], [4], [4], true⟩)]
def an_168 : List (Nat × Head) := [(1, ⟨[], [0, 4], [], false⟩), (12, K_ref03_Uint_h0), (3000005, ⟨[], [], [], true⟩), (3000002, ⟨[], [2, 3], [2, 3], true⟩)]
def an_194 : List (Nat × Head) := [(1, ⟨[], [5], [], false⟩), (9, K_ref03_Fit_h0), (3000005, ⟨[], [], [], true⟩), (3000002, ⟨[], [4], [4], true⟩)]
def an_140 : List (Nat × Head) := [(1, ⟨[], [6], [], false⟩), (15, K_ref03_FromInt_h0), (3000005, ⟨[], [], [], true⟩), (3000002, ⟨[], [4, 5], [4, 5], true⟩)]
def an_224 : List (Nat × Head) := [(3000005, ⟨[], [], [], true⟩), (3000002, ⟨[], [4], [4], true⟩)]
def an_108 : List (Nat × Head) := [(1, ⟨[], [3], [], false⟩), (15, K_ref07_plain_h0), (3000005, ⟨[], [], [], true⟩), (3000002, ⟨[], [2], [2], true⟩)]
def an_109 : List (Nat × Head) := [(1, ⟨[], [3], [], false⟩), (6, K_ref07_Decimal_h0), (3000005, ⟨[], [], [], true⟩), (3000002, ⟨[], [2], [2], true⟩)]
def an_79 : List (Nat × Head) := [(11, ⟨[0, 0, 1, 1, 0, 0, 0, 0, 0, 0, 0, 1, 1, 0, 0, 0, 0, 0, 1, 1, 0, 0, 0, 0, 0, 0, 0, 0, 0, 0, 0, 1, 1, 0, 0, 0, 0, 0], [], [], false⟩), (35, ⟨[0, 0, 1, 1, 0, 0, 0, 0, 0, 0, 0, 0, 0, 1, 1, 0, 0, 0, 0, 0, 0, 0, 0, 0, 0, 0, 1, 1, 0, 0, 0, 0, 0, 1, 1, 0, 0, 0, 0, 0, 0, 0], [], [], false⟩), (77, ⟨[0, 0, 0, 0, 1, 1, 0, 0, 0, 0, 0], [], [], false⟩), (3000005, ⟨[], [], [], true⟩), (3000002, ⟨[], [2, 3], [2, 3], true⟩)]
def an_105 : List (Nat × Head) := [(1, ⟨[], [1], [], false⟩), (9, K_ref07_name_h0), (3000005, ⟨[], [], [], true⟩), (3000002, ⟨[], [4], [4], true⟩)]
def an_136 : List (Nat × Head) := [(3000005, ⟨[], [], [], true⟩), (3000002, ⟨[], [2], [2], true⟩)]
def an_137 : List (Nat × Head) := [(3000005, ⟨[], [], [], true⟩), (3000002, ⟨[], [2], [2], true⟩)]
def an_106 : List (Nat × Head) := [(3000005, ⟨[], [], [], true⟩), (3000002, ⟨[], [2], [2], true⟩)]
def an_112 : List (Nat × Head) := [(1, ⟨[], [], [], false⟩), (6, K_ref07_in_h0), (3000005, ⟨[], [], [], true⟩), (3000002, ⟨[], [4], [4], true⟩)]
def an_138 : List (Nat × Head) := [(3000005, ⟨[], [], [], true⟩), (3000002, ⟨[], [0], [0], true⟩)]
def an_4 : List (Nat × Head) := [(17, ⟨[0, 0, 0, 0, 0, 0, 0, 0, 0, 0, 0, 0, 0, 0, 0, 0, 0, 0, 1, 1, 0, 0, 0, 1, 1, 0, 0, 0, 0, 0, 0, 0, 0, 0, 0, 0, 0, 0, 0, 0], [], [], false⟩), (3000005, ⟨[], [], [], true⟩), (3000002, ⟨[], [2], [2], true⟩)]
def an_161 : List (Nat × Head) := [(3000005, ⟨[], [], [], true⟩), (3000002, ⟨[], [2], [2], true⟩)]
def an_184 : List (Nat × Head) := [(3000005, ⟨[], [], [], true⟩), (3000002, ⟨[], [2, 3], [], false⟩)]
inductive AT where
 | leaf
 | node (f : Nat) (a : List (Nat × Head)) (l r : AT)
noncomputable def AT.get (b : AT) (x : Nat) : List (Nat × Head) := @AT.rec (fun _ => List (Nat × Head)) [] (fun f a _ _ ihl ihr => cond (Nat.beq x f) a (cond (Nat.blt x f) ihl ihr)) b
def anT : AT := (.node 101 an_101 (.node 54 an_54 (.node 33 an_33 (.node 19 an_19 (.node 17 an_17 (.node 16 an_16 (.node 4 an_4 .leaf .leaf) .leaf) (.node 18 an_18 .leaf .leaf)) (.node 26 an_26 (.node 21 an_21 (.node 20 an_20 .leaf .leaf) .leaf) (.node 29 an_29 .leaf .leaf))) (.node 45 an_45 (.node 43 an_43 (.node 42 an_42 (.node 41 an_41 .leaf .leaf) .leaf) (.node 44 an_44 .leaf .leaf)) (.node 47 an_47 (.node 46 an_46 .leaf .leaf) (.node 48 an_48 .leaf .leaf)))) (.node 78 an_78 (.node 74 an_74 (.node 62 an_62 (.node 58 an_58 (.node 57 an_57 .leaf .leaf) .leaf) (.node 73 an_73 .leaf .leaf)) (.node 76 an_76 (.node 75 an_75 .leaf .leaf) (.node 77 an_77 .leaf .leaf))) (.node 83 an_83 (.node 81 an_81 (.node 80 an_80 (.node 79 an_79 .leaf .leaf) .leaf) (.node 82 an_82 .leaf .leaf)) (.node 90 an_90 (.node 84 an_84 .leaf .leaf) (.node 100 an_100 .leaf .leaf))))) (.node 140 an_140 (.node 114 an_114 (.node 108 an_108 (.node 106 an_106 (.node 105 an_105 (.node 102 an_102 .leaf .leaf) .leaf) (.node 107 an_107 .leaf .leaf)) (.node 110 an_110 (.node 109 an_109 .leaf .leaf) (.node 112 an_112 .leaf .leaf))) (.node 136 an_136 (.node 131 an_131 (.node 130 an_130 (.node 115 an_115 .leaf .leaf) .leaf) (.node 133 an_133 .leaf .leaf)) (.node 138 an_138 (.node 137 an_137 .leaf .leaf) (.node 139 an_139 .leaf .leaf)))) (.node 169 an_169 (.node 161 an_161 (.node 151 an_151 (.node 148 an_148 (.node 141 an_141 .leaf .leaf) .leaf) (.node 158 an_158 .leaf .leaf)) (.node 167 an_167 (.node 164 an_164 .leaf .leaf) (.node 168 an_168 .leaf .leaf))) (.node 194 an_194 (.node 191 an_191 (.node 186 an_186 (.node 184 an_184 .leaf .leaf) .leaf) (.node 193 an_193 .leaf .leaf)) (.node 225 an_225 (.node 224 an_224 .leaf .leaf) (.node 251 an_251 .leaf .leaf))))))
noncomputable def an (f r : Nat) : Head := ((anT.get f).lookup r).getD ⟨[], [], [], false⟩
abbrev f_law08_ExprFormats : FuncId := 4
abbrev f_law08_awake : FuncId := 11
abbrev f_law08_Long : FuncId := 16
abbrev f_expr_Format : FuncId := 17
abbrev f_ref08_Format : FuncId := 18
abbrev f_expr_Check : FuncId := 19
abbrev f_ref08_Check : FuncId := 20
abbrev f_ref08_Binary : FuncId := 21
abbrev f_expr_Size : FuncId := 26
abbrev f_ref08_Size : FuncId := 29
abbrev f_ref08_Unary : FuncId := 33
abbrev f_law08_wide : FuncId := 41
abbrev f_expr_writer_expr : FuncId := 42
abbrev f_Builder_Len : FuncId := 43
abbrev f_Builder_String : FuncId := 44
abbrev f_ref08_Text : FuncId := 45
abbrev f_expr_checkNodes : FuncId := 46
abbrev f_ref08_walk : FuncId := 47
abbrev f_expr_named : FuncId := 48
abbrev f_expr_arity : FuncId := 54
abbrev f_ref08_Args : FuncId := 57
abbrev f_ref08_Named : FuncId := 58
abbrev f_strings_HasPrefix : FuncId := 60
abbrev f_Builder_WriteString : FuncId := 62
abbrev f_token_Format : FuncId := 73
abbrev f_expr_writer_put : FuncId := 74
abbrev f_expr_writer_around : FuncId := 75
abbrev f_expr_writer_list : FuncId := 76
abbrev f_expr_unarySymbol : FuncId := 77
abbrev f_expr_binarySymbol : FuncId := 78
abbrev f_ref07_Format : FuncId := 79
abbrev f_ref08_list : FuncId := 80
abbrev f_expr_identifier : FuncId := 81
abbrev f_expr_system : FuncId := 82
abbrev f_vec_Check : FuncId := 83
abbrev f_ref08_own : FuncId := 84
abbrev f_Builder_copyCheck : FuncId := 90
abbrev f_token_whole : FuncId := 100
abbrev f_token_IsKeyword : FuncId := 101
abbrev f_token_number : FuncId := 102
abbrev f_token_quote : FuncId := 103
abbrev f_token_isPunct : FuncId := 104
abbrev f_ref07_name : FuncId := 105
abbrev f_ref07_IsKeyword : FuncId := 106
abbrev f_ref04_Check : FuncId := 107
abbrev f_ref07_plain : FuncId := 108
abbrev f_ref07_Decimal : FuncId := 109
abbrev f_ref05_Format : FuncId := 110
abbrev f_ref07_quote : FuncId := 111
abbrev f_ref07_in : FuncId := 112
abbrev f_ref07_Puncts : FuncId := 113
abbrev f_bit_Valid : FuncId := 114
abbrev f_ref08_Ident : FuncId := 115
abbrev f_token_nameEnd : FuncId := 130
abbrev f_token_decimal : FuncId := 131
abbrev f_strconv_FormatInt : FuncId := 132
abbrev f_literal_Format : FuncId := 133
abbrev f_ref07_letter : FuncId := 136
abbrev f_ref07_digit : FuncId := 137
abbrev f_ref07_Keywords : FuncId := 138
abbrev f_ref05_Digits : FuncId := 139
abbrev f_ref03_FromInt : FuncId := 140
abbrev f_ref05_Decimal : FuncId := 141
abbrev f_token_letter : FuncId := 148
abbrev f_token_digit : FuncId := 151
abbrev f_literal_Digits : FuncId := 158
abbrev f_strings_ContainsAny : FuncId := 159
abbrev f_strconv_Itoa : FuncId := 160
abbrev f_ref05_size : FuncId := 161
abbrev f_ref04_Bools : FuncId := 162
abbrev f_ref04_Known : FuncId := 163
abbrev f_ref05_group : FuncId := 164
abbrev f_ref03_Negative : FuncId := 165
abbrev f_ref03_Size : FuncId := 166
abbrev f_ref03_DivMod : FuncId := 167
abbrev f_ref03_Uint : FuncId := 168
abbrev f_ref03_Trim : FuncId := 169
abbrev f_literal_baseOf : FuncId := 184
abbrev f_literal_decimal : FuncId := 185
abbrev f_literal_group : FuncId := 186
abbrev f_ref03_minus : FuncId := 191
abbrev f_ref03_divide : FuncId := 193
abbrev f_ref03_Fit : FuncId := 194
abbrev f_ref03_At : FuncId := 224
abbrev f_ref03_less : FuncId := 225
abbrev f_ref03_Cmp : FuncId := 251
abbrev y_int : TypeId := 3
abbrev y_bool : TypeId := 4
abbrev y_uint8 : TypeId := 5
abbrev y_string : TypeId := 9
abbrev y_api_Vec : TypeId := 25
abbrev y_api_Expr : TypeId := 28
abbrev y_expr_writer : TypeId := 74
abbrev y_token_Token : TypeId := 95
abbrev y_ref07_Token : TypeId := 107
abbrev y_literal_base : TypeId := 179
abbrev y_4_int : TypeId := 205
@[simp] theorem yl_expr_writer : (y_expr_writer < 1000000) = True := eq_true (by decide)
def omT : FuncId → List Nat := fun g => bif Nat.beq g 42 then [1000] else bif Nat.beq g 62 then [1000] else bif Nat.beq g 74 then [1000] else bif Nat.beq g 75 then [1000] else bif Nat.beq g 76 then [1000] else bif Nat.beq g 1000000000 then [5] else []
@[simp] theorem om_sh : omT 1000000002 = [] := rfl
@[simp] theorem om_law08_ExprFormats : omT 4 = [] := rfl
@[simp] theorem om_law08_awake : omT 11 = [] := rfl
@[simp] theorem om_law08_Long : omT 16 = [] := rfl
@[simp] theorem om_expr_Format : omT 17 = [] := rfl
@[simp] theorem om_ref08_Format : omT 18 = [] := rfl
@[simp] theorem om_expr_Check : omT 19 = [] := rfl
@[simp] theorem om_ref08_Check : omT 20 = [] := rfl
@[simp] theorem om_ref08_Binary : omT 21 = [] := rfl
@[simp] theorem om_expr_Size : omT 26 = [] := rfl
@[simp] theorem om_ref08_Size : omT 29 = [] := rfl
@[simp] theorem om_ref08_Unary : omT 33 = [] := rfl
@[simp] theorem om_law08_wide : omT 41 = [] := rfl
@[simp] theorem om_expr_writer_expr : omT 42 = [1000] := rfl
@[simp] theorem om_Builder_Len : omT 43 = [] := rfl
@[simp] theorem om_Builder_String : omT 44 = [] := rfl
@[simp] theorem om_ref08_Text : omT 45 = [] := rfl
@[simp] theorem om_expr_checkNodes : omT 46 = [] := rfl
@[simp] theorem om_ref08_walk : omT 47 = [] := rfl
@[simp] theorem om_expr_named : omT 48 = [] := rfl
@[simp] theorem om_expr_arity : omT 54 = [] := rfl
@[simp] theorem om_ref08_Args : omT 57 = [] := rfl
@[simp] theorem om_ref08_Named : omT 58 = [] := rfl
@[simp] theorem om_strings_HasPrefix : omT 60 = [] := rfl
@[simp] theorem om_Builder_WriteString : omT 62 = [1000] := rfl
@[simp] theorem om_token_Format : omT 73 = [] := rfl
@[simp] theorem om_expr_writer_put : omT 74 = [1000] := rfl
@[simp] theorem om_expr_writer_around : omT 75 = [1000] := rfl
@[simp] theorem om_expr_writer_list : omT 76 = [1000] := rfl
@[simp] theorem om_expr_unarySymbol : omT 77 = [] := rfl
@[simp] theorem om_expr_binarySymbol : omT 78 = [] := rfl
@[simp] theorem om_ref07_Format : omT 79 = [] := rfl
@[simp] theorem om_ref08_list : omT 80 = [] := rfl
@[simp] theorem om_expr_identifier : omT 81 = [] := rfl
@[simp] theorem om_expr_system : omT 82 = [] := rfl
@[simp] theorem om_vec_Check : omT 83 = [] := rfl
@[simp] theorem om_ref08_own : omT 84 = [] := rfl
@[simp] theorem om_Builder_copyCheck : omT 90 = [] := rfl
@[simp] theorem om_token_whole : omT 100 = [] := rfl
@[simp] theorem om_token_IsKeyword : omT 101 = [] := rfl
@[simp] theorem om_token_number : omT 102 = [] := rfl
@[simp] theorem om_token_quote : omT 103 = [] := rfl
@[simp] theorem om_token_isPunct : omT 104 = [] := rfl
@[simp] theorem om_ref07_name : omT 105 = [] := rfl
@[simp] theorem om_ref07_IsKeyword : omT 106 = [] := rfl
@[simp] theorem om_ref04_Check : omT 107 = [] := rfl
@[simp] theorem om_ref07_plain : omT 108 = [] := rfl
@[simp] theorem om_ref07_Decimal : omT 109 = [] := rfl
@[simp] theorem om_ref05_Format : omT 110 = [] := rfl
@[simp] theorem om_ref07_quote : omT 111 = [] := rfl
@[simp] theorem om_ref07_in : omT 112 = [] := rfl
@[simp] theorem om_ref07_Puncts : omT 113 = [] := rfl
@[simp] theorem om_bit_Valid : omT 114 = [] := rfl
@[simp] theorem om_ref08_Ident : omT 115 = [] := rfl
@[simp] theorem om_token_nameEnd : omT 130 = [] := rfl
@[simp] theorem om_token_decimal : omT 131 = [] := rfl
@[simp] theorem om_strconv_FormatInt : omT 132 = [] := rfl
@[simp] theorem om_literal_Format : omT 133 = [] := rfl
@[simp] theorem om_ref07_letter : omT 136 = [] := rfl
@[simp] theorem om_ref07_digit : omT 137 = [] := rfl
@[simp] theorem om_ref07_Keywords : omT 138 = [] := rfl
@[simp] theorem om_ref05_Digits : omT 139 = [] := rfl
@[simp] theorem om_ref03_FromInt : omT 140 = [] := rfl
@[simp] theorem om_ref05_Decimal : omT 141 = [] := rfl
@[simp] theorem om_token_letter : omT 148 = [] := rfl
@[simp] theorem om_token_digit : omT 151 = [] := rfl
@[simp] theorem om_literal_Digits : omT 158 = [] := rfl
@[simp] theorem om_strings_ContainsAny : omT 159 = [] := rfl
@[simp] theorem om_strconv_Itoa : omT 160 = [] := rfl
@[simp] theorem om_ref05_size : omT 161 = [] := rfl
@[simp] theorem om_ref04_Bools : omT 162 = [] := rfl
@[simp] theorem om_ref04_Known : omT 163 = [] := rfl
@[simp] theorem om_ref05_group : omT 164 = [] := rfl
@[simp] theorem om_ref03_Negative : omT 165 = [] := rfl
@[simp] theorem om_ref03_Size : omT 166 = [] := rfl
@[simp] theorem om_ref03_DivMod : omT 167 = [] := rfl
@[simp] theorem om_ref03_Uint : omT 168 = [] := rfl
@[simp] theorem om_ref03_Trim : omT 169 = [] := rfl
@[simp] theorem om_literal_baseOf : omT 184 = [] := rfl
@[simp] theorem om_literal_decimal : omT 185 = [] := rfl
@[simp] theorem om_literal_group : omT 186 = [] := rfl
@[simp] theorem om_ref03_minus : omT 191 = [] := rfl
@[simp] theorem om_ref03_divide : omT 193 = [] := rfl
@[simp] theorem om_ref03_Fit : omT 194 = [] := rfl
@[simp] theorem om_ref03_At : omT 224 = [] := rfl
@[simp] theorem om_ref03_less : omT 225 = [] := rfl
@[simp] theorem om_ref03_Cmp : omT 251 = [] := rfl
@[simp] theorem low_4 (L : Nat) (d : Option Nat) : lowP omT L d 4 = (L, d) := rfl
@[simp] theorem low1_5 (d : Option Nat) : lowP omT 1 d 5 = (1, d) := rfl
@[simp] theorem low2_5 (d : Option Nat) : lowP omT 2 d 5 = (1, some 7000) := rfl
@[simp] theorem low3_5 (d : Option Nat) : lowP omT 3 d 5 = (1, some 7000) := rfl
def XAw : List T → Option T
 | [] => some (.sc (.bool true))
 | _ => none
def XR (f : FuncId) : Option (List T → Option T) := if f = 11 then some XAw else if f = 132 then some XF2 else if f = 160 then some XIT else if f = 159 then some XCA else none
noncomputable def E : Env := { P := Tryz.prog, om := omT, an := an, X := XR }
@[simp] theorem E_om (f : FuncId) : E.om f = omT f := rfl
@[simp] theorem E_low (L : Nat) (d : Option Nat) (e : TypeId) : lowP E.om L d e = lowP omT L d e := rfl
@[simp] theorem bs_0_0 : bytesN 0 0 = [] := rfl
@[simp] theorem bs_1_32 : bytesN 1 32 = [32] := rfl
@[simp] theorem bs_1_33 : bytesN 1 33 = [33] := rfl
@[simp] theorem bs_1_36 : bytesN 1 36 = [36] := rfl
@[simp] theorem bs_1_37 : bytesN 1 37 = [37] := rfl
@[simp] theorem bs_1_38 : bytesN 1 38 = [38] := rfl
@[simp] theorem bs_1_39 : bytesN 1 39 = [39] := rfl
@[simp] theorem bs_1_40 : bytesN 1 40 = [40] := rfl
@[simp] theorem bs_1_41 : bytesN 1 41 = [41] := rfl
@[simp] theorem bs_1_42 : bytesN 1 42 = [42] := rfl
@[simp] theorem bs_1_43 : bytesN 1 43 = [43] := rfl
@[simp] theorem bs_1_45 : bytesN 1 45 = [45] := rfl
@[simp] theorem bs_1_47 : bytesN 1 47 = [47] := rfl
@[simp] theorem bs_1_58 : bytesN 1 58 = [58] := rfl
@[simp] theorem bs_1_60 : bytesN 1 60 = [60] := rfl
@[simp] theorem bs_1_62 : bytesN 1 62 = [62] := rfl
@[simp] theorem bs_1_91 : bytesN 1 91 = [91] := rfl
@[simp] theorem bs_1_93 : bytesN 1 93 = [93] := rfl
@[simp] theorem bs_1_94 : bytesN 1 94 = [94] := rfl
@[simp] theorem bs_1_115 : bytesN 1 115 = [115] := rfl
@[simp] theorem bs_1_123 : bytesN 1 123 = [123] := rfl
@[simp] theorem bs_1_124 : bytesN 1 124 = [124] := rfl
@[simp] theorem bs_1_125 : bytesN 1 125 = [125] := rfl
@[simp] theorem bs_1_126 : bytesN 1 126 = [126] := rfl
@[simp] theorem bs_2_8236 : bytesN 2 8236 = [44, 32] := rfl
@[simp] theorem bs_2_9766 : bytesN 2 9766 = [38, 38] := rfl
@[simp] theorem bs_2_9854 : bytesN 2 9854 = [126, 38] := rfl
@[simp] theorem bs_2_10794 : bytesN 2 10794 = [42, 42] := rfl
@[simp] theorem bs_2_14891 : bytesN 2 14891 = [43, 58] := rfl
@[simp] theorem bs_2_15420 : bytesN 2 15420 = [60, 60] := rfl
@[simp] theorem bs_2_15649 : bytesN 2 15649 = [33, 61] := rfl
@[simp] theorem bs_2_15676 : bytesN 2 15676 = [60, 61] := rfl
@[simp] theorem bs_2_15677 : bytesN 2 15677 = [61, 61] := rfl
@[simp] theorem bs_2_15678 : bytesN 2 15678 = [62, 61] := rfl
@[simp] theorem bs_2_15934 : bytesN 2 15934 = [62, 62] := rfl
@[simp] theorem bs_2_24190 : bytesN 2 24190 = [126, 94] := rfl
@[simp] theorem bs_2_26217 : bytesN 2 26217 = [105, 102] := rfl
@[simp] theorem bs_2_29295 : bytesN 2 29295 = [111, 114] := rfl
@[simp] theorem bs_2_31868 : bytesN 2 31868 = [124, 124] := rfl
@[simp] theorem bs_2_31870 : bytesN 2 31870 = [126, 124] := rfl
@[simp] theorem bs_2_32125 : bytesN 2 32125 = [125, 125] := rfl
@[simp] theorem bs_3_2112032 : bytesN 3 2112032 = [32, 58, 32] := rfl
@[simp] theorem bs_3_2113312 : bytesN 3 2113312 = [32, 63, 32] := rfl
@[simp] theorem bs_3_2972248 : bytesN 3 2972248 = [88, 90, 45] := rfl
@[simp] theorem bs_3_3947580 : bytesN 3 3947580 = [60, 60, 60] := rfl
@[simp] theorem bs_3_4013345 : bytesN 3 4013345 = [33, 61, 61] := rfl
@[simp] theorem bs_3_4013373 : bytesN 3 4013373 = [61, 61, 61] := rfl
@[simp] theorem bs_3_4079166 : bytesN 3 4079166 = [62, 62, 62] := rfl
@[simp] theorem bs_3_6581857 : bytesN 3 6581857 = [97, 110, 100] := rfl
@[simp] theorem bs_3_6581861 : bytesN 3 6581861 = [101, 110, 100] := rfl
@[simp] theorem bs_3_6714722 : bytesN 3 6714722 = [98, 117, 102] := rfl
@[simp] theorem bs_3_6776178 : bytesN 3 6776178 = [114, 101, 103] := rfl
@[simp] theorem bs_3_7499622 : bytesN 3 7499622 = [102, 111, 114] := rfl
@[simp] theorem bs_3_7499630 : bytesN 3 7499630 = [110, 111, 114] := rfl
@[simp] theorem bs_3_7499639 : bytesN 3 7499639 = [119, 111, 114] := rfl
@[simp] theorem bs_3_7499640 : bytesN 3 7499640 = [120, 111, 114] := rfl
@[simp] theorem bs_3_7630702 : bytesN 3 7630702 = [110, 111, 116] := rfl
@[simp] theorem bs_4_812216948 : bytesN 4 812216948 = [116, 114, 105, 48] := rfl
@[simp] theorem bs_4_828994164 : bytesN 4 828994164 = [116, 114, 105, 49] := rfl
@[simp] theorem bs_4_1684955502 : bytesN 4 1684955502 = [110, 97, 110, 100] := rfl
@[simp] theorem bs_4_1684955511 : bytesN 4 1684955511 = [119, 97, 110, 100] := rfl
@[simp] theorem bs_4_1701996919 : bytesN 4 1701996919 = [119, 105, 114, 101] := rfl
@[simp] theorem bs_4_1702060387 : bytesN 4 1702060387 = [99, 97, 115, 101] := rfl
@[simp] theorem bs_4_1702063205 : bytesN 4 1702063205 = [101, 108, 115, 101] := rfl
@[simp] theorem bs_4_1802723700 : bytesN 4 1802723700 = [116, 97, 115, 107] := rfl
@[simp] theorem bs_4_1919905400 : bytesN 4 1919905400 = [120, 110, 111, 114] := rfl
@[simp] theorem bs_4_1953063287 : bytesN 4 1953063287 = [119, 97, 105, 116] := rfl
@[simp] theorem bs_5_207959975287 : bytesN 5 207959975287 = [119, 101, 97, 107, 48] := rfl
@[simp] theorem bs_5_207977477488 : bytesN 5 207977477488 = [112, 117, 108, 108, 48] := rfl
@[simp] theorem bs_5_212254942583 : bytesN 5 212254942583 = [119, 101, 97, 107, 49] := rfl
@[simp] theorem bs_5_212272444784 : bytesN 5 212272444784 = [112, 117, 108, 108, 49] := rfl
@[simp] theorem bs_5_435610544247 : bytesN 5 435610544247 = [119, 104, 105, 108, 101] := rfl
@[simp] theorem bs_5_435627324452 : bytesN 5 435627324452 = [36, 116, 105, 109, 101] := rfl
@[simp] theorem bs_5_474214786402 : bytesN 5 474214786402 = [98, 101, 103, 105, 110] := rfl
@[simp] theorem bs_5_500186508905 : bytesN 5 500186508905 = [105, 110, 112, 117, 116] := rfl
@[simp] theorem bs_5_517098135907 : bytesN 5 517098135907 = [99, 97, 115, 101, 120] := rfl
@[simp] theorem bs_5_525688070499 : bytesN 5 525688070499 = [99, 97, 115, 101, 122] := rfl
@[simp] theorem bs_6_53212085379436 : bytesN 6 53212085379436 = [108, 97, 114, 103, 101, 48] := rfl
@[simp] theorem bs_6_53216413119842 : bytesN 6 53216413119842 = [98, 117, 102, 105, 102, 48] := rfl
@[simp] theorem bs_6_53216414035822 : bytesN 6 53216414035822 = [110, 111, 116, 105, 102, 48] := rfl
@[simp] theorem bs_6_53242232925555 : bytesN 6 53242232925555 = [115, 109, 97, 108, 108, 48] := rfl
@[simp] theorem bs_6_53302295751016 : bytesN 6 53302295751016 = [104, 105, 103, 104, 122, 48] := rfl
@[simp] theorem bs_6_54311597007212 : bytesN 6 54311597007212 = [108, 97, 114, 103, 101, 49] := rfl
@[simp] theorem bs_6_54315924747618 : bytesN 6 54315924747618 = [98, 117, 102, 105, 102, 49] := rfl
@[simp] theorem bs_6_54315925663598 : bytesN 6 54315925663598 = [110, 111, 116, 105, 102, 49] := rfl
@[simp] theorem bs_6_54341744553331 : bytesN 6 54341744553331 = [115, 109, 97, 108, 108, 49] := rfl
@[simp] theorem bs_6_54401807378792 : bytesN 6 54401807378792 = [104, 105, 103, 104, 122, 49] := rfl
@[simp] theorem bs_6_110386806745459 : bytesN 6 110386806745459 = [115, 105, 103, 110, 101, 100] := rfl
@[simp] theorem bs_6_111516500389741 : bytesN 6 111516500389741 = [109, 111, 100, 117, 108, 101] := rfl
@[simp] theorem bs_6_121390429860705 : bytesN 6 121390429860705 = [97, 115, 115, 105, 103, 110] := rfl
@[simp] theorem bs_6_125762924340583 : bytesN 6 125762924340583 = [103, 101, 110, 118, 97, 114] := rfl
@[simp] theorem bs_6_126965163453537 : bytesN 6 126965163453537 = [97, 108, 119, 97, 121, 115] := rfl
@[simp] theorem bs_6_127961662514546 : bytesN 6 127961662514546 = [114, 101, 112, 101, 97, 116] := rfl
@[simp] theorem bs_6_128047746676079 : bytesN 6 128047746676079 = [111, 117, 116, 112, 117, 116] := rfl
@[simp] theorem bs_7_13624522895946867 : bytesN 7 13624522895946867 = [115, 116, 114, 111, 110, 103, 48] := rfl
@[simp] theorem bs_7_13631149928899949 : bytesN 7 13631149928899949 = [109, 101, 100, 105, 117, 109, 48] := rfl
@[simp] theorem bs_7_13644305531958643 : bytesN 7 13644305531958643 = [115, 117, 112, 112, 108, 121, 48] := rfl
@[simp] theorem bs_7_13905997872657523 : bytesN 7 13905997872657523 = [115, 116, 114, 111, 110, 103, 49] := rfl
@[simp] theorem bs_7_13912624905610605 : bytesN 7 13912624905610605 = [109, 101, 100, 105, 117, 109, 49] := rfl
@[simp] theorem bs_7_13925780508669299 : bytesN 7 13925780508669299 = [115, 117, 112, 112, 108, 121, 49] := rfl
@[simp] theorem bs_7_28259022526837540 : bytesN 7 28259022526837540 = [36, 115, 105, 103, 110, 101, 100] := rfl
@[simp] theorem bs_7_28542653543441774 : bytesN 7 28542653543441774 = [110, 101, 103, 101, 100, 103, 101] := rfl
@[simp] theorem bs_7_28542653544230768 : bytesN 7 28542653544230768 = [112, 111, 115, 101, 100, 103, 101] := rfl
@[simp] theorem bs_7_28555834764324453 : bytesN 7 28555834764324453 = [101, 110, 100, 99, 97, 115, 101] := rfl
@[simp] theorem bs_7_30244684909801061 : bytesN 7 30244684909801061 = [101, 110, 100, 116, 97, 115, 107] := rfl
@[simp] theorem bs_7_30506403037277801 : bytesN 7 30506403037277801 = [105, 110, 105, 116, 105, 97, 108] := rfl
@[simp] theorem bs_7_32199642103180905 : bytesN 7 32199642103180905 = [105, 110, 116, 101, 103, 101, 114] := rfl
@[simp] theorem bs_7_32199706527559526 : bytesN 7 32199706527559526 = [102, 111, 114, 101, 118, 101, 114] := rfl
@[simp] theorem bs_7_32770348699510116 : bytesN 7 32770348699510116 = [100, 101, 102, 97, 117, 108, 116] := rfl
@[simp] theorem bs_8_7957695015192261990 : bytesN 8 7957695015192261990 = [102, 117, 110, 99, 116, 105, 111, 110] := rfl
@[simp] theorem bs_9_1851983300318829901092 : bytesN 9 1851983300318829901092 = [36, 117, 110, 115, 105, 103, 110, 101, 100] := rfl
@[simp] theorem bs_9_1870936414602775522917 : bytesN 9 1870936414602775522917 = [101, 110, 100, 109, 111, 100, 117, 108, 101] := rfl
@[simp] theorem bs_9_2110239404018478768496 : bytesN 9 2110239404018478768496 = [112, 97, 114, 97, 109, 101, 116, 101, 114] := rfl
@[simp] theorem bs_10_516535522800345012203372 : bytesN 10 516535522800345012203372 = [108, 111, 99, 97, 108, 112, 97, 114, 97, 109] := rfl
@[simp] theorem bs_11_133507968132003860941401701 : bytesN 11 133507968132003860941401701 = [101, 110, 100, 102, 117, 110, 99, 116, 105, 111, 110] := rfl
@[simp] theorem bs_16_136107713667768957684761770045455085872 : bytesN 16 136107713667768957684761770045455085872 = [48, 49, 50, 51, 52, 53, 54, 55, 56, 57, 97, 98, 99, 100, 101, 102] := rfl
theorem lf_expr_Size : toLF Tryz.prog (an 26) Tryz.f26 = some K_expr_Size.f := by kernel_rfl
theorem pf_expr_Size : Tryz.prog.funcs[(26 : Nat)]? = some Tryz.f26 := Tryz.func26
theorem lf_ref08_Size : toLF Tryz.prog (an 29) Tryz.f29 = some K_ref08_Size.f := by kernel_rfl
theorem pf_ref08_Size : Tryz.prog.funcs[(29 : Nat)]? = some Tryz.f29 := Tryz.func29
theorem lf_law08_wide : toLF Tryz.prog (an 41) Tryz.f41 = some K_law08_wide.f := by kernel_rfl
theorem pf_law08_wide : Tryz.prog.funcs[(41 : Nat)]? = some Tryz.f41 := Tryz.func41
theorem lf_law08_Long : toLF Tryz.prog (an 16) Tryz.f16 = some K_law08_Long.f := by kernel_rfl
theorem pf_law08_Long : Tryz.prog.funcs[(16 : Nat)]? = some Tryz.f16 := Tryz.func16
theorem lf_expr_named : toLF Tryz.prog (an 48) Tryz.f48 = some K_expr_named.f := by kernel_rfl
theorem pf_expr_named : Tryz.prog.funcs[(48 : Nat)]? = some Tryz.f48 := Tryz.func48
theorem lf_ref08_Named : toLF Tryz.prog (an 58) Tryz.f58 = some K_ref08_Named.f := by kernel_rfl
theorem pf_ref08_Named : Tryz.prog.funcs[(58 : Nat)]? = some Tryz.f58 := Tryz.func58
theorem lf_expr_arity : toLF Tryz.prog (an 54) Tryz.f54 = some K_expr_arity.f := by kernel_rfl
theorem pf_expr_arity : Tryz.prog.funcs[(54 : Nat)]? = some Tryz.f54 := Tryz.func54
theorem lf_ref08_Args : toLF Tryz.prog (an 57) Tryz.f57 = some K_ref08_Args.f := by kernel_rfl
theorem pf_ref08_Args : Tryz.prog.funcs[(57 : Nat)]? = some Tryz.f57 := Tryz.func57
theorem lf_expr_Check : toLF Tryz.prog (an 19) Tryz.f19 = some K_expr_Check.f := by kernel_rfl
theorem pf_expr_Check : Tryz.prog.funcs[(19 : Nat)]? = some Tryz.f19 := Tryz.func19
theorem lf_expr_checkNodes : toLF Tryz.prog (an 46) Tryz.f46 = some K_expr_checkNodes.f := by kernel_rfl
theorem pf_expr_checkNodes : Tryz.prog.funcs[(46 : Nat)]? = some Tryz.f46 := Tryz.func46
theorem lf_expr_identifier : toLF Tryz.prog (an 81) Tryz.f81 = some K_expr_identifier.f := by kernel_rfl
theorem pf_expr_identifier : Tryz.prog.funcs[(81 : Nat)]? = some Tryz.f81 := Tryz.func81
theorem lf_expr_system : toLF Tryz.prog (an 82) Tryz.f82 = some K_expr_system.f := by kernel_rfl
theorem pf_expr_system : Tryz.prog.funcs[(82 : Nat)]? = some Tryz.f82 := Tryz.func82
theorem lf_expr_Format : toLF Tryz.prog (an 17) Tryz.f17 = some K_expr_Format.f := by kernel_rfl
theorem pf_expr_Format : Tryz.prog.funcs[(17 : Nat)]? = some Tryz.f17 := Tryz.func17
theorem lf_expr_writer_expr : toLF Tryz.prog (an 42) Tryz.f42 = some K_expr_writer_expr.f := by kernel_rfl
theorem pf_expr_writer_expr : Tryz.prog.funcs[(42 : Nat)]? = some Tryz.f42 := Tryz.func42
theorem lf_expr_writer_put : toLF Tryz.prog (an 74) Tryz.f74 = some K_expr_writer_put.f := by kernel_rfl
theorem pf_expr_writer_put : Tryz.prog.funcs[(74 : Nat)]? = some Tryz.f74 := Tryz.func74
theorem lf_expr_writer_around : toLF Tryz.prog (an 75) Tryz.f75 = some K_expr_writer_around.f := by kernel_rfl
theorem pf_expr_writer_around : Tryz.prog.funcs[(75 : Nat)]? = some Tryz.f75 := Tryz.func75
theorem lf_expr_writer_list : toLF Tryz.prog (an 76) Tryz.f76 = some K_expr_writer_list.f := by kernel_rfl
theorem pf_expr_writer_list : Tryz.prog.funcs[(76 : Nat)]? = some Tryz.f76 := Tryz.func76
theorem lf_expr_unarySymbol : toLF Tryz.prog (an 77) Tryz.f77 = some K_expr_unarySymbol.f := by kernel_rfl
theorem pf_expr_unarySymbol : Tryz.prog.funcs[(77 : Nat)]? = some Tryz.f77 := Tryz.func77
theorem lf_expr_binarySymbol : toLF Tryz.prog (an 78) Tryz.f78 = some K_expr_binarySymbol.f := by kernel_rfl
theorem pf_expr_binarySymbol : Tryz.prog.funcs[(78 : Nat)]? = some Tryz.f78 := Tryz.func78
theorem lf_Builder_String : toLF Tryz.prog (an 44) Tryz.f44 = some K_Builder_String.f := by kernel_rfl
theorem pf_Builder_String : Tryz.prog.funcs[(44 : Nat)]? = some Tryz.f44 := Tryz.func44
theorem lf_Builder_WriteString : toLF Tryz.prog (an 62) Tryz.f62 = some K_Builder_WriteString.f := by kernel_rfl
theorem pf_Builder_WriteString : Tryz.prog.funcs[(62 : Nat)]? = some Tryz.f62 := Tryz.func62
theorem lf_Builder_copyCheck : toLF Tryz.prog (an 90) Tryz.f90 = some K_Builder_copyCheck.f := by kernel_rfl
theorem pf_Builder_copyCheck : Tryz.prog.funcs[(90 : Nat)]? = some Tryz.f90 := Tryz.func90
theorem lf_Builder_Len : toLF Tryz.prog (an 43) Tryz.f43 = some K_Builder_Len.f := by kernel_rfl
theorem pf_Builder_Len : Tryz.prog.funcs[(43 : Nat)]? = some Tryz.f43 := Tryz.func43
theorem lf_ref08_Check : toLF Tryz.prog (an 20) Tryz.f20 = some K_ref08_Check.f := by kernel_rfl
theorem pf_ref08_Check : Tryz.prog.funcs[(20 : Nat)]? = some Tryz.f20 := Tryz.func20
theorem lf_ref08_walk : toLF Tryz.prog (an 47) Tryz.f47 = some K_ref08_walk.f := by kernel_rfl
theorem pf_ref08_walk : Tryz.prog.funcs[(47 : Nat)]? = some Tryz.f47 := Tryz.func47
theorem lf_ref08_own : toLF Tryz.prog (an 84) Tryz.f84 = some K_ref08_own.f := by kernel_rfl
theorem pf_ref08_own : Tryz.prog.funcs[(84 : Nat)]? = some Tryz.f84 := Tryz.func84
theorem lf_ref08_Ident : toLF Tryz.prog (an 115) Tryz.f115 = some K_ref08_Ident.f := by kernel_rfl
theorem pf_ref08_Ident : Tryz.prog.funcs[(115 : Nat)]? = some Tryz.f115 := Tryz.func115
theorem lf_ref08_Format : toLF Tryz.prog (an 18) Tryz.f18 = some K_ref08_Format.f := by kernel_rfl
theorem pf_ref08_Format : Tryz.prog.funcs[(18 : Nat)]? = some Tryz.f18 := Tryz.func18
theorem lf_ref08_Text : toLF Tryz.prog (an 45) Tryz.f45 = some K_ref08_Text.f := by kernel_rfl
theorem pf_ref08_Text : Tryz.prog.funcs[(45 : Nat)]? = some Tryz.f45 := Tryz.func45
theorem lf_ref08_list : toLF Tryz.prog (an 80) Tryz.f80 = some K_ref08_list.f := by kernel_rfl
theorem pf_ref08_list : Tryz.prog.funcs[(80 : Nat)]? = some Tryz.f80 := Tryz.func80
theorem lf_ref08_Unary : toLF Tryz.prog (an 33) Tryz.f33 = some K_ref08_Unary.f := by kernel_rfl
theorem pf_ref08_Unary : Tryz.prog.funcs[(33 : Nat)]? = some Tryz.f33 := Tryz.func33
theorem lf_ref08_Binary : toLF Tryz.prog (an 21) Tryz.f21 = some K_ref08_Binary.f := by kernel_rfl
theorem pf_ref08_Binary : Tryz.prog.funcs[(21 : Nat)]? = some Tryz.f21 := Tryz.func21
theorem lf_token_Format : toLF Tryz.prog (an 73) Tryz.f73 = some K_token_Format.f := by kernel_rfl
theorem pf_token_Format : Tryz.prog.funcs[(73 : Nat)]? = some Tryz.f73 := Tryz.func73
theorem lf_token_whole : toLF Tryz.prog (an 100) Tryz.f100 = some K_token_whole.f := by kernel_rfl
theorem pf_token_whole : Tryz.prog.funcs[(100 : Nat)]? = some Tryz.f100 := Tryz.func100
theorem lf_token_nameEnd : toLF Tryz.prog (an 130) Tryz.f130 = some K_token_nameEnd.f := by kernel_rfl
theorem pf_token_nameEnd : Tryz.prog.funcs[(130 : Nat)]? = some Tryz.f130 := Tryz.func130
theorem lf_token_letter : toLF Tryz.prog (an 148) Tryz.f148 = some K_token_letter.f := by kernel_rfl
theorem pf_token_letter : Tryz.prog.funcs[(148 : Nat)]? = some Tryz.f148 := Tryz.func148
theorem lf_token_digit : toLF Tryz.prog (an 151) Tryz.f151 = some K_token_digit.f := by kernel_rfl
theorem pf_token_digit : Tryz.prog.funcs[(151 : Nat)]? = some Tryz.f151 := Tryz.func151
theorem pf_token_IsKeyword : Tryz.prog.funcs[(101 : Nat)]? = some Tryz.f101 := Tryz.func101
theorem lf_token_decimal : toLF Tryz.prog (an 131) Tryz.f131 = some K_token_decimal.f := by kernel_rfl
theorem pf_token_decimal : Tryz.prog.funcs[(131 : Nat)]? = some Tryz.f131 := Tryz.func131
theorem lf_token_number : toLF Tryz.prog (an 102) Tryz.f102 = some K_token_number.f := by kernel_rfl
theorem pf_token_number : Tryz.prog.funcs[(102 : Nat)]? = some Tryz.f102 := Tryz.func102
theorem lf_vec_Check : toLF Tryz.prog (an 83) Tryz.f83 = some K_vec_Check.f := by kernel_rfl
theorem pf_vec_Check : Tryz.prog.funcs[(83 : Nat)]? = some Tryz.f83 := Tryz.func83
theorem lf_bit_Valid : toLF Tryz.prog (an 114) Tryz.f114 = some K_bit_Valid.f := by kernel_rfl
theorem pf_bit_Valid : Tryz.prog.funcs[(114 : Nat)]? = some Tryz.f114 := Tryz.func114
theorem lf_literal_group : toLF Tryz.prog (an 186) Tryz.f186 = some K_literal_group.f := by kernel_rfl
theorem pf_literal_group : Tryz.prog.funcs[(186 : Nat)]? = some Tryz.f186 := Tryz.func186
theorem lf_literal_Digits : toLF Tryz.prog (an 158) Tryz.f158 = some K_literal_Digits.f := by kernel_rfl
theorem pf_literal_Digits : Tryz.prog.funcs[(158 : Nat)]? = some Tryz.f158 := Tryz.func158
theorem lf_literal_Format : toLF Tryz.prog (an 133) Tryz.f133 = some K_literal_Format.f := by kernel_rfl
theorem pf_literal_Format : Tryz.prog.funcs[(133 : Nat)]? = some Tryz.f133 := Tryz.func133
theorem lf_ref04_Check : toLF Tryz.prog (an 107) Tryz.f107 = some K_ref04_Check.f := by kernel_rfl
theorem pf_ref04_Check : Tryz.prog.funcs[(107 : Nat)]? = some Tryz.f107 := Tryz.func107
theorem lf_ref05_group : toLF Tryz.prog (an 164) Tryz.f164 = some K_ref05_group.f := by kernel_rfl
theorem pf_ref05_group : Tryz.prog.funcs[(164 : Nat)]? = some Tryz.f164 := Tryz.func164
theorem lf_ref05_Digits : toLF Tryz.prog (an 139) Tryz.f139 = some K_ref05_Digits.f := by kernel_rfl
theorem pf_ref05_Digits : Tryz.prog.funcs[(139 : Nat)]? = some Tryz.f139 := Tryz.func139
theorem lf_ref05_Format : toLF Tryz.prog (an 110) Tryz.f110 = some K_ref05_Format.f := by kernel_rfl
theorem pf_ref05_Format : Tryz.prog.funcs[(110 : Nat)]? = some Tryz.f110 := Tryz.func110
theorem lf_ref05_Decimal : toLF Tryz.prog (an 141) Tryz.f141 = some K_ref05_Decimal.f := by kernel_rfl
theorem pf_ref05_Decimal : Tryz.prog.funcs[(141 : Nat)]? = some Tryz.f141 := Tryz.func141
theorem lf_ref03_DivMod : toLF Tryz.prog (an 167) Tryz.f167 = some K_ref03_DivMod.f := by kernel_rfl
theorem pf_ref03_DivMod : Tryz.prog.funcs[(167 : Nat)]? = some Tryz.f167 := Tryz.func167
theorem lf_ref03_Trim : toLF Tryz.prog (an 169) Tryz.f169 = some K_ref03_Trim.f := by kernel_rfl
theorem pf_ref03_Trim : Tryz.prog.funcs[(169 : Nat)]? = some Tryz.f169 := Tryz.func169
theorem lf_ref03_divide : toLF Tryz.prog (an 193) Tryz.f193 = some K_ref03_divide.f := by kernel_rfl
theorem pf_ref03_divide : Tryz.prog.funcs[(193 : Nat)]? = some Tryz.f193 := Tryz.func193
theorem lf_ref03_less : toLF Tryz.prog (an 225) Tryz.f225 = some K_ref03_less.f := by kernel_rfl
theorem pf_ref03_less : Tryz.prog.funcs[(225 : Nat)]? = some Tryz.f225 := Tryz.func225
theorem lf_ref03_Cmp : toLF Tryz.prog (an 251) Tryz.f251 = some K_ref03_Cmp.f := by kernel_rfl
theorem pf_ref03_Cmp : Tryz.prog.funcs[(251 : Nat)]? = some Tryz.f251 := Tryz.func251
theorem lf_ref03_minus : toLF Tryz.prog (an 191) Tryz.f191 = some K_ref03_minus.f := by kernel_rfl
theorem pf_ref03_minus : Tryz.prog.funcs[(191 : Nat)]? = some Tryz.f191 := Tryz.func191
theorem lf_ref03_Uint : toLF Tryz.prog (an 168) Tryz.f168 = some K_ref03_Uint.f := by kernel_rfl
theorem pf_ref03_Uint : Tryz.prog.funcs[(168 : Nat)]? = some Tryz.f168 := Tryz.func168
theorem lf_ref03_Fit : toLF Tryz.prog (an 194) Tryz.f194 = some K_ref03_Fit.f := by kernel_rfl
theorem pf_ref03_Fit : Tryz.prog.funcs[(194 : Nat)]? = some Tryz.f194 := Tryz.func194
theorem lf_ref03_FromInt : toLF Tryz.prog (an 140) Tryz.f140 = some K_ref03_FromInt.f := by kernel_rfl
theorem pf_ref03_FromInt : Tryz.prog.funcs[(140 : Nat)]? = some Tryz.f140 := Tryz.func140
theorem lf_ref03_At : toLF Tryz.prog (an 224) Tryz.f224 = some K_ref03_At.f := by kernel_rfl
theorem pf_ref03_At : Tryz.prog.funcs[(224 : Nat)]? = some Tryz.f224 := Tryz.func224
theorem lf_ref07_plain : toLF Tryz.prog (an 108) Tryz.f108 = some K_ref07_plain.f := by kernel_rfl
theorem pf_ref07_plain : Tryz.prog.funcs[(108 : Nat)]? = some Tryz.f108 := Tryz.func108
theorem lf_ref07_Decimal : toLF Tryz.prog (an 109) Tryz.f109 = some K_ref07_Decimal.f := by kernel_rfl
theorem pf_ref07_Decimal : Tryz.prog.funcs[(109 : Nat)]? = some Tryz.f109 := Tryz.func109
theorem lf_ref07_Format : toLF Tryz.prog (an 79) Tryz.f79 = some K_ref07_Format.f := by kernel_rfl
theorem pf_ref07_Format : Tryz.prog.funcs[(79 : Nat)]? = some Tryz.f79 := Tryz.func79
theorem lf_ref07_name : toLF Tryz.prog (an 105) Tryz.f105 = some K_ref07_name.f := by kernel_rfl
theorem pf_ref07_name : Tryz.prog.funcs[(105 : Nat)]? = some Tryz.f105 := Tryz.func105
theorem lf_ref07_letter : toLF Tryz.prog (an 136) Tryz.f136 = some K_ref07_letter.f := by kernel_rfl
theorem pf_ref07_letter : Tryz.prog.funcs[(136 : Nat)]? = some Tryz.f136 := Tryz.func136
theorem lf_ref07_digit : toLF Tryz.prog (an 137) Tryz.f137 = some K_ref07_digit.f := by kernel_rfl
theorem pf_ref07_digit : Tryz.prog.funcs[(137 : Nat)]? = some Tryz.f137 := Tryz.func137
theorem lf_ref07_IsKeyword : toLF Tryz.prog (an 106) Tryz.f106 = some K_ref07_IsKeyword.f := by kernel_rfl
theorem pf_ref07_IsKeyword : Tryz.prog.funcs[(106 : Nat)]? = some Tryz.f106 := Tryz.func106
theorem lf_ref07_in : toLF Tryz.prog (an 112) Tryz.f112 = some K_ref07_in.f := by kernel_rfl
theorem pf_ref07_in : Tryz.prog.funcs[(112 : Nat)]? = some Tryz.f112 := Tryz.func112
theorem lf_ref07_Keywords : toLF Tryz.prog (an 138) Tryz.f138 = some K_ref07_Keywords.f := by kernel_rfl
theorem pf_ref07_Keywords : Tryz.prog.funcs[(138 : Nat)]? = some Tryz.f138 := Tryz.func138
theorem lf_law08_ExprFormats : toLF Tryz.prog (an 4) Tryz.f4 = some K_law08_ExprFormats.f := by kernel_rfl
theorem pf_law08_ExprFormats : Tryz.prog.funcs[(4 : Nat)]? = some Tryz.f4 := Tryz.func4
theorem lf_ref05_size : toLF Tryz.prog (an 161) Tryz.f161 = some K_ref05_size.f := by kernel_rfl
theorem pf_ref05_size : Tryz.prog.funcs[(161 : Nat)]? = some Tryz.f161 := Tryz.func161
theorem lf_literal_baseOf : toLF Tryz.prog (an 184) Tryz.f184 = some K_literal_baseOf.f := by kernel_rfl
theorem pf_literal_baseOf : Tryz.prog.funcs[(184 : Nat)]? = some Tryz.f184 := Tryz.func184
end Go.TM.R8
