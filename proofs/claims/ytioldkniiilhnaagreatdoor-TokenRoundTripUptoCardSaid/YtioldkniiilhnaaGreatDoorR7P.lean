/- Functions of the program in the fast form, by name, and that it is theirs. Written by a program (genR.py). -/
import Derived.Test.YtioldkniiilhnaaGreatDoorTmRun
import Derived.Test.YtioldkniiilhnaaGreatDoorTmKo
import Derived.Test.YtioldkniiilhnaaGreatDoorProg
import Derived.Test.YtioldkniiilhnaaGreatDoorA7KF
set_option linter.all false
namespace Go.TM.R7
open Go Go.TM Go.Proofs
open Go.TM.A7 (K_Builder_String K_Builder_WriteByte K_Builder_copyCheck K_i_stringslite_HasPrefix K_literal_Parse K_literal_Parse_1 K_literal_baseOf K_literal_base_digit_b0 K_literal_base_digit_h0 K_literal_base_digit K_literal_base_digits_b0 K_literal_base_digits_h0 K_literal_base_digits K_literal_base_value K_literal_base_vector_b0 K_literal_base_vector_h0 K_literal_base_vector_b1 K_literal_base_vector_h1 K_literal_base_vector_b2 K_literal_base_vector_h2 K_literal_base_vector_b3 K_literal_base_vector_h3 K_literal_base_vector K_literal_based K_literal_extent_b0 K_literal_extent_h0 K_literal_extent K_literal_lower K_literal_plain_b0 K_literal_plain_h0 K_literal_plain K_literal_word K_strings_Contains K_strings_HasPrefix K_token_IsKeyword K_token_digit K_token_isPunct K_token_letter K_token_lexers K_token_lexers_1 K_token_lexers_2 K_token_lexers_3 K_token_nameEnd_b0 K_token_nameEnd_h0 K_token_nameEnd K_token_readName K_token_readNumber K_token_readPunct_b0 K_token_readPunct_h0 K_token_readPunct K_token_readString_b0 K_token_readString_h0 K_token_readString K_token_skip_b0 K_token_skip_h0 K_token_skip K_token_unescape K_token_Next_b0 K_token_Next_h0 K_token_Next K_token_All_h0 K_law07_asRef_b0 K_law07_asRef_h0 K_law07_asRef K_ref07_Same_b0 K_ref07_Same_h0 K_ref07_Same K_ref04_Same_b0 K_ref04_Same_h0 K_ref04_Same K_token_decimal_b0 K_token_decimal_h0 K_token_decimal K_token_number K_token_Format K_vec_Check_b0 K_vec_Check_h0 K_vec_Check K_bit_Valid K_law07_given_b0 K_law07_given_h0 K_law07_given an_72 an_97 an_104 an_55 an_116 an_145 an_151 an_186 an_167 an_183 an_168 an_146 an_141 an_166 an_143 an_142 an_98 an_22 an_29 an_86 an_62 an_83 an_53 an_85 an_88 an_90 an_92 an_84 an_87 an_54 an_91 an_52 an_117 an_16 an_19 an_18 an_37 an_94 an_60 an_35 an_93 an_118 an_32)
set_option maxRecDepth 100000
def K_Builder_WriteString : KF := ⟨19,(.q (.o 4 (.mv (.i 0))<|.e 5 (.mv .ni)) (.q (.m 6 0<|.e 7 (.call (.f 104) [.t 6])) (.q (.m 8 0<|.m 9 0<|.o 10 (.nck (.t 9))<|.o 11 (.faddr 1 (.t 10))<|.o 12 (.load false 1 (.t 11))<|.m 13 1<|.o 14 (.apps 5 (.t 12) (.t 13))<|.o 15 (.nck (.t 8))<|.o 16 (.faddr 1 (.t 15))<|.on (.store 1 (.t 16) (.t 14))<|.nil) (.q (.m 17 1<|.o 18 (.lenS (.t 17))<|.m 4 18<|.e 5 (.mv .ni)) (.v [4,5]))))),[.tmp 4,.tmp 5],true⟩
def K_bit_FromBool : KF := ⟨4,(.q (.e 2 (.mv (.p 256 0))) (.seq (.q (.m 3 0<|.nil) (.cond (.t 3) (.q (.e 2 (.mv (.p 256 1))) (.v [2])) .skip)) (.q (.e 2 (.mv (.p 256 0))) (.v [2])))),[.tmp 2],true⟩
def K_bv_Add_b0 : KC := (.q (.e 15 (.bin .lss (.t 14) (.t 13))) (.seq (.cond (.t 15) .skip (.exit ⟨[],[6],[],false⟩ 0)) (.seq (.block 1 (.q (.m 16 14<|.m 7 16<|.nil) (.drq (.m 17 6<|.m 18 7<|.m 19 5<|.m 20 0<|.m 21 7<|.o 22 (.iaddr 1 (.t 20) (.t 21))<|.o 23 (.load false 1 (.t 22))<|.m 24 1<|.m 25 7<|.o 26 (.call (.f 199) [.t 24,.t 25])<|.o 27 (.call (.t 19) [.t 23,.t 26])<|.o 28 (.iaddr 1 (.t 17) (.t 18))<|.on (.store 1 (.t 28) (.t 27))<|.nil) [([],[]),([],[]),([],[]),([],[]),([],[]),([],[]),([],[]),([],[]),([],[]),([],[]),([9000],[9000]),([11],[]),([11],[11])]))) (.ops (.o 29 (.bin .add (.t 14) (.i 1))<|.m 14 29<|.nil)))))
@[reducible] def K_bv_Add_h0 : Head := ⟨[11, 9000, 9001, 9002, 9003], [0, 1, 5, 6, 13, 14], [], true⟩
def K_bv_Add : KF := ⟨31,(.q (.e 4 (.mv .ns)) (.seq (.drq (.o 8 (.call (.f 198) [(.b false)])<|.m 9 0<|.o 10 (.len (.t 9))<|.o 11 (.mk 1 4 (.b false) (.t 10) (.t 10))<|.m 5 8<|.m 6 11<|.nil) [([9000],[9000]),([],[]),([],[]),([11],[11]),([],[]),([],[])]) (.seq (.q (.m 12 0<|.o 13 (.len (.t 12))<|.e 14 (.mv (.i 0))) (.block 0 (.loop K_bv_Add_h0 K_bv_Add_b0))) (.q (.m 30 6<|.m 4 30<|.nil) (.v [4]))))),[.tmp 4],true⟩
def K_bv_FromInt_b0 : KC := (.q (.e 19 (.bin .lss (.t 18) (.t 17))) (.seq (.cond (.t 19) .skip (.exit ⟨[],[6],[],false⟩ 0)) (.seq (.block 1 (.q (.m 20 18<|.m 7 20<|.nil) (.ops (.m 21 6<|.m 22 7<|.m 23 0<|.m 24 7<|.o 25 (.mm false (.t 24) (.i 63))<|.o 26 (.bin .shr (.t 23) (.t 25))<|.o 27 (.bin .and (.t 26) (.i 1))<|.o 28 (.bin .eql (.t 27) (.i 1))<|.o 29 (.iaddr 1 (.t 21) (.t 22))<|.on (.store 1 (.t 29) (.t 28))<|.nil)))) (.ops (.o 30 (.bin .add (.t 18) (.i 1))<|.m 18 30<|.nil)))))
@[reducible] def K_bv_FromInt_h0 : Head := ⟨[15], [0, 6, 17, 18], [], true⟩
def K_bv_FromInt : KF := ⟨32,(.q (.o 4 (.mv .ns)<|.e 5 (.mv (.i 0))) (.seq (.q (.m 8 1<|.o 9 (.bin .lss (.t 8) (.i 0))<|.m 10 9<|.og 11 10 false (.mv (.t 1))<|.og 12 10 false (.bin .gtr (.t 11) (.i 128))<|.e 13 (.pick (.t 10) (.b true) (.t 12))) (.cond (.t 13) (.q (.o 4 (.mv .ns)<|.e 5 (.mv (.i 1))) (.v [4,5])) .skip)) (.q (.m 14 1<|.o 15 (.mk 1 4 (.b false) (.t 14) (.t 14))<|.m 6 15<|.nil) (.seq (.q (.m 16 6<|.o 17 (.len (.t 16))<|.e 18 (.mv (.i 0))) (.block 0 (.loop K_bv_FromInt_h0 K_bv_FromInt_b0))) (.q (.m 31 6<|.m 4 31<|.e 5 (.mv (.i 0))) (.v [4,5])))))),[.tmp 4,.tmp 5],true⟩
def K_bv_Mul_b0 : KC := (.q (.e 16 (.bin .lss (.t 15) (.t 14))) (.seq (.cond (.t 16) .skip (.exit ⟨[],[5],[],false⟩ 0)) (.seq (.block 1 (.q (.m 17 15<|.m 6 17<|.nil) (.q (.m 18 1<|.m 19 6<|.o 20 (.iaddr 1 (.t 18) (.t 19))<|.e 21 (.load false 1 (.t 20))) (.cond (.t 21) (.ops (.m 22 5<|.m 23 0<|.m 24 6<|.o 25 (.call (.f 200) [.t 23,.t 24])<|.o 26 (.call (.f 184) [.t 22,.t 25])<|.m 5 26<|.nil)) .skip)))) (.ops (.o 27 (.bin .add (.t 15) (.i 1))<|.m 15 27<|.nil)))))
@[reducible] def K_bv_Mul_h0 : Head := ⟨[], [0, 1, 5, 14, 15], [5], true⟩
def K_bv_Mul : KF := ⟨29,(.q (.e 4 (.mv .ns)) (.q (.m 7 0<|.o 8 (.len (.t 7))<|.o 9 (.mk 1 4 (.b false) (.t 8) (.t 8))<|.m 5 9<|.nil) (.seq (.q (.m 10 0<|.o 11 (.len (.t 10))<|.m 12 1<|.o 13 (.len (.t 12))<|.o 14 (.mm false (.t 11) (.t 13))<|.e 15 (.mv (.i 0))) (.block 0 (.loop K_bv_Mul_h0 K_bv_Mul_b0))) (.q (.m 28 5<|.m 4 28<|.nil) (.v [4]))))),[.tmp 4],true⟩
def K_bv_Shl : KF := ⟨21,(.q (.e 4 (.mv .ns)) (.q (.m 6 0<|.o 7 (.len (.t 6))<|.o 8 (.mk 1 4 (.b false) (.t 7) (.t 7))<|.m 5 8<|.nil) (.seq (.q (.m 9 1<|.o 10 (.mm true (.t 9) (.i 0))<|.m 1 10<|.nil) (.q (.m 11 1<|.m 12 0<|.o 13 (.len (.t 12))<|.e 14 (.bin .lss (.t 11) (.t 13))) (.cond (.t 14) (.ops (.m 15 5<|.m 16 1<|.o 17 (.slc 1 (.t 15) (some (.t 16)) none none)<|.m 18 0<|.e 19 (.cpy (.t 17) (.t 18)))) .skip))) (.q (.m 20 5<|.m 4 20<|.nil) (.w [4]))))),[.tmp 4],false⟩
def K_bv_adder : KF := ⟨4,(.q (.o 1 (.box 4 (.t 0))<|.e 2 (.mv .nf)) (.q (.o 3 (.mkf 206 [.t 1])<|.m 2 3<|.nil) (.w [2]))),[.tmp 2],false⟩
def K_bv_adder_1 : KF := ⟨26,(.q (.e 5 (.mv (.b false))) (.q (.m 7 0<|.m 8 1<|.o 9 (.beq true (.t 7) (.t 8))<|.o 10 (.load false 1 (.t 2))<|.o 11 (.beq true (.t 9) (.t 10))<|.m 6 11<|.nil) (.q (.m 12 0<|.m 13 12<|.og 14 13 true (.mv (.t 1))<|.o 15 (.pick (.t 13) (.t 14) (.b false))<|.m 16 15<|.og 17 16 false (.load false 1 (.t 2))<|.og 18 16 false (.mv (.t 17))<|.og 19 18 true (.mv (.t 0))<|.og 20 18 true (.mv (.t 19))<|.og 21 20 false (.mv (.t 1))<|.og 22 18 true (.pick (.t 20) (.b true) (.t 21))<|.og 23 16 false (.pick (.t 18) (.t 22) (.b false))<|.o 24 (.pick (.t 16) (.b true) (.t 23))<|.on (.store 1 (.t 2) (.t 24))<|.nil) (.q (.m 25 6<|.m 5 25<|.nil) (.w [5]))))),[.tmp 5],false⟩
def K_bv_at : KF := ⟨15,(.q (.e 4 (.mv (.b false))) (.q (.m 5 1<|.m 6 0<|.o 7 (.len (.t 6))<|.o 8 (.bin .lss (.t 5) (.t 7))<|.m 9 8<|.og 10 9 true (.mv (.t 0))<|.og 11 9 true (.mv (.t 1))<|.og 12 9 true (.iaddr 1 (.t 10) (.t 11))<|.og 13 9 true (.load false 1 (.t 12))<|.o 14 (.pick (.t 9) (.t 13) (.b false))<|.m 4 14<|.nil) (.v [4]))),[.tmp 4],true⟩
def K_token_readSystem : KF := ⟨23,(.q (.o 4 (.alloc 35 [.p 256 0,.s 0 0,.ns,.b false])<|.o 5 (.mv (.i 0))<|.e 6 (.mv (.i 0))) (.q (.m 8 0<|.m 9 1<|.o 10 (.bin .add (.t 9) (.i 1))<|.o 11 (.call (.f 92) [.t 8,.t 10])<|.m 7 11<|.nil) (.seq (.q (.m 12 7<|.m 13 1<|.o 14 (.bin .add (.t 13) (.i 1))<|.e 15 (.bin .eql (.t 12) (.t 14))) (.cond (.t 15) (.q (.o 16 (.bld [(0,1),(1,1),(2,2)] [.p 256 0,.s 0 0,.ns,.b false] [])<|.on (.store 4 (.t 4) (.t 16))<|.o 5 (.mv (.i 0))<|.e 6 (.mv (.i 3))) (.w [4,5,6])) .skip)) (.q (.m 17 0<|.m 18 1<|.m 19 7<|.o 20 (.cutS (.t 17) (some (.t 18)) (some (.t 19)))<|.o 21 (.bld [(0,1),(1,1),(2,2)] [.p 256 0,.s 0 0,.ns,.b false] [(0,(.p 256 3)),(1,(.t 20))])<|.m 22 7<|.on (.store 4 (.t 4) (.t 21))<|.m 5 22<|.e 6 (.mv (.i 0))) (.w [4,5,6]))))),[.cell 4 true 4,.tmp 5,.tmp 6],true⟩
def K_vec_FromInt : KF := ⟨24,(.q (.o 6 (.alloc 26 [.ns,.b false])<|.e 7 (.mv (.i 0))) (.seq (.q (.m 10 1<|.o 11 (.call (.f 163) [.t 10])<|.e 12 (.not (.t 11))) (.cond (.t 12) (.q (.o 13 (.bld [(0,1),(1,1)] [.ns,.b false] [])<|.on (.store 2 (.t 6) (.t 13))<|.e 7 (.mv (.i 12))) (.w [6,7])) .skip)) (.q (.m 15 0<|.m 16 1<|.o 17 (.call (.f 164) [.t 15,.t 16])<|.m 14 17<|.o 18 (.ext (.t 14) 0)<|.o 19 (.ext (.t 14) 1)<|.m 8 18<|.m 9 19<|.nil) (.q (.m 20 8<|.m 21 2<|.o 22 (.call (.f 165) [.t 20,.t 21])<|.m 23 9<|.on (.store 2 (.t 6) (.t 22))<|.m 7 23<|.nil) (.w [6,7]))))),[.cell 6 true 2,.tmp 7],true⟩
def K_vec_vector_b0 : KC := (.q (.e 16 (.bin .lss (.t 15) (.t 14))) (.seq (.cond (.t 16) .skip (.exit ⟨[],[4,5],[],false⟩ 0)) (.seq (.block 1 (.q (.m 17 15<|.o 18 (.iaddr 1 (.t 13) (.t 15))<|.o 19 (.load false 1 (.t 18))<|.m 6 17<|.m 7 19<|.nil) (.drq (.o 20 (.faddr 0 (.t 5))<|.o 21 (.load false 1 (.t 20))<|.m 22 6<|.m 23 7<|.o 24 (.call (.f 182) [.t 23])<|.o 25 (.iaddr 1 (.t 21) (.t 22))<|.on (.store 1 (.t 25) (.t 24))<|.nil) [([],[]),([5],[]),([],[]),([],[]),([],[]),([10],[]),([10],[10])]))) (.ops (.o 26 (.bin .add (.t 15) (.i 1))<|.m 15 26<|.nil)))))
@[reducible] def K_vec_vector_h0 : Head := ⟨[4, 5, 10], [4, 5, 13, 14, 15], [], true⟩
def K_vec_vector : KF := ⟨28,(.q (.e 4 (.alloc 26 [.ns,.b false])) (.q (.m 8 0<|.o 9 (.len (.t 8))<|.o 10 (.mk 1 73 (.p 256 0) (.t 9) (.t 9))<|.m 11 1<|.o 12 (.bld [(0,1),(1,1)] [.ns,.b false] [(0,(.t 10)),(1,(.t 11))])<|.o 5 (.alloc 26 [.ns,.b false])<|.on (.store 2 (.t 5) (.t 12))<|.nil) (.seq (.q (.m 13 0<|.o 14 (.len (.t 13))<|.e 15 (.mv (.i 0))) (.block 0 (.loop K_vec_vector_h0 K_vec_vector_b0))) (.q (.o 27 (.load true 2 (.t 5))<|.on (.store 2 (.t 4) (.t 27))<|.nil) (.w [4]))))),[.cell 4 true 2],true⟩
def K_vec_width : KF := ⟨9,(.q (.e 2 (.mv (.b false))) (.q (.m 3 0<|.o 4 (.bin .geq (.t 3) (.i 1))<|.m 5 4<|.og 6 5 true (.mv (.t 0))<|.og 7 5 true (.bin .leq (.t 6) (.i 128))<|.o 8 (.pick (.t 5) (.t 7) (.b false))<|.m 2 8<|.nil) (.v [2]))),[.tmp 2],true⟩
def K_token_All_b0 : KC := (.block 1 (.q (.m 10 0<|.m 11 5<|.o 12 (.call (.f 16) [.t 10,.t 11])<|.m 9 12<|.o 13 (.ext (.t 9) 0)<|.o 14 (.ext (.t 9) 1)<|.o 15 (.ext (.t 9) 2)<|.o 6 (.alloc 35 [.p 256 0,.s 0 0,.ns,.b false])<|.on (.store 4 (.t 6) (.t 13))<|.m 7 14<|.m 8 15<|.nil) (.q (.m 16 8<|.nil) (.block 2 (.q (.o 19 (.bin .eql (.t 16) (.i 0))<|.m 18 19<|.nil) (.cond (.t 18) (.ops (.m 20 4<|.o 21 (.load true 4 (.t 6))<|.o 22 (.bsl 35 4 [.t 21])<|.o 23 (.app 35 4 (.t 20) (.t 22))<|.m 24 7<|.m 4 23<|.m 5 24<|.nil)) (.q (.o 26 (.bin .eql (.t 16) (.i 8))<|.m 25 26<|.nil) (.cond (.t 25) (.q (.m 27 4<|.m 2 27<|.e 3 (.mv (.i 0))) (.ret ⟨[23],[2,3],[],true⟩)) (.q (.m 17 8<|.o 2 (.mv .ns)<|.m 3 17<|.nil) (.ret ⟨[23],[2,3],[],true⟩))))))))))
def K_token_All : KF := ⟨28,(.q (.o 2 (.mv .ns)<|.e 3 (.mv (.i 0))) (.q (.e 4 (.mv .ns)) (.q (.e 5 (.mv (.i 0))) (.block 0 (.loop K_token_All_h0 K_token_All_b0))))),[.tmp 2,.tmp 3],false⟩
def K_ref07_Puncts : KF := ⟨2,(.q (.e 0 (.mv .ns)) (.q (.o 1 (.bsl 9 1 [(.s 3 3947580),(.s 3 4079166),(.s 3 4013373),(.s 3 4013345),(.s 2 15420),(.s 2 15934),(.s 2 15676),(.s 2 15678),(.s 2 15677),(.s 2 15649),(.s 2 9766),(.s 2 31868),(.s 2 10794),(.s 2 9854),(.s 2 31870),(.s 2 24190),(.s 2 14891),(.s 1 43),(.s 1 45),(.s 1 42),(.s 1 47),(.s 1 37),(.s 1 60),(.s 1 62),(.s 1 33),(.s 1 126),(.s 1 38),(.s 1 124),(.s 1 94),(.s 1 63),(.s 1 58),(.s 1 59),(.s 1 44),(.s 1 46),(.s 1 40),(.s 1 41),(.s 1 91),(.s 1 93),(.s 1 123),(.s 1 125),(.s 1 35),(.s 1 64),(.s 1 61)])<|.m 0 1<|.nil) (.v [0]))),[.tmp 0],true⟩
def K_token_whole : KF := ⟨17,(.q (.e 4 (.mv (.b false))) (.q (.m 5 1<|.m 6 0<|.o 7 (.lenS (.t 6))<|.o 8 (.bin .lss (.t 5) (.t 7))<|.m 9 8<|.og 10 9 true (.mv (.t 0))<|.og 11 9 true (.mv (.t 1))<|.og 12 9 true (.call (.f 92) [.t 10,.t 11])<|.og 13 9 true (.mv (.t 0))<|.og 14 9 true (.lenS (.t 13))<|.og 15 9 true (.bin .eql (.t 12) (.t 14))<|.o 16 (.pick (.t 9) (.t 15) (.b false))<|.m 4 16<|.nil) (.v [4]))),[.tmp 4],true⟩
def K_token_quote_b0 : KC := (.q (.e 11 (.bin .lss (.t 10) (.t 9))) (.seq (.cond (.t 11) .skip (.exit ⟨[],[4],[],false⟩ 0)) (.seq (.block 1 (.q (.m 12 10<|.m 5 12<|.nil) (.q (.m 13 0<|.m 14 5<|.o 15 (.idxS (.t 13) (.t 14))<|.m 6 15<|.nil) (.block 2 (.q (.m 19 6<|.o 20 (.bin .eql (.t 19) (.p 256 10))<|.m 18 20<|.nil) (.cond (.t 18) (.ops (.e 21 (.call (.f 70) [.t 4,(.s 2 28252)]))) (.q (.m 23 6<|.o 24 (.bin .eql (.t 23) (.p 256 9))<|.m 22 24<|.nil) (.cond (.t 22) (.ops (.e 25 (.call (.f 70) [.t 4,(.s 2 29788)]))) (.q (.m 27 6<|.o 28 (.bin .eql (.t 27) (.p 256 34))<|.m 29 28<|.og 30 29 false (.mv (.t 6))<|.og 31 29 false (.bin .eql (.t 30) (.p 256 92))<|.o 32 (.pick (.t 29) (.b true) (.t 31))<|.m 26 32<|.nil) (.cond (.t 26) (.q (.e 33 (.call (.f 97) [.t 4,(.p 256 92)])) (.ops (.m 34 6<|.e 35 (.call (.f 97) [.t 4,.t 34])))) (.q (.m 37 6<|.o 38 (.bin .lss (.t 37) (.p 256 32))<|.m 39 38<|.og 40 39 false (.mv (.t 6))<|.og 41 39 false (.bin .gtr (.t 40) (.p 256 126))<|.o 42 (.pick (.t 39) (.b true) (.t 41))<|.m 36 42<|.nil) (.cond (.t 36) (.q (.o 2 (.mv (.s 0 0))<|.e 3 (.mv (.i 3))) (.v [2,3])) (.ops (.m 16 6<|.e 17 (.call (.f 97) [.t 4,.t 16]))))))))))))))) (.ops (.o 43 (.bin .add (.t 10) (.i 1))<|.m 10 43<|.nil)))))
@[reducible] def K_token_quote_h0 : Head := ⟨[4, 7000, 8000, 8001, 8002, 8003, 45000, 45001, 45002, 45003, 46000, 46001, 46002, 46003], [0, 4, 9, 10], [], true⟩
def K_token_quote : KF := ⟨46,(.q (.o 2 (.mv (.s 0 0))<|.e 3 (.mv (.i 0))) (.q (.e 4 (.alloc 99 [.np,.ns])) (.q (.e 7 (.call (.f 97) [.t 4,(.p 256 34)])) (.seq (.q (.m 8 0<|.o 9 (.lenS (.t 8))<|.e 10 (.mv (.i 0))) (.block 0 (.loop K_token_quote_h0 K_token_quote_b0))) (.q (.e 44 (.call (.f 97) [.t 4,(.p 256 34)])) (.q (.o 45 (.call (.f 72) [.t 4])<|.m 2 45<|.e 3 (.mv (.i 0))) (.v [2,3]))))))),[.tmp 2,.tmp 3],true⟩
def K_token_Join_b0 : KC := (.q (.e 16 (.bin .lss (.t 15) (.t 14))) (.seq (.cond (.t 16) .skip (.exit ⟨[],[4],[],false⟩ 0)) (.seq (.block 1 (.q (.m 17 15<|.o 18 (.iaddr 4 (.t 13) (.t 15))<|.o 19 (.load true 4 (.t 18))<|.o 6 (.alloc 35 [.p 256 0,.s 0 0,.ns,.b false])<|.m 5 17<|.on (.store 4 (.t 6) (.t 19))<|.nil) (.q (.o 21 (.load true 4 (.t 6))<|.o 22 (.call (.f 35) [.t 21])<|.m 20 22<|.o 23 (.ext (.t 20) 0)<|.o 24 (.ext (.t 20) 1)<|.m 7 23<|.m 8 24<|.nil) (.seq (.q (.m 25 8<|.e 26 (.bin .neq (.t 25) (.i 0))) (.cond (.t 26) (.q (.m 27 8<|.o 2 (.mv (.s 0 0))<|.m 3 27<|.nil) (.v [2,3])) .skip)) (.ops (.m 28 4<|.m 29 5<|.m 30 7<|.o 31 (.iaddr 1 (.t 28) (.t 29))<|.on (.store 1 (.t 31) (.t 30))<|.nil)))))) (.ops (.o 32 (.bin .add (.t 15) (.i 1))<|.m 15 32<|.nil)))))
@[reducible] def K_token_Join_h0 : Head := ⟨[12, 35000, 35001, 35002, 35003], [4, 13, 14, 15], [], true⟩
def K_token_Join : KF := ⟨39,(.q (.o 2 (.mv (.s 0 0))<|.e 3 (.mv (.i 0))) (.q (.m 10 0<|.o 11 (.len (.t 10))<|.o 12 (.mk 1 9 (.s 0 0) (.t 11) (.t 11))<|.m 4 12<|.nil) (.seq (.q (.m 13 0<|.o 14 (.len (.t 13))<|.e 15 (.mv (.i 0))) (.block 0 (.loop K_token_Join_h0 K_token_Join_b0))) (.q (.m 33 4<|.o 34 (.call (.f 58) [.t 33,(.s 1 32)])<|.m 9 34<|.nil) (.seq (.q (.m 35 9<|.o 36 (.lenS (.t 35))<|.e 37 (.bin .gtr (.t 36) (.i 65536))) (.cond (.t 37) (.q (.o 2 (.mv (.s 0 0))<|.e 3 (.mv (.i 5))) (.v [2,3])) .skip)) (.q (.m 38 9<|.m 2 38<|.e 3 (.mv (.i 0))) (.v [2,3]))))))),[.tmp 2,.tmp 3],true⟩
def K_literal_group_b0 : KC := (.q (.e 10 (.bin .lss (.t 9) (.t 8))) (.seq (.cond (.t 10) .skip (.exit ⟨[],[0,3,4],[],false⟩ 0)) (.seq (.block 1 (.q (.m 11 9<|.o 12 (.iaddr 1 (.t 7) (.t 9))<|.o 13 (.load false 1 (.t 12))<|.m 5 11<|.m 6 13<|.nil) (.q (.m 14 6<|.o 15 (.iaddrA 4 1 (.t 3) (.t 14))<|.o 16 (.load false 1 (.t 15))<|.o 17 (.bin .add (.t 16) (.i 1))<|.o 18 (.iaddrA 4 1 (.t 3) (.t 14))<|.on (.store 1 (.t 18) (.t 17))<|.nil) (.q (.m 19 6<|.e 20 (.bin .eql (.t 19) (.p 256 1))) (.cond (.t 20) (.ops (.m 21 4<|.m 22 5<|.o 23 (.bin .shl (.i 1) (.t 22))<|.o 24 (.bin .or (.t 21) (.t 23))<|.m 4 24<|.nil)) .skip))))) (.ops (.o 25 (.bin .add (.t 9) (.i 1))<|.m 9 25<|.nil)))))
@[reducible] def K_literal_group_h0 : Head := ⟨[3], [0, 3, 4, 7, 8, 9], [], true⟩
def K_literal_group : KF := ⟨49,(.q (.e 2 (.mv (.p 256 0))) (.q (.e 3 (.alloc 183 [.p 9223372036854775808 0,.p 9223372036854775808 0,.p 9223372036854775808 0,.p 9223372036854775808 0])) (.q (.e 4 (.mv (.i 0))) (.seq (.q (.m 7 0<|.o 8 (.len (.t 7))<|.e 9 (.mv (.i 0))) (.block 0 (.loop K_literal_group_h0 K_literal_group_b0))) (.seq (.block 2 (.q (.o 27 (.iaddrA 4 1 (.t 3) (.p 256 2))<|.o 28 (.load false 1 (.t 27))<|.m 29 0<|.o 30 (.len (.t 29))<|.o 31 (.bin .eql (.t 28) (.t 30))<|.m 26 31<|.nil) (.cond (.t 26) (.q (.e 2 (.mv (.p 256 120))) (.v [2])) (.q (.o 33 (.iaddrA 4 1 (.t 3) (.p 256 3))<|.o 34 (.load false 1 (.t 33))<|.m 35 0<|.o 36 (.len (.t 35))<|.o 37 (.bin .eql (.t 34) (.t 36))<|.m 32 37<|.nil) (.cond (.t 32) (.q (.e 2 (.mv (.p 256 122))) (.v [2])) (.q (.o 39 (.iaddrA 4 1 (.t 3) (.p 256 2))<|.o 40 (.load false 1 (.t 39))<|.o 41 (.bin .gtr (.t 40) (.i 0))<|.m 38 41<|.nil) (.cond (.t 38) (.q (.e 2 (.mv (.p 256 88))) (.v [2])) (.q (.o 43 (.iaddrA 4 1 (.t 3) (.p 256 3))<|.o 44 (.load false 1 (.t 43))<|.o 45 (.bin .gtr (.t 44) (.i 0))<|.m 42 45<|.nil) (.cond (.t 42) (.q (.e 2 (.mv (.p 256 90))) (.v [2])) .skip))))))))) (.q (.m 46 4<|.o 47 (.bin .and (.t 46) (.i 15))<|.o 48 (.idxS (.s 16 136107713667768957684761770045455085872) (.t 47))<|.m 2 48<|.nil) (.v [2]))))))),[.tmp 2],true⟩
def K_literal_Digits_b0 : KC := (.q (.e 46 (.bin .lss (.t 45) (.t 44))) (.seq (.cond (.t 46) .skip (.exit ⟨[],[10],[],false⟩ 1)) (.seq (.block 2 (.q (.m 47 45<|.m 11 47<|.nil) (.ops (.m 48 10<|.m 49 9<|.o 50 (.bin .sub (.t 49) (.i 1))<|.m 51 11<|.o 52 (.bin .sub (.t 50) (.t 51))<|.o 53 (.faddr 0 (.t 2))<|.o 54 (.load false 1 (.t 53))<|.m 55 11<|.o 56 (.faddr 0 (.t 7))<|.o 57 (.load false 1 (.t 56))<|.o 58 (.bin .mul (.t 55) (.t 57))<|.o 59 (.faddr 0 (.t 2))<|.o 60 (.load false 1 (.t 59))<|.o 61 (.len (.t 60))<|.m 62 11<|.o 63 (.bin .add (.t 62) (.i 1))<|.o 64 (.faddr 0 (.t 7))<|.o 65 (.load false 1 (.t 64))<|.o 66 (.bin .mul (.t 63) (.t 65))<|.o 67 (.mm false (.t 61) (.t 66))<|.o 68 (.slc 1 (.t 54) (some (.t 58)) (some (.t 67)) none)<|.o 69 (.call (.f 153) [.t 68])<|.o 70 (.iaddr 1 (.t 48) (.t 52))<|.on (.store 1 (.t 70) (.t 69))<|.nil)))) (.ops (.o 71 (.bin .add (.t 45) (.i 1))<|.m 45 71<|.nil)))))
@[reducible] def K_literal_Digits_h0 : Head := ⟨[2, 7, 42, 14000, 14001, 14002, 14003, 20000, 20001, 20002, 20003, 31000, 31001, 31002, 31003], [2, 7, 9, 10, 44, 45], [], true⟩
def K_literal_Digits : KF := ⟨74,(.q (.o 2 (.box 26 (.t 0))<|.o 4 (.mv (.s 0 0))<|.e 5 (.mv (.i 0))) (.seq (.q (.o 12 (.load true 2 (.t 2))<|.o 13 (.call (.f 93) [.t 12])<|.m 6 13<|.nil) (.q (.m 14 6<|.e 15 (.bin .neq (.t 14) (.i 0))) (.cond (.t 15) (.q (.m 16 6<|.o 4 (.mv (.s 0 0))<|.m 5 16<|.nil) (.v [4,5])) .skip))) (.q (.m 18 1<|.o 19 (.call (.f 151) [.t 18])<|.m 17 19<|.o 20 (.ext (.t 17) 0)<|.o 21 (.ext (.t 17) 1)<|.o 7 (.alloc 164 [.p 9223372036854775808 0,.p 9223372036854775808 0])<|.on (.store 2 (.t 7) (.t 20))<|.m 8 21<|.nil) (.seq (.block 0 (.q (.m 23 8<|.o 24 (.not (.t 23))<|.m 22 24<|.nil) (.cond (.t 22) (.q (.o 4 (.mv (.s 0 0))<|.e 5 (.mv (.i 11))) (.v [4,5])) (.q (.o 26 (.faddr 0 (.t 7))<|.o 27 (.load false 1 (.t 26))<|.o 28 (.bin .eql (.t 27) (.i 0))<|.m 25 28<|.nil) (.cond (.t 25) (.q (.o 29 (.load true 2 (.t 2))<|.o 30 (.call (.f 152) [.t 29])<|.m 4 30<|.e 5 (.mv (.i 0))) (.v [4,5])) .skip))))) (.q (.o 31 (.faddr 0 (.t 2))<|.o 32 (.load false 1 (.t 31))<|.o 33 (.len (.t 32))<|.o 34 (.faddr 0 (.t 7))<|.o 35 (.load false 1 (.t 34))<|.o 36 (.bin .add (.t 33) (.t 35))<|.o 37 (.bin .sub (.t 36) (.i 1))<|.o 38 (.faddr 0 (.t 7))<|.o 39 (.load false 1 (.t 38))<|.o 40 (.bin .quo (.t 37) (.t 39))<|.m 9 40<|.nil) (.q (.m 41 9<|.o 42 (.mk 1 5 (.p 256 0) (.t 41) (.t 41))<|.m 10 42<|.nil) (.seq (.q (.m 43 10<|.o 44 (.len (.t 43))<|.e 45 (.mv (.i 0))) (.block 1 (.loop K_literal_Digits_h0 K_literal_Digits_b0))) (.q (.m 72 10<|.o 73 (.b2s (.t 72))<|.m 4 73<|.e 5 (.mv (.i 0))) (.v [4,5]))))))))),[.tmp 4,.tmp 5],true⟩
def K_literal_Format : KF := ⟨37,(.q (.o 2 (.box 26 (.t 0))<|.o 4 (.mv (.s 0 0))<|.e 5 (.mv (.i 0))) (.q (.o 10 (.load true 2 (.t 2))<|.m 11 1<|.o 12 (.call (.f 120) [.t 10,.t 11])<|.m 9 12<|.o 13 (.ext (.t 9) 0)<|.o 14 (.ext (.t 9) 1)<|.m 6 13<|.m 7 14<|.nil) (.seq (.block 0 (.q (.m 16 7<|.o 17 (.bin .neq (.t 16) (.i 0))<|.m 15 17<|.nil) (.cond (.t 15) (.q (.m 18 7<|.o 4 (.mv (.s 0 0))<|.m 5 18<|.nil) (.v [4,5])) (.q (.m 20 6<|.o 21 (.call (.f 121) [.t 20,(.s 3 2972248)])<|.m 19 21<|.nil) (.cond (.t 19) (.q (.o 4 (.mv (.s 0 0))<|.e 5 (.mv (.i 8))) (.v [4,5])) .skip))))) (.q (.o 22 (.faddr 0 (.t 2))<|.o 23 (.load false 1 (.t 22))<|.o 24 (.len (.t 23))<|.o 25 (.call (.f 122) [.t 24])<|.o 26 (.bin .add (.t 25) (.s 1 39))<|.m 8 26<|.nil) (.seq (.q (.o 27 (.faddr 1 (.t 2))<|.e 28 (.load false 1 (.t 27))) (.cond (.t 28) (.ops (.m 29 8<|.o 30 (.bin .add (.t 29) (.s 1 115))<|.m 8 30<|.nil)) .skip)) (.q (.m 31 8<|.m 32 1<|.o 33 (.i2s (.t 32))<|.o 34 (.bin .add (.t 31) (.t 33))<|.m 35 6<|.o 36 (.bin .add (.t 34) (.t 35))<|.m 4 36<|.e 5 (.mv (.i 0))) (.v [4,5]))))))),[.tmp 4,.tmp 5],true⟩
def K_law07_longTokens_b0 : KC := (.seq (.q (.m 8 4<|.m 9 0<|.o 10 (.len (.t 9))<|.e 11 (.bin .lss (.t 8) (.t 10))) (.cond (.t 11) .skip (.exit ⟨[],[3],[],false⟩ 0))) (.seq (.block 1 (.seq (.q (.m 14 0<|.m 15 4<|.o 16 (.iaddr 4 (.t 14) (.t 15))<|.o 17 (.faddr 1 (.t 16))<|.o 18 (.load false 1 (.t 17))<|.o 19 (.lenS (.t 18))<|.o 20 (.bin .gtr (.t 19) (.i 1000))<|.m 21 20<|.og 22 21 false (.mv (.t 0))<|.og 23 21 false (.mv (.t 4))<|.og 24 21 false (.iaddr 4 (.t 22) (.t 23))<|.og 25 21 false (.faddr 2 (.t 24))<|.og 26 21 false (.faddr 0 (.t 25))<|.og 27 21 false (.load false 1 (.t 26))<|.og 28 21 false (.len (.t 27))<|.og 29 21 false (.bin .gtr (.t 28) (.i 300))<|.e 30 (.pick (.t 21) (.b true) (.t 29))) (.cond (.t 30) (.q (.e 2 (.mv (.b true))) (.v [2])) .skip)) (.ops (.m 31 3<|.m 32 0<|.m 33 4<|.o 34 (.iaddr 4 (.t 32) (.t 33))<|.o 35 (.faddr 1 (.t 34))<|.o 36 (.load false 1 (.t 35))<|.o 37 (.lenS (.t 36))<|.o 38 (.bin .add (.t 31) (.t 37))<|.m 3 38<|.nil)))) (.ops (.m 12 4<|.o 13 (.bin .add (.t 12) (.i 1))<|.m 4 13<|.nil))))
@[reducible] def K_law07_longTokens_h0 : Head := ⟨[], [0, 3, 4], [], true⟩
def K_law07_longTokens : KF := ⟨41,(.q (.e 2 (.mv (.b false))) (.seq (.q (.m 5 0<|.o 6 (.len (.t 5))<|.e 7 (.bin .gtr (.t 6) (.i 100))) (.cond (.t 7) (.q (.e 2 (.mv (.b true))) (.v [2])) .skip)) (.q (.e 3 (.mv (.i 0))) (.seq (.q (.e 4 (.mv (.i 0))) (.block 0 (.loop K_law07_longTokens_h0 K_law07_longTokens_b0))) (.q (.m 39 3<|.o 40 (.bin .gtr (.t 39) (.i 3000))<|.m 2 40<|.nil) (.v [2])))))),[.tmp 2],true⟩
def K_law07_TokenRoundTrip_b0 : KC := (.seq (.q (.m 51 9<|.m 52 0<|.o 53 (.len (.t 52))<|.e 54 (.bin .lss (.t 51) (.t 53))) (.cond (.t 54) .skip (.exit ⟨[],[1],[],false⟩ 0))) (.seq (.block 1 (.q (.m 57 0<|.m 58 9<|.o 59 (.iaddr 4 (.t 57) (.t 58))<|.o 60 (.load true 4 (.t 59))<|.o 10 (.alloc 28 [.p 256 0,.s 0 0,.ns,.b false])<|.on (.store 4 (.t 10) (.t 60))<|.nil) (.seq (.q (.m 61 0<|.m 62 9<|.o 63 (.iaddr 4 (.t 61) (.t 62))<|.o 64 (.faddr 0 (.t 63))<|.o 65 (.load false 1 (.t 64))<|.e 66 (.bin .eql (.t 65) (.p 256 4))) (.cond (.t 66) (.ops (.o 67 (.faddr 1 (.t 10))<|.on (.store 1 (.t 67) (.s 0 0))<|.nil)) (.ops (.o 68 (.bld [(0,1),(1,1)] [.ns,.b false] [])<|.o 69 (.faddr 2 (.t 10))<|.on (.store 2 (.t 69) (.t 68))<|.nil)))) (.seq (.drq (.m 70 7<|.m 71 9<|.m 72 9<|.o 73 (.bin .add (.t 72) (.i 1))<|.o 74 (.slc 4 (.t 70) (some (.t 71)) (some (.t 73)) none)<|.o 75 (.call (.f 19) [.t 74])<|.o 76 (.load true 4 (.t 10))<|.o 77 (.bsl 28 4 [.t 76])<|.o 78 (.call (.f 18) [.t 75,.t 77])<|.e 79 (.not (.t 78))) [([],[]),([],[]),([],[]),([],[]),([],[]),([],[]),([10],[]),([77],[77]),([77],[]),([],[])]) (.cond (.t 79) (.q (.e 4 (.mv (.b false))) (.v [4])) .skip))))) (.ops (.m 55 9<|.o 56 (.bin .add (.t 55) (.i 1))<|.m 9 56<|.nil))))
@[reducible] def K_law07_TokenRoundTrip_h0 : Head := ⟨[], [0, 1, 7, 9], [7], true⟩
def K_law07_TokenRoundTrip : KF := ⟨115,(.q (.e 4 (.mv (.b false))) (.seq (.q (.m 17 0<|.o 18 (.call (.f 31) [.t 17])<|.m 19 18<|.og 20 19 false (.mv (.t 1))<|.og 21 19 false (.lenS (.t 20))<|.og 22 19 false (.bin .gtr (.t 21) (.i 3000))<|.o 23 (.pick (.t 19) (.b true) (.t 22))<|.m 24 23<|.og 25 24 false (.call (.f 13) [])<|.og 26 24 false (.not (.t 25))<|.e 27 (.pick (.t 24) (.b true) (.t 26))) (.cond (.t 27) (.q (.o 28 (.call (.f 13) [])<|.m 4 28<|.nil) (.v [4])) .skip)) (.q (.m 30 0<|.o 31 (.call (.f 32) [.t 30])<|.o 32 (.call (.f 33) [.t 31])<|.m 29 32<|.o 33 (.ext (.t 29) 0)<|.o 34 (.ext (.t 29) 1)<|.m 5 33<|.m 6 34<|.nil) (.seq (.q (.m 35 6<|.e 36 (.bin .eql (.t 35) (.i 0))) (.cond (.t 36) (.q (.m 38 5<|.o 39 (.call (.f 17) [.t 38])<|.m 37 39<|.o 40 (.ext (.t 37) 0)<|.o 41 (.ext (.t 37) 1)<|.m 7 40<|.m 8 41<|.nil) (.seq (.q (.m 42 8<|.o 43 (.bin .neq (.t 42) (.i 0))<|.m 44 43<|.og 45 44 false (.mv (.t 7))<|.og 46 44 false (.len (.t 45))<|.og 47 44 false (.mv (.t 0))<|.og 48 44 false (.len (.t 47))<|.og 49 44 false (.bin .neq (.t 46) (.t 48))<|.e 50 (.pick (.t 44) (.b true) (.t 49))) (.cond (.t 50) (.q (.e 4 (.mv (.b false))) (.v [4])) .skip)) (.q (.e 9 (.mv (.i 0))) (.block 0 (.loop K_law07_TokenRoundTrip_h0 K_law07_TokenRoundTrip_b0))))) (.q (.m 80 5<|.e 81 (.bin .neq (.t 80) (.s 0 0))) (.cond (.t 81) (.q (.e 4 (.mv (.b false))) (.v [4])) .skip)))) (.q (.m 83 1<|.o 84 (.call (.f 17) [.t 83])<|.m 82 84<|.o 85 (.ext (.t 82) 0)<|.o 86 (.ext (.t 82) 1)<|.m 11 85<|.m 12 86<|.nil) (.seq (.q (.m 87 12<|.e 88 (.bin .neq (.t 87) (.i 0))) (.cond (.t 88) (.q (.m 89 11<|.o 90 (.len (.t 89))<|.o 91 (.bin .eql (.t 90) (.i 0))<|.m 4 91<|.nil) (.v [4])) .skip)) (.q (.m 93 11<|.o 94 (.call (.f 33) [.t 93])<|.m 92 94<|.o 95 (.ext (.t 92) 0)<|.o 96 (.ext (.t 92) 1)<|.m 13 95<|.m 14 96<|.nil) (.seq (.q (.m 97 14<|.e 98 (.bin .neq (.t 97) (.i 0))) (.cond (.t 98) (.q (.m 99 14<|.o 100 (.bin .eql (.t 99) (.i 5))<|.m 4 100<|.nil) (.v [4])) .skip)) (.q (.m 102 13<|.o 103 (.call (.f 17) [.t 102])<|.m 101 103<|.o 104 (.ext (.t 101) 0)<|.o 105 (.ext (.t 101) 1)<|.m 15 104<|.m 16 105<|.nil) (.q (.m 106 16<|.o 107 (.bin .eql (.t 106) (.i 0))<|.m 108 107<|.og 109 108 true (.mv (.t 11))<|.og 110 108 true (.call (.f 19) [.t 109])<|.og 111 108 true (.mv (.t 15))<|.og 112 108 true (.call (.f 19) [.t 111])<|.og 113 108 true (.call (.f 18) [.t 110,.t 112])<|.o 114 (.pick (.t 108) (.t 113) (.b false))<|.m 4 114<|.nil) (.v [4]))))))))))),[.tmp 4],true⟩
def an_70 : List (Nat × Head) := [(3000005, ⟨[], [], [], true⟩), (3000002, ⟨[], [4, 5], [4, 5], true⟩)]
def an_182 : List (Nat × Head) := [(3000005, ⟨[], [], [], true⟩), (3000002, ⟨[], [2], [2], true⟩)]
def an_184 : List (Nat × Head) := [(5, ⟨[1, 9000, 1, 9000, 0, 0, 0, 0, 1, 11, 1, 11, 0, 0, 0, 0], [], [], false⟩), (1, ⟨[], [6], [], false⟩), (17, ⟨[0, 0, 0, 0, 0, 0, 0, 0, 0, 0, 0, 0, 0, 0, 0, 0, 0, 0, 0, 0, 1, 9000, 1, 9000, 1, 11, 0, 1, 11, 1, 11], [], [], false⟩), (9, K_bv_Add_h0), (3000005, ⟨[], [], [], true⟩), (3000002, ⟨[], [4], [4], true⟩)]
def an_164 : List (Nat × Head) := [(1, ⟨[], [6], [], false⟩), (15, K_bv_FromInt_h0), (3000005, ⟨[], [], [], true⟩), (3000002, ⟨[], [4, 5], [4, 5], true⟩)]
def an_185 : List (Nat × Head) := [(1, ⟨[], [5], [], false⟩), (9, K_bv_Mul_h0), (3000005, ⟨[], [], [], true⟩), (3000002, ⟨[], [4], [4], true⟩)]
def an_200 : List (Nat × Head) := [(3000005, ⟨[], [], [], false⟩), (3000002, ⟨[], [4], [], false⟩)]
def an_198 : List (Nat × Head) := [(3000005, ⟨[], [], [], false⟩), (3000002, ⟨[], [2], [], false⟩)]
def an_206 : List (Nat × Head) := [(3000005, ⟨[], [], [], false⟩), (3000002, ⟨[], [5], [], false⟩)]
def an_199 : List (Nat × Head) := [(3000005, ⟨[], [], [], true⟩), (3000002, ⟨[], [4], [4], true⟩)]
def an_89 : List (Nat × Head) := [(3000005, ⟨[], [], [], true⟩), (3000002, ⟨[], [4, 5, 6], [], false⟩)]
def an_144 : List (Nat × Head) := [(3000005, ⟨[], [], [], true⟩), (3000002, ⟨[], [6, 7], [], false⟩)]
def an_165 : List (Nat × Head) := [(1, ⟨[], [4, 5], [], false⟩), (17, ⟨[0, 0, 1, 5, 0, 0, 0, 0, 0, 0, 0, 1, 10, 0, 1, 10, 1, 10], [], [], false⟩), (9, K_vec_vector_h0), (3000005, ⟨[], [], [], true⟩), (3000002, ⟨[], [4], [], false⟩)]
def an_163 : List (Nat × Head) := [(3000005, ⟨[], [], [], true⟩), (3000002, ⟨[], [2], [2], true⟩)]
def an_17 : List (Nat × Head) := [(9, K_token_All_h0), (3000005, ⟨[], [], [], false⟩), (3000002, ⟨[23], [2, 3], [], true⟩)]
def an_21 : List (Nat × Head) := [(3000005, ⟨[], [], [], true⟩), (3000002, ⟨[], [0], [0], true⟩)]
def an_59 : List (Nat × Head) := [(3000005, ⟨[], [], [], true⟩), (3000002, ⟨[], [4], [4], true⟩)]
def an_61 : List (Nat × Head) := [(1, ⟨[], [4], [], false⟩), (12, K_token_quote_h0), (3000005, ⟨[], [], [], true⟩), (3000002, ⟨[], [2, 3], [2, 3], true⟩)]
def an_33 : List (Nat × Head) := [(1, ⟨[], [4], [], false⟩), (9, K_token_Join_h0), (3000005, ⟨[], [], [], true⟩), (3000002, ⟨[], [2, 3], [2, 3], true⟩)]
def an_153 : List (Nat × Head) := [(1, ⟨[], [0, 3, 4], [], false⟩), (12, K_literal_group_h0), (3000005, ⟨[], [], [], true⟩), (3000002, ⟨[], [2], [2], true⟩)]
def an_120 : List (Nat × Head) := [(4, ⟨[], [10], [], false⟩), (36, K_literal_Digits_h0), (3000005, ⟨[], [], [], true⟩), (3000002, ⟨[], [4, 5], [4, 5], true⟩)]
def an_96 : List (Nat × Head) := [(3000005, ⟨[], [], [], true⟩), (3000002, ⟨[], [4, 5], [4, 5], true⟩)]
def an_31 : List (Nat × Head) := [(1, ⟨[], [3], [], false⟩), (15, K_law07_longTokens_h0), (3000005, ⟨[], [], [], true⟩), (3000002, ⟨[], [2], [2], true⟩)]
def an_9 : List (Nat × Head) := [(1, ⟨[], [1], [], false⟩), (47, ⟨[0, 0, 0, 0, 0, 0, 0, 0, 0, 0, 0, 0, 1, 10, 0, 1, 77, 1, 77, 1, 77, 0, 0, 0], [], [], false⟩), (27, K_law07_TokenRoundTrip_h0), (3000005, ⟨[], [], [], true⟩), (3000002, ⟨[], [4], [4], true⟩)]
inductive AT where
 | leaf
 | node (f : Nat) (a : List (Nat × Head)) (l r : AT)
noncomputable def AT.get (b : AT) (x : Nat) : List (Nat × Head) := @AT.rec (fun _ => List (Nat × Head)) [] (fun f a _ _ ihl ihr => cond (Nat.beq x f) a (cond (Nat.blt x f) ihl ihr)) b
def anT : AT := (.node 93 an_93 (.node 55 an_55 (.node 31 an_31 (.node 19 an_19 (.node 17 an_17 (.node 16 an_16 (.node 9 an_9 .leaf .leaf) .leaf) (.node 18 an_18 .leaf .leaf)) (.node 22 an_22 (.node 21 an_21 .leaf .leaf) (.node 29 an_29 .leaf .leaf))) (.node 37 an_37 (.node 33 an_33 (.node 32 an_32 .leaf .leaf) (.node 35 an_35 .leaf .leaf)) (.node 53 an_53 (.node 52 an_52 .leaf .leaf) (.node 54 an_54 .leaf .leaf)))) (.node 85 an_85 (.node 70 an_70 (.node 61 an_61 (.node 60 an_60 (.node 59 an_59 .leaf .leaf) .leaf) (.node 62 an_62 .leaf .leaf)) (.node 83 an_83 (.node 72 an_72 .leaf .leaf) (.node 84 an_84 .leaf .leaf))) (.node 89 an_89 (.node 87 an_87 (.node 86 an_86 .leaf .leaf) (.node 88 an_88 .leaf .leaf)) (.node 91 an_91 (.node 90 an_90 .leaf .leaf) (.node 92 an_92 .leaf .leaf))))) (.node 153 an_153 (.node 120 an_120 (.node 104 an_104 (.node 97 an_97 (.node 96 an_96 (.node 94 an_94 .leaf .leaf) .leaf) (.node 98 an_98 .leaf .leaf)) (.node 117 an_117 (.node 116 an_116 .leaf .leaf) (.node 118 an_118 .leaf .leaf))) (.node 144 an_144 (.node 142 an_142 (.node 141 an_141 .leaf .leaf) (.node 143 an_143 .leaf .leaf)) (.node 146 an_146 (.node 145 an_145 .leaf .leaf) (.node 151 an_151 .leaf .leaf)))) (.node 183 an_183 (.node 166 an_166 (.node 164 an_164 (.node 163 an_163 .leaf .leaf) (.node 165 an_165 .leaf .leaf)) (.node 168 an_168 (.node 167 an_167 .leaf .leaf) (.node 182 an_182 .leaf .leaf))) (.node 198 an_198 (.node 185 an_185 (.node 184 an_184 .leaf .leaf) (.node 186 an_186 .leaf .leaf)) (.node 200 an_200 (.node 199 an_199 .leaf .leaf) (.node 206 an_206 .leaf .leaf))))))
noncomputable def an (f r : Nat) : Head := ((anT.get f).lookup r).getD ⟨[], [], [], false⟩
abbrev f_law07_TokenRoundTrip : FuncId := 9
abbrev f_law07_awake : FuncId := 13
abbrev f_token_Next : FuncId := 16
abbrev f_token_All : FuncId := 17
abbrev f_ref07_Same : FuncId := 18
abbrev f_law07_asRef : FuncId := 19
abbrev f_ref07_Puncts : FuncId := 21
abbrev f_strings_HasPrefix : FuncId := 22
abbrev f_token_IsKeyword : FuncId := 29
abbrev f_law07_longTokens : FuncId := 31
abbrev f_law07_given : FuncId := 32
abbrev f_token_Join : FuncId := 33
abbrev f_token_Format : FuncId := 35
abbrev f_ref04_Same : FuncId := 37
abbrev f_token_skip : FuncId := 52
abbrev f_token_lexers : FuncId := 53
abbrev f_token_readPunct : FuncId := 54
abbrev f_i_stringslite_HasPrefix : FuncId := 55
abbrev f_strings_Join : FuncId := 58
abbrev f_token_whole : FuncId := 59
abbrev f_token_number : FuncId := 60
abbrev f_token_quote : FuncId := 61
abbrev f_token_isPunct : FuncId := 62
abbrev f_Builder_WriteString : FuncId := 70
abbrev f_Builder_String : FuncId := 72
abbrev f_strings_IndexByte : FuncId := 81
abbrev f_strings_Index : FuncId := 82
abbrev f_token_letter : FuncId := 83
abbrev f_token_readName : FuncId := 84
abbrev f_token_lexers_1 : FuncId := 85
abbrev f_token_digit : FuncId := 86
abbrev f_token_readNumber : FuncId := 87
abbrev f_token_lexers_2 : FuncId := 88
abbrev f_token_readSystem : FuncId := 89
abbrev f_token_lexers_3 : FuncId := 90
abbrev f_token_readString : FuncId := 91
abbrev f_token_nameEnd : FuncId := 92
abbrev f_vec_Check : FuncId := 93
abbrev f_token_decimal : FuncId := 94
abbrev f_strconv_FormatInt : FuncId := 95
abbrev f_literal_Format : FuncId := 96
abbrev f_Builder_WriteByte : FuncId := 97
abbrev f_strings_Contains : FuncId := 98
abbrev f_Builder_copyCheck : FuncId := 104
abbrev f_literal_Parse : FuncId := 116
abbrev f_token_unescape : FuncId := 117
abbrev f_bit_Valid : FuncId := 118
abbrev f_literal_Digits : FuncId := 120
abbrev f_strings_ContainsAny : FuncId := 121
abbrev f_strconv_Itoa : FuncId := 122
abbrev f_literal_extent : FuncId := 141
abbrev f_literal_word : FuncId := 142
abbrev f_literal_plain : FuncId := 143
abbrev f_vec_FromInt : FuncId := 144
abbrev f_literal_Parse_1 : FuncId := 145
abbrev f_literal_based : FuncId := 146
abbrev f_literal_baseOf : FuncId := 151
abbrev f_literal_decimal : FuncId := 152
abbrev f_literal_group : FuncId := 153
abbrev f_vec_width : FuncId := 163
abbrev f_bv_FromInt : FuncId := 164
abbrev f_vec_vector : FuncId := 165
abbrev f_literal_lower : FuncId := 166
abbrev f_literal_base_digits : FuncId := 167
abbrev f_literal_base_vector : FuncId := 168
abbrev f_bit_FromBool : FuncId := 182
abbrev f_literal_base_value : FuncId := 183
abbrev f_bv_Add : FuncId := 184
abbrev f_bv_Mul : FuncId := 185
abbrev f_literal_base_digit : FuncId := 186
abbrev f_bv_adder : FuncId := 198
abbrev f_bv_at : FuncId := 199
abbrev f_bv_Shl : FuncId := 200
abbrev f_bv_adder_1 : FuncId := 206
abbrev y_int : TypeId := 3
abbrev y_bool : TypeId := 4
abbrev y_uint8 : TypeId := 5
abbrev y_string : TypeId := 9
abbrev y_api_Vec : TypeId := 26
abbrev y_ref07_Token : TypeId := 28
abbrev y_token_Token : TypeId := 35
abbrev y_api_Bit : TypeId := 73
abbrev y_token_lexer : TypeId := 84
abbrev y_Builder : TypeId := 99
abbrev y_literal_base : TypeId := 164
abbrev y_4_int : TypeId := 183
@[simp] theorem fb_bv_adder_1 : Nat.blt 206 1000000000 = true := rfl
@[simp] theorem yl_Builder : (y_Builder < 1000000) = True := eq_true (by decide)
def omT : FuncId → List Nat := fun g => bif Nat.beq g 1000000000 then [5] else []
@[simp] theorem om_sh : omT 1000000002 = [] := rfl
@[simp] theorem om_law07_TokenRoundTrip : omT 9 = [] := rfl
@[simp] theorem om_law07_awake : omT 13 = [] := rfl
@[simp] theorem om_token_Next : omT 16 = [] := rfl
@[simp] theorem om_token_All : omT 17 = [] := rfl
@[simp] theorem om_ref07_Same : omT 18 = [] := rfl
@[simp] theorem om_law07_asRef : omT 19 = [] := rfl
@[simp] theorem om_ref07_Puncts : omT 21 = [] := rfl
@[simp] theorem om_strings_HasPrefix : omT 22 = [] := rfl
@[simp] theorem om_token_IsKeyword : omT 29 = [] := rfl
@[simp] theorem om_law07_longTokens : omT 31 = [] := rfl
@[simp] theorem om_law07_given : omT 32 = [] := rfl
@[simp] theorem om_token_Join : omT 33 = [] := rfl
@[simp] theorem om_token_Format : omT 35 = [] := rfl
@[simp] theorem om_ref04_Same : omT 37 = [] := rfl
@[simp] theorem om_token_skip : omT 52 = [] := rfl
@[simp] theorem om_token_lexers : omT 53 = [] := rfl
@[simp] theorem om_token_readPunct : omT 54 = [] := rfl
@[simp] theorem om_i_stringslite_HasPrefix : omT 55 = [] := rfl
@[simp] theorem om_strings_Join : omT 58 = [] := rfl
@[simp] theorem om_token_whole : omT 59 = [] := rfl
@[simp] theorem om_token_number : omT 60 = [] := rfl
@[simp] theorem om_token_quote : omT 61 = [] := rfl
@[simp] theorem om_token_isPunct : omT 62 = [] := rfl
@[simp] theorem om_Builder_WriteString : omT 70 = [] := rfl
@[simp] theorem om_Builder_String : omT 72 = [] := rfl
@[simp] theorem om_strings_IndexByte : omT 81 = [] := rfl
@[simp] theorem om_strings_Index : omT 82 = [] := rfl
@[simp] theorem om_token_letter : omT 83 = [] := rfl
@[simp] theorem om_token_readName : omT 84 = [] := rfl
@[simp] theorem om_token_lexers_1 : omT 85 = [] := rfl
@[simp] theorem om_token_digit : omT 86 = [] := rfl
@[simp] theorem om_token_readNumber : omT 87 = [] := rfl
@[simp] theorem om_token_lexers_2 : omT 88 = [] := rfl
@[simp] theorem om_token_readSystem : omT 89 = [] := rfl
@[simp] theorem om_token_lexers_3 : omT 90 = [] := rfl
@[simp] theorem om_token_readString : omT 91 = [] := rfl
@[simp] theorem om_token_nameEnd : omT 92 = [] := rfl
@[simp] theorem om_vec_Check : omT 93 = [] := rfl
@[simp] theorem om_token_decimal : omT 94 = [] := rfl
@[simp] theorem om_strconv_FormatInt : omT 95 = [] := rfl
@[simp] theorem om_literal_Format : omT 96 = [] := rfl
@[simp] theorem om_Builder_WriteByte : omT 97 = [] := rfl
@[simp] theorem om_strings_Contains : omT 98 = [] := rfl
@[simp] theorem om_Builder_copyCheck : omT 104 = [] := rfl
@[simp] theorem om_literal_Parse : omT 116 = [] := rfl
@[simp] theorem om_token_unescape : omT 117 = [] := rfl
@[simp] theorem om_bit_Valid : omT 118 = [] := rfl
@[simp] theorem om_literal_Digits : omT 120 = [] := rfl
@[simp] theorem om_strings_ContainsAny : omT 121 = [] := rfl
@[simp] theorem om_strconv_Itoa : omT 122 = [] := rfl
@[simp] theorem om_literal_extent : omT 141 = [] := rfl
@[simp] theorem om_literal_word : omT 142 = [] := rfl
@[simp] theorem om_literal_plain : omT 143 = [] := rfl
@[simp] theorem om_vec_FromInt : omT 144 = [] := rfl
@[simp] theorem om_literal_Parse_1 : omT 145 = [] := rfl
@[simp] theorem om_literal_based : omT 146 = [] := rfl
@[simp] theorem om_literal_baseOf : omT 151 = [] := rfl
@[simp] theorem om_literal_decimal : omT 152 = [] := rfl
@[simp] theorem om_literal_group : omT 153 = [] := rfl
@[simp] theorem om_vec_width : omT 163 = [] := rfl
@[simp] theorem om_bv_FromInt : omT 164 = [] := rfl
@[simp] theorem om_vec_vector : omT 165 = [] := rfl
@[simp] theorem om_literal_lower : omT 166 = [] := rfl
@[simp] theorem om_literal_base_digits : omT 167 = [] := rfl
@[simp] theorem om_literal_base_vector : omT 168 = [] := rfl
@[simp] theorem om_bit_FromBool : omT 182 = [] := rfl
@[simp] theorem om_literal_base_value : omT 183 = [] := rfl
@[simp] theorem om_bv_Add : omT 184 = [] := rfl
@[simp] theorem om_bv_Mul : omT 185 = [] := rfl
@[simp] theorem om_literal_base_digit : omT 186 = [] := rfl
@[simp] theorem om_bv_adder : omT 198 = [] := rfl
@[simp] theorem om_bv_at : omT 199 = [] := rfl
@[simp] theorem om_bv_Shl : omT 200 = [] := rfl
@[simp] theorem om_bv_adder_1 : omT 206 = [] := rfl
@[simp] theorem low_3 (L : Nat) (d : Option Nat) : lowP omT L d 3 = (L, d) := rfl
@[simp] theorem low1_5 (d : Option Nat) : lowP omT 1 d 5 = (1, d) := rfl
@[simp] theorem low2_5 (d : Option Nat) : lowP omT 2 d 5 = (1, some 7000) := rfl
@[simp] theorem low3_5 (d : Option Nat) : lowP omT 3 d 5 = (1, some 7000) := rfl
@[simp] theorem low_28 (L : Nat) (d : Option Nat) : lowP omT L d 28 = (L, d) := rfl
@[simp] theorem low_35 (L : Nat) (d : Option Nat) : lowP omT L d 35 = (L, d) := rfl
@[simp] theorem low_73 (L : Nat) (d : Option Nat) : lowP omT L d 73 = (L, d) := rfl
def XAw : List T → Option T
 | [] => some (.sc (.bool true))
 | _ => none
def XR (f : FuncId) : Option (List T → Option T) := if f = 13 then some XAw else if f = 81 then some XIB else if f = 82 then some XIX else if f = 95 then some XF2 else if f = 122 then some XIT else if f = 58 then some XJN else if f = 121 then some XCA else none
noncomputable def E : Env := { P := Tryz.prog, om := omT, an := an, X := XR }
@[simp] theorem E_om (f : FuncId) : E.om f = omT f := rfl
@[simp] theorem E_low (L : Nat) (d : Option Nat) (e : TypeId) : lowP E.om L d e = lowP omT L d e := rfl
@[simp] theorem bs_0_0 : bytesN 0 0 = [] := rfl
@[simp] theorem bs_1_32 : bytesN 1 32 = [32] := rfl
@[simp] theorem bs_1_33 : bytesN 1 33 = [33] := rfl
@[simp] theorem bs_1_35 : bytesN 1 35 = [35] := rfl
@[simp] theorem bs_1_36 : bytesN 1 36 = [36] := rfl
@[simp] theorem bs_1_37 : bytesN 1 37 = [37] := rfl
@[simp] theorem bs_1_38 : bytesN 1 38 = [38] := rfl
@[simp] theorem bs_1_39 : bytesN 1 39 = [39] := rfl
@[simp] theorem bs_1_40 : bytesN 1 40 = [40] := rfl
@[simp] theorem bs_1_41 : bytesN 1 41 = [41] := rfl
@[simp] theorem bs_1_42 : bytesN 1 42 = [42] := rfl
@[simp] theorem bs_1_43 : bytesN 1 43 = [43] := rfl
@[simp] theorem bs_1_44 : bytesN 1 44 = [44] := rfl
@[simp] theorem bs_1_45 : bytesN 1 45 = [45] := rfl
@[simp] theorem bs_1_46 : bytesN 1 46 = [46] := rfl
@[simp] theorem bs_1_47 : bytesN 1 47 = [47] := rfl
@[simp] theorem bs_1_58 : bytesN 1 58 = [58] := rfl
@[simp] theorem bs_1_59 : bytesN 1 59 = [59] := rfl
@[simp] theorem bs_1_60 : bytesN 1 60 = [60] := rfl
@[simp] theorem bs_1_61 : bytesN 1 61 = [61] := rfl
@[simp] theorem bs_1_62 : bytesN 1 62 = [62] := rfl
@[simp] theorem bs_1_63 : bytesN 1 63 = [63] := rfl
@[simp] theorem bs_1_64 : bytesN 1 64 = [64] := rfl
@[simp] theorem bs_1_91 : bytesN 1 91 = [91] := rfl
@[simp] theorem bs_1_93 : bytesN 1 93 = [93] := rfl
@[simp] theorem bs_1_94 : bytesN 1 94 = [94] := rfl
@[simp] theorem bs_1_115 : bytesN 1 115 = [115] := rfl
@[simp] theorem bs_1_123 : bytesN 1 123 = [123] := rfl
@[simp] theorem bs_1_124 : bytesN 1 124 = [124] := rfl
@[simp] theorem bs_1_125 : bytesN 1 125 = [125] := rfl
@[simp] theorem bs_1_126 : bytesN 1 126 = [126] := rfl
@[simp] theorem bs_2_9766 : bytesN 2 9766 = [38, 38] := rfl
@[simp] theorem bs_2_9854 : bytesN 2 9854 = [126, 38] := rfl
@[simp] theorem bs_2_10794 : bytesN 2 10794 = [42, 42] := rfl
@[simp] theorem bs_2_10799 : bytesN 2 10799 = [47, 42] := rfl
@[simp] theorem bs_2_12074 : bytesN 2 12074 = [42, 47] := rfl
@[simp] theorem bs_2_12079 : bytesN 2 12079 = [47, 47] := rfl
@[simp] theorem bs_2_14891 : bytesN 2 14891 = [43, 58] := rfl
@[simp] theorem bs_2_15420 : bytesN 2 15420 = [60, 60] := rfl
@[simp] theorem bs_2_15649 : bytesN 2 15649 = [33, 61] := rfl
@[simp] theorem bs_2_15676 : bytesN 2 15676 = [60, 61] := rfl
@[simp] theorem bs_2_15677 : bytesN 2 15677 = [61, 61] := rfl
@[simp] theorem bs_2_15678 : bytesN 2 15678 = [62, 61] := rfl
@[simp] theorem bs_2_15934 : bytesN 2 15934 = [62, 62] := rfl
@[simp] theorem bs_2_24190 : bytesN 2 24190 = [126, 94] := rfl
@[simp] theorem bs_2_26217 : bytesN 2 26217 = [105, 102] := rfl
@[simp] theorem bs_2_28252 : bytesN 2 28252 = [92, 110] := rfl
@[simp] theorem bs_2_29295 : bytesN 2 29295 = [111, 114] := rfl
@[simp] theorem bs_2_29788 : bytesN 2 29788 = [92, 116] := rfl
@[simp] theorem bs_2_31868 : bytesN 2 31868 = [124, 124] := rfl
@[simp] theorem bs_2_31870 : bytesN 2 31870 = [126, 124] := rfl
@[simp] theorem bs_3_2972248 : bytesN 3 2972248 = [88, 90, 45] := rfl
@[simp] theorem bs_3_3947580 : bytesN 3 3947580 = [60, 60, 60] := rfl
@[simp] theorem bs_3_4013345 : bytesN 3 4013345 = [33, 61, 61] := rfl
@[simp] theorem bs_3_4013373 : bytesN 3 4013373 = [61, 61, 61] := rfl
@[simp] theorem bs_3_4079166 : bytesN 3 4079166 = [62, 62, 62] := rfl
@[simp] theorem bs_3_6581857 : bytesN 3 6581857 = [97, 110, 100] := rfl
@[simp] theorem bs_3_6581861 : bytesN 3 6581861 = [101, 110, 100] := rfl
@[simp] theorem bs_3_6714722 : bytesN 3 6714722 = [98, 117, 102] := rfl
@[simp] theorem bs_3_6776178 : bytesN 3 6776178 = [114, 101, 103] := rfl
@[simp] theorem bs_3_7499622 : bytesN 3 7499622 = [102, 111, 114] := rfl
@[simp] theorem bs_3_7499630 : bytesN 3 7499630 = [110, 111, 114] := rfl
@[simp] theorem bs_3_7499639 : bytesN 3 7499639 = [119, 111, 114] := rfl
@[simp] theorem bs_3_7499640 : bytesN 3 7499640 = [120, 111, 114] := rfl
@[simp] theorem bs_3_7630702 : bytesN 3 7630702 = [110, 111, 116] := rfl
@[simp] theorem bs_4_812216948 : bytesN 4 812216948 = [116, 114, 105, 48] := rfl
@[simp] theorem bs_4_828994164 : bytesN 4 828994164 = [116, 114, 105, 49] := rfl
@[simp] theorem bs_4_1684955502 : bytesN 4 1684955502 = [110, 97, 110, 100] := rfl
@[simp] theorem bs_4_1684955511 : bytesN 4 1684955511 = [119, 97, 110, 100] := rfl
@[simp] theorem bs_4_1701996919 : bytesN 4 1701996919 = [119, 105, 114, 101] := rfl
@[simp] theorem bs_4_1702060387 : bytesN 4 1702060387 = [99, 97, 115, 101] := rfl
@[simp] theorem bs_4_1702063205 : bytesN 4 1702063205 = [101, 108, 115, 101] := rfl
@[simp] theorem bs_4_1802723700 : bytesN 4 1802723700 = [116, 97, 115, 107] := rfl
@[simp] theorem bs_4_1919905400 : bytesN 4 1919905400 = [120, 110, 111, 114] := rfl
@[simp] theorem bs_4_1953063287 : bytesN 4 1953063287 = [119, 97, 105, 116] := rfl
@[simp] theorem bs_5_207959975287 : bytesN 5 207959975287 = [119, 101, 97, 107, 48] := rfl
@[simp] theorem bs_5_207977477488 : bytesN 5 207977477488 = [112, 117, 108, 108, 48] := rfl
@[simp] theorem bs_5_212254942583 : bytesN 5 212254942583 = [119, 101, 97, 107, 49] := rfl
@[simp] theorem bs_5_212272444784 : bytesN 5 212272444784 = [112, 117, 108, 108, 49] := rfl
@[simp] theorem bs_5_435610544247 : bytesN 5 435610544247 = [119, 104, 105, 108, 101] := rfl
@[simp] theorem bs_5_474214786402 : bytesN 5 474214786402 = [98, 101, 103, 105, 110] := rfl
@[simp] theorem bs_5_500186508905 : bytesN 5 500186508905 = [105, 110, 112, 117, 116] := rfl
@[simp] theorem bs_5_517098135907 : bytesN 5 517098135907 = [99, 97, 115, 101, 120] := rfl
@[simp] theorem bs_5_525688070499 : bytesN 5 525688070499 = [99, 97, 115, 101, 122] := rfl
@[simp] theorem bs_6_53212085379436 : bytesN 6 53212085379436 = [108, 97, 114, 103, 101, 48] := rfl
@[simp] theorem bs_6_53216413119842 : bytesN 6 53216413119842 = [98, 117, 102, 105, 102, 48] := rfl
@[simp] theorem bs_6_53216414035822 : bytesN 6 53216414035822 = [110, 111, 116, 105, 102, 48] := rfl
@[simp] theorem bs_6_53242232925555 : bytesN 6 53242232925555 = [115, 109, 97, 108, 108, 48] := rfl
@[simp] theorem bs_6_53302295751016 : bytesN 6 53302295751016 = [104, 105, 103, 104, 122, 48] := rfl
@[simp] theorem bs_6_54311597007212 : bytesN 6 54311597007212 = [108, 97, 114, 103, 101, 49] := rfl
@[simp] theorem bs_6_54315924747618 : bytesN 6 54315924747618 = [98, 117, 102, 105, 102, 49] := rfl
@[simp] theorem bs_6_54315925663598 : bytesN 6 54315925663598 = [110, 111, 116, 105, 102, 49] := rfl
@[simp] theorem bs_6_54341744553331 : bytesN 6 54341744553331 = [115, 109, 97, 108, 108, 49] := rfl
@[simp] theorem bs_6_54401807378792 : bytesN 6 54401807378792 = [104, 105, 103, 104, 122, 49] := rfl
@[simp] theorem bs_6_110386806745459 : bytesN 6 110386806745459 = [115, 105, 103, 110, 101, 100] := rfl
@[simp] theorem bs_6_111516500389741 : bytesN 6 111516500389741 = [109, 111, 100, 117, 108, 101] := rfl
@[simp] theorem bs_6_121390429860705 : bytesN 6 121390429860705 = [97, 115, 115, 105, 103, 110] := rfl
@[simp] theorem bs_6_125762924340583 : bytesN 6 125762924340583 = [103, 101, 110, 118, 97, 114] := rfl
@[simp] theorem bs_6_126965163453537 : bytesN 6 126965163453537 = [97, 108, 119, 97, 121, 115] := rfl
@[simp] theorem bs_6_127961662514546 : bytesN 6 127961662514546 = [114, 101, 112, 101, 97, 116] := rfl
@[simp] theorem bs_6_128047746676079 : bytesN 6 128047746676079 = [111, 117, 116, 112, 117, 116] := rfl
@[simp] theorem bs_7_13624522895946867 : bytesN 7 13624522895946867 = [115, 116, 114, 111, 110, 103, 48] := rfl
@[simp] theorem bs_7_13631149928899949 : bytesN 7 13631149928899949 = [109, 101, 100, 105, 117, 109, 48] := rfl
@[simp] theorem bs_7_13644305531958643 : bytesN 7 13644305531958643 = [115, 117, 112, 112, 108, 121, 48] := rfl
@[simp] theorem bs_7_13905997872657523 : bytesN 7 13905997872657523 = [115, 116, 114, 111, 110, 103, 49] := rfl
@[simp] theorem bs_7_13912624905610605 : bytesN 7 13912624905610605 = [109, 101, 100, 105, 117, 109, 49] := rfl
@[simp] theorem bs_7_13925780508669299 : bytesN 7 13925780508669299 = [115, 117, 112, 112, 108, 121, 49] := rfl
@[simp] theorem bs_7_28542653543441774 : bytesN 7 28542653543441774 = [110, 101, 103, 101, 100, 103, 101] := rfl
@[simp] theorem bs_7_28542653544230768 : bytesN 7 28542653544230768 = [112, 111, 115, 101, 100, 103, 101] := rfl
@[simp] theorem bs_7_28555834764324453 : bytesN 7 28555834764324453 = [101, 110, 100, 99, 97, 115, 101] := rfl
@[simp] theorem bs_7_30244684909801061 : bytesN 7 30244684909801061 = [101, 110, 100, 116, 97, 115, 107] := rfl
@[simp] theorem bs_7_30506403037277801 : bytesN 7 30506403037277801 = [105, 110, 105, 116, 105, 97, 108] := rfl
@[simp] theorem bs_7_32199642103180905 : bytesN 7 32199642103180905 = [105, 110, 116, 101, 103, 101, 114] := rfl
@[simp] theorem bs_7_32199706527559526 : bytesN 7 32199706527559526 = [102, 111, 114, 101, 118, 101, 114] := rfl
@[simp] theorem bs_7_32770348699510116 : bytesN 7 32770348699510116 = [100, 101, 102, 97, 117, 108, 116] := rfl
@[simp] theorem bs_8_7957695015192261990 : bytesN 8 7957695015192261990 = [102, 117, 110, 99, 116, 105, 111, 110] := rfl
@[simp] theorem bs_9_1870936414602775522917 : bytesN 9 1870936414602775522917 = [101, 110, 100, 109, 111, 100, 117, 108, 101] := rfl
@[simp] theorem bs_9_2110239404018478768496 : bytesN 9 2110239404018478768496 = [112, 97, 114, 97, 109, 101, 116, 101, 114] := rfl
@[simp] theorem bs_10_516535522800345012203372 : bytesN 10 516535522800345012203372 = [108, 111, 99, 97, 108, 112, 97, 114, 97, 109] := rfl
@[simp] theorem bs_11_133507968132003860941401701 : bytesN 11 133507968132003860941401701 = [101, 110, 100, 102, 117, 110, 99, 116, 105, 111, 110] := rfl
@[simp] theorem bs_16_136107713667768957684761770045455085872 : bytesN 16 136107713667768957684761770045455085872 = [48, 49, 50, 51, 52, 53, 54, 55, 56, 57, 97, 98, 99, 100, 101, 102] := rfl
@[simp] theorem bs_26_98425825427143655934000711143467890508455725773951778094198059 : bytesN 26 98425825427143655934000711143467890508455725773951778094198059 = [43, 45, 42, 47, 37, 60, 62, 33, 126, 38, 124, 94, 63, 58, 59, 44, 46, 40, 41, 91, 93, 123, 125, 35, 64, 61] := rfl
theorem lf_Builder_String : toLF Tryz.prog (an 72) Tryz.f72 = some K_Builder_String.f := by kernel_rfl
theorem pf_Builder_String : Tryz.prog.funcs[(72 : Nat)]? = some Tryz.f72 := Tryz.func72
theorem lf_Builder_WriteByte : toLF Tryz.prog (an 97) Tryz.f97 = some K_Builder_WriteByte.f := by kernel_rfl
theorem pf_Builder_WriteByte : Tryz.prog.funcs[(97 : Nat)]? = some Tryz.f97 := Tryz.func97
theorem lf_Builder_WriteString : toLF Tryz.prog (an 70) Tryz.f70 = some K_Builder_WriteString.f := by kernel_rfl
theorem pf_Builder_WriteString : Tryz.prog.funcs[(70 : Nat)]? = some Tryz.f70 := Tryz.func70
theorem lf_Builder_copyCheck : toLF Tryz.prog (an 104) Tryz.f104 = some K_Builder_copyCheck.f := by kernel_rfl
theorem pf_Builder_copyCheck : Tryz.prog.funcs[(104 : Nat)]? = some Tryz.f104 := Tryz.func104
theorem lf_bit_FromBool : toLF Tryz.prog (an 182) Tryz.f182 = some K_bit_FromBool.f := by kernel_rfl
theorem pf_bit_FromBool : Tryz.prog.funcs[(182 : Nat)]? = some Tryz.f182 := Tryz.func182
theorem lf_bv_Add : toLF Tryz.prog (an 184) Tryz.f184 = some K_bv_Add.f := by kernel_rfl
theorem pf_bv_Add : Tryz.prog.funcs[(184 : Nat)]? = some Tryz.f184 := Tryz.func184
theorem lf_bv_FromInt : toLF Tryz.prog (an 164) Tryz.f164 = some K_bv_FromInt.f := by kernel_rfl
theorem pf_bv_FromInt : Tryz.prog.funcs[(164 : Nat)]? = some Tryz.f164 := Tryz.func164
theorem lf_bv_Mul : toLF Tryz.prog (an 185) Tryz.f185 = some K_bv_Mul.f := by kernel_rfl
theorem pf_bv_Mul : Tryz.prog.funcs[(185 : Nat)]? = some Tryz.f185 := Tryz.func185
theorem lf_bv_Shl : toLF Tryz.prog (an 200) Tryz.f200 = some K_bv_Shl.f := by kernel_rfl
theorem pf_bv_Shl : Tryz.prog.funcs[(200 : Nat)]? = some Tryz.f200 := Tryz.func200
theorem lf_bv_adder : toLF Tryz.prog (an 198) Tryz.f198 = some K_bv_adder.f := by kernel_rfl
theorem pf_bv_adder : Tryz.prog.funcs[(198 : Nat)]? = some Tryz.f198 := Tryz.func198
theorem lf_bv_adder_1 : toLF Tryz.prog (an 206) Tryz.f206 = some K_bv_adder_1.f := by kernel_rfl
theorem pf_bv_adder_1 : Tryz.prog.funcs[(206 : Nat)]? = some Tryz.f206 := Tryz.func206
theorem lf_bv_at : toLF Tryz.prog (an 199) Tryz.f199 = some K_bv_at.f := by kernel_rfl
theorem pf_bv_at : Tryz.prog.funcs[(199 : Nat)]? = some Tryz.f199 := Tryz.func199
theorem lf_i_stringslite_HasPrefix : toLF Tryz.prog (an 55) Tryz.f55 = some K_i_stringslite_HasPrefix.f := by kernel_rfl
theorem pf_i_stringslite_HasPrefix : Tryz.prog.funcs[(55 : Nat)]? = some Tryz.f55 := Tryz.func55
theorem lf_literal_Parse : toLF Tryz.prog (an 116) Tryz.f116 = some K_literal_Parse.f := by kernel_rfl
theorem pf_literal_Parse : Tryz.prog.funcs[(116 : Nat)]? = some Tryz.f116 := Tryz.func116
theorem lf_literal_Parse_1 : toLF Tryz.prog (an 145) Tryz.f145 = some K_literal_Parse_1.f := by kernel_rfl
theorem pf_literal_Parse_1 : Tryz.prog.funcs[(145 : Nat)]? = some Tryz.f145 := Tryz.func145
theorem lf_literal_baseOf : toLF Tryz.prog (an 151) Tryz.f151 = some K_literal_baseOf.f := by kernel_rfl
theorem pf_literal_baseOf : Tryz.prog.funcs[(151 : Nat)]? = some Tryz.f151 := Tryz.func151
theorem lf_literal_base_digit : toLF Tryz.prog (an 186) Tryz.f186 = some K_literal_base_digit.f := by kernel_rfl
theorem pf_literal_base_digit : Tryz.prog.funcs[(186 : Nat)]? = some Tryz.f186 := Tryz.func186
theorem lf_literal_base_digits : toLF Tryz.prog (an 167) Tryz.f167 = some K_literal_base_digits.f := by kernel_rfl
theorem pf_literal_base_digits : Tryz.prog.funcs[(167 : Nat)]? = some Tryz.f167 := Tryz.func167
theorem lf_literal_base_value : toLF Tryz.prog (an 183) Tryz.f183 = some K_literal_base_value.f := by kernel_rfl
theorem pf_literal_base_value : Tryz.prog.funcs[(183 : Nat)]? = some Tryz.f183 := Tryz.func183
theorem lf_literal_base_vector : toLF Tryz.prog (an 168) Tryz.f168 = some K_literal_base_vector.f := by kernel_rfl
theorem pf_literal_base_vector : Tryz.prog.funcs[(168 : Nat)]? = some Tryz.f168 := Tryz.func168
theorem lf_literal_based : toLF Tryz.prog (an 146) Tryz.f146 = some K_literal_based.f := by kernel_rfl
theorem pf_literal_based : Tryz.prog.funcs[(146 : Nat)]? = some Tryz.f146 := Tryz.func146
theorem lf_literal_extent : toLF Tryz.prog (an 141) Tryz.f141 = some K_literal_extent.f := by kernel_rfl
theorem pf_literal_extent : Tryz.prog.funcs[(141 : Nat)]? = some Tryz.f141 := Tryz.func141
theorem lf_literal_lower : toLF Tryz.prog (an 166) Tryz.f166 = some K_literal_lower.f := by kernel_rfl
theorem pf_literal_lower : Tryz.prog.funcs[(166 : Nat)]? = some Tryz.f166 := Tryz.func166
theorem lf_literal_plain : toLF Tryz.prog (an 143) Tryz.f143 = some K_literal_plain.f := by kernel_rfl
theorem pf_literal_plain : Tryz.prog.funcs[(143 : Nat)]? = some Tryz.f143 := Tryz.func143
theorem lf_literal_word : toLF Tryz.prog (an 142) Tryz.f142 = some K_literal_word.f := by kernel_rfl
theorem pf_literal_word : Tryz.prog.funcs[(142 : Nat)]? = some Tryz.f142 := Tryz.func142
theorem lf_strings_Contains : toLF Tryz.prog (an 98) Tryz.f98 = some K_strings_Contains.f := by kernel_rfl
theorem pf_strings_Contains : Tryz.prog.funcs[(98 : Nat)]? = some Tryz.f98 := Tryz.func98
theorem lf_strings_HasPrefix : toLF Tryz.prog (an 22) Tryz.f22 = some K_strings_HasPrefix.f := by kernel_rfl
theorem pf_strings_HasPrefix : Tryz.prog.funcs[(22 : Nat)]? = some Tryz.f22 := Tryz.func22
theorem pf_token_IsKeyword : Tryz.prog.funcs[(29 : Nat)]? = some Tryz.f29 := Tryz.func29
theorem lf_token_digit : toLF Tryz.prog (an 86) Tryz.f86 = some K_token_digit.f := by kernel_rfl
theorem pf_token_digit : Tryz.prog.funcs[(86 : Nat)]? = some Tryz.f86 := Tryz.func86
theorem pf_token_isPunct : Tryz.prog.funcs[(62 : Nat)]? = some Tryz.f62 := Tryz.func62
theorem lf_token_letter : toLF Tryz.prog (an 83) Tryz.f83 = some K_token_letter.f := by kernel_rfl
theorem pf_token_letter : Tryz.prog.funcs[(83 : Nat)]? = some Tryz.f83 := Tryz.func83
theorem lf_token_lexers : toLF Tryz.prog (an 53) Tryz.f53 = some K_token_lexers.f := by kernel_rfl
theorem pf_token_lexers : Tryz.prog.funcs[(53 : Nat)]? = some Tryz.f53 := Tryz.func53
theorem lf_token_lexers_1 : toLF Tryz.prog (an 85) Tryz.f85 = some K_token_lexers_1.f := by kernel_rfl
theorem pf_token_lexers_1 : Tryz.prog.funcs[(85 : Nat)]? = some Tryz.f85 := Tryz.func85
theorem lf_token_lexers_2 : toLF Tryz.prog (an 88) Tryz.f88 = some K_token_lexers_2.f := by kernel_rfl
theorem pf_token_lexers_2 : Tryz.prog.funcs[(88 : Nat)]? = some Tryz.f88 := Tryz.func88
theorem lf_token_lexers_3 : toLF Tryz.prog (an 90) Tryz.f90 = some K_token_lexers_3.f := by kernel_rfl
theorem pf_token_lexers_3 : Tryz.prog.funcs[(90 : Nat)]? = some Tryz.f90 := Tryz.func90
theorem lf_token_nameEnd : toLF Tryz.prog (an 92) Tryz.f92 = some K_token_nameEnd.f := by kernel_rfl
theorem pf_token_nameEnd : Tryz.prog.funcs[(92 : Nat)]? = some Tryz.f92 := Tryz.func92
theorem lf_token_readName : toLF Tryz.prog (an 84) Tryz.f84 = some K_token_readName.f := by kernel_rfl
theorem pf_token_readName : Tryz.prog.funcs[(84 : Nat)]? = some Tryz.f84 := Tryz.func84
theorem lf_token_readNumber : toLF Tryz.prog (an 87) Tryz.f87 = some K_token_readNumber.f := by kernel_rfl
theorem pf_token_readNumber : Tryz.prog.funcs[(87 : Nat)]? = some Tryz.f87 := Tryz.func87
theorem lf_token_readPunct : toLF Tryz.prog (an 54) Tryz.f54 = some K_token_readPunct.f := by kernel_rfl
theorem pf_token_readPunct : Tryz.prog.funcs[(54 : Nat)]? = some Tryz.f54 := Tryz.func54
theorem lf_token_readString : toLF Tryz.prog (an 91) Tryz.f91 = some K_token_readString.f := by kernel_rfl
theorem pf_token_readString : Tryz.prog.funcs[(91 : Nat)]? = some Tryz.f91 := Tryz.func91
theorem lf_token_readSystem : toLF Tryz.prog (an 89) Tryz.f89 = some K_token_readSystem.f := by kernel_rfl
theorem pf_token_readSystem : Tryz.prog.funcs[(89 : Nat)]? = some Tryz.f89 := Tryz.func89
theorem lf_token_skip : toLF Tryz.prog (an 52) Tryz.f52 = some K_token_skip.f := by kernel_rfl
theorem pf_token_skip : Tryz.prog.funcs[(52 : Nat)]? = some Tryz.f52 := Tryz.func52
theorem lf_token_unescape : toLF Tryz.prog (an 117) Tryz.f117 = some K_token_unescape.f := by kernel_rfl
theorem pf_token_unescape : Tryz.prog.funcs[(117 : Nat)]? = some Tryz.f117 := Tryz.func117
theorem lf_vec_FromInt : toLF Tryz.prog (an 144) Tryz.f144 = some K_vec_FromInt.f := by kernel_rfl
theorem pf_vec_FromInt : Tryz.prog.funcs[(144 : Nat)]? = some Tryz.f144 := Tryz.func144
theorem lf_vec_vector : toLF Tryz.prog (an 165) Tryz.f165 = some K_vec_vector.f := by kernel_rfl
theorem pf_vec_vector : Tryz.prog.funcs[(165 : Nat)]? = some Tryz.f165 := Tryz.func165
theorem lf_vec_width : toLF Tryz.prog (an 163) Tryz.f163 = some K_vec_width.f := by kernel_rfl
theorem pf_vec_width : Tryz.prog.funcs[(163 : Nat)]? = some Tryz.f163 := Tryz.func163
theorem lf_token_Next : toLF Tryz.prog (an 16) Tryz.f16 = some K_token_Next.f := by kernel_rfl
theorem pf_token_Next : Tryz.prog.funcs[(16 : Nat)]? = some Tryz.f16 := Tryz.func16
theorem lf_token_All : toLF Tryz.prog (an 17) Tryz.f17 = some K_token_All.f := by kernel_rfl
theorem pf_token_All : Tryz.prog.funcs[(17 : Nat)]? = some Tryz.f17 := Tryz.func17
theorem lf_law07_asRef : toLF Tryz.prog (an 19) Tryz.f19 = some K_law07_asRef.f := by kernel_rfl
theorem pf_law07_asRef : Tryz.prog.funcs[(19 : Nat)]? = some Tryz.f19 := Tryz.func19
theorem lf_ref07_Same : toLF Tryz.prog (an 18) Tryz.f18 = some K_ref07_Same.f := by kernel_rfl
theorem pf_ref07_Same : Tryz.prog.funcs[(18 : Nat)]? = some Tryz.f18 := Tryz.func18
theorem lf_ref04_Same : toLF Tryz.prog (an 37) Tryz.f37 = some K_ref04_Same.f := by kernel_rfl
theorem pf_ref04_Same : Tryz.prog.funcs[(37 : Nat)]? = some Tryz.f37 := Tryz.func37
theorem lf_token_whole : toLF Tryz.prog (an 59) Tryz.f59 = some K_token_whole.f := by kernel_rfl
theorem pf_token_whole : Tryz.prog.funcs[(59 : Nat)]? = some Tryz.f59 := Tryz.func59
theorem lf_token_quote : toLF Tryz.prog (an 61) Tryz.f61 = some K_token_quote.f := by kernel_rfl
theorem pf_token_quote : Tryz.prog.funcs[(61 : Nat)]? = some Tryz.f61 := Tryz.func61
theorem lf_token_decimal : toLF Tryz.prog (an 94) Tryz.f94 = some K_token_decimal.f := by kernel_rfl
theorem pf_token_decimal : Tryz.prog.funcs[(94 : Nat)]? = some Tryz.f94 := Tryz.func94
theorem lf_token_number : toLF Tryz.prog (an 60) Tryz.f60 = some K_token_number.f := by kernel_rfl
theorem pf_token_number : Tryz.prog.funcs[(60 : Nat)]? = some Tryz.f60 := Tryz.func60
theorem lf_token_Format : toLF Tryz.prog (an 35) Tryz.f35 = some K_token_Format.f := by kernel_rfl
theorem pf_token_Format : Tryz.prog.funcs[(35 : Nat)]? = some Tryz.f35 := Tryz.func35
theorem lf_token_Join : toLF Tryz.prog (an 33) Tryz.f33 = some K_token_Join.f := by kernel_rfl
theorem pf_token_Join : Tryz.prog.funcs[(33 : Nat)]? = some Tryz.f33 := Tryz.func33
theorem lf_vec_Check : toLF Tryz.prog (an 93) Tryz.f93 = some K_vec_Check.f := by kernel_rfl
theorem pf_vec_Check : Tryz.prog.funcs[(93 : Nat)]? = some Tryz.f93 := Tryz.func93
theorem lf_bit_Valid : toLF Tryz.prog (an 118) Tryz.f118 = some K_bit_Valid.f := by kernel_rfl
theorem pf_bit_Valid : Tryz.prog.funcs[(118 : Nat)]? = some Tryz.f118 := Tryz.func118
theorem lf_literal_group : toLF Tryz.prog (an 153) Tryz.f153 = some K_literal_group.f := by kernel_rfl
theorem pf_literal_group : Tryz.prog.funcs[(153 : Nat)]? = some Tryz.f153 := Tryz.func153
theorem lf_literal_Digits : toLF Tryz.prog (an 120) Tryz.f120 = some K_literal_Digits.f := by kernel_rfl
theorem pf_literal_Digits : Tryz.prog.funcs[(120 : Nat)]? = some Tryz.f120 := Tryz.func120
theorem lf_literal_Format : toLF Tryz.prog (an 96) Tryz.f96 = some K_literal_Format.f := by kernel_rfl
theorem pf_literal_Format : Tryz.prog.funcs[(96 : Nat)]? = some Tryz.f96 := Tryz.func96
theorem lf_law07_given : toLF Tryz.prog (an 32) Tryz.f32 = some K_law07_given.f := by kernel_rfl
theorem pf_law07_given : Tryz.prog.funcs[(32 : Nat)]? = some Tryz.f32 := Tryz.func32
theorem lf_law07_longTokens : toLF Tryz.prog (an 31) Tryz.f31 = some K_law07_longTokens.f := by kernel_rfl
theorem pf_law07_longTokens : Tryz.prog.funcs[(31 : Nat)]? = some Tryz.f31 := Tryz.func31
theorem lf_law07_TokenRoundTrip : toLF Tryz.prog (an 9) Tryz.f9 = some K_law07_TokenRoundTrip.f := by kernel_rfl
theorem pf_law07_TokenRoundTrip : Tryz.prog.funcs[(9 : Nat)]? = some Tryz.f9 := Tryz.func9
end Go.TM.R7
