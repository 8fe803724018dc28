/- Functions of the program in the fast form, by name, and that it is theirs. Written by a program (genR.py). -/
import Derived.Test.YtioldkniiilhnaaGreatDoorTmRun
import Derived.Test.YtioldkniiilhnaaGreatDoorTmKx
import Derived.Test.YtioldkniiilhnaaGreatDoorProg
import Derived.Test.YtioldkniiilhnaaGreatDoorA7KF
set_option linter.all false
namespace Go.TM.R7
open Go Go.TM Go.Proofs
open Go.TM.A7 (K_Builder_String K_Builder_WriteByte K_Builder_copyCheck K_i_stringslite_HasPrefix K_literal_Parse K_literal_Parse_1 K_literal_baseOf K_literal_base_digit_b0 K_literal_base_digit_h0 K_literal_base_digit K_literal_base_digits_b0 K_literal_base_digits_h0 K_literal_base_digits K_literal_base_value K_literal_base_vector_b0 K_literal_base_vector_h0 K_literal_base_vector_b1 K_literal_base_vector_h1 K_literal_base_vector_b2 K_literal_base_vector_h2 K_literal_base_vector_b3 K_literal_base_vector_h3 K_literal_base_vector K_literal_based K_literal_extent_b0 K_literal_extent_h0 K_literal_extent K_literal_lower K_literal_plain_b0 K_literal_plain_h0 K_literal_plain K_literal_word K_strings_Contains K_strings_HasPrefix K_token_IsKeyword K_token_digit K_token_isPunct K_token_letter K_token_lexers K_token_lexers_1 K_token_lexers_2 K_token_lexers_3 K_token_nameEnd_b0 K_token_nameEnd_h0 K_token_nameEnd K_token_readName K_token_readNumber K_token_readPunct_b0 K_token_readPunct_h0 K_token_readPunct K_token_readString_b0 K_token_readString_h0 K_token_readString K_token_skip_b0 K_token_skip_h0 K_token_skip K_token_unescape K_token_Next_b0 K_token_Next_h0 K_token_Next K_token_must K_token_Take an_72 an_97 an_104 an_55 an_116 an_145 an_151 an_186 an_167 an_183 an_168 an_146 an_141 an_166 an_143 an_142 an_98 an_22 an_29 an_86 an_62 an_83 an_53 an_85 an_88 an_90 an_92 an_84 an_87 an_54 an_91 an_52 an_117 an_16 an_56 an_23)
set_option linter.unusedVariables false
set_option maxRecDepth 100000

def K_Builder_WriteString : KF := ⟨19,(.seq (.ops (.o 4 (.mv (.p 9223372036854775808 0))<|.o 5 (.mv .ni)<|.nil)) (.seq (.ops (.o 6 (.mv (.t 0))<|.o 7 (.call (.f 104) [(.t 6)])<|.nil)) (.seq (.ops (.o 8 (.mv (.t 0))<|.o 9 (.mv (.t 0))<|.o 10 (.nck (.t 9))<|.o 11 (.faddr 1 (.t 10))<|.o 12 (.load false 1 (.t 11))<|.o 13 (.mv (.t 1))<|.o 14 (.apps 5 (.t 12) (.t 13))<|.o 15 (.nck (.t 8))<|.o 16 (.faddr 1 (.t 15))<|.on (.store 1 (.t 16) (.t 14))<|.nil)) (.seq (.ops (.o 17 (.mv (.t 1))<|.o 18 (.lenS (.t 17))<|.o 4 (.mv (.t 18))<|.o 5 (.mv .ni)<|.nil)) (.ret ⟨[],[4,5],[4,5],true⟩))))),[.tmp 4,.tmp 5],true⟩
def K_bit_FromBool : KF := ⟨4,(.seq (.ops (.o 2 (.mv (.p 256 0))<|.nil)) (.seq (.seq (.ops (.o 3 (.mv (.t 0))<|.nil)) (.cond (.t 3) (.seq (.ops (.o 2 (.mv (.p 256 1))<|.nil)) (.ret ⟨[],[2],[2],true⟩)) .skip)) (.seq (.ops (.o 2 (.mv (.p 256 0))<|.nil)) (.ret ⟨[],[2],[2],true⟩)))),[.tmp 2],true⟩
def K_bv_Add_b0 : KC := (.seq (.ops (.o 15 (.bin .lss (.t 14) (.t 13))<|.nil)) (.seq (.cond (.t 15) .skip (.exit ⟨[],[6],[],false⟩ 0)) (.seq (.block 1 (.seq (.ops (.o 16 (.mv (.t 14))<|.o 7 (.mv (.t 16))<|.nil)) (.drq (.o 17 (.mv (.t 6))<|.o 18 (.mv (.t 7))<|.o 19 (.mv (.t 5))<|.o 20 (.mv (.t 0))<|.o 21 (.mv (.t 7))<|.o 22 (.iaddr 1 (.t 20) (.t 21))<|.o 23 (.load false 1 (.t 22))<|.o 24 (.mv (.t 1))<|.o 25 (.mv (.t 7))<|.o 26 (.call (.f 199) [(.t 24),(.t 25)])<|.o 27 (.call (.t 19) [(.t 23),(.t 26)])<|.o 28 (.iaddr 1 (.t 17) (.t 18))<|.on (.store 1 (.t 28) (.t 27))<|.nil) [([],[]),([],[]),([],[]),([],[]),([],[]),([],[]),([],[]),([],[]),([],[]),([],[]),([9000],[9000]),([11],[]),([11],[11])]))) (.ops (.o 29 (.bin .add (.t 14) (.p 9223372036854775808 1))<|.o 14 (.mv (.t 29))<|.nil)))))
@[reducible] def K_bv_Add_h0 : Head := ⟨[11, 9000, 9001, 9002, 9003], [0, 1, 5, 6, 13, 14], [], true⟩
def K_bv_Add : KF := ⟨31,(.seq (.ops (.o 4 (.mv .ns)<|.nil)) (.seq (.drq (.o 8 (.call (.f 198) [(.b false)])<|.o 9 (.mv (.t 0))<|.o 10 (.len (.t 9))<|.o 11 (.mk 1 4 (.b false) (.t 10) (.t 10))<|.o 5 (.mv (.t 8))<|.o 6 (.mv (.t 11))<|.nil) [([9000],[9000]),([],[]),([],[]),([11],[11]),([],[]),([],[])]) (.seq (.seq (.ops (.o 12 (.mv (.t 0))<|.o 13 (.len (.t 12))<|.o 14 (.mv (.p 9223372036854775808 0))<|.nil)) (.block 0 (.loop K_bv_Add_h0 K_bv_Add_b0))) (.seq (.ops (.o 30 (.mv (.t 6))<|.o 4 (.mv (.t 30))<|.nil)) (.ret ⟨[],[4],[4],true⟩))))),[.tmp 4],true⟩
def K_bv_FromInt_b0 : KC := (.seq (.ops (.o 19 (.bin .lss (.t 18) (.t 17))<|.nil)) (.seq (.cond (.t 19) .skip (.exit ⟨[],[6],[],false⟩ 0)) (.seq (.block 1 (.seq (.ops (.o 20 (.mv (.t 18))<|.o 7 (.mv (.t 20))<|.nil)) (.ops (.o 21 (.mv (.t 6))<|.o 22 (.mv (.t 7))<|.o 23 (.mv (.t 0))<|.o 24 (.mv (.t 7))<|.o 25 (.mm false (.t 24) (.p 9223372036854775808 63))<|.o 26 (.bin .shr (.t 23) (.t 25))<|.o 27 (.bin .and (.t 26) (.p 9223372036854775808 1))<|.o 28 (.bin .eql (.t 27) (.p 9223372036854775808 1))<|.o 29 (.iaddr 1 (.t 21) (.t 22))<|.on (.store 1 (.t 29) (.t 28))<|.nil)))) (.ops (.o 30 (.bin .add (.t 18) (.p 9223372036854775808 1))<|.o 18 (.mv (.t 30))<|.nil)))))
@[reducible] def K_bv_FromInt_h0 : Head := ⟨[15], [0, 6, 17, 18], [], true⟩
def K_bv_FromInt : KF := ⟨32,(.seq (.ops (.o 4 (.mv .ns)<|.o 5 (.mv (.p 9223372036854775808 0))<|.nil)) (.seq (.seq (.ops (.o 8 (.mv (.t 1))<|.o 9 (.bin .lss (.t 8) (.p 9223372036854775808 0))<|.o 10 (.mv (.t 9))<|.og 11 10 false (.mv (.t 1))<|.og 12 10 false (.bin .gtr (.t 11) (.p 9223372036854775808 128))<|.o 13 (.pick (.t 10) (.b true) (.t 12))<|.nil)) (.cond (.t 13) (.seq (.ops (.o 4 (.mv .ns)<|.o 5 (.mv (.p 9223372036854775808 1))<|.nil)) (.ret ⟨[],[4,5],[4,5],true⟩)) .skip)) (.seq (.ops (.o 14 (.mv (.t 1))<|.o 15 (.mk 1 4 (.b false) (.t 14) (.t 14))<|.o 6 (.mv (.t 15))<|.nil)) (.seq (.seq (.ops (.o 16 (.mv (.t 6))<|.o 17 (.len (.t 16))<|.o 18 (.mv (.p 9223372036854775808 0))<|.nil)) (.block 0 (.loop K_bv_FromInt_h0 K_bv_FromInt_b0))) (.seq (.ops (.o 31 (.mv (.t 6))<|.o 4 (.mv (.t 31))<|.o 5 (.mv (.p 9223372036854775808 0))<|.nil)) (.ret ⟨[],[4,5],[4,5],true⟩)))))),[.tmp 4,.tmp 5],true⟩
def K_bv_Mul_b0 : KC := (.seq (.ops (.o 16 (.bin .lss (.t 15) (.t 14))<|.nil)) (.seq (.cond (.t 16) .skip (.exit ⟨[],[5],[],false⟩ 0)) (.seq (.block 1 (.seq (.ops (.o 17 (.mv (.t 15))<|.o 6 (.mv (.t 17))<|.nil)) (.seq (.ops (.o 18 (.mv (.t 1))<|.o 19 (.mv (.t 6))<|.o 20 (.iaddr 1 (.t 18) (.t 19))<|.o 21 (.load false 1 (.t 20))<|.nil)) (.cond (.t 21) (.ops (.o 22 (.mv (.t 5))<|.o 23 (.mv (.t 0))<|.o 24 (.mv (.t 6))<|.o 25 (.call (.f 200) [(.t 23),(.t 24)])<|.o 26 (.call (.f 184) [(.t 22),(.t 25)])<|.o 5 (.mv (.t 26))<|.nil)) .skip)))) (.ops (.o 27 (.bin .add (.t 15) (.p 9223372036854775808 1))<|.o 15 (.mv (.t 27))<|.nil)))))
@[reducible] def K_bv_Mul_h0 : Head := ⟨[], [0, 1, 5, 14, 15], [5], true⟩
def K_bv_Mul : KF := ⟨29,(.seq (.ops (.o 4 (.mv .ns)<|.nil)) (.seq (.ops (.o 7 (.mv (.t 0))<|.o 8 (.len (.t 7))<|.o 9 (.mk 1 4 (.b false) (.t 8) (.t 8))<|.o 5 (.mv (.t 9))<|.nil)) (.seq (.seq (.ops (.o 10 (.mv (.t 0))<|.o 11 (.len (.t 10))<|.o 12 (.mv (.t 1))<|.o 13 (.len (.t 12))<|.o 14 (.mm false (.t 11) (.t 13))<|.o 15 (.mv (.p 9223372036854775808 0))<|.nil)) (.block 0 (.loop K_bv_Mul_h0 K_bv_Mul_b0))) (.seq (.ops (.o 28 (.mv (.t 5))<|.o 4 (.mv (.t 28))<|.nil)) (.ret ⟨[],[4],[4],true⟩))))),[.tmp 4],true⟩
def K_bv_Shl : KF := ⟨21,(.seq (.ops (.o 4 (.mv .ns)<|.nil)) (.seq (.ops (.o 6 (.mv (.t 0))<|.o 7 (.len (.t 6))<|.o 8 (.mk 1 4 (.b false) (.t 7) (.t 7))<|.o 5 (.mv (.t 8))<|.nil)) (.seq (.seq (.ops (.o 9 (.mv (.t 1))<|.o 10 (.mm true (.t 9) (.p 9223372036854775808 0))<|.o 1 (.mv (.t 10))<|.nil)) (.seq (.ops (.o 11 (.mv (.t 1))<|.o 12 (.mv (.t 0))<|.o 13 (.len (.t 12))<|.o 14 (.bin .lss (.t 11) (.t 13))<|.nil)) (.cond (.t 14) (.ops (.o 15 (.mv (.t 5))<|.o 16 (.mv (.t 1))<|.o 17 (.slc 1 (.t 15) (some (.t 16)) none none)<|.o 18 (.mv (.t 0))<|.o 19 (.cpy (.t 17) (.t 18))<|.nil)) .skip))) (.seq (.ops (.o 20 (.mv (.t 5))<|.o 4 (.mv (.t 20))<|.nil)) (.ret ⟨[],[4],[],false⟩))))),[.tmp 4],false⟩
def K_bv_adder : KF := ⟨4,(.seq (.ops (.o 1 (.box 4 (.t 0))<|.o 2 (.mv .nf)<|.nil)) (.seq (.ops (.o 3 (.mkf 206 [(.t 1)])<|.o 2 (.mv (.t 3))<|.nil)) (.ret ⟨[],[2],[],false⟩))),[.tmp 2],false⟩
def K_bv_adder_1 : KF := ⟨26,(.seq (.ops (.o 5 (.mv (.b false))<|.nil)) (.seq (.ops (.o 7 (.mv (.t 0))<|.o 8 (.mv (.t 1))<|.o 9 (.beq true (.t 7) (.t 8))<|.o 10 (.load false 1 (.t 2))<|.o 11 (.beq true (.t 9) (.t 10))<|.o 6 (.mv (.t 11))<|.nil)) (.seq (.ops (.o 12 (.mv (.t 0))<|.o 13 (.mv (.t 12))<|.og 14 13 true (.mv (.t 1))<|.o 15 (.pick (.t 13) (.t 14) (.b false))<|.o 16 (.mv (.t 15))<|.og 17 16 false (.load false 1 (.t 2))<|.og 18 16 false (.mv (.t 17))<|.og 19 18 true (.mv (.t 0))<|.og 20 18 true (.mv (.t 19))<|.og 21 20 false (.mv (.t 1))<|.og 22 18 true (.pick (.t 20) (.b true) (.t 21))<|.og 23 16 false (.pick (.t 18) (.t 22) (.b false))<|.o 24 (.pick (.t 16) (.b true) (.t 23))<|.on (.store 1 (.t 2) (.t 24))<|.nil)) (.seq (.ops (.o 25 (.mv (.t 6))<|.o 5 (.mv (.t 25))<|.nil)) (.ret ⟨[],[5],[],false⟩))))),[.tmp 5],false⟩
def K_bv_at : KF := ⟨15,(.seq (.ops (.o 4 (.mv (.b false))<|.nil)) (.seq (.ops (.o 5 (.mv (.t 1))<|.o 6 (.mv (.t 0))<|.o 7 (.len (.t 6))<|.o 8 (.bin .lss (.t 5) (.t 7))<|.o 9 (.mv (.t 8))<|.og 10 9 true (.mv (.t 0))<|.og 11 9 true (.mv (.t 1))<|.og 12 9 true (.iaddr 1 (.t 10) (.t 11))<|.og 13 9 true (.load false 1 (.t 12))<|.o 14 (.pick (.t 9) (.t 13) (.b false))<|.o 4 (.mv (.t 14))<|.nil)) (.ret ⟨[],[4],[4],true⟩))),[.tmp 4],true⟩
def K_token_readSystem : KF := ⟨23,(.seq (.ops (.o 4 (.alloc 35 [.p 256 0,.s 0 0,.ns,.b false])<|.o 5 (.mv (.p 9223372036854775808 0))<|.o 6 (.mv (.p 9223372036854775808 0))<|.nil)) (.seq (.ops (.o 8 (.mv (.t 0))<|.o 9 (.mv (.t 1))<|.o 10 (.bin .add (.t 9) (.p 9223372036854775808 1))<|.o 11 (.call (.f 92) [(.t 8),(.t 10)])<|.o 7 (.mv (.t 11))<|.nil)) (.seq (.seq (.ops (.o 12 (.mv (.t 7))<|.o 13 (.mv (.t 1))<|.o 14 (.bin .add (.t 13) (.p 9223372036854775808 1))<|.o 15 (.bin .eql (.t 12) (.t 14))<|.nil)) (.cond (.t 15) (.seq (.ops (.o 16 (.bld [(0,1),(1,1),(2,2)] [.p 256 0,.s 0 0,.ns,.b false] [])<|.on (.store 4 (.t 4) (.t 16))<|.o 5 (.mv (.p 9223372036854775808 0))<|.o 6 (.mv (.p 9223372036854775808 3))<|.nil)) (.ret ⟨[],[4,5,6],[],false⟩)) .skip)) (.seq (.ops (.o 17 (.mv (.t 0))<|.o 18 (.mv (.t 1))<|.o 19 (.mv (.t 7))<|.o 20 (.cutS (.t 17) (some (.t 18)) (some (.t 19)))<|.o 21 (.bld [(0,1),(1,1),(2,2)] [.p 256 0,.s 0 0,.ns,.b false] [(0,(.p 256 3)),(1,(.t 20))])<|.o 22 (.mv (.t 7))<|.on (.store 4 (.t 4) (.t 21))<|.o 5 (.mv (.t 22))<|.o 6 (.mv (.p 9223372036854775808 0))<|.nil)) (.ret ⟨[],[4,5,6],[],false⟩))))),[.cell 4 true 4,.tmp 5,.tmp 6],true⟩
def K_vec_FromInt : KF := ⟨24,(.seq (.ops (.o 6 (.alloc 26 [.ns,.b false])<|.o 7 (.mv (.p 9223372036854775808 0))<|.nil)) (.seq (.seq (.ops (.o 10 (.mv (.t 1))<|.o 11 (.call (.f 163) [(.t 10)])<|.o 12 (.not (.t 11))<|.nil)) (.cond (.t 12) (.seq (.ops (.o 13 (.bld [(0,1),(1,1)] [.ns,.b false] [])<|.on (.store 2 (.t 6) (.t 13))<|.o 7 (.mv (.p 9223372036854775808 12))<|.nil)) (.ret ⟨[],[6,7],[],false⟩)) .skip)) (.seq (.ops (.o 15 (.mv (.t 0))<|.o 16 (.mv (.t 1))<|.o 17 (.call (.f 164) [(.t 15),(.t 16)])<|.o 14 (.mv (.t 17))<|.o 18 (.ext (.t 14) 0)<|.o 19 (.ext (.t 14) 1)<|.o 8 (.mv (.t 18))<|.o 9 (.mv (.t 19))<|.nil)) (.seq (.ops (.o 20 (.mv (.t 8))<|.o 21 (.mv (.t 2))<|.o 22 (.call (.f 165) [(.t 20),(.t 21)])<|.o 23 (.mv (.t 9))<|.on (.store 2 (.t 6) (.t 22))<|.o 7 (.mv (.t 23))<|.nil)) (.ret ⟨[],[6,7],[],false⟩))))),[.cell 6 true 2,.tmp 7],true⟩
def K_vec_vector_b0 : KC := (.seq (.ops (.o 16 (.bin .lss (.t 15) (.t 14))<|.nil)) (.seq (.cond (.t 16) .skip (.exit ⟨[],[4,5],[],false⟩ 0)) (.seq (.block 1 (.seq (.ops (.o 17 (.mv (.t 15))<|.o 18 (.iaddr 1 (.t 13) (.t 15))<|.o 19 (.load false 1 (.t 18))<|.o 6 (.mv (.t 17))<|.o 7 (.mv (.t 19))<|.nil)) (.drq (.o 20 (.faddr 0 (.t 5))<|.o 21 (.load false 1 (.t 20))<|.o 22 (.mv (.t 6))<|.o 23 (.mv (.t 7))<|.o 24 (.call (.f 182) [(.t 23)])<|.o 25 (.iaddr 1 (.t 21) (.t 22))<|.on (.store 1 (.t 25) (.t 24))<|.nil) [([],[]),([5],[]),([],[]),([],[]),([],[]),([10],[]),([10],[10])]))) (.ops (.o 26 (.bin .add (.t 15) (.p 9223372036854775808 1))<|.o 15 (.mv (.t 26))<|.nil)))))
@[reducible] def K_vec_vector_h0 : Head := ⟨[4, 5, 10], [4, 5, 13, 14, 15], [], true⟩
def K_vec_vector : KF := ⟨28,(.seq (.ops (.o 4 (.alloc 26 [.ns,.b false])<|.nil)) (.seq (.ops (.o 8 (.mv (.t 0))<|.o 9 (.len (.t 8))<|.o 10 (.mk 1 73 (.p 256 0) (.t 9) (.t 9))<|.o 11 (.mv (.t 1))<|.o 12 (.bld [(0,1),(1,1)] [.ns,.b false] [(0,(.t 10)),(1,(.t 11))])<|.o 5 (.alloc 26 [.ns,.b false])<|.on (.store 2 (.t 5) (.t 12))<|.nil)) (.seq (.seq (.ops (.o 13 (.mv (.t 0))<|.o 14 (.len (.t 13))<|.o 15 (.mv (.p 9223372036854775808 0))<|.nil)) (.block 0 (.loop K_vec_vector_h0 K_vec_vector_b0))) (.seq (.ops (.o 27 (.load true 2 (.t 5))<|.on (.store 2 (.t 4) (.t 27))<|.nil)) (.ret ⟨[],[4],[],false⟩))))),[.cell 4 true 2],true⟩
def K_vec_width : KF := ⟨9,(.seq (.ops (.o 2 (.mv (.b false))<|.nil)) (.seq (.ops (.o 3 (.mv (.t 0))<|.o 4 (.bin .geq (.t 3) (.p 9223372036854775808 1))<|.o 5 (.mv (.t 4))<|.og 6 5 true (.mv (.t 0))<|.og 7 5 true (.bin .leq (.t 6) (.p 9223372036854775808 128))<|.o 8 (.pick (.t 5) (.t 7) (.b false))<|.o 2 (.mv (.t 8))<|.nil)) (.ret ⟨[],[2],[2],true⟩))),[.tmp 2],true⟩
def K_token_Name : KF := ⟨24,(.seq (.ops (.o 4 (.mv (.s 0 0))<|.o 5 (.mv (.p 9223372036854775808 0))<|.o 6 (.mv (.p 9223372036854775808 0))<|.nil)) (.seq (.ops (.o 9 (.mv (.t 0))<|.o 10 (.mv (.t 1))<|.o 11 (.call (.f 56) [(.t 9),(.t 10)])<|.o 8 (.mv (.t 11))<|.o 12 (.ext (.t 8) 0)<|.o 13 (.ext (.t 8) 1)<|.o 14 (.ext (.t 8) 2)<|.o 7 (.alloc 35 [.p 256 0,.s 0 0,.ns,.b false])<|.on (.store 4 (.t 7) (.t 12))<|.o 5 (.mv (.t 13))<|.o 6 (.mv (.t 14))<|.nil)) (.seq (.seq (.ops (.o 15 (.mv (.t 6))<|.o 16 (.bin .neq (.t 15) (.p 9223372036854775808 0))<|.nil)) (.cond (.t 16) (.seq (.ops (.o 17 (.mv (.t 6))<|.o 4 (.mv (.s 0 0))<|.o 5 (.mv (.p 9223372036854775808 0))<|.o 6 (.mv (.t 17))<|.nil)) (.ret ⟨[],[4,5,6],[4,5,6],true⟩)) .skip)) (.seq (.seq (.ops (.o 18 (.faddr 0 (.t 7))<|.o 19 (.load false 1 (.t 18))<|.o 20 (.bin .neq (.t 19) (.p 256 1))<|.nil)) (.cond (.t 20) (.seq (.ops (.o 4 (.mv (.s 0 0))<|.o 5 (.mv (.p 9223372036854775808 0))<|.o 6 (.mv (.p 9223372036854775808 3))<|.nil)) (.ret ⟨[],[4,5,6],[4,5,6],true⟩)) .skip)) (.seq (.ops (.o 21 (.faddr 1 (.t 7))<|.o 22 (.load false 1 (.t 21))<|.o 23 (.mv (.t 5))<|.o 4 (.mv (.t 22))<|.o 5 (.mv (.t 23))<|.o 6 (.mv (.p 9223372036854775808 0))<|.nil)) (.ret ⟨[],[4,5,6],[4,5,6],true⟩)))))),[.tmp 4,.tmp 5,.tmp 6],true⟩
def K_token_Peek : KF := ⟨18,(.seq (.ops (.o 6 (.mv (.b false))<|.nil)) (.seq (.ops (.o 10 (.mv (.t 0))<|.o 11 (.mv (.t 1))<|.o 12 (.mv (.t 2))<|.o 13 (.call (.f 23) [(.t 10),(.t 11),(.t 12)])<|.o 9 (.mv (.t 13))<|.o 14 (.ext (.t 9) 0)<|.o 15 (.ext (.t 9) 1)<|.o 7 (.mv (.t 14))<|.o 8 (.mv (.t 15))<|.nil)) (.seq (.ops (.o 16 (.mv (.t 8))<|.o 17 (.bin .eql (.t 16) (.p 9223372036854775808 0))<|.o 6 (.mv (.t 17))<|.nil)) (.ret ⟨[],[6],[6],true⟩)))),[.tmp 6],true⟩
def K_ref07_Puncts : KF := ⟨2,(.seq (.ops (.o 0 (.mv .ns)<|.nil)) (.seq (.ops (.o 1 (.bsl 9 1 [(.s 3 3947580),(.s 3 4079166),(.s 3 4013373),(.s 3 4013345),(.s 2 15420),(.s 2 15934),(.s 2 15676),(.s 2 15678),(.s 2 15677),(.s 2 15649),(.s 2 9766),(.s 2 31868),(.s 2 10794),(.s 2 9854),(.s 2 31870),(.s 2 24190),(.s 2 14891),(.s 1 43),(.s 1 45),(.s 1 42),(.s 1 47),(.s 1 37),(.s 1 60),(.s 1 62),(.s 1 33),(.s 1 126),(.s 1 38),(.s 1 124),(.s 1 94),(.s 1 63),(.s 1 58),(.s 1 59),(.s 1 44),(.s 1 46),(.s 1 40),(.s 1 41),(.s 1 91),(.s 1 93),(.s 1 123),(.s 1 125),(.s 1 35),(.s 1 64),(.s 1 61)])<|.o 0 (.mv (.t 1))<|.nil)) (.ret ⟨[],[0],[0],true⟩))),[.tmp 0],true⟩
def K_ref07_Next_b0 : KC := (.seq (.seq (.ops (.o 116 (.mv (.t 15))<|.o 117 (.mv (.t 14))<|.o 118 (.len (.t 117))<|.o 119 (.bin .lss (.t 116) (.t 118))<|.nil)) (.cond (.t 119) .skip (.exit ⟨[4],[4],[],true⟩ 0))) (.seq (.block 1 (.seq (.ops (.o 122 (.mv (.t 0))<|.o 123 (.mv (.t 1))<|.o 124 (.mv (.t 14))<|.o 125 (.mv (.t 15))<|.o 126 (.iaddr 1 (.t 124) (.t 125))<|.o 127 (.load false 1 (.t 126))<|.o 128 (.call (.f 51) [(.t 122),(.t 123),(.t 127)])<|.nil)) (.cond (.t 128) (.seq (.drq (.o 129 (.mv (.t 14))<|.o 130 (.mv (.t 15))<|.o 131 (.iaddr 1 (.t 129) (.t 130))<|.o 132 (.load false 1 (.t 131))<|.o 133 (.bld [(0,1),(1,1),(2,2)] [.p 256 0,.s 0 0,.ns,.b false] [(0,(.p 256 6)),(1,(.t 132))])<|.o 134 (.mv (.t 1))<|.o 135 (.mv (.t 14))<|.o 136 (.mv (.t 15))<|.o 137 (.iaddr 1 (.t 135) (.t 136))<|.o 138 (.load false 1 (.t 137))<|.o 139 (.lenS (.t 138))<|.o 140 (.bin .add (.t 134) (.t 139))<|.on (.store 4 (.t 4) (.t 133))<|.o 5 (.mv (.t 140))<|.o 6 (.mv (.p 9223372036854775808 0))<|.nil) [([],[]),([],[]),([],[]),([],[]),([],[]),([],[]),([],[]),([],[]),([],[]),([],[]),([],[]),([],[]),([4],[4]),([],[]),([],[])]) (.ret ⟨[4],[4,5,6],[],true⟩)) .skip))) (.ops (.o 120 (.mv (.t 15))<|.o 121 (.bin .add (.t 120) (.p 9223372036854775808 1))<|.o 15 (.mv (.t 121))<|.nil))))
@[reducible] def K_ref07_Next_h0 : Head := ⟨[4, 8, 33000, 33001, 33002, 33003, 51000, 51001, 51002, 51003, 58000, 58001, 58002, 58003, 68000, 68001, 68002, 68003, 86000, 86001, 86002, 86003, 100000, 100001, 100002, 100003, 108000, 108001, 108002, 108003, 116000, 116001, 116002, 116003], [0, 1, 4, 14, 15], [], true⟩
def K_ref07_Next : KF := ⟨142,(.seq (.ops (.o 4 (.alloc 28 [.p 256 0,.s 0 0,.ns,.b false])<|.o 5 (.mv (.p 9223372036854775808 0))<|.o 6 (.mv (.p 9223372036854775808 0))<|.nil)) (.seq (.seq (.ops (.o 16 (.mv (.t 0))<|.o 17 (.lenS (.t 16))<|.o 18 (.bin .gtr (.t 17) (.p 9223372036854775808 65536))<|.nil)) (.cond (.t 18) (.seq (.ops (.o 19 (.bld [(0,1),(1,1),(2,2)] [.p 256 0,.s 0 0,.ns,.b false] [])<|.on (.store 4 (.t 4) (.t 19))<|.o 5 (.mv (.p 9223372036854775808 0))<|.o 6 (.mv (.p 9223372036854775808 5))<|.nil)) (.ret ⟨[4],[4,5,6],[],true⟩)) .skip)) (.seq (.seq (.ops (.o 20 (.mv (.t 1))<|.o 21 (.bin .lss (.t 20) (.p 9223372036854775808 0))<|.o 22 (.mv (.t 21))<|.og 23 22 false (.mv (.t 1))<|.og 24 22 false (.mv (.t 0))<|.og 25 22 false (.lenS (.t 24))<|.og 26 22 false (.bin .gtr (.t 23) (.t 25))<|.o 27 (.pick (.t 22) (.b true) (.t 26))<|.nil)) (.cond (.t 27) (.seq (.ops (.o 28 (.bld [(0,1),(1,1),(2,2)] [.p 256 0,.s 0 0,.ns,.b false] [])<|.on (.store 4 (.t 4) (.t 28))<|.o 5 (.mv (.p 9223372036854775808 0))<|.o 6 (.mv (.p 9223372036854775808 1))<|.nil)) (.ret ⟨[4],[4,5,6],[],true⟩)) .skip)) (.seq (.ops (.o 30 (.mv (.t 0))<|.o 31 (.mv (.t 1))<|.o 32 (.call (.f 46) [(.t 30),(.t 31)])<|.o 29 (.mv (.t 32))<|.o 33 (.ext (.t 29) 0)<|.o 34 (.ext (.t 29) 1)<|.o 1 (.mv (.t 33))<|.o 7 (.mv (.t 34))<|.nil)) (.seq (.seq (.ops (.o 35 (.mv (.t 7))<|.o 36 (.not (.t 35))<|.nil)) (.cond (.t 36) (.seq (.ops (.o 37 (.bld [(0,1),(1,1),(2,2)] [.p 256 0,.s 0 0,.ns,.b false] [])<|.on (.store 4 (.t 4) (.t 37))<|.o 5 (.mv (.p 9223372036854775808 0))<|.o 6 (.mv (.p 9223372036854775808 4))<|.nil)) (.ret ⟨[4],[4,5,6],[],true⟩)) .skip)) (.seq (.seq (.ops (.o 38 (.mv (.t 1))<|.o 39 (.mv (.t 0))<|.o 40 (.lenS (.t 39))<|.o 41 (.bin .eql (.t 38) (.t 40))<|.nil)) (.cond (.t 41) (.seq (.ops (.o 42 (.bld [(0,1),(1,1),(2,2)] [.p 256 0,.s 0 0,.ns,.b false] [])<|.on (.store 4 (.t 4) (.t 42))<|.o 5 (.mv (.p 9223372036854775808 0))<|.o 6 (.mv (.p 9223372036854775808 8))<|.nil)) (.ret ⟨[4],[4,5,6],[],true⟩)) .skip)) (.seq (.seq (.ops (.o 43 (.mv (.t 0))<|.o 44 (.mv (.t 1))<|.o 45 (.idxS (.t 43) (.t 44))<|.o 46 (.bin .eql (.t 45) (.p 256 34))<|.nil)) (.cond (.t 46) (.seq (.ops (.o 47 (.mv (.t 0))<|.o 48 (.mv (.t 1))<|.o 49 (.bin .add (.t 48) (.p 9223372036854775808 1))<|.o 50 (.call (.f 47) [(.t 47),(.t 49)])<|.o 51 (.ext (.t 50) 0)<|.o 52 (.ext (.t 50) 1)<|.o 53 (.ext (.t 50) 2)<|.on (.store 4 (.t 4) (.t 51))<|.o 5 (.mv (.t 52))<|.o 6 (.mv (.t 53))<|.nil)) (.ret ⟨[4],[4,5,6],[],true⟩)) .skip)) (.seq (.seq (.ops (.o 54 (.mv (.t 0))<|.o 55 (.mv (.t 1))<|.o 56 (.idxS (.t 54) (.t 55))<|.o 57 (.call (.f 48) [(.t 56)])<|.o 58 (.mv (.t 57))<|.og 59 58 false (.mv (.t 0))<|.og 60 58 false (.mv (.t 1))<|.og 61 58 false (.idxS (.t 59) (.t 60))<|.og 62 58 false (.bin .eql (.t 61) (.p 256 39))<|.o 63 (.pick (.t 58) (.b true) (.t 62))<|.nil)) (.cond (.t 63) (.seq (.ops (.o 65 (.mv (.t 0))<|.o 66 (.mv (.t 1))<|.o 67 (.call (.f 49) [(.t 65),(.t 66)])<|.o 64 (.mv (.t 67))<|.o 68 (.ext (.t 64) 0)<|.o 69 (.ext (.t 64) 1)<|.o 70 (.ext (.t 64) 2)<|.o 8 (.alloc 26 [.ns,.b false])<|.on (.store 2 (.t 8) (.t 68))<|.o 9 (.mv (.t 69))<|.o 10 (.mv (.t 70))<|.nil)) (.seq (.seq (.ops (.o 71 (.mv (.t 10))<|.o 72 (.bin .neq (.t 71) (.p 9223372036854775808 0))<|.nil)) (.cond (.t 72) (.seq (.ops (.o 73 (.bld [(0,1),(1,1),(2,2)] [.p 256 0,.s 0 0,.ns,.b false] [])<|.o 74 (.mv (.t 10))<|.on (.store 4 (.t 4) (.t 73))<|.o 5 (.mv (.p 9223372036854775808 0))<|.o 6 (.mv (.t 74))<|.nil)) (.ret ⟨[4],[4,5,6],[],true⟩)) .skip)) (.seq (.ops (.o 75 (.load true 2 (.t 8))<|.o 76 (.bld [(0,1),(1,1),(2,2)] [.p 256 0,.s 0 0,.ns,.b false] [(0,(.p 256 4)),(2,(.t 75))])<|.o 77 (.mv (.t 9))<|.on (.store 4 (.t 4) (.t 76))<|.o 5 (.mv (.t 77))<|.o 6 (.mv (.p 9223372036854775808 0))<|.nil)) (.ret ⟨[4],[4,5,6],[],true⟩)))) .skip)) (.seq (.seq (.ops (.o 78 (.mv (.t 0))<|.o 79 (.mv (.t 1))<|.o 80 (.idxS (.t 78) (.t 79))<|.o 81 (.bin .eql (.t 80) (.p 256 36))<|.nil)) (.cond (.t 81) (.seq (.ops (.o 82 (.mv (.t 0))<|.o 83 (.mv (.t 1))<|.o 84 (.bin .add (.t 83) (.p 9223372036854775808 1))<|.o 85 (.call (.f 50) [(.t 82),(.t 84)])<|.o 11 (.mv (.t 85))<|.nil)) (.seq (.seq (.ops (.o 86 (.mv (.t 11))<|.o 87 (.mv (.t 1))<|.o 88 (.bin .add (.t 87) (.p 9223372036854775808 1))<|.o 89 (.bin .eql (.t 86) (.t 88))<|.nil)) (.cond (.t 89) (.seq (.ops (.o 90 (.bld [(0,1),(1,1),(2,2)] [.p 256 0,.s 0 0,.ns,.b false] [])<|.on (.store 4 (.t 4) (.t 90))<|.o 5 (.mv (.p 9223372036854775808 0))<|.o 6 (.mv (.p 9223372036854775808 3))<|.nil)) (.ret ⟨[4],[4,5,6],[],true⟩)) .skip)) (.seq (.ops (.o 91 (.mv (.t 0))<|.o 92 (.mv (.t 1))<|.o 93 (.mv (.t 11))<|.o 94 (.cutS (.t 91) (some (.t 92)) (some (.t 93)))<|.o 95 (.bld [(0,1),(1,1),(2,2)] [.p 256 0,.s 0 0,.ns,.b false] [(0,(.p 256 3)),(1,(.t 94))])<|.o 96 (.mv (.t 11))<|.on (.store 4 (.t 4) (.t 95))<|.o 5 (.mv (.t 96))<|.o 6 (.mv (.p 9223372036854775808 0))<|.nil)) (.ret ⟨[4],[4,5,6],[],true⟩)))) .skip)) (.seq (.ops (.o 97 (.mv (.t 0))<|.o 98 (.mv (.t 1))<|.o 99 (.call (.f 50) [(.t 97),(.t 98)])<|.o 12 (.mv (.t 99))<|.nil)) (.seq (.seq (.ops (.o 100 (.mv (.t 12))<|.o 101 (.mv (.t 1))<|.o 102 (.bin .gtr (.t 100) (.t 101))<|.nil)) (.cond (.t 102) (.seq (.ops (.o 13 (.mv (.p 256 1))<|.nil)) (.seq (.seq (.ops (.o 103 (.mv (.t 0))<|.o 104 (.mv (.t 1))<|.o 105 (.mv (.t 12))<|.o 106 (.cutS (.t 103) (some (.t 104)) (some (.t 105)))<|.o 107 (.call (.f 30) [(.t 106)])<|.nil)) (.cond (.t 107) (.ops (.o 13 (.mv (.p 256 2))<|.nil)) .skip)) (.seq (.ops (.o 108 (.mv (.t 13))<|.o 109 (.mv (.t 0))<|.o 110 (.mv (.t 1))<|.o 111 (.mv (.t 12))<|.o 112 (.cutS (.t 109) (some (.t 110)) (some (.t 111)))<|.o 113 (.bld [(0,1),(1,1),(2,2)] [.p 256 0,.s 0 0,.ns,.b false] [(0,(.t 108)),(1,(.t 112))])<|.o 114 (.mv (.t 12))<|.on (.store 4 (.t 4) (.t 113))<|.o 5 (.mv (.t 114))<|.o 6 (.mv (.p 9223372036854775808 0))<|.nil)) (.ret ⟨[4],[4,5,6],[],true⟩)))) .skip)) (.seq (.ops (.o 115 (.call (.f 21) [])<|.o 14 (.mv (.t 115))<|.nil)) (.seq (.seq (.ops (.o 15 (.mv (.p 9223372036854775808 0))<|.nil)) (.block 0 (.loop K_ref07_Next_h0 K_ref07_Next_b0))) (.seq (.ops (.o 141 (.bld [(0,1),(1,1),(2,2)] [.p 256 0,.s 0 0,.ns,.b false] [])<|.on (.store 4 (.t 4) (.t 141))<|.o 5 (.mv (.p 9223372036854775808 0))<|.o 6 (.mv (.p 9223372036854775808 3))<|.nil)) (.ret ⟨[4],[4,5,6],[],true⟩))))))))))))))),[.cell 4 true 4,.tmp 5,.tmp 6],true⟩
def K_ref07_skip_b1 : KC := (.seq (.seq (.ops (.o 37 (.mv (.t 1))<|.o 38 (.mv (.t 0))<|.o 39 (.lenS (.t 38))<|.o 40 (.bin .lss (.t 37) (.t 39))<|.o 41 (.mv (.t 40))<|.og 42 41 true (.mv (.t 0))<|.og 43 41 true (.mv (.t 1))<|.og 44 41 true (.idxS (.t 42) (.t 43))<|.og 45 41 true (.bin .neq (.t 44) (.p 256 10))<|.o 46 (.pick (.t 41) (.t 45) (.b false))<|.nil)) (.cond (.t 46) .skip (.exit ⟨[],[0,1],[],false⟩ 2))) (.block 3 (.ops (.o 47 (.mv (.t 1))<|.o 48 (.bin .add (.t 47) (.p 9223372036854775808 1))<|.o 1 (.mv (.t 48))<|.nil))))
@[reducible] def K_ref07_skip_h1 : Head := ⟨[37000, 37001, 37002, 37003, 52000, 52001, 52002, 52003, 63000, 63001, 63002, 63003], [0, 1], [], true⟩
def K_ref07_skip_b2 : KC := (.seq (.seq (.ops (.o 55 (.mv (.t 1))<|.o 56 (.mv (.t 0))<|.o 57 (.lenS (.t 56))<|.o 58 (.bin .lss (.t 55) (.t 57))<|.o 59 (.mv (.t 58))<|.og 60 59 true (.mv (.t 0))<|.og 61 59 true (.mv (.t 1))<|.og 62 59 true (.call (.f 51) [(.t 60),(.t 61),(.s 2 12074)])<|.og 63 59 true (.not (.t 62))<|.o 64 (.pick (.t 59) (.t 63) (.b false))<|.nil)) (.cond (.t 64) .skip (.exit ⟨[],[0,1],[],false⟩ 4))) (.block 5 (.ops (.o 65 (.mv (.t 1))<|.o 66 (.bin .add (.t 65) (.p 9223372036854775808 1))<|.o 1 (.mv (.t 66))<|.nil))))
@[reducible] def K_ref07_skip_h2 : Head := ⟨[37000, 37001, 37002, 37003, 52000, 52001, 52002, 52003], [0, 1], [], true⟩
def K_ref07_skip_b0 : KC := (.seq (.seq (.ops (.o 6 (.mv (.t 1))<|.o 7 (.mv (.t 0))<|.o 8 (.lenS (.t 7))<|.o 9 (.bin .lss (.t 6) (.t 8))<|.nil)) (.cond (.t 9) .skip (.exit ⟨[],[1],[],false⟩ 0))) (.block 1 (.seq (.seq (.ops (.o 10 (.mv (.t 0))<|.o 11 (.mv (.t 1))<|.o 12 (.idxS (.t 10) (.t 11))<|.o 13 (.bin .eql (.t 12) (.p 256 32))<|.o 14 (.mv (.t 13))<|.og 15 14 false (.mv (.t 0))<|.og 16 14 false (.mv (.t 1))<|.og 17 14 false (.idxS (.t 15) (.t 16))<|.og 18 14 false (.bin .eql (.t 17) (.p 256 9))<|.o 19 (.pick (.t 14) (.b true) (.t 18))<|.o 20 (.mv (.t 19))<|.og 21 20 false (.mv (.t 0))<|.og 22 20 false (.mv (.t 1))<|.og 23 20 false (.idxS (.t 21) (.t 22))<|.og 24 20 false (.bin .eql (.t 23) (.p 256 13))<|.o 25 (.pick (.t 20) (.b true) (.t 24))<|.o 26 (.mv (.t 25))<|.og 27 26 false (.mv (.t 0))<|.og 28 26 false (.mv (.t 1))<|.og 29 26 false (.idxS (.t 27) (.t 28))<|.og 30 26 false (.bin .eql (.t 29) (.p 256 10))<|.o 31 (.pick (.t 26) (.b true) (.t 30))<|.nil)) (.cond (.t 31) (.seq (.ops (.o 32 (.mv (.t 1))<|.o 33 (.bin .add (.t 32) (.p 9223372036854775808 1))<|.o 1 (.mv (.t 33))<|.nil)) (.exit ⟨[],[0,1],[],false⟩ 1)) .skip)) (.seq (.seq (.ops (.o 34 (.mv (.t 0))<|.o 35 (.mv (.t 1))<|.o 36 (.call (.f 51) [(.t 34),(.t 35),(.s 2 12079)])<|.nil)) (.cond (.t 36) (.seq (.block 2 (.loop K_ref07_skip_h1 K_ref07_skip_b1)) (.exit ⟨[],[0,1],[],false⟩ 1)) .skip)) (.seq (.seq (.ops (.o 49 (.mv (.t 0))<|.o 50 (.mv (.t 1))<|.o 51 (.call (.f 51) [(.t 49),(.t 50),(.s 2 10799)])<|.o 52 (.not (.t 51))<|.nil)) (.cond (.t 52) (.exit ⟨[],[1],[],false⟩ 0) .skip)) (.seq (.ops (.o 53 (.mv (.t 1))<|.o 54 (.bin .add (.t 53) (.p 9223372036854775808 2))<|.o 1 (.mv (.t 54))<|.nil)) (.seq (.block 4 (.loop K_ref07_skip_h2 K_ref07_skip_b2)) (.seq (.seq (.ops (.o 67 (.mv (.t 1))<|.o 68 (.mv (.t 0))<|.o 69 (.lenS (.t 68))<|.o 70 (.bin .geq (.t 67) (.t 69))<|.nil)) (.cond (.t 70) (.seq (.ops (.o 71 (.mv (.t 1))<|.o 4 (.mv (.t 71))<|.o 5 (.mv (.b false))<|.nil)) (.ret ⟨[],[4,5],[4,5],true⟩)) .skip)) (.ops (.o 72 (.mv (.t 1))<|.o 73 (.bin .add (.t 72) (.p 9223372036854775808 2))<|.o 1 (.mv (.t 73))<|.nil))))))))))
@[reducible] def K_ref07_skip_h0 : Head := ⟨[], [0, 1], [], true⟩
def K_ref07_skip : KF := ⟨75,(.seq (.ops (.o 4 (.mv (.p 9223372036854775808 0))<|.o 5 (.mv (.b false))<|.nil)) (.seq (.block 0 (.loop K_ref07_skip_h0 K_ref07_skip_b0)) (.seq (.ops (.o 74 (.mv (.t 1))<|.o 4 (.mv (.t 74))<|.o 5 (.mv (.b true))<|.nil)) (.ret ⟨[],[4,5],[4,5],true⟩)))),[.tmp 4,.tmp 5],true⟩
def K_ref07_fits : KF := ⟨25,(.seq (.ops (.o 6 (.mv (.b false))<|.nil)) (.seq (.ops (.o 7 (.mv (.t 1))<|.o 8 (.mv (.t 2))<|.o 9 (.lenS (.t 8))<|.o 10 (.bin .add (.t 7) (.t 9))<|.o 11 (.mv (.t 0))<|.o 12 (.lenS (.t 11))<|.o 13 (.bin .leq (.t 10) (.t 12))<|.o 14 (.mv (.t 13))<|.og 15 14 true (.mv (.t 0))<|.og 16 14 true (.mv (.t 1))<|.og 17 14 true (.mv (.t 1))<|.og 18 14 true (.mv (.t 2))<|.og 19 14 true (.lenS (.t 18))<|.og 20 14 true (.bin .add (.t 17) (.t 19))<|.og 21 14 true (.cutS (.t 15) (some (.t 16)) (some (.t 20)))<|.og 22 14 true (.mv (.t 2))<|.og 23 14 true (.bin .eql (.t 21) (.t 22))<|.o 24 (.pick (.t 14) (.t 23) (.b false))<|.o 6 (.mv (.t 24))<|.nil)) (.ret ⟨[],[6],[6],true⟩))),[.tmp 6],true⟩
def K_ref07_name_b0 : KC := (.seq (.seq (.ops (.o 17 (.mv (.t 1))<|.o 18 (.mv (.t 0))<|.o 19 (.lenS (.t 18))<|.o 20 (.bin .lss (.t 17) (.t 19))<|.o 21 (.mv (.t 20))<|.og 22 21 true (.mv (.t 0))<|.og 23 21 true (.mv (.t 1))<|.og 24 21 true (.idxS (.t 22) (.t 23))<|.og 25 21 true (.call (.f 80) [(.t 24)])<|.og 26 21 true (.mv (.t 25))<|.og 27 26 false (.mv (.t 0))<|.og 28 26 false (.mv (.t 1))<|.og 29 26 false (.idxS (.t 27) (.t 28))<|.og 30 26 false (.call (.f 48) [(.t 29)])<|.og 31 21 true (.pick (.t 26) (.b true) (.t 30))<|.og 32 21 true (.mv (.t 31))<|.og 33 32 false (.mv (.t 0))<|.og 34 32 false (.mv (.t 1))<|.og 35 32 false (.idxS (.t 33) (.t 34))<|.og 36 32 false (.bin .eql (.t 35) (.p 256 36))<|.og 37 21 true (.pick (.t 32) (.b true) (.t 36))<|.o 38 (.pick (.t 21) (.t 37) (.b false))<|.nil)) (.cond (.t 38) .skip (.exit ⟨[],[1],[],false⟩ 0))) (.block 1 (.ops (.o 39 (.mv (.t 1))<|.o 40 (.bin .add (.t 39) (.p 9223372036854775808 1))<|.o 1 (.mv (.t 40))<|.nil))))
@[reducible] def K_ref07_name_h0 : Head := ⟨[14000, 14001, 14002, 14003], [0, 1], [], true⟩
def K_ref07_name : KF := ⟨42,(.seq (.ops (.o 4 (.mv (.p 9223372036854775808 0))<|.nil)) (.seq (.seq (.ops (.o 5 (.mv (.t 1))<|.o 6 (.mv (.t 0))<|.o 7 (.lenS (.t 6))<|.o 8 (.bin .geq (.t 5) (.t 7))<|.o 9 (.mv (.t 8))<|.og 10 9 false (.mv (.t 0))<|.og 11 9 false (.mv (.t 1))<|.og 12 9 false (.idxS (.t 10) (.t 11))<|.og 13 9 false (.call (.f 80) [(.t 12)])<|.og 14 9 false (.not (.t 13))<|.o 15 (.pick (.t 9) (.b true) (.t 14))<|.nil)) (.cond (.t 15) (.seq (.ops (.o 16 (.mv (.t 1))<|.o 4 (.mv (.t 16))<|.nil)) (.ret ⟨[],[4],[4],true⟩)) .skip)) (.seq (.block 0 (.loop K_ref07_name_h0 K_ref07_name_b0)) (.seq (.ops (.o 41 (.mv (.t 1))<|.o 4 (.mv (.t 41))<|.nil)) (.ret ⟨[],[4],[4],true⟩))))),[.tmp 4],true⟩
def K_ref07_letter : KF := ⟨21,(.seq (.ops (.o 2 (.mv (.b false))<|.nil)) (.seq (.ops (.o 3 (.mv (.t 0))<|.o 4 (.bin .geq (.t 3) (.p 256 97))<|.o 5 (.mv (.t 4))<|.og 6 5 true (.mv (.t 0))<|.og 7 5 true (.bin .leq (.t 6) (.p 256 122))<|.o 8 (.pick (.t 5) (.t 7) (.b false))<|.o 9 (.mv (.t 8))<|.og 10 9 false (.mv (.t 0))<|.og 11 9 false (.bin .geq (.t 10) (.p 256 65))<|.og 12 9 false (.mv (.t 11))<|.og 13 12 true (.mv (.t 0))<|.og 14 12 true (.bin .leq (.t 13) (.p 256 90))<|.og 15 9 false (.pick (.t 12) (.t 14) (.b false))<|.o 16 (.pick (.t 9) (.b true) (.t 15))<|.o 17 (.mv (.t 16))<|.og 18 17 false (.mv (.t 0))<|.og 19 17 false (.bin .eql (.t 18) (.p 256 95))<|.o 20 (.pick (.t 17) (.b true) (.t 19))<|.o 2 (.mv (.t 20))<|.nil)) (.ret ⟨[],[2],[2],true⟩))),[.tmp 2],true⟩
def K_ref07_digit : KF := ⟨9,(.seq (.ops (.o 2 (.mv (.b false))<|.nil)) (.seq (.ops (.o 3 (.mv (.t 0))<|.o 4 (.bin .geq (.t 3) (.p 256 48))<|.o 5 (.mv (.t 4))<|.og 6 5 true (.mv (.t 0))<|.og 7 5 true (.bin .leq (.t 6) (.p 256 57))<|.o 8 (.pick (.t 5) (.t 7) (.b false))<|.o 2 (.mv (.t 8))<|.nil)) (.ret ⟨[],[2],[2],true⟩))),[.tmp 2],true⟩
def K_ref07_quoted_b0 : KC := (.seq (.seq (.ops (.o 9 (.mv (.t 1))<|.o 10 (.mv (.t 0))<|.o 11 (.lenS (.t 10))<|.o 12 (.bin .lss (.t 9) (.t 11))<|.nil)) (.cond (.t 12) .skip (.exit ⟨[4],[4],[],true⟩ 0))) (.block 1 (.seq (.ops (.o 13 (.mv (.t 0))<|.o 14 (.mv (.t 1))<|.o 15 (.idxS (.t 13) (.t 14))<|.o 8 (.mv (.t 15))<|.nil)) (.seq (.seq (.ops (.o 16 (.mv (.t 8))<|.o 17 (.bin .eql (.t 16) (.p 256 34))<|.nil)) (.cond (.t 17) (.seq (.ops (.o 18 (.mv (.t 7))<|.o 19 (.b2s (.t 18))<|.o 20 (.bld [(0,1),(1,1),(2,2)] [.p 256 0,.s 0 0,.ns,.b false] [(0,(.p 256 5)),(1,(.t 19))])<|.o 21 (.mv (.t 1))<|.o 22 (.bin .add (.t 21) (.p 9223372036854775808 1))<|.on (.store 4 (.t 4) (.t 20))<|.o 5 (.mv (.t 22))<|.o 6 (.mv (.p 9223372036854775808 0))<|.nil)) (.ret ⟨[4],[4,5,6],[],true⟩)) .skip)) (.seq (.seq (.ops (.o 23 (.mv (.t 8))<|.o 24 (.bin .eql (.t 23) (.p 256 92))<|.nil)) (.cond (.t 24) (.seq (.seq (.ops (.o 25 (.mv (.t 1))<|.o 26 (.bin .add (.t 25) (.p 9223372036854775808 1))<|.o 27 (.mv (.t 0))<|.o 28 (.lenS (.t 27))<|.o 29 (.bin .geq (.t 26) (.t 28))<|.nil)) (.cond (.t 29) (.seq (.ops (.o 30 (.bld [(0,1),(1,1),(2,2)] [.p 256 0,.s 0 0,.ns,.b false] [])<|.on (.store 4 (.t 4) (.t 30))<|.o 5 (.mv (.p 9223372036854775808 0))<|.o 6 (.mv (.p 9223372036854775808 4))<|.nil)) (.ret ⟨[4],[4,5,6],[],true⟩)) .skip)) (.seq (.seq (.ops (.o 31 (.mv (.t 0))<|.o 32 (.mv (.t 1))<|.o 33 (.bin .add (.t 32) (.p 9223372036854775808 1))<|.o 34 (.idxS (.t 31) (.t 33))<|.nil)) (.block 2 (.seq (.ops (.o 37 (.bin .eql (.t 34) (.p 256 110))<|.o 36 (.mv (.t 37))<|.nil)) (.cond (.t 36) (.ops (.o 8 (.mv (.p 256 10))<|.nil)) (.seq (.ops (.o 39 (.bin .eql (.t 34) (.p 256 116))<|.o 38 (.mv (.t 39))<|.nil)) (.cond (.t 38) (.ops (.o 8 (.mv (.p 256 9))<|.nil)) (.seq (.seq (.ops (.o 41 (.bin .eql (.t 34) (.p 256 92))<|.o 40 (.mv (.t 41))<|.nil)) (.cond (.t 40) .skip (.ops (.o 42 (.bin .eql (.t 34) (.p 256 34))<|.o 40 (.mv (.t 42))<|.nil)))) (.cond (.t 40) (.ops (.o 43 (.mv (.t 0))<|.o 44 (.mv (.t 1))<|.o 45 (.bin .add (.t 44) (.p 9223372036854775808 1))<|.o 46 (.idxS (.t 43) (.t 45))<|.o 8 (.mv (.t 46))<|.nil)) (.seq (.ops (.o 35 (.bld [(0,1),(1,1),(2,2)] [.p 256 0,.s 0 0,.ns,.b false] [])<|.on (.store 4 (.t 4) (.t 35))<|.o 5 (.mv (.p 9223372036854775808 0))<|.o 6 (.mv (.p 9223372036854775808 3))<|.nil)) (.ret ⟨[4],[4,5,6],[],true⟩)))))))))) (.ops (.o 47 (.mv (.t 1))<|.o 48 (.bin .add (.t 47) (.p 9223372036854775808 1))<|.o 1 (.mv (.t 48))<|.nil)))) (.seq (.ops (.o 49 (.mv (.t 8))<|.o 50 (.bin .lss (.t 49) (.p 256 32))<|.o 51 (.mv (.t 50))<|.og 52 51 false (.mv (.t 8))<|.og 53 51 false (.bin .gtr (.t 52) (.p 256 126))<|.o 54 (.pick (.t 51) (.b true) (.t 53))<|.nil)) (.cond (.t 54) (.seq (.ops (.o 55 (.bld [(0,1),(1,1),(2,2)] [.p 256 0,.s 0 0,.ns,.b false] [])<|.on (.store 4 (.t 4) (.t 55))<|.o 5 (.mv (.p 9223372036854775808 0))<|.o 6 (.mv (.p 9223372036854775808 3))<|.nil)) (.ret ⟨[4],[4,5,6],[],true⟩)) .skip)))) (.seq (.ops (.o 56 (.mv (.t 7))<|.o 57 (.mv (.t 8))<|.o 58 (.bsl 5 1 [(.t 57)])<|.o 59 (.app 5 1 (.t 56) (.t 58))<|.o 7 (.mv (.t 59))<|.nil)) (.ops (.o 60 (.mv (.t 1))<|.o 61 (.bin .add (.t 60) (.p 9223372036854775808 1))<|.o 1 (.mv (.t 61))<|.nil))))))))
@[reducible] def K_ref07_quoted_h0 : Head := ⟨[4, 59], [0, 1, 4, 7], [], true⟩
def K_ref07_quoted : KF := ⟨63,(.seq (.ops (.o 4 (.alloc 28 [.p 256 0,.s 0 0,.ns,.b false])<|.o 5 (.mv (.p 9223372036854775808 0))<|.o 6 (.mv (.p 9223372036854775808 0))<|.nil)) (.seq (.ops (.o 7 (.mv .ns)<|.nil)) (.seq (.block 0 (.loop K_ref07_quoted_h0 K_ref07_quoted_b0)) (.seq (.ops (.o 62 (.bld [(0,1),(1,1),(2,2)] [.p 256 0,.s 0 0,.ns,.b false] [])<|.on (.store 4 (.t 4) (.t 62))<|.o 5 (.mv (.p 9223372036854775808 0))<|.o 6 (.mv (.p 9223372036854775808 4))<|.nil)) (.ret ⟨[4],[4,5,6],[],true⟩))))),[.cell 4 true 4,.tmp 5,.tmp 6],true⟩
def K_ref07_IsKeyword : KF := ⟨6,(.seq (.ops (.o 2 (.mv (.b false))<|.nil)) (.seq (.ops (.o 3 (.call (.f 38) [])<|.o 4 (.mv (.t 0))<|.o 5 (.call (.f 57) [(.t 3),(.t 4)])<|.o 2 (.mv (.t 5))<|.nil)) (.ret ⟨[],[2],[2],true⟩))),[.tmp 2],true⟩
def K_ref07_in_b0 : KC := (.seq (.seq (.ops (.o 6 (.mv (.t 5))<|.o 7 (.mv (.t 0))<|.o 8 (.len (.t 7))<|.o 9 (.bin .lss (.t 6) (.t 8))<|.nil)) (.cond (.t 9) .skip (.exit ⟨[],[],[],false⟩ 0))) (.seq (.block 1 (.seq (.ops (.o 12 (.mv (.t 0))<|.o 13 (.mv (.t 5))<|.o 14 (.iaddr 1 (.t 12) (.t 13))<|.o 15 (.load false 1 (.t 14))<|.o 16 (.mv (.t 1))<|.o 17 (.bin .eql (.t 15) (.t 16))<|.nil)) (.cond (.t 17) (.seq (.ops (.o 4 (.mv (.b true))<|.nil)) (.ret ⟨[],[4],[4],true⟩)) .skip))) (.ops (.o 10 (.mv (.t 5))<|.o 11 (.bin .add (.t 10) (.p 9223372036854775808 1))<|.o 5 (.mv (.t 11))<|.nil))))
@[reducible] def K_ref07_in_h0 : Head := ⟨[], [0, 1, 5], [], true⟩
def K_ref07_in : KF := ⟨18,(.seq (.ops (.o 4 (.mv (.b false))<|.nil)) (.seq (.seq (.ops (.o 5 (.mv (.p 9223372036854775808 0))<|.nil)) (.block 0 (.loop K_ref07_in_h0 K_ref07_in_b0))) (.seq (.ops (.o 4 (.mv (.b false))<|.nil)) (.ret ⟨[],[4],[4],true⟩)))),[.tmp 4],true⟩
def K_ref07_Keywords : KF := ⟨2,(.seq (.ops (.o 0 (.mv .ns)<|.nil)) (.seq (.ops (.o 1 (.bsl 9 1 [(.s 6 126965163453537),(.s 3 6581857),(.s 6 121390429860705),(.s 5 474214786402),(.s 3 6714722),(.s 6 53216413119842),(.s 6 54315924747618),(.s 4 1702060387),(.s 5 517098135907),(.s 5 525688070499),(.s 7 32770348699510116),(.s 4 1702063205),(.s 3 6581861),(.s 7 28555834764324453),(.s 11 133507968132003860941401701),(.s 9 1870936414602775522917),(.s 7 30244684909801061),(.s 3 7499622),(.s 7 32199706527559526),(.s 8 7957695015192261990),(.s 6 125762924340583),(.s 6 53302295751016),(.s 6 54401807378792),(.s 2 26217),(.s 7 30506403037277801),(.s 5 500186508905),(.s 7 32199642103180905),(.s 6 53212085379436),(.s 6 54311597007212),(.s 10 516535522800345012203372),(.s 7 13631149928899949),(.s 7 13912624905610605),(.s 6 111516500389741),(.s 4 1684955502),(.s 7 28542653543441774),(.s 3 7499630),(.s 3 7630702),(.s 6 53216414035822),(.s 6 54315925663598),(.s 2 29295),(.s 6 128047746676079),(.s 9 2110239404018478768496),(.s 7 28542653544230768),(.s 5 207977477488),(.s 5 212272444784),(.s 3 6776178),(.s 6 127961662514546),(.s 6 110386806745459),(.s 6 53242232925555),(.s 6 54341744553331),(.s 7 13624522895946867),(.s 7 13905997872657523),(.s 7 13644305531958643),(.s 7 13925780508669299),(.s 4 1802723700),(.s 4 812216948),(.s 4 828994164),(.s 4 1953063287),(.s 4 1684955511),(.s 5 207959975287),(.s 5 212254942583),(.s 5 435610544247),(.s 4 1701996919),(.s 3 7499639),(.s 4 1919905400),(.s 3 7499640)])<|.o 0 (.mv (.t 1))<|.nil)) (.ret ⟨[],[0],[0],true⟩))),[.tmp 0],true⟩
def K_ref07_Take : KF := ⟨38,(.seq (.ops (.o 6 (.mv (.p 9223372036854775808 0))<|.o 7 (.mv (.p 9223372036854775808 0))<|.nil)) (.seq (.ops (.o 12 (.mv (.t 0))<|.o 13 (.mv (.t 1))<|.o 14 (.call (.f 14) [(.t 12),(.t 13)])<|.o 11 (.mv (.t 14))<|.o 15 (.ext (.t 11) 0)<|.o 16 (.ext (.t 11) 1)<|.o 17 (.ext (.t 11) 2)<|.o 8 (.alloc 28 [.p 256 0,.s 0 0,.ns,.b false])<|.on (.store 4 (.t 8) (.t 15))<|.o 9 (.mv (.t 16))<|.o 10 (.mv (.t 17))<|.nil)) (.seq (.seq (.ops (.o 18 (.mv (.t 10))<|.o 19 (.bin .eql (.t 18) (.p 9223372036854775808 8))<|.nil)) (.cond (.t 19) (.seq (.ops (.o 6 (.mv (.p 9223372036854775808 0))<|.o 7 (.mv (.p 9223372036854775808 4))<|.nil)) (.ret ⟨[],[6,7],[6,7],true⟩)) .skip)) (.seq (.seq (.ops (.o 20 (.mv (.t 10))<|.o 21 (.bin .neq (.t 20) (.p 9223372036854775808 0))<|.nil)) (.cond (.t 21) (.seq (.ops (.o 22 (.mv (.t 10))<|.o 6 (.mv (.p 9223372036854775808 0))<|.o 7 (.mv (.t 22))<|.nil)) (.ret ⟨[],[6,7],[6,7],true⟩)) .skip)) (.seq (.seq (.ops (.o 23 (.faddr 0 (.t 8))<|.o 24 (.load false 1 (.t 23))<|.o 25 (.bin .neq (.t 24) (.p 256 2))<|.o 26 (.mv (.t 25))<|.og 27 26 true (.faddr 0 (.t 8))<|.og 28 26 true (.load false 1 (.t 27))<|.og 29 26 true (.bin .neq (.t 28) (.p 256 6))<|.o 30 (.pick (.t 26) (.t 29) (.b false))<|.o 31 (.mv (.t 30))<|.og 32 31 false (.faddr 1 (.t 8))<|.og 33 31 false (.load false 1 (.t 32))<|.og 34 31 false (.mv (.t 2))<|.og 35 31 false (.bin .neq (.t 33) (.t 34))<|.o 36 (.pick (.t 31) (.b true) (.t 35))<|.nil)) (.cond (.t 36) (.seq (.ops (.o 6 (.mv (.p 9223372036854775808 0))<|.o 7 (.mv (.p 9223372036854775808 3))<|.nil)) (.ret ⟨[],[6,7],[6,7],true⟩)) .skip)) (.seq (.ops (.o 37 (.mv (.t 9))<|.o 6 (.mv (.t 37))<|.o 7 (.mv (.p 9223372036854775808 0))<|.nil)) (.ret ⟨[],[6,7],[6,7],true⟩))))))),[.tmp 6,.tmp 7],true⟩
def K_ref07_Name : KF := ⟨28,(.seq (.ops (.o 4 (.mv (.s 0 0))<|.o 5 (.mv (.p 9223372036854775808 0))<|.o 6 (.mv (.p 9223372036854775808 0))<|.nil)) (.seq (.ops (.o 11 (.mv (.t 0))<|.o 12 (.mv (.t 1))<|.o 13 (.call (.f 14) [(.t 11),(.t 12)])<|.o 10 (.mv (.t 13))<|.o 14 (.ext (.t 10) 0)<|.o 15 (.ext (.t 10) 1)<|.o 16 (.ext (.t 10) 2)<|.o 7 (.alloc 28 [.p 256 0,.s 0 0,.ns,.b false])<|.on (.store 4 (.t 7) (.t 14))<|.o 8 (.mv (.t 15))<|.o 9 (.mv (.t 16))<|.nil)) (.seq (.seq (.ops (.o 17 (.mv (.t 9))<|.o 18 (.bin .eql (.t 17) (.p 9223372036854775808 8))<|.nil)) (.cond (.t 18) (.seq (.ops (.o 4 (.mv (.s 0 0))<|.o 5 (.mv (.p 9223372036854775808 0))<|.o 6 (.mv (.p 9223372036854775808 4))<|.nil)) (.ret ⟨[],[4,5,6],[4,5,6],true⟩)) .skip)) (.seq (.seq (.ops (.o 19 (.mv (.t 9))<|.o 20 (.bin .neq (.t 19) (.p 9223372036854775808 0))<|.nil)) (.cond (.t 20) (.seq (.ops (.o 21 (.mv (.t 9))<|.o 4 (.mv (.s 0 0))<|.o 5 (.mv (.p 9223372036854775808 0))<|.o 6 (.mv (.t 21))<|.nil)) (.ret ⟨[],[4,5,6],[4,5,6],true⟩)) .skip)) (.seq (.seq (.ops (.o 22 (.faddr 0 (.t 7))<|.o 23 (.load false 1 (.t 22))<|.o 24 (.bin .neq (.t 23) (.p 256 1))<|.nil)) (.cond (.t 24) (.seq (.ops (.o 4 (.mv (.s 0 0))<|.o 5 (.mv (.p 9223372036854775808 0))<|.o 6 (.mv (.p 9223372036854775808 3))<|.nil)) (.ret ⟨[],[4,5,6],[4,5,6],true⟩)) .skip)) (.seq (.ops (.o 25 (.faddr 1 (.t 7))<|.o 26 (.load false 1 (.t 25))<|.o 27 (.mv (.t 8))<|.o 4 (.mv (.t 26))<|.o 5 (.mv (.t 27))<|.o 6 (.mv (.p 9223372036854775808 0))<|.nil)) (.ret ⟨[],[4,5,6],[4,5,6],true⟩))))))),[.tmp 4,.tmp 5,.tmp 6],true⟩
def K_ref07_Peek : KF := ⟨18,(.seq (.ops (.o 6 (.mv (.b false))<|.nil)) (.seq (.ops (.o 10 (.mv (.t 0))<|.o 11 (.mv (.t 1))<|.o 12 (.mv (.t 2))<|.o 13 (.call (.f 24) [(.t 10),(.t 11),(.t 12)])<|.o 9 (.mv (.t 13))<|.o 14 (.ext (.t 9) 0)<|.o 15 (.ext (.t 9) 1)<|.o 7 (.mv (.t 14))<|.o 8 (.mv (.t 15))<|.nil)) (.seq (.ops (.o 16 (.mv (.t 8))<|.o 17 (.bin .eql (.t 16) (.p 9223372036854775808 0))<|.o 6 (.mv (.t 17))<|.nil)) (.ret ⟨[],[6],[6],true⟩)))),[.tmp 6],true⟩
def K_law07_TokenTakesMatch : KF := ⟨104,(.seq (.ops (.o 6 (.mv (.b false))<|.nil)) (.seq (.seq (.ops (.o 17 (.mv (.t 0))<|.o 18 (.call (.f 12) [(.t 17)])<|.o 19 (.mv (.t 18))<|.og 20 19 false (.mv (.t 2))<|.og 21 19 false (.lenS (.t 20))<|.og 22 19 false (.bin .gtr (.t 21) (.p 9223372036854775808 1000))<|.o 23 (.pick (.t 19) (.b true) (.t 22))<|.nil)) (.cond (.t 23) (.seq (.ops (.o 24 (.call (.f 13) [])<|.o 6 (.mv (.t 24))<|.nil)) (.ret ⟨[],[6],[6],true⟩)) .skip)) (.seq (.ops (.o 26 (.mv (.t 0))<|.o 27 (.mv (.t 1))<|.o 28 (.mv (.t 2))<|.o 29 (.call (.f 23) [(.t 26),(.t 27),(.t 28)])<|.o 25 (.mv (.t 29))<|.o 30 (.ext (.t 25) 0)<|.o 31 (.ext (.t 25) 1)<|.o 7 (.mv (.t 30))<|.o 8 (.mv (.t 31))<|.nil)) (.seq (.ops (.o 33 (.mv (.t 0))<|.o 34 (.mv (.t 1))<|.o 35 (.mv (.t 2))<|.o 36 (.call (.f 24) [(.t 33),(.t 34),(.t 35)])<|.o 32 (.mv (.t 36))<|.o 37 (.ext (.t 32) 0)<|.o 38 (.ext (.t 32) 1)<|.o 9 (.mv (.t 37))<|.o 10 (.mv (.t 38))<|.nil)) (.seq (.ops (.o 40 (.mv (.t 0))<|.o 41 (.mv (.t 1))<|.o 42 (.call (.f 25) [(.t 40),(.t 41)])<|.o 39 (.mv (.t 42))<|.o 43 (.ext (.t 39) 0)<|.o 44 (.ext (.t 39) 1)<|.o 45 (.ext (.t 39) 2)<|.o 11 (.mv (.t 43))<|.o 12 (.mv (.t 44))<|.o 13 (.mv (.t 45))<|.nil)) (.seq (.ops (.o 47 (.mv (.t 0))<|.o 48 (.mv (.t 1))<|.o 49 (.call (.f 26) [(.t 47),(.t 48)])<|.o 46 (.mv (.t 49))<|.o 50 (.ext (.t 46) 0)<|.o 51 (.ext (.t 46) 1)<|.o 52 (.ext (.t 46) 2)<|.o 14 (.mv (.t 50))<|.o 15 (.mv (.t 51))<|.o 16 (.mv (.t 52))<|.nil)) (.seq (.ops (.o 53 (.mv (.t 7))<|.o 54 (.mv (.t 9))<|.o 55 (.bin .eql (.t 53) (.t 54))<|.o 56 (.mv (.t 55))<|.og 57 56 true (.mv (.t 8))<|.og 58 56 true (.mv (.t 10))<|.og 59 56 true (.bin .eql (.t 57) (.t 58))<|.o 60 (.pick (.t 56) (.t 59) (.b false))<|.o 61 (.mv (.t 60))<|.og 62 61 true (.mv (.t 11))<|.og 63 61 true (.mv (.t 14))<|.og 64 61 true (.bin .eql (.t 62) (.t 63))<|.o 65 (.pick (.t 61) (.t 64) (.b false))<|.o 66 (.mv (.t 65))<|.og 67 66 true (.mv (.t 12))<|.og 68 66 true (.mv (.t 15))<|.og 69 66 true (.bin .eql (.t 67) (.t 68))<|.o 70 (.pick (.t 66) (.t 69) (.b false))<|.o 71 (.mv (.t 70))<|.og 72 71 true (.mv (.t 13))<|.og 73 71 true (.mv (.t 16))<|.og 74 71 true (.bin .eql (.t 72) (.t 73))<|.o 75 (.pick (.t 71) (.t 74) (.b false))<|.o 76 (.mv (.t 75))<|.og 77 76 true (.mv (.t 0))<|.og 78 76 true (.mv (.t 1))<|.og 79 76 true (.mv (.t 2))<|.og 80 76 true (.call (.f 27) [(.t 77),(.t 78),(.t 79)])<|.og 81 76 true (.mv (.t 0))<|.og 82 76 true (.mv (.t 1))<|.og 83 76 true (.mv (.t 2))<|.og 84 76 true (.call (.f 28) [(.t 81),(.t 82),(.t 83)])<|.og 85 76 true (.beq false (.t 80) (.t 84))<|.o 86 (.pick (.t 76) (.t 85) (.b false))<|.o 87 (.mv (.t 86))<|.og 88 87 true (.mv (.t 2))<|.og 89 87 true (.call (.f 29) [(.t 88)])<|.og 90 87 true (.mv (.t 2))<|.og 91 87 true (.call (.f 30) [(.t 90)])<|.og 92 87 true (.beq false (.t 89) (.t 91))<|.o 93 (.pick (.t 87) (.t 92) (.b false))<|.o 94 (.mv (.t 93))<|.og 95 94 true (.mv (.t 0))<|.og 96 94 true (.call (.f 29) [(.t 95)])<|.og 97 94 true (.mv (.t 0))<|.og 98 94 true (.call (.f 30) [(.t 97)])<|.og 99 94 true (.beq false (.t 96) (.t 98))<|.o 100 (.pick (.t 94) (.t 99) (.b false))<|.o 101 (.mv (.t 100))<|.og 102 101 true (.call (.f 13) [])<|.o 103 (.pick (.t 101) (.t 102) (.b false))<|.o 6 (.mv (.t 103))<|.nil)) (.ret ⟨[],[6],[6],true⟩)))))))),[.tmp 6],true⟩
def K_law07_Long : KF := ⟨11,(.seq (.ops (.o 2 (.mv (.b false))<|.nil)) (.seq (.ops (.o 3 (.mv (.t 0))<|.o 4 (.lenS (.t 3))<|.o 5 (.bin .gtr (.t 4) (.p 9223372036854775808 3000))<|.o 6 (.mv (.t 5))<|.og 7 6 true (.mv (.t 0))<|.og 8 6 true (.lenS (.t 7))<|.og 9 6 true (.bin .leq (.t 8) (.p 9223372036854775808 65536))<|.o 10 (.pick (.t 6) (.t 9) (.b false))<|.o 2 (.mv (.t 10))<|.nil)) (.ret ⟨[],[2],[2],true⟩))),[.tmp 2],true⟩
def K_ref05_Parse : KF := ⟨155,(.seq (.ops (.o 4 (.alloc 26 [.ns,.b false])<|.o 5 (.mv (.p 9223372036854775808 0))<|.o 6 (.mv (.p 9223372036854775808 0))<|.nil)) (.seq (.seq (.ops (.o 20 (.mv (.t 0))<|.o 21 (.lenS (.t 20))<|.o 22 (.bin .gtr (.t 21) (.p 9223372036854775808 65536))<|.nil)) (.cond (.t 22) (.seq (.ops (.o 23 (.bld [(0,1),(1,1)] [.ns,.b false] [])<|.on (.store 2 (.t 4) (.t 23))<|.o 5 (.mv (.p 9223372036854775808 0))<|.o 6 (.mv (.p 9223372036854775808 5))<|.nil)) (.ret ⟨[4],[4,5,6],[],true⟩)) .skip)) (.seq (.seq (.ops (.o 24 (.mv (.t 1))<|.o 25 (.bin .lss (.t 24) (.p 9223372036854775808 0))<|.o 26 (.mv (.t 25))<|.og 27 26 false (.mv (.t 1))<|.og 28 26 false (.mv (.t 0))<|.og 29 26 false (.lenS (.t 28))<|.og 30 26 false (.bin .gtr (.t 27) (.t 29))<|.o 31 (.pick (.t 26) (.b true) (.t 30))<|.nil)) (.cond (.t 31) (.seq (.ops (.o 32 (.bld [(0,1),(1,1)] [.ns,.b false] [])<|.on (.store 2 (.t 4) (.t 32))<|.o 5 (.mv (.p 9223372036854775808 0))<|.o 6 (.mv (.p 9223372036854775808 1))<|.nil)) (.ret ⟨[4],[4,5,6],[],true⟩)) .skip)) (.seq (.seq (.ops (.o 33 (.mv (.t 1))<|.o 34 (.mv (.t 0))<|.o 35 (.lenS (.t 34))<|.o 36 (.bin .eql (.t 33) (.t 35))<|.nil)) (.cond (.t 36) (.seq (.ops (.o 37 (.bld [(0,1),(1,1)] [.ns,.b false] [])<|.on (.store 2 (.t 4) (.t 37))<|.o 5 (.mv (.p 9223372036854775808 0))<|.o 6 (.mv (.p 9223372036854775808 4))<|.nil)) (.ret ⟨[4],[4,5,6],[],true⟩)) .skip)) (.seq (.ops (.o 38 (.mv (.t 0))<|.o 39 (.mv (.t 1))<|.o 40 (.call (.f 73) [(.t 38),(.t 39),(.b false)])<|.o 7 (.mv (.t 40))<|.nil)) (.seq (.ops (.o 41 (.mv (.t 7))<|.o 42 (.mv (.t 0))<|.o 43 (.lenS (.t 42))<|.o 44 (.bin .lss (.t 41) (.t 43))<|.o 45 (.mv (.t 44))<|.og 46 45 true (.mv (.t 0))<|.og 47 45 true (.mv (.t 7))<|.og 48 45 true (.idxS (.t 46) (.t 47))<|.og 49 45 true (.bin .eql (.t 48) (.p 256 39))<|.o 50 (.pick (.t 45) (.t 49) (.b false))<|.o 8 (.mv (.t 50))<|.nil)) (.seq (.ops (.o 52 (.mv (.t 0))<|.o 53 (.mv (.t 1))<|.o 54 (.mv (.t 7))<|.o 55 (.cutS (.t 52) (some (.t 53)) (some (.t 54)))<|.o 56 (.call (.f 74) [(.t 55)])<|.o 51 (.mv (.t 56))<|.o 57 (.ext (.t 51) 0)<|.o 58 (.ext (.t 51) 1)<|.o 9 (.mv (.t 57))<|.o 10 (.mv (.t 58))<|.nil)) (.seq (.seq (.ops (.o 59 (.mv (.t 10))<|.o 60 (.not (.t 59))<|.o 61 (.mv (.t 60))<|.og 62 61 true (.mv (.t 1))<|.og 63 61 true (.mv (.t 7))<|.og 64 61 true (.bin .eql (.t 62) (.t 63))<|.og 65 61 true (.mv (.t 64))<|.og 66 65 true (.mv (.t 8))<|.og 67 61 true (.pick (.t 65) (.t 66) (.b false))<|.og 68 61 true (.not (.t 67))<|.o 69 (.pick (.t 61) (.t 68) (.b false))<|.nil)) (.cond (.t 69) (.seq (.ops (.o 70 (.bld [(0,1),(1,1)] [.ns,.b false] [])<|.on (.store 2 (.t 4) (.t 70))<|.o 5 (.mv (.p 9223372036854775808 0))<|.o 6 (.mv (.p 9223372036854775808 3))<|.nil)) (.ret ⟨[4],[4,5,6],[],true⟩)) .skip)) (.seq (.seq (.ops (.o 71 (.mv (.t 8))<|.o 72 (.not (.t 71))<|.nil)) (.cond (.t 72) (.seq (.seq (.ops (.o 73 (.mv (.t 9))<|.o 74 (.bin .gtr (.t 73) (.p 9223372036854775808 2147483647))<|.nil)) (.cond (.t 74) (.seq (.ops (.o 75 (.bld [(0,1),(1,1)] [.ns,.b false] [])<|.on (.store 2 (.t 4) (.t 75))<|.o 5 (.mv (.p 9223372036854775808 0))<|.o 6 (.mv (.p 9223372036854775808 5))<|.nil)) (.ret ⟨[4],[4,5,6],[],true⟩)) .skip)) (.seq (.ops (.o 77 (.mv (.t 9))<|.o 78 (.call (.f 75) [(.t 77),(.p 9223372036854775808 32),(.b true)])<|.o 76 (.mv (.t 78))<|.o 79 (.ext (.t 76) 0)<|.o 80 (.ext (.t 76) 1)<|.o 11 (.alloc 26 [.ns,.b false])<|.on (.store 2 (.t 11) (.t 79))<|.o 12 (.mv (.t 80))<|.nil)) (.seq (.ops (.o 81 (.load true 2 (.t 11))<|.o 82 (.mv (.t 7))<|.on (.store 2 (.t 4) (.t 81))<|.o 5 (.mv (.t 82))<|.o 6 (.mv (.p 9223372036854775808 0))<|.nil)) (.ret ⟨[4],[4,5,6],[],true⟩)))) .skip)) (.seq (.ops (.o 13 (.mv (.p 9223372036854775808 32))<|.nil)) (.seq (.seq (.ops (.o 83 (.mv (.t 1))<|.o 84 (.mv (.t 7))<|.o 85 (.bin .lss (.t 83) (.t 84))<|.nil)) (.cond (.t 85) (.seq (.seq (.ops (.o 86 (.mv (.t 9))<|.o 87 (.bin .lss (.t 86) (.p 9223372036854775808 1))<|.o 88 (.mv (.t 87))<|.og 89 88 false (.mv (.t 9))<|.og 90 88 false (.bin .gtr (.t 89) (.p 9223372036854775808 128))<|.o 91 (.pick (.t 88) (.b true) (.t 90))<|.nil)) (.cond (.t 91) (.seq (.ops (.o 92 (.bld [(0,1),(1,1)] [.ns,.b false] [])<|.on (.store 2 (.t 4) (.t 92))<|.o 5 (.mv (.p 9223372036854775808 0))<|.o 6 (.mv (.p 9223372036854775808 12))<|.nil)) (.ret ⟨[4],[4,5,6],[],true⟩)) .skip)) (.ops (.o 93 (.mv (.t 9))<|.o 13 (.mv (.t 93))<|.nil))) .skip)) (.seq (.seq (.ops (.o 94 (.mv (.t 7))<|.o 95 (.bin .add (.t 94) (.p 9223372036854775808 1))<|.o 96 (.mv (.t 0))<|.o 97 (.lenS (.t 96))<|.o 98 (.bin .eql (.t 95) (.t 97))<|.nil)) (.cond (.t 98) (.seq (.ops (.o 99 (.bld [(0,1),(1,1)] [.ns,.b false] [])<|.on (.store 2 (.t 4) (.t 99))<|.o 5 (.mv (.p 9223372036854775808 0))<|.o 6 (.mv (.p 9223372036854775808 4))<|.nil)) (.ret ⟨[4],[4,5,6],[],true⟩)) .skip)) (.seq (.ops (.o 100 (.mv (.t 0))<|.o 101 (.mv (.t 7))<|.o 102 (.bin .add (.t 101) (.p 9223372036854775808 1))<|.o 103 (.call (.f 73) [(.t 100),(.t 102),(.b true)])<|.o 14 (.mv (.t 103))<|.nil)) (.seq (.ops (.o 104 (.mv (.t 0))<|.o 105 (.mv (.t 7))<|.o 106 (.bin .add (.t 105) (.p 9223372036854775808 1))<|.o 107 (.mv (.t 14))<|.o 108 (.cutS (.t 104) (some (.t 106)) (some (.t 107)))<|.o 15 (.mv (.t 108))<|.nil)) (.seq (.ops (.o 16 (.alloc 26 [.ns,.b false])<|.nil)) (.seq (.seq (.ops (.o 109 (.mv (.t 15))<|.o 110 (.bin .neq (.t 109) (.s 0 0))<|.o 111 (.mv (.t 110))<|.og 112 111 true (.mv (.t 15))<|.og 113 111 true (.idxS (.t 112) (.p 9223372036854775808 0))<|.og 114 111 true (.call (.f 76) [(.t 113)])<|.og 115 111 true (.bin .eql (.t 114) (.p 256 115))<|.o 116 (.pick (.t 111) (.t 115) (.b false))<|.nil)) (.cond (.t 116) (.seq (.ops (.o 117 (.faddr 1 (.t 16))<|.on (.store 1 (.t 117) (.b true))<|.nil)) (.ops (.o 118 (.mv (.t 15))<|.o 119 (.cutS (.t 118) (some (.p 9223372036854775808 1)) none)<|.o 15 (.mv (.t 119))<|.nil))) .skip)) (.seq (.seq (.ops (.o 120 (.mv (.t 15))<|.o 121 (.bin .eql (.t 120) (.s 0 0))<|.o 122 (.mv (.t 121))<|.og 123 122 false (.mv (.t 15))<|.og 124 122 false (.idxS (.t 123) (.p 9223372036854775808 0))<|.og 125 122 false (.call (.f 76) [(.t 124)])<|.og 126 122 false (.call (.f 77) [(.t 125)])<|.og 127 122 false (.bin .lss (.t 126) (.p 9223372036854775808 0))<|.o 128 (.pick (.t 122) (.b true) (.t 127))<|.nil)) (.cond (.t 128) (.seq (.ops (.o 129 (.bld [(0,1),(1,1)] [.ns,.b false] [])<|.on (.store 2 (.t 4) (.t 129))<|.o 5 (.mv (.p 9223372036854775808 0))<|.o 6 (.mv (.p 9223372036854775808 3))<|.nil)) (.ret ⟨[4],[4,5,6],[],true⟩)) .skip)) (.seq (.ops (.o 130 (.mv (.t 15))<|.o 131 (.idxS (.t 130) (.p 9223372036854775808 0))<|.o 132 (.call (.f 76) [(.t 131)])<|.o 133 (.call (.f 77) [(.t 132)])<|.o 17 (.mv (.t 133))<|.nil)) (.seq (.ops (.o 135 (.mv (.t 15))<|.o 136 (.cutS (.t 135) (some (.p 9223372036854775808 1)) none)<|.o 137 (.mv (.t 17))<|.o 138 (.call (.f 78) [(.t 136),(.t 137)])<|.o 134 (.mv (.t 138))<|.o 139 (.ext (.t 134) 0)<|.o 140 (.ext (.t 134) 1)<|.o 18 (.mv (.t 139))<|.o 19 (.mv (.t 140))<|.nil)) (.seq (.seq (.ops (.o 141 (.mv (.t 19))<|.o 142 (.not (.t 141))<|.nil)) (.cond (.t 142) (.seq (.ops (.o 143 (.bld [(0,1),(1,1)] [.ns,.b false] [])<|.on (.store 2 (.t 4) (.t 143))<|.o 5 (.mv (.p 9223372036854775808 0))<|.o 6 (.mv (.p 9223372036854775808 3))<|.nil)) (.ret ⟨[4],[4,5,6],[],true⟩)) .skip)) (.seq (.seq (.ops (.o 144 (.mv (.t 18))<|.o 145 (.lenS (.t 144))<|.o 146 (.bin .gtr (.t 145) (.p 9223372036854775808 256))<|.nil)) (.cond (.t 146) (.seq (.ops (.o 147 (.bld [(0,1),(1,1)] [.ns,.b false] [])<|.on (.store 2 (.t 4) (.t 147))<|.o 5 (.mv (.p 9223372036854775808 0))<|.o 6 (.mv (.p 9223372036854775808 5))<|.nil)) (.ret ⟨[4],[4,5,6],[],true⟩)) .skip)) (.seq (.ops (.o 148 (.mv (.t 18))<|.o 149 (.mv (.t 17))<|.o 150 (.mv (.t 13))<|.o 151 (.call (.f 79) [(.t 148),(.t 149),(.t 150)])<|.o 152 (.faddr 0 (.t 16))<|.on (.store 1 (.t 152) (.t 151))<|.nil)) (.seq (.ops (.o 153 (.load true 2 (.t 16))<|.o 154 (.mv (.t 14))<|.on (.store 2 (.t 4) (.t 153))<|.o 5 (.mv (.t 154))<|.o 6 (.mv (.p 9223372036854775808 0))<|.nil)) (.ret ⟨[4],[4,5,6],[],true⟩)))))))))))))))))))))))),[.cell 4 true 2,.tmp 5,.tmp 6],true⟩
def K_ref05_run_b0 : KC := (.seq (.seq (.ops (.o 7 (.mv (.t 1))<|.o 8 (.mv (.t 0))<|.o 9 (.lenS (.t 8))<|.o 10 (.bin .lss (.t 7) (.t 9))<|.o 11 (.mv (.t 10))<|.og 12 11 true (.mv (.t 0))<|.og 13 11 true (.mv (.t 1))<|.og 14 11 true (.idxS (.t 12) (.t 13))<|.og 15 11 true (.call (.f 106) [(.t 14)])<|.og 16 11 true (.mv (.t 15))<|.og 17 16 false (.mv (.t 0))<|.og 18 16 false (.mv (.t 1))<|.og 19 16 false (.idxS (.t 17) (.t 18))<|.og 20 16 false (.call (.f 107) [(.t 19)])<|.og 21 11 true (.pick (.t 16) (.b true) (.t 20))<|.og 22 11 true (.mv (.t 21))<|.og 23 22 false (.mv (.t 0))<|.og 24 22 false (.mv (.t 1))<|.og 25 22 false (.idxS (.t 23) (.t 24))<|.og 26 22 false (.bin .eql (.t 25) (.p 256 95))<|.og 27 11 true (.pick (.t 22) (.b true) (.t 26))<|.og 28 11 true (.mv (.t 27))<|.og 29 28 false (.mv (.t 2))<|.og 30 28 false (.mv (.t 29))<|.og 31 30 true (.mv (.t 0))<|.og 32 30 true (.mv (.t 1))<|.og 33 30 true (.idxS (.t 31) (.t 32))<|.og 34 30 true (.bin .eql (.t 33) (.p 256 63))<|.og 35 28 false (.pick (.t 30) (.t 34) (.b false))<|.og 36 11 true (.pick (.t 28) (.b true) (.t 35))<|.o 37 (.pick (.t 11) (.t 36) (.b false))<|.nil)) (.cond (.t 37) .skip (.exit ⟨[],[1],[],false⟩ 0))) (.block 1 (.ops (.o 38 (.mv (.t 1))<|.o 39 (.bin .add (.t 38) (.p 9223372036854775808 1))<|.o 1 (.mv (.t 39))<|.nil))))
@[reducible] def K_ref05_run_h0 : Head := ⟨[], [0, 1, 2], [], true⟩
def K_ref05_run : KF := ⟨41,(.seq (.ops (.o 6 (.mv (.p 9223372036854775808 0))<|.nil)) (.seq (.block 0 (.loop K_ref05_run_h0 K_ref05_run_b0)) (.seq (.ops (.o 40 (.mv (.t 1))<|.o 6 (.mv (.t 40))<|.nil)) (.ret ⟨[],[6],[6],true⟩)))),[.tmp 6],true⟩
def K_ref05_number_b0 : KC := (.seq (.seq (.ops (.o 14 (.mv (.t 5))<|.o 15 (.mv (.t 0))<|.o 16 (.lenS (.t 15))<|.o 17 (.bin .lss (.t 14) (.t 16))<|.nil)) (.cond (.t 17) .skip (.exit ⟨[],[4],[],false⟩ 0))) (.seq (.block 1 (.seq (.seq (.ops (.o 20 (.mv (.t 0))<|.o 21 (.mv (.t 5))<|.o 22 (.idxS (.t 20) (.t 21))<|.o 23 (.bin .eql (.t 22) (.p 256 95))<|.nil)) (.cond (.t 23) (.exit ⟨[],[0,4,5],[],false⟩ 1) .skip)) (.seq (.seq (.ops (.o 24 (.mv (.t 0))<|.o 25 (.mv (.t 5))<|.o 26 (.idxS (.t 24) (.t 25))<|.o 27 (.call (.f 107) [(.t 26)])<|.o 28 (.not (.t 27))<|.nil)) (.cond (.t 28) (.seq (.ops (.o 2 (.mv (.p 9223372036854775808 0))<|.o 3 (.mv (.b false))<|.nil)) (.ret ⟨[],[2,3],[2,3],true⟩)) .skip)) (.ops (.o 29 (.mv (.t 4))<|.o 30 (.bin .mul (.p 9223372036854775808 10) (.t 29))<|.o 31 (.mv (.t 0))<|.o 32 (.mv (.t 5))<|.o 33 (.idxS (.t 31) (.t 32))<|.o 34 (.bin .sub (.t 33) (.p 256 48))<|.o 35 (.cv 9223372036854775808 (.t 34))<|.o 36 (.bin .add (.t 30) (.t 35))<|.o 37 (.mm false (.t 36) (.p 9223372036854775808 1099511627776))<|.o 4 (.mv (.t 37))<|.nil))))) (.ops (.o 18 (.mv (.t 5))<|.o 19 (.bin .add (.t 18) (.p 9223372036854775808 1))<|.o 5 (.mv (.t 19))<|.nil))))
@[reducible] def K_ref05_number_h0 : Head := ⟨[12000, 12001, 12002, 12003], [0, 4, 5], [], true⟩
def K_ref05_number : KF := ⟨39,(.seq (.ops (.o 2 (.mv (.p 9223372036854775808 0))<|.o 3 (.mv (.b false))<|.nil)) (.seq (.seq (.ops (.o 6 (.mv (.t 0))<|.o 7 (.bin .eql (.t 6) (.s 0 0))<|.o 8 (.mv (.t 7))<|.og 9 8 false (.mv (.t 0))<|.og 10 8 false (.idxS (.t 9) (.p 9223372036854775808 0))<|.og 11 8 false (.call (.f 107) [(.t 10)])<|.og 12 8 false (.not (.t 11))<|.o 13 (.pick (.t 8) (.b true) (.t 12))<|.nil)) (.cond (.t 13) (.seq (.ops (.o 2 (.mv (.p 9223372036854775808 0))<|.o 3 (.mv (.b false))<|.nil)) (.ret ⟨[],[2,3],[2,3],true⟩)) .skip)) (.seq (.ops (.o 4 (.mv (.p 9223372036854775808 0))<|.nil)) (.seq (.seq (.ops (.o 5 (.mv (.p 9223372036854775808 0))<|.nil)) (.block 0 (.loop K_ref05_number_h0 K_ref05_number_b0))) (.seq (.ops (.o 38 (.mv (.t 4))<|.o 2 (.mv (.t 38))<|.o 3 (.mv (.b true))<|.nil)) (.ret ⟨[],[2,3],[2,3],true⟩)))))),[.tmp 2,.tmp 3],true⟩
def K_ref04_FromInt : KF := ⟨26,(.seq (.ops (.o 6 (.alloc 26 [.ns,.b false])<|.o 7 (.mv (.p 9223372036854775808 0))<|.nil)) (.seq (.seq (.ops (.o 10 (.mv (.t 1))<|.o 11 (.bin .lss (.t 10) (.p 9223372036854775808 1))<|.o 12 (.mv (.t 11))<|.og 13 12 false (.mv (.t 1))<|.og 14 12 false (.bin .gtr (.t 13) (.p 9223372036854775808 128))<|.o 15 (.pick (.t 12) (.b true) (.t 14))<|.nil)) (.cond (.t 15) (.seq (.ops (.o 16 (.bld [(0,1),(1,1)] [.ns,.b false] [])<|.on (.store 2 (.t 6) (.t 16))<|.o 7 (.mv (.p 9223372036854775808 12))<|.nil)) (.ret ⟨[6],[6,7],[],true⟩)) .skip)) (.seq (.ops (.o 18 (.mv (.t 0))<|.o 19 (.mv (.t 1))<|.o 20 (.call (.f 100) [(.t 18),(.t 19)])<|.o 17 (.mv (.t 20))<|.o 21 (.ext (.t 17) 0)<|.o 22 (.ext (.t 17) 1)<|.o 8 (.mv (.t 21))<|.o 9 (.mv (.t 22))<|.nil)) (.seq (.ops (.o 23 (.mv (.t 8))<|.o 24 (.mv (.t 2))<|.o 25 (.call (.f 108) [(.t 23),(.t 24)])<|.on (.store 2 (.t 6) (.t 25))<|.o 7 (.mv (.p 9223372036854775808 0))<|.nil)) (.ret ⟨[6],[6,7],[],true⟩))))),[.cell 6 true 2,.tmp 7],true⟩
def K_ref05_lower : KF := ⟨15,(.seq (.ops (.o 2 (.mv (.p 256 0))<|.nil)) (.seq (.seq (.ops (.o 3 (.mv (.t 0))<|.o 4 (.bin .geq (.t 3) (.p 256 65))<|.o 5 (.mv (.t 4))<|.og 6 5 true (.mv (.t 0))<|.og 7 5 true (.bin .leq (.t 6) (.p 256 90))<|.o 8 (.pick (.t 5) (.t 7) (.b false))<|.nil)) (.cond (.t 8) (.seq (.ops (.o 9 (.mv (.t 0))<|.o 10 (.bin .add (.t 9) (.p 256 97))<|.o 11 (.bin .sub (.t 10) (.p 256 65))<|.o 2 (.mv (.t 11))<|.nil)) (.ret ⟨[],[2],[2],true⟩)) .skip)) (.seq (.seq (.ops (.o 12 (.mv (.t 0))<|.o 13 (.bin .eql (.t 12) (.p 256 63))<|.nil)) (.cond (.t 13) (.seq (.ops (.o 2 (.mv (.p 256 122))<|.nil)) (.ret ⟨[],[2],[2],true⟩)) .skip)) (.seq (.ops (.o 14 (.mv (.t 0))<|.o 2 (.mv (.t 14))<|.nil)) (.ret ⟨[],[2],[2],true⟩))))),[.tmp 2],true⟩
def K_ref05_size : KF := ⟨12,(.seq (.ops (.o 2 (.mv (.p 9223372036854775808 0))<|.nil)) (.seq (.seq (.ops (.o 3 (.mv (.t 0))<|.nil)) (.block 0 (.seq (.ops (.o 5 (.bin .eql (.t 3) (.p 256 98))<|.o 4 (.mv (.t 5))<|.nil)) (.cond (.t 4) (.seq (.ops (.o 2 (.mv (.p 9223372036854775808 1))<|.nil)) (.ret ⟨[],[2],[2],true⟩)) (.seq (.ops (.o 7 (.bin .eql (.t 3) (.p 256 111))<|.o 6 (.mv (.t 7))<|.nil)) (.cond (.t 6) (.seq (.ops (.o 2 (.mv (.p 9223372036854775808 3))<|.nil)) (.ret ⟨[],[2],[2],true⟩)) (.seq (.ops (.o 9 (.bin .eql (.t 3) (.p 256 100))<|.o 8 (.mv (.t 9))<|.nil)) (.cond (.t 8) (.seq (.ops (.o 2 (.mv (.p 9223372036854775808 0))<|.nil)) (.ret ⟨[],[2],[2],true⟩)) (.seq (.ops (.o 11 (.bin .eql (.t 3) (.p 256 104))<|.o 10 (.mv (.t 11))<|.nil)) (.cond (.t 10) (.seq (.ops (.o 2 (.mv (.p 9223372036854775808 4))<|.nil)) (.ret ⟨[],[2],[2],true⟩)) .skip)))))))))) (.seq (.ops (.o 2 (.mv (.m 9223372036854775808 0))<|.nil)) (.ret ⟨[],[2],[2],true⟩)))),[.tmp 2],true⟩
def K_ref05_digits_b0 : KC := (.seq (.seq (.ops (.o 23 (.mv (.t 9))<|.o 24 (.mv (.t 0))<|.o 25 (.lenS (.t 24))<|.o 26 (.bin .lss (.t 23) (.t 25))<|.nil)) (.cond (.t 26) .skip (.exit ⟨[],[1,7,8],[],false⟩ 0))) (.seq (.block 1 (.seq (.seq (.ops (.o 29 (.mv (.t 0))<|.o 30 (.mv (.t 9))<|.o 31 (.idxS (.t 29) (.t 30))<|.o 32 (.bin .eql (.t 31) (.p 256 95))<|.nil)) (.cond (.t 32) (.exit ⟨[],[0,1,6,7,8,9],[],false⟩ 1) .skip)) (.seq (.ops (.o 33 (.mv (.t 0))<|.o 34 (.mv (.t 9))<|.o 35 (.idxS (.t 33) (.t 34))<|.o 36 (.call (.f 76) [(.t 35)])<|.o 10 (.mv (.t 36))<|.nil)) (.seq (.seq (.ops (.o 37 (.mv (.t 10))<|.o 38 (.bin .eql (.t 37) (.p 256 120))<|.o 39 (.mv (.t 38))<|.og 40 39 false (.mv (.t 10))<|.og 41 39 false (.bin .eql (.t 40) (.p 256 122))<|.o 42 (.pick (.t 39) (.b true) (.t 41))<|.nil)) (.cond (.t 42) (.ops (.o 43 (.mv (.t 8))<|.o 44 (.bin .add (.t 43) (.p 9223372036854775808 1))<|.o 8 (.mv (.t 44))<|.nil)) (.seq (.ops (.o 45 (.mv (.t 10))<|.o 46 (.call (.f 109) [(.t 45)])<|.o 47 (.mv (.t 6))<|.o 48 (.bin .geq (.t 46) (.t 47))<|.nil)) (.cond (.t 48) (.seq (.ops (.o 4 (.mv (.s 0 0))<|.o 5 (.mv (.b false))<|.nil)) (.ret ⟨[],[4,5],[4,5],true⟩)) .skip)))) (.ops (.o 49 (.mv (.t 7))<|.o 50 (.mv (.t 10))<|.o 51 (.bsl 5 1 [(.t 50)])<|.o 52 (.b2s (.t 51))<|.o 53 (.bin .add (.t 49) (.t 52))<|.o 7 (.mv (.t 53))<|.nil)))))) (.ops (.o 27 (.mv (.t 9))<|.o 28 (.bin .add (.t 27) (.p 9223372036854775808 1))<|.o 9 (.mv (.t 28))<|.nil))))
@[reducible] def K_ref05_digits_h0 : Head := ⟨[], [0, 1, 6, 7, 8, 9], [], true⟩
def K_ref05_digits : KF := ⟨66,(.seq (.ops (.o 4 (.mv (.s 0 0))<|.o 5 (.mv (.b false))<|.nil)) (.seq (.seq (.ops (.o 11 (.mv (.t 0))<|.o 12 (.bin .eql (.t 11) (.s 0 0))<|.o 13 (.mv (.t 12))<|.og 14 13 false (.mv (.t 0))<|.og 15 13 false (.idxS (.t 14) (.p 9223372036854775808 0))<|.og 16 13 false (.bin .eql (.t 15) (.p 256 95))<|.o 17 (.pick (.t 13) (.b true) (.t 16))<|.nil)) (.cond (.t 17) (.seq (.ops (.o 4 (.mv (.s 0 0))<|.o 5 (.mv (.b false))<|.nil)) (.ret ⟨[],[4,5],[4,5],true⟩)) .skip)) (.seq (.ops (.o 18 (.mv (.t 1))<|.o 19 (.cv 18446744073709551616 (.t 18))<|.o 20 (.bin .shl (.p 9223372036854775808 1) (.t 19))<|.o 6 (.mv (.t 20))<|.nil)) (.seq (.seq (.ops (.o 21 (.mv (.t 1))<|.o 22 (.bin .eql (.t 21) (.p 9223372036854775808 0))<|.nil)) (.cond (.t 22) (.ops (.o 6 (.mv (.p 9223372036854775808 10))<|.nil)) .skip)) (.seq (.ops (.o 7 (.mv (.s 0 0))<|.o 8 (.mv (.p 9223372036854775808 0))<|.nil)) (.seq (.seq (.ops (.o 9 (.mv (.p 9223372036854775808 0))<|.nil)) (.block 0 (.loop K_ref05_digits_h0 K_ref05_digits_b0))) (.seq (.ops (.o 54 (.mv (.t 7))<|.o 55 (.mv (.t 1))<|.o 56 (.bin .gtr (.t 55) (.p 9223372036854775808 0))<|.o 57 (.mv (.t 56))<|.og 58 57 false (.mv (.t 8))<|.og 59 57 false (.bin .eql (.t 58) (.p 9223372036854775808 0))<|.o 60 (.pick (.t 57) (.b true) (.t 59))<|.o 61 (.mv (.t 60))<|.og 62 61 false (.mv (.t 7))<|.og 63 61 false (.lenS (.t 62))<|.og 64 61 false (.bin .eql (.t 63) (.p 9223372036854775808 1))<|.o 65 (.pick (.t 61) (.b true) (.t 64))<|.o 4 (.mv (.t 54))<|.o 5 (.mv (.t 65))<|.nil)) (.ret ⟨[],[4,5],[4,5],true⟩)))))))),[.tmp 4,.tmp 5],true⟩
def K_ref05_vector_b0 : KC := (.seq (.seq (.ops (.o 37 (.mv (.t 11))<|.o 38 (.mv (.t 0))<|.o 39 (.lenS (.t 38))<|.o 40 (.bin .lss (.t 37) (.t 39))<|.nil)) (.cond (.t 40) .skip (.exit ⟨[],[10],[],false⟩ 0))) (.seq (.block 1 (.seq (.ops (.o 44 (.mv (.t 0))<|.o 45 (.mv (.t 11))<|.o 46 (.idxS (.t 44) (.t 45))<|.o 47 (.bin .sub (.t 46) (.p 256 48))<|.o 48 (.cv 9223372036854775808 (.t 47))<|.o 49 (.call (.f 100) [(.t 48),(.p 9223372036854775808 4)])<|.o 43 (.mv (.t 49))<|.o 50 (.ext (.t 43) 0)<|.o 51 (.ext (.t 43) 1)<|.o 12 (.mv (.t 50))<|.o 13 (.mv (.t 51))<|.nil)) (.ops (.o 52 (.mv (.t 10))<|.o 53 (.mv (.t 9))<|.o 54 (.call (.f 113) [(.t 52),(.t 53)])<|.o 55 (.mv (.t 12))<|.o 56 (.call (.f 112) [(.t 54),(.t 55)])<|.o 10 (.mv (.t 56))<|.nil)))) (.ops (.o 41 (.mv (.t 11))<|.o 42 (.bin .add (.t 41) (.p 9223372036854775808 1))<|.o 11 (.mv (.t 42))<|.nil))))
@[reducible] def K_ref05_vector_h0 : Head := ⟨[], [0, 9, 10, 11], [9, 10], true⟩
def K_ref05_vector_b2 : KC := (.seq (.seq (.ops (.o 67 (.mv (.t 16))<|.o 68 (.mv (.t 1))<|.o 69 (.bin .lss (.t 67) (.t 68))<|.nil)) (.cond (.t 69) .skip (.exit ⟨[],[0,1,2,7,8,14,15],[],false⟩ 4))) (.seq (.block 5 (.seq (.ops (.o 72 (.mv (.t 0))<|.o 73 (.mv (.t 15))<|.o 74 (.idxS (.t 72) (.t 73))<|.o 75 (.bin .eql (.t 74) (.p 256 120))<|.o 76 (.mv (.t 75))<|.og 77 76 false (.mv (.t 0))<|.og 78 76 false (.mv (.t 15))<|.og 79 76 false (.idxS (.t 77) (.t 78))<|.og 80 76 false (.bin .eql (.t 79) (.p 256 122))<|.o 81 (.pick (.t 76) (.b true) (.t 80))<|.nil)) (.cond (.t 81) (.ops (.o 82 (.mv (.t 14))<|.o 83 (.mv (.t 0))<|.o 84 (.mv (.t 15))<|.o 85 (.idxS (.t 83) (.t 84))<|.o 86 (.call (.f 111) [(.t 85)])<|.o 87 (.bsl 73 1 [(.t 86)])<|.o 88 (.app 73 1 (.t 82) (.t 87))<|.o 14 (.mv (.t 88))<|.nil)) (.ops (.o 89 (.mv (.t 14))<|.o 90 (.mv (.t 0))<|.o 91 (.mv (.t 15))<|.o 92 (.idxS (.t 90) (.t 91))<|.o 93 (.call (.f 109) [(.t 92)])<|.o 94 (.mv (.t 16))<|.o 95 (.cv 18446744073709551616 (.t 94))<|.o 96 (.bin .shr (.t 93) (.t 95))<|.o 97 (.bin .and (.t 96) (.p 9223372036854775808 1))<|.o 98 (.cv 256 (.t 97))<|.o 99 (.bsl 73 1 [(.t 98)])<|.o 100 (.app 73 1 (.t 89) (.t 99))<|.o 14 (.mv (.t 100))<|.nil))))) (.ops (.o 70 (.mv (.t 16))<|.o 71 (.bin .add (.t 70) (.p 9223372036854775808 1))<|.o 16 (.mv (.t 71))<|.nil))))
@[reducible] def K_ref05_vector_h2 : Head := ⟨[88, 100], [0, 1, 2, 7, 8, 14, 15, 16], [], true⟩
def K_ref05_vector_b1 : KC := (.seq (.seq (.ops (.o 63 (.mv (.t 15))<|.o 64 (.bin .geq (.t 63) (.p 9223372036854775808 0))<|.nil)) (.cond (.t 64) .skip (.exit ⟨[],[2,7,8,14],[],false⟩ 2))) (.seq (.block 3 (.seq (.ops (.o 16 (.mv (.p 9223372036854775808 0))<|.nil)) (.block 4 (.loop K_ref05_vector_h2 K_ref05_vector_b2)))) (.ops (.o 65 (.mv (.t 15))<|.o 66 (.bin .sub (.t 65) (.p 9223372036854775808 1))<|.o 15 (.mv (.t 66))<|.nil))))
@[reducible] def K_ref05_vector_h1 : Head := ⟨[88, 100], [0, 1, 2, 7, 8, 14, 15], [], true⟩
def K_ref05_vector_b3 : KC := (.seq (.seq (.ops (.o 101 (.mv (.t 14))<|.o 102 (.len (.t 101))<|.o 103 (.mv (.t 2))<|.o 104 (.bin .lss (.t 102) (.t 103))<|.nil)) (.cond (.t 104) .skip (.exit ⟨[],[2,14],[],false⟩ 6))) (.block 7 (.seq (.ops (.o 105 (.mv (.t 8))<|.nil)) (.cond (.t 105) (.ops (.o 106 (.mv (.t 14))<|.o 107 (.mv (.t 7))<|.o 108 (.call (.f 111) [(.t 107)])<|.o 109 (.bsl 73 1 [(.t 108)])<|.o 110 (.app 73 1 (.t 106) (.t 109))<|.o 14 (.mv (.t 110))<|.nil)) (.ops (.o 111 (.mv (.t 14))<|.o 112 (.bsl 73 1 [(.p 256 0)])<|.o 113 (.app 73 1 (.t 111) (.t 112))<|.o 14 (.mv (.t 113))<|.nil))))))
@[reducible] def K_ref05_vector_h3 : Head := ⟨[88, 100], [2, 7, 8, 14], [], true⟩
def K_ref05_vector : KF := ⟨117,(.seq (.ops (.o 6 (.mv .ns)<|.nil)) (.seq (.ops (.o 17 (.mv (.t 0))<|.o 18 (.idxS (.t 17) (.p 9223372036854775808 0))<|.o 19 (.call (.f 76) [(.t 18)])<|.o 7 (.mv (.t 19))<|.nil)) (.seq (.ops (.o 20 (.mv (.t 7))<|.o 21 (.bin .eql (.t 20) (.p 256 120))<|.o 22 (.mv (.t 21))<|.og 23 22 false (.mv (.t 7))<|.og 24 22 false (.bin .eql (.t 23) (.p 256 122))<|.o 25 (.pick (.t 22) (.b true) (.t 24))<|.o 8 (.mv (.t 25))<|.nil)) (.seq (.seq (.ops (.o 26 (.mv (.t 1))<|.o 27 (.bin .eql (.t 26) (.p 9223372036854775808 0))<|.nil)) (.cond (.t 27) (.seq (.seq (.ops (.o 28 (.mv (.t 8))<|.nil)) (.cond (.t 28) (.seq (.ops (.o 29 (.mv (.t 7))<|.o 30 (.call (.f 111) [(.t 29)])<|.o 31 (.mv (.t 2))<|.o 32 (.call (.f 110) [(.t 30),(.t 31),(.b false)])<|.o 33 (.field 0 1 false (.t 32))<|.o 6 (.mv (.t 33))<|.nil)) (.ret ⟨[],[6],[6],true⟩)) .skip)) (.seq (.drq (.o 34 (.bsl 4 1 [(.b false),(.b true),(.b false),(.b true)])<|.o 35 (.mv (.t 2))<|.o 36 (.mk 1 4 (.b false) (.t 35) (.t 35))<|.o 9 (.mv (.t 34))<|.o 10 (.mv (.t 36))<|.nil) [([34],[34]),([],[]),([36],[36]),([],[]),([],[])]) (.seq (.seq (.ops (.o 11 (.mv (.p 9223372036854775808 0))<|.nil)) (.block 0 (.loop K_ref05_vector_h0 K_ref05_vector_b0))) (.seq (.ops (.o 57 (.mv (.t 10))<|.o 58 (.call (.f 108) [(.t 57),(.b false)])<|.o 59 (.field 0 1 false (.t 58))<|.o 6 (.mv (.t 59))<|.nil)) (.ret ⟨[],[6],[6],true⟩))))) .skip)) (.seq (.ops (.o 14 (.mv .ns)<|.nil)) (.seq (.seq (.ops (.o 60 (.mv (.t 0))<|.o 61 (.lenS (.t 60))<|.o 62 (.bin .sub (.t 61) (.p 9223372036854775808 1))<|.o 15 (.mv (.t 62))<|.nil)) (.block 2 (.loop K_ref05_vector_h1 K_ref05_vector_b1))) (.seq (.block 6 (.loop K_ref05_vector_h3 K_ref05_vector_b3)) (.seq (.ops (.o 114 (.mv (.t 14))<|.o 115 (.mv (.t 2))<|.o 116 (.slc 1 (.t 114) none (some (.t 115)) none)<|.o 6 (.mv (.t 116))<|.nil)) (.ret ⟨[],[6],[6],true⟩))))))))),[.tmp 6],true⟩
def K_ref03_FromInt_b0 : KC := (.seq (.seq (.ops (.o 14 (.mv (.t 7))<|.o 15 (.mv (.t 1))<|.o 16 (.bin .lss (.t 14) (.t 15))<|.nil)) (.cond (.t 16) .skip (.exit ⟨[],[6],[],false⟩ 0))) (.seq (.block 1 (.seq (.ops (.o 19 (.mv (.t 6))<|.o 20 (.mv (.t 0))<|.o 21 (.bin .and (.t 20) (.p 9223372036854775808 1))<|.o 22 (.bin .eql (.t 21) (.p 9223372036854775808 1))<|.o 23 (.bsl 4 1 [(.t 22)])<|.o 24 (.app 4 1 (.t 19) (.t 23))<|.o 6 (.mv (.t 24))<|.nil)) (.ops (.o 25 (.mv (.t 0))<|.o 26 (.bin .shr (.t 25) (.p 18446744073709551616 1))<|.o 0 (.mv (.t 26))<|.nil)))) (.ops (.o 17 (.mv (.t 7))<|.o 18 (.bin .add (.t 17) (.p 9223372036854775808 1))<|.o 7 (.mv (.t 18))<|.nil))))
@[reducible] def K_ref03_FromInt_h0 : Head := ⟨[24], [0, 1, 6, 7], [], true⟩
def K_ref03_FromInt : KF := ⟨28,(.seq (.ops (.o 4 (.mv .ns)<|.o 5 (.mv (.p 9223372036854775808 0))<|.nil)) (.seq (.seq (.ops (.o 8 (.mv (.t 1))<|.o 9 (.bin .lss (.t 8) (.p 9223372036854775808 0))<|.o 10 (.mv (.t 9))<|.og 11 10 false (.mv (.t 1))<|.og 12 10 false (.bin .gtr (.t 11) (.p 9223372036854775808 128))<|.o 13 (.pick (.t 10) (.b true) (.t 12))<|.nil)) (.cond (.t 13) (.seq (.ops (.o 4 (.mv .ns)<|.o 5 (.mv (.p 9223372036854775808 1))<|.nil)) (.ret ⟨[],[4,5],[4,5],true⟩)) .skip)) (.seq (.ops (.o 6 (.mv .ns)<|.nil)) (.seq (.seq (.ops (.o 7 (.mv (.p 9223372036854775808 0))<|.nil)) (.block 0 (.loop K_ref03_FromInt_h0 K_ref03_FromInt_b0))) (.seq (.ops (.o 27 (.mv (.t 6))<|.o 4 (.mv (.t 27))<|.o 5 (.mv (.p 9223372036854775808 0))<|.nil)) (.ret ⟨[],[4,5],[4,5],true⟩)))))),[.tmp 4,.tmp 5],true⟩
def K_ref05_letter : KF := ⟨17,(.seq (.ops (.o 2 (.mv (.b false))<|.nil)) (.seq (.ops (.o 3 (.mv (.t 0))<|.o 4 (.bin .geq (.t 3) (.p 256 97))<|.o 5 (.mv (.t 4))<|.og 6 5 true (.mv (.t 0))<|.og 7 5 true (.bin .leq (.t 6) (.p 256 122))<|.o 8 (.pick (.t 5) (.t 7) (.b false))<|.o 9 (.mv (.t 8))<|.og 10 9 false (.mv (.t 0))<|.og 11 9 false (.bin .geq (.t 10) (.p 256 65))<|.og 12 9 false (.mv (.t 11))<|.og 13 12 true (.mv (.t 0))<|.og 14 12 true (.bin .leq (.t 13) (.p 256 90))<|.og 15 9 false (.pick (.t 12) (.t 14) (.b false))<|.o 16 (.pick (.t 9) (.b true) (.t 15))<|.o 2 (.mv (.t 16))<|.nil)) (.ret ⟨[],[2],[2],true⟩))),[.tmp 2],true⟩
def K_ref05_decimal : KF := ⟨9,(.seq (.ops (.o 2 (.mv (.b false))<|.nil)) (.seq (.ops (.o 3 (.mv (.t 0))<|.o 4 (.bin .geq (.t 3) (.p 256 48))<|.o 5 (.mv (.t 4))<|.og 6 5 true (.mv (.t 0))<|.og 7 5 true (.bin .leq (.t 6) (.p 256 57))<|.o 8 (.pick (.t 5) (.t 7) (.b false))<|.o 2 (.mv (.t 8))<|.nil)) (.ret ⟨[],[2],[2],true⟩))),[.tmp 2],true⟩
def K_ref04_FromBools_b0 : KC := (.seq (.seq (.ops (.o 9 (.mv (.t 6))<|.o 10 (.mv (.t 0))<|.o 11 (.len (.t 10))<|.o 12 (.bin .lss (.t 9) (.t 11))<|.nil)) (.cond (.t 12) .skip (.exit ⟨[],[4,5],[],false⟩ 0))) (.seq (.block 1 (.drq (.o 15 (.faddr 0 (.t 5))<|.o 16 (.load false 1 (.t 15))<|.o 17 (.mv (.t 0))<|.o 18 (.mv (.t 6))<|.o 19 (.iaddr 1 (.t 17) (.t 18))<|.o 20 (.load false 1 (.t 19))<|.o 21 (.call (.f 133) [(.t 20)])<|.o 22 (.bsl 73 1 [(.t 21)])<|.o 23 (.app 73 1 (.t 16) (.t 22))<|.o 24 (.faddr 0 (.t 5))<|.on (.store 1 (.t 24) (.t 23))<|.nil) [([],[]),([5],[]),([],[]),([],[]),([],[]),([],[]),([],[]),([22],[22]),([22,23],[23]),([],[]),([5],[5])])) (.ops (.o 13 (.mv (.t 6))<|.o 14 (.bin .add (.t 13) (.p 9223372036854775808 1))<|.o 6 (.mv (.t 14))<|.nil))))
@[reducible] def K_ref04_FromBools_h0 : Head := ⟨[4, 5, 23], [0, 4, 5, 6], [], true⟩
def K_ref04_FromBools : KF := ⟨26,(.seq (.ops (.o 4 (.alloc 26 [.ns,.b false])<|.nil)) (.seq (.ops (.o 7 (.mv (.t 1))<|.o 8 (.bld [(0,1),(1,1)] [.ns,.b false] [(1,(.t 7))])<|.o 5 (.alloc 26 [.ns,.b false])<|.on (.store 2 (.t 5) (.t 8))<|.nil)) (.seq (.seq (.ops (.o 6 (.mv (.p 9223372036854775808 0))<|.nil)) (.block 0 (.loop K_ref04_FromBools_h0 K_ref04_FromBools_b0))) (.seq (.ops (.o 25 (.load true 2 (.t 5))<|.on (.store 2 (.t 4) (.t 25))<|.nil)) (.ret ⟨[4,23],[4],[],true⟩))))),[.cell 4 true 2],true⟩
def K_ref05_value : KF := ⟨18,(.seq (.ops (.o 2 (.mv (.p 9223372036854775808 0))<|.nil)) (.seq (.seq (.ops (.o 3 (.mv (.t 0))<|.o 4 (.call (.f 107) [(.t 3)])<|.nil)) (.cond (.t 4) (.seq (.ops (.o 5 (.mv (.t 0))<|.o 6 (.bin .sub (.t 5) (.p 256 48))<|.o 7 (.cv 9223372036854775808 (.t 6))<|.o 2 (.mv (.t 7))<|.nil)) (.ret ⟨[],[2],[2],true⟩)) .skip)) (.seq (.seq (.ops (.o 8 (.mv (.t 0))<|.o 9 (.bin .geq (.t 8) (.p 256 97))<|.o 10 (.mv (.t 9))<|.og 11 10 true (.mv (.t 0))<|.og 12 10 true (.bin .leq (.t 11) (.p 256 102))<|.o 13 (.pick (.t 10) (.t 12) (.b false))<|.nil)) (.cond (.t 13) (.seq (.ops (.o 14 (.mv (.t 0))<|.o 15 (.bin .sub (.t 14) (.p 256 97))<|.o 16 (.cv 9223372036854775808 (.t 15))<|.o 17 (.bin .add (.t 16) (.p 9223372036854775808 10))<|.o 2 (.mv (.t 17))<|.nil)) (.ret ⟨[],[2],[2],true⟩)) .skip)) (.seq (.ops (.o 2 (.mv (.p 9223372036854775808 99))<|.nil)) (.ret ⟨[],[2],[2],true⟩))))),[.tmp 2],true⟩
def K_ref04_Fill_b0 : KC := (.seq (.seq (.ops (.o 11 (.mv (.t 8))<|.o 12 (.mv (.t 1))<|.o 13 (.bin .lss (.t 11) (.t 12))<|.nil)) (.cond (.t 13) .skip (.exit ⟨[],[6,7],[],false⟩ 0))) (.seq (.block 1 (.ops (.o 16 (.faddr 0 (.t 7))<|.o 17 (.load false 1 (.t 16))<|.o 18 (.mv (.t 0))<|.o 19 (.bsl 73 1 [(.t 18)])<|.o 20 (.app 73 1 (.t 17) (.t 19))<|.o 21 (.faddr 0 (.t 7))<|.on (.store 1 (.t 21) (.t 20))<|.nil))) (.ops (.o 14 (.mv (.t 8))<|.o 15 (.bin .add (.t 14) (.p 9223372036854775808 1))<|.o 8 (.mv (.t 15))<|.nil))))
@[reducible] def K_ref04_Fill_h0 : Head := ⟨[6, 7, 20], [0, 1, 6, 7, 8], [], true⟩
def K_ref04_Fill : KF := ⟨23,(.seq (.ops (.o 6 (.alloc 26 [.ns,.b false])<|.nil)) (.seq (.ops (.o 9 (.mv (.t 2))<|.o 10 (.bld [(0,1),(1,1)] [.ns,.b false] [(1,(.t 9))])<|.o 7 (.alloc 26 [.ns,.b false])<|.on (.store 2 (.t 7) (.t 10))<|.nil)) (.seq (.seq (.ops (.o 8 (.mv (.p 9223372036854775808 0))<|.nil)) (.block 0 (.loop K_ref04_Fill_h0 K_ref04_Fill_b0))) (.seq (.ops (.o 22 (.load true 2 (.t 7))<|.on (.store 2 (.t 6) (.t 22))<|.nil)) (.ret ⟨[6,20],[6],[],true⟩))))),[.cell 6 true 2],true⟩
def K_ref05_bitOf : KF := ⟨5,(.seq (.ops (.o 2 (.mv (.p 256 0))<|.nil)) (.seq (.seq (.ops (.o 3 (.mv (.t 0))<|.o 4 (.bin .eql (.t 3) (.p 256 120))<|.nil)) (.cond (.t 4) (.seq (.ops (.o 2 (.mv (.p 256 2))<|.nil)) (.ret ⟨[],[2],[2],true⟩)) .skip)) (.seq (.ops (.o 2 (.mv (.p 256 3))<|.nil)) (.ret ⟨[],[2],[2],true⟩)))),[.tmp 2],true⟩
def K_ref03_Add : KF := ⟨11,(.seq (.ops (.o 4 (.mv .ns)<|.nil)) (.seq (.ops (.o 5 (.mv (.t 0))<|.o 6 (.mv (.t 1))<|.o 7 (.call (.f 135) [(.t 5),(.t 6)])<|.o 8 (.mv (.t 0))<|.o 9 (.len (.t 8))<|.o 10 (.call (.f 134) [(.t 7),(.t 9)])<|.o 4 (.mv (.t 10))<|.nil)) (.ret ⟨[],[4],[4],true⟩))),[.tmp 4],true⟩
def K_ref03_Mul : KF := ⟨14,(.seq (.ops (.o 4 (.mv .ns)<|.nil)) (.seq (.ops (.o 5 (.mv (.t 0))<|.o 6 (.mv (.t 1))<|.o 7 (.mv (.t 0))<|.o 8 (.len (.t 7))<|.o 9 (.call (.f 134) [(.t 6),(.t 8)])<|.o 10 (.call (.f 136) [(.t 5),(.t 9)])<|.o 11 (.mv (.t 0))<|.o 12 (.len (.t 11))<|.o 13 (.call (.f 134) [(.t 10),(.t 12)])<|.o 4 (.mv (.t 13))<|.nil)) (.ret ⟨[],[4],[4],true⟩))),[.tmp 4],true⟩
def K_ref01_FromBool : KF := ⟨4,(.seq (.ops (.o 2 (.mv (.p 256 0))<|.nil)) (.seq (.seq (.ops (.o 3 (.mv (.t 0))<|.nil)) (.cond (.t 3) (.seq (.ops (.o 2 (.mv (.p 256 1))<|.nil)) (.ret ⟨[],[2],[2],true⟩)) .skip)) (.seq (.ops (.o 2 (.mv (.p 256 0))<|.nil)) (.ret ⟨[],[2],[2],true⟩)))),[.tmp 2],true⟩
def K_ref03_Fit_b0 : KC := (.seq (.seq (.ops (.o 7 (.mv (.t 6))<|.o 8 (.mv (.t 1))<|.o 9 (.bin .lss (.t 7) (.t 8))<|.nil)) (.cond (.t 9) .skip (.exit ⟨[],[5],[],false⟩ 0))) (.seq (.block 1 (.ops (.o 12 (.mv (.t 5))<|.o 13 (.mv (.t 0))<|.o 14 (.mv (.t 6))<|.o 15 (.call (.f 161) [(.t 13),(.t 14)])<|.o 16 (.bsl 4 1 [(.t 15)])<|.o 17 (.app 4 1 (.t 12) (.t 16))<|.o 5 (.mv (.t 17))<|.nil))) (.ops (.o 10 (.mv (.t 6))<|.o 11 (.bin .add (.t 10) (.p 9223372036854775808 1))<|.o 6 (.mv (.t 11))<|.nil))))
@[reducible] def K_ref03_Fit_h0 : Head := ⟨[17], [0, 1, 5, 6], [], true⟩
def K_ref03_Fit : KF := ⟨19,(.seq (.ops (.o 4 (.mv .ns)<|.nil)) (.seq (.ops (.o 5 (.mv .ns)<|.nil)) (.seq (.seq (.ops (.o 6 (.mv (.p 9223372036854775808 0))<|.nil)) (.block 0 (.loop K_ref03_Fit_h0 K_ref03_Fit_b0))) (.seq (.ops (.o 18 (.mv (.t 5))<|.o 4 (.mv (.t 18))<|.nil)) (.ret ⟨[],[4],[4],true⟩))))),[.tmp 4],true⟩
def K_ref03_sum_b0 : KC := (.seq (.seq (.ops (.o 9 (.mv (.t 7))<|.o 10 (.mv (.t 0))<|.o 11 (.len (.t 10))<|.o 12 (.bin .lss (.t 9) (.t 11))<|.o 13 (.mv (.t 12))<|.og 14 13 false (.mv (.t 7))<|.og 15 13 false (.mv (.t 1))<|.og 16 13 false (.len (.t 15))<|.og 17 13 false (.bin .lss (.t 14) (.t 16))<|.o 18 (.pick (.t 13) (.b true) (.t 17))<|.o 19 (.mv (.t 18))<|.og 20 19 false (.mv (.t 6))<|.og 21 19 false (.bin .gtr (.t 20) (.p 9223372036854775808 0))<|.o 22 (.pick (.t 19) (.b true) (.t 21))<|.nil)) (.cond (.t 22) .skip (.exit ⟨[],[5],[],false⟩ 0))) (.seq (.block 1 (.seq (.ops (.o 25 (.mv (.t 6))<|.o 8 (.mv (.t 25))<|.nil)) (.seq (.seq (.ops (.o 26 (.mv (.t 0))<|.o 27 (.mv (.t 7))<|.o 28 (.call (.f 161) [(.t 26),(.t 27)])<|.nil)) (.cond (.t 28) (.ops (.o 29 (.mv (.t 8))<|.o 30 (.bin .add (.t 29) (.p 9223372036854775808 1))<|.o 8 (.mv (.t 30))<|.nil)) .skip)) (.seq (.seq (.ops (.o 31 (.mv (.t 1))<|.o 32 (.mv (.t 7))<|.o 33 (.call (.f 161) [(.t 31),(.t 32)])<|.nil)) (.cond (.t 33) (.ops (.o 34 (.mv (.t 8))<|.o 35 (.bin .add (.t 34) (.p 9223372036854775808 1))<|.o 8 (.mv (.t 35))<|.nil)) .skip)) (.seq (.ops (.o 36 (.mv (.t 5))<|.o 37 (.mv (.t 8))<|.o 38 (.bin .rem (.t 37) (.p 9223372036854775808 2))<|.o 39 (.bin .eql (.t 38) (.p 9223372036854775808 1))<|.o 40 (.bsl 4 1 [(.t 39)])<|.o 41 (.app 4 1 (.t 36) (.t 40))<|.o 5 (.mv (.t 41))<|.nil)) (.ops (.o 42 (.mv (.t 8))<|.o 43 (.bin .quo (.t 42) (.p 9223372036854775808 2))<|.o 6 (.mv (.t 43))<|.nil))))))) (.ops (.o 23 (.mv (.t 7))<|.o 24 (.bin .add (.t 23) (.p 9223372036854775808 1))<|.o 7 (.mv (.t 24))<|.nil))))
@[reducible] def K_ref03_sum_h0 : Head := ⟨[41], [0, 1, 5, 6, 7], [], true⟩
def K_ref03_sum : KF := ⟨45,(.seq (.ops (.o 4 (.mv .ns)<|.nil)) (.seq (.ops (.o 5 (.mv .ns)<|.nil)) (.seq (.ops (.o 6 (.mv (.p 9223372036854775808 0))<|.nil)) (.seq (.seq (.ops (.o 7 (.mv (.p 9223372036854775808 0))<|.nil)) (.block 0 (.loop K_ref03_sum_h0 K_ref03_sum_b0))) (.seq (.ops (.o 44 (.mv (.t 5))<|.o 4 (.mv (.t 44))<|.nil)) (.ret ⟨[],[4],[4],true⟩)))))),[.tmp 4],true⟩
def K_ref03_times_b0 : KC := (.seq (.seq (.ops (.o 7 (.mv (.t 6))<|.o 8 (.mv (.t 1))<|.o 9 (.len (.t 8))<|.o 10 (.bin .lss (.t 7) (.t 9))<|.nil)) (.cond (.t 10) .skip (.exit ⟨[],[5],[],false⟩ 0))) (.seq (.block 1 (.seq (.ops (.o 13 (.mv (.t 1))<|.o 14 (.mv (.t 6))<|.o 15 (.iaddr 1 (.t 13) (.t 14))<|.o 16 (.load false 1 (.t 15))<|.nil)) (.cond (.t 16) (.ops (.o 17 (.mv (.t 5))<|.o 18 (.mv (.t 6))<|.o 19 (.mk 1 4 (.b false) (.t 18) (.t 18))<|.o 20 (.mv (.t 0))<|.o 21 (.app 4 1 (.t 19) (.t 20))<|.o 22 (.call (.f 135) [(.t 17),(.t 21)])<|.o 5 (.mv (.t 22))<|.nil)) .skip))) (.ops (.o 11 (.mv (.t 6))<|.o 12 (.bin .add (.t 11) (.p 9223372036854775808 1))<|.o 6 (.mv (.t 12))<|.nil))))
@[reducible] def K_ref03_times_h0 : Head := ⟨[21], [0, 1, 5, 6], [], true⟩
def K_ref03_times : KF := ⟨24,(.seq (.ops (.o 4 (.mv .ns)<|.nil)) (.seq (.ops (.o 5 (.mv .ns)<|.nil)) (.seq (.seq (.ops (.o 6 (.mv (.p 9223372036854775808 0))<|.nil)) (.block 0 (.loop K_ref03_times_h0 K_ref03_times_b0))) (.seq (.ops (.o 23 (.mv (.t 5))<|.o 4 (.mv (.t 23))<|.nil)) (.ret ⟨[],[4],[4],true⟩))))),[.tmp 4],true⟩
def K_ref03_At : KF := ⟨19,(.seq (.ops (.o 4 (.mv (.b false))<|.nil)) (.seq (.ops (.o 5 (.mv (.t 1))<|.o 6 (.bin .geq (.t 5) (.p 9223372036854775808 0))<|.o 7 (.mv (.t 6))<|.og 8 7 true (.mv (.t 1))<|.og 9 7 true (.mv (.t 0))<|.og 10 7 true (.len (.t 9))<|.og 11 7 true (.bin .lss (.t 8) (.t 10))<|.o 12 (.pick (.t 7) (.t 11) (.b false))<|.o 13 (.mv (.t 12))<|.og 14 13 true (.mv (.t 0))<|.og 15 13 true (.mv (.t 1))<|.og 16 13 true (.iaddr 1 (.t 14) (.t 15))<|.og 17 13 true (.load false 1 (.t 16))<|.o 18 (.pick (.t 13) (.t 17) (.b false))<|.o 4 (.mv (.t 18))<|.nil)) (.ret ⟨[],[4],[4],true⟩))),[.tmp 4],true⟩
def an_70 : List (Nat × Head) := [(3000005, ⟨[], [], [], true⟩), (3000002, ⟨[], [4, 5], [4, 5], true⟩)]
def an_182 : List (Nat × Head) := [(3000005, ⟨[], [], [], true⟩), (3000002, ⟨[], [2], [2], true⟩)]
def an_184 : List (Nat × Head) := [(5, ⟨[1, 9000, 1, 9000, 0, 0, 0, 0, 1, 11, 1, 11, 0, 0, 0, 0], [], [], false⟩), (1, ⟨[], [6], [], false⟩), (17, ⟨[0, 0, 0, 0, 0, 0, 0, 0, 0, 0, 0, 0, 0, 0, 0, 0, 0, 0, 0, 0, 1, 9000, 1, 9000, 1, 11, 0, 1, 11, 1, 11], [], [], false⟩), (9, K_bv_Add_h0), (3000005, ⟨[], [], [], true⟩), (3000002, ⟨[], [4], [4], true⟩)]
def an_164 : List (Nat × Head) := [(1, ⟨[], [6], [], false⟩), (15, K_bv_FromInt_h0), (3000005, ⟨[], [], [], true⟩), (3000002, ⟨[], [4, 5], [4, 5], true⟩)]
def an_185 : List (Nat × Head) := [(1, ⟨[], [5], [], false⟩), (9, K_bv_Mul_h0), (3000005, ⟨[], [], [], true⟩), (3000002, ⟨[], [4], [4], true⟩)]
def an_200 : List (Nat × Head) := [(3000005, ⟨[], [], [], false⟩), (3000002, ⟨[], [4], [], false⟩)]
def an_198 : List (Nat × Head) := [(3000005, ⟨[], [], [], false⟩), (3000002, ⟨[], [2], [], false⟩)]
def an_206 : List (Nat × Head) := [(3000005, ⟨[], [], [], false⟩), (3000002, ⟨[], [5], [], false⟩)]
def an_199 : List (Nat × Head) := [(3000005, ⟨[], [], [], true⟩), (3000002, ⟨[], [4], [4], true⟩)]
def an_89 : List (Nat × Head) := [(3000005, ⟨[], [], [], true⟩), (3000002, ⟨[], [4, 5, 6], [], false⟩)]
def an_144 : List (Nat × Head) := [(3000005, ⟨[], [], [], true⟩), (3000002, ⟨[], [6, 7], [], false⟩)]
def an_165 : List (Nat × Head) := [(1, ⟨[], [4, 5], [], false⟩), (17, ⟨[0, 0, 1, 5, 0, 0, 0, 0, 0, 0, 0, 1, 10, 0, 1, 10, 1, 10], [], [], false⟩), (9, K_vec_vector_h0), (3000005, ⟨[], [], [], true⟩), (3000002, ⟨[], [4], [], false⟩)]
def an_163 : List (Nat × Head) := [(3000005, ⟨[], [], [], true⟩), (3000002, ⟨[], [2], [2], true⟩)]
def an_25 : List (Nat × Head) := [(3000005, ⟨[], [], [], true⟩), (3000002, ⟨[], [4, 5, 6], [4, 5, 6], true⟩)]
def an_27 : List (Nat × Head) := [(3000005, ⟨[], [], [], true⟩), (3000002, ⟨[], [6], [6], true⟩)]
def an_21 : List (Nat × Head) := [(3000005, ⟨[], [], [], true⟩), (3000002, ⟨[], [0], [0], true⟩)]
def an_14 : List (Nat × Head) := [(1, ⟨[4], [4], [], true⟩), (101, ⟨[0, 0, 0, 0, 0, 0, 0, 0, 0, 0, 0, 0, 0, 0, 0, 0, 0, 0, 0, 0, 0, 0, 0, 0, 1, 4, 1, 4, 0, 0, 0, 0], [], [], false⟩), (90, K_ref07_Next_h0), (3000005, ⟨[], [], [], true⟩), (3000002, ⟨[4], [4, 5, 6], [], true⟩)]
def an_46 : List (Nat × Head) := [(1, ⟨[], [1], [], false⟩), (4, ⟨[], [0, 1], [], false⟩), (7, ⟨[], [0, 1], [], false⟩), (15, K_ref07_skip_h1), (13, ⟨[], [0, 1], [], false⟩), (27, K_ref07_skip_h2), (3, K_ref07_skip_h0), (3000005, ⟨[], [], [], true⟩), (3000002, ⟨[], [4, 5], [4, 5], true⟩)]
def an_51 : List (Nat × Head) := [(3000005, ⟨[], [], [], true⟩), (3000002, ⟨[], [6], [6], true⟩)]
def an_50 : List (Nat × Head) := [(1, ⟨[], [1], [], false⟩), (9, K_ref07_name_h0), (3000005, ⟨[], [], [], true⟩), (3000002, ⟨[], [4], [4], true⟩)]
def an_80 : List (Nat × Head) := [(3000005, ⟨[], [], [], true⟩), (3000002, ⟨[], [2], [2], true⟩)]
def an_48 : List (Nat × Head) := [(3000005, ⟨[], [], [], true⟩), (3000002, ⟨[], [2], [2], true⟩)]
def an_47 : List (Nat × Head) := [(1, ⟨[4], [4], [], true⟩), (6, K_ref07_quoted_h0), (3000005, ⟨[], [], [], true⟩), (3000002, ⟨[4], [4, 5, 6], [], true⟩)]
def an_30 : List (Nat × Head) := [(3000005, ⟨[], [], [], true⟩), (3000002, ⟨[], [2], [2], true⟩)]
def an_57 : List (Nat × Head) := [(1, ⟨[], [], [], false⟩), (6, K_ref07_in_h0), (3000005, ⟨[], [], [], true⟩), (3000002, ⟨[], [4], [4], true⟩)]
def an_38 : List (Nat × Head) := [(3000005, ⟨[], [], [], true⟩), (3000002, ⟨[], [0], [0], true⟩)]
def an_24 : List (Nat × Head) := [(3000005, ⟨[], [], [], true⟩), (3000002, ⟨[], [6, 7], [6, 7], true⟩)]
def an_26 : List (Nat × Head) := [(3000005, ⟨[], [], [], true⟩), (3000002, ⟨[], [4, 5, 6], [4, 5, 6], true⟩)]
def an_28 : List (Nat × Head) := [(3000005, ⟨[], [], [], true⟩), (3000002, ⟨[], [6], [6], true⟩)]
def an_7 : List (Nat × Head) := [(3000005, ⟨[], [], [], true⟩), (3000002, ⟨[], [6], [6], true⟩)]
def an_12 : List (Nat × Head) := [(3000005, ⟨[], [], [], true⟩), (3000002, ⟨[], [2], [2], true⟩)]
def an_49 : List (Nat × Head) := [(3000005, ⟨[], [], [], true⟩), (3000002, ⟨[4], [4, 5, 6], [], true⟩)]
def an_73 : List (Nat × Head) := [(1, ⟨[], [1], [], false⟩), (3, K_ref05_run_h0), (3000005, ⟨[], [], [], true⟩), (3000002, ⟨[], [6], [6], true⟩)]
def an_74 : List (Nat × Head) := [(1, ⟨[], [4], [], false⟩), (4, ⟨[], [0, 4, 5], [], false⟩), (15, K_ref05_number_h0), (3000005, ⟨[], [], [], true⟩), (3000002, ⟨[], [2, 3], [2, 3], true⟩)]
def an_75 : List (Nat × Head) := [(3000005, ⟨[], [], [], true⟩), (3000002, ⟨[6], [6, 7], [], true⟩)]
def an_76 : List (Nat × Head) := [(3000005, ⟨[], [], [], true⟩), (3000002, ⟨[], [2], [2], true⟩)]
def an_77 : List (Nat × Head) := [(3000005, ⟨[], [], [], true⟩), (3000002, ⟨[], [2], [2], true⟩)]
def an_78 : List (Nat × Head) := [(1, ⟨[], [1, 7, 8], [], false⟩), (4, ⟨[], [0, 1, 6, 7, 8, 9], [], false⟩), (24, K_ref05_digits_h0), (3000005, ⟨[], [], [], true⟩), (3000002, ⟨[], [4, 5], [4, 5], true⟩)]
def an_79 : List (Nat × Head) := [(20, ⟨[1, 34, 1, 34, 0, 0, 1, 36, 1, 36, 0, 0, 0, 0], [], [], false⟩), (1, ⟨[], [10], [], false⟩), (24, K_ref05_vector_h0), (7, ⟨[], [2, 7, 8, 14], [], false⟩), (13, ⟨[], [0, 1, 2, 7, 8, 14, 15], [], false⟩), (54, K_ref05_vector_h2), (45, K_ref05_vector_h1), (19, ⟨[], [2, 14], [], false⟩), (69, K_ref05_vector_h3), (3000005, ⟨[], [], [], true⟩), (3000002, ⟨[], [6], [6], true⟩)]
def an_100 : List (Nat × Head) := [(1, ⟨[], [6], [], false⟩), (15, K_ref03_FromInt_h0), (3000005, ⟨[], [], [], true⟩), (3000002, ⟨[], [4, 5], [4, 5], true⟩)]
def an_106 : List (Nat × Head) := [(3000005, ⟨[], [], [], true⟩), (3000002, ⟨[], [2], [2], true⟩)]
def an_107 : List (Nat × Head) := [(3000005, ⟨[], [], [], true⟩), (3000002, ⟨[], [2], [2], true⟩)]
def an_108 : List (Nat × Head) := [(1, ⟨[], [4, 5], [], false⟩), (17, ⟨[0, 0, 1, 5, 0, 0, 0, 0, 0, 0, 0, 0, 0, 0, 0, 1, 22, 1, 22, 2, 22, 23, 1, 23, 0, 0, 1, 5, 1, 5], [], [], false⟩), (9, K_ref04_FromBools_h0), (3000005, ⟨[], [], [], true⟩), (3000002, ⟨[4, 23], [4], [], true⟩)]
def an_109 : List (Nat × Head) := [(3000005, ⟨[], [], [], true⟩), (3000002, ⟨[], [2], [2], true⟩)]
def an_110 : List (Nat × Head) := [(1, ⟨[], [6, 7], [], false⟩), (9, K_ref04_Fill_h0), (3000005, ⟨[], [], [], true⟩), (3000002, ⟨[6, 20], [6], [], true⟩)]
def an_111 : List (Nat × Head) := [(3000005, ⟨[], [], [], true⟩), (3000002, ⟨[], [2], [2], true⟩)]
def an_112 : List (Nat × Head) := [(3000005, ⟨[], [], [], true⟩), (3000002, ⟨[], [4], [4], true⟩)]
def an_113 : List (Nat × Head) := [(3000005, ⟨[], [], [], true⟩), (3000002, ⟨[], [4], [4], true⟩)]
def an_133 : List (Nat × Head) := [(3000005, ⟨[], [], [], true⟩), (3000002, ⟨[], [2], [2], true⟩)]
def an_134 : List (Nat × Head) := [(1, ⟨[], [5], [], false⟩), (9, K_ref03_Fit_h0), (3000005, ⟨[], [], [], true⟩), (3000002, ⟨[], [4], [4], true⟩)]
def an_135 : List (Nat × Head) := [(1, ⟨[], [5], [], false⟩), (12, K_ref03_sum_h0), (3000005, ⟨[], [], [], true⟩), (3000002, ⟨[], [4], [4], true⟩)]
def an_136 : List (Nat × Head) := [(1, ⟨[], [5], [], false⟩), (9, K_ref03_times_h0), (3000005, ⟨[], [], [], true⟩), (3000002, ⟨[], [4], [4], true⟩)]
def an_161 : List (Nat × Head) := [(3000005, ⟨[], [], [], true⟩), (3000002, ⟨[], [4], [4], true⟩)]
inductive AT where
 | leaf
 | node (f : Nat) (a : List (Nat × Head)) (l r : AT)
noncomputable def AT.get (b : AT) (x : Nat) : List (Nat × Head) := @AT.rec (fun _ => List (Nat × Head)) [] (fun f a _ _ ihl ihr => cond (Nat.beq x f) a (cond (Nat.blt x f) ihl ihr)) b
def anT : AT := (.node 89 an_89 (.node 53 an_53 (.node 28 an_28 (.node 22 an_22 (.node 14 an_14 (.node 12 an_12 (.node 7 an_7 .leaf .leaf) .leaf) (.node 21 an_21 (.node 16 an_16 .leaf .leaf) .leaf)) (.node 25 an_25 (.node 24 an_24 (.node 23 an_23 .leaf .leaf) .leaf) (.node 27 an_27 (.node 26 an_26 .leaf .leaf) .leaf))) (.node 48 an_48 (.node 38 an_38 (.node 30 an_30 (.node 29 an_29 .leaf .leaf) .leaf) (.node 47 an_47 (.node 46 an_46 .leaf .leaf) .leaf)) (.node 51 an_51 (.node 50 an_50 (.node 49 an_49 .leaf .leaf) .leaf) (.node 52 an_52 .leaf .leaf)))) (.node 76 an_76 (.node 70 an_70 (.node 56 an_56 (.node 55 an_55 (.node 54 an_54 .leaf .leaf) .leaf) (.node 62 an_62 (.node 57 an_57 .leaf .leaf) .leaf)) (.node 74 an_74 (.node 73 an_73 (.node 72 an_72 .leaf .leaf) .leaf) (.node 75 an_75 .leaf .leaf))) (.node 84 an_84 (.node 79 an_79 (.node 78 an_78 (.node 77 an_77 .leaf .leaf) .leaf) (.node 83 an_83 (.node 80 an_80 .leaf .leaf) .leaf)) (.node 87 an_87 (.node 86 an_86 (.node 85 an_85 .leaf .leaf) .leaf) (.node 88 an_88 .leaf .leaf))))) (.node 142 an_142 (.node 110 an_110 (.node 100 an_100 (.node 92 an_92 (.node 91 an_91 (.node 90 an_90 .leaf .leaf) .leaf) (.node 98 an_98 (.node 97 an_97 .leaf .leaf) .leaf)) (.node 107 an_107 (.node 106 an_106 (.node 104 an_104 .leaf .leaf) .leaf) (.node 109 an_109 (.node 108 an_108 .leaf .leaf) .leaf))) (.node 133 an_133 (.node 113 an_113 (.node 112 an_112 (.node 111 an_111 .leaf .leaf) .leaf) (.node 117 an_117 (.node 116 an_116 .leaf .leaf) .leaf)) (.node 136 an_136 (.node 135 an_135 (.node 134 an_134 .leaf .leaf) .leaf) (.node 141 an_141 .leaf .leaf)))) (.node 167 an_167 (.node 161 an_161 (.node 145 an_145 (.node 144 an_144 (.node 143 an_143 .leaf .leaf) .leaf) (.node 151 an_151 (.node 146 an_146 .leaf .leaf) .leaf)) (.node 165 an_165 (.node 164 an_164 (.node 163 an_163 .leaf .leaf) .leaf) (.node 166 an_166 .leaf .leaf))) (.node 186 an_186 (.node 183 an_183 (.node 182 an_182 (.node 168 an_168 .leaf .leaf) .leaf) (.node 185 an_185 (.node 184 an_184 .leaf .leaf) .leaf)) (.node 200 an_200 (.node 199 an_199 (.node 198 an_198 .leaf .leaf) .leaf) (.node 206 an_206 .leaf .leaf))))))
noncomputable def an (f r : Nat) : Head := ((anT.get f).lookup r).getD ⟨[], [], [], false⟩
abbrev f_law07_TokenTakesMatch : FuncId := 7
abbrev f_law07_Long : FuncId := 12
abbrev f_law07_awake : FuncId := 13
abbrev f_ref07_Next : FuncId := 14
abbrev f_token_Next : FuncId := 16
abbrev f_ref07_Puncts : FuncId := 21
abbrev f_strings_HasPrefix : FuncId := 22
abbrev f_token_Take : FuncId := 23
abbrev f_ref07_Take : FuncId := 24
abbrev f_token_Name : FuncId := 25
abbrev f_ref07_Name : FuncId := 26
abbrev f_token_Peek : FuncId := 27
abbrev f_ref07_Peek : FuncId := 28
abbrev f_token_IsKeyword : FuncId := 29
abbrev f_ref07_IsKeyword : FuncId := 30
abbrev f_ref07_Keywords : FuncId := 38
abbrev f_ref07_skip : FuncId := 46
abbrev f_ref07_quoted : FuncId := 47
abbrev f_ref07_digit : FuncId := 48
abbrev f_ref05_Parse : FuncId := 49
abbrev f_ref07_name : FuncId := 50
abbrev f_ref07_fits : FuncId := 51
abbrev f_token_skip : FuncId := 52
abbrev f_token_lexers : FuncId := 53
abbrev f_token_readPunct : FuncId := 54
abbrev f_i_stringslite_HasPrefix : FuncId := 55
abbrev f_token_must : FuncId := 56
abbrev f_ref07_in : FuncId := 57
abbrev f_token_isPunct : FuncId := 62
abbrev f_Builder_WriteString : FuncId := 70
abbrev f_Builder_String : FuncId := 72
abbrev f_ref05_run : FuncId := 73
abbrev f_ref05_number : FuncId := 74
abbrev f_ref04_FromInt : FuncId := 75
abbrev f_ref05_lower : FuncId := 76
abbrev f_ref05_size : FuncId := 77
abbrev f_ref05_digits : FuncId := 78
abbrev f_ref05_vector : FuncId := 79
abbrev f_ref07_letter : FuncId := 80
abbrev f_strings_IndexByte : FuncId := 81
abbrev f_strings_Index : FuncId := 82
abbrev f_token_letter : FuncId := 83
abbrev f_token_readName : FuncId := 84
abbrev f_token_lexers_1 : FuncId := 85
abbrev f_token_digit : FuncId := 86
abbrev f_token_readNumber : FuncId := 87
abbrev f_token_lexers_2 : FuncId := 88
abbrev f_token_readSystem : FuncId := 89
abbrev f_token_lexers_3 : FuncId := 90
abbrev f_token_readString : FuncId := 91
abbrev f_token_nameEnd : FuncId := 92
abbrev f_Builder_WriteByte : FuncId := 97
abbrev f_strings_Contains : FuncId := 98
abbrev f_ref03_FromInt : FuncId := 100
abbrev f_Builder_copyCheck : FuncId := 104
abbrev f_ref05_letter : FuncId := 106
abbrev f_ref05_decimal : FuncId := 107
abbrev f_ref04_FromBools : FuncId := 108
abbrev f_ref05_value : FuncId := 109
abbrev f_ref04_Fill : FuncId := 110
abbrev f_ref05_bitOf : FuncId := 111
abbrev f_ref03_Add : FuncId := 112
abbrev f_ref03_Mul : FuncId := 113
abbrev f_literal_Parse : FuncId := 116
abbrev f_token_unescape : FuncId := 117
abbrev f_ref01_FromBool : FuncId := 133
abbrev f_ref03_Fit : FuncId := 134
abbrev f_ref03_sum : FuncId := 135
abbrev f_ref03_times : FuncId := 136
abbrev f_literal_extent : FuncId := 141
abbrev f_literal_word : FuncId := 142
abbrev f_literal_plain : FuncId := 143
abbrev f_vec_FromInt : FuncId := 144
abbrev f_literal_Parse_1 : FuncId := 145
abbrev f_literal_based : FuncId := 146
abbrev f_literal_baseOf : FuncId := 151
abbrev f_ref03_At : FuncId := 161
abbrev f_vec_width : FuncId := 163
abbrev f_bv_FromInt : FuncId := 164
abbrev f_vec_vector : FuncId := 165
abbrev f_literal_lower : FuncId := 166
abbrev f_literal_base_digits : FuncId := 167
abbrev f_literal_base_vector : FuncId := 168
abbrev f_bit_FromBool : FuncId := 182
abbrev f_literal_base_value : FuncId := 183
abbrev f_bv_Add : FuncId := 184
abbrev f_bv_Mul : FuncId := 185
abbrev f_literal_base_digit : FuncId := 186
abbrev f_bv_adder : FuncId := 198
abbrev f_bv_at : FuncId := 199
abbrev f_bv_Shl : FuncId := 200
abbrev f_bv_adder_1 : FuncId := 206
abbrev y_int : TypeId := 3
abbrev y_bool : TypeId := 4
abbrev y_uint8 : TypeId := 5
abbrev y_string : TypeId := 9
abbrev y_api_Vec : TypeId := 26
abbrev y_ref07_Token : TypeId := 28
abbrev y_token_Token : TypeId := 35
abbrev y_api_Bit : TypeId := 73
abbrev y_token_lexer : TypeId := 84
abbrev y_Builder : TypeId := 99
abbrev y_literal_base : TypeId := 164
def omT : FuncId → List Nat := fun g => bif Nat.beq g 1000000000 then [5] else []
@[simp] theorem om_law07_TokenTakesMatch : omT 7 = [] := rfl
@[simp] theorem om_law07_Long : omT 12 = [] := rfl
@[simp] theorem om_law07_awake : omT 13 = [] := rfl
@[simp] theorem om_ref07_Next : omT 14 = [] := rfl
@[simp] theorem om_token_Next : omT 16 = [] := rfl
@[simp] theorem om_ref07_Puncts : omT 21 = [] := rfl
@[simp] theorem om_strings_HasPrefix : omT 22 = [] := rfl
@[simp] theorem om_token_Take : omT 23 = [] := rfl
@[simp] theorem om_ref07_Take : omT 24 = [] := rfl
@[simp] theorem om_token_Name : omT 25 = [] := rfl
@[simp] theorem om_ref07_Name : omT 26 = [] := rfl
@[simp] theorem om_token_Peek : omT 27 = [] := rfl
@[simp] theorem om_ref07_Peek : omT 28 = [] := rfl
@[simp] theorem om_token_IsKeyword : omT 29 = [] := rfl
@[simp] theorem om_ref07_IsKeyword : omT 30 = [] := rfl
@[simp] theorem om_ref07_Keywords : omT 38 = [] := rfl
@[simp] theorem om_ref07_skip : omT 46 = [] := rfl
@[simp] theorem om_ref07_quoted : omT 47 = [] := rfl
@[simp] theorem om_ref07_digit : omT 48 = [] := rfl
@[simp] theorem om_ref05_Parse : omT 49 = [] := rfl
@[simp] theorem om_ref07_name : omT 50 = [] := rfl
@[simp] theorem om_ref07_fits : omT 51 = [] := rfl
@[simp] theorem om_token_skip : omT 52 = [] := rfl
@[simp] theorem om_token_lexers : omT 53 = [] := rfl
@[simp] theorem om_token_readPunct : omT 54 = [] := rfl
@[simp] theorem om_i_stringslite_HasPrefix : omT 55 = [] := rfl
@[simp] theorem om_token_must : omT 56 = [] := rfl
@[simp] theorem om_ref07_in : omT 57 = [] := rfl
@[simp] theorem om_token_isPunct : omT 62 = [] := rfl
@[simp] theorem om_Builder_WriteString : omT 70 = [] := rfl
@[simp] theorem om_Builder_String : omT 72 = [] := rfl
@[simp] theorem om_ref05_run : omT 73 = [] := rfl
@[simp] theorem om_ref05_number : omT 74 = [] := rfl
@[simp] theorem om_ref04_FromInt : omT 75 = [] := rfl
@[simp] theorem om_ref05_lower : omT 76 = [] := rfl
@[simp] theorem om_ref05_size : omT 77 = [] := rfl
@[simp] theorem om_ref05_digits : omT 78 = [] := rfl
@[simp] theorem om_ref05_vector : omT 79 = [] := rfl
@[simp] theorem om_ref07_letter : omT 80 = [] := rfl
@[simp] theorem om_strings_IndexByte : omT 81 = [] := rfl
@[simp] theorem om_strings_Index : omT 82 = [] := rfl
@[simp] theorem om_token_letter : omT 83 = [] := rfl
@[simp] theorem om_token_readName : omT 84 = [] := rfl
@[simp] theorem om_token_lexers_1 : omT 85 = [] := rfl
@[simp] theorem om_token_digit : omT 86 = [] := rfl
@[simp] theorem om_token_readNumber : omT 87 = [] := rfl
@[simp] theorem om_token_lexers_2 : omT 88 = [] := rfl
@[simp] theorem om_token_readSystem : omT 89 = [] := rfl
@[simp] theorem om_token_lexers_3 : omT 90 = [] := rfl
@[simp] theorem om_token_readString : omT 91 = [] := rfl
@[simp] theorem om_token_nameEnd : omT 92 = [] := rfl
@[simp] theorem om_Builder_WriteByte : omT 97 = [] := rfl
@[simp] theorem om_strings_Contains : omT 98 = [] := rfl
@[simp] theorem om_ref03_FromInt : omT 100 = [] := rfl
@[simp] theorem om_Builder_copyCheck : omT 104 = [] := rfl
@[simp] theorem om_ref05_letter : omT 106 = [] := rfl
@[simp] theorem om_ref05_decimal : omT 107 = [] := rfl
@[simp] theorem om_ref04_FromBools : omT 108 = [] := rfl
@[simp] theorem om_ref05_value : omT 109 = [] := rfl
@[simp] theorem om_ref04_Fill : omT 110 = [] := rfl
@[simp] theorem om_ref05_bitOf : omT 111 = [] := rfl
@[simp] theorem om_ref03_Add : omT 112 = [] := rfl
@[simp] theorem om_ref03_Mul : omT 113 = [] := rfl
@[simp] theorem om_literal_Parse : omT 116 = [] := rfl
@[simp] theorem om_token_unescape : omT 117 = [] := rfl
@[simp] theorem om_ref01_FromBool : omT 133 = [] := rfl
@[simp] theorem om_ref03_Fit : omT 134 = [] := rfl
@[simp] theorem om_ref03_sum : omT 135 = [] := rfl
@[simp] theorem om_ref03_times : omT 136 = [] := rfl
@[simp] theorem om_literal_extent : omT 141 = [] := rfl
@[simp] theorem om_literal_word : omT 142 = [] := rfl
@[simp] theorem om_literal_plain : omT 143 = [] := rfl
@[simp] theorem om_vec_FromInt : omT 144 = [] := rfl
@[simp] theorem om_literal_Parse_1 : omT 145 = [] := rfl
@[simp] theorem om_literal_based : omT 146 = [] := rfl
@[simp] theorem om_literal_baseOf : omT 151 = [] := rfl
@[simp] theorem om_ref03_At : omT 161 = [] := rfl
@[simp] theorem om_vec_width : omT 163 = [] := rfl
@[simp] theorem om_bv_FromInt : omT 164 = [] := rfl
@[simp] theorem om_vec_vector : omT 165 = [] := rfl
@[simp] theorem om_literal_lower : omT 166 = [] := rfl
@[simp] theorem om_literal_base_digits : omT 167 = [] := rfl
@[simp] theorem om_literal_base_vector : omT 168 = [] := rfl
@[simp] theorem om_bit_FromBool : omT 182 = [] := rfl
@[simp] theorem om_literal_base_value : omT 183 = [] := rfl
@[simp] theorem om_bv_Add : omT 184 = [] := rfl
@[simp] theorem om_bv_Mul : omT 185 = [] := rfl
@[simp] theorem om_literal_base_digit : omT 186 = [] := rfl
@[simp] theorem om_bv_adder : omT 198 = [] := rfl
@[simp] theorem om_bv_at : omT 199 = [] := rfl
@[simp] theorem om_bv_Shl : omT 200 = [] := rfl
@[simp] theorem om_bv_adder_1 : omT 206 = [] := rfl
@[simp] theorem low_3 (L : Nat) (d : Option Nat) : lowP omT L d 3 = (L, d) := rfl
@[simp] theorem low_4 (L : Nat) (d : Option Nat) : lowP omT L d 4 = (L, d) := rfl
@[simp] theorem low1_5 (d : Option Nat) : lowP omT 1 d 5 = (1, d) := rfl
@[simp] theorem low2_5 (d : Option Nat) : lowP omT 2 d 5 = (1, some 7000) := rfl
@[simp] theorem low3_5 (d : Option Nat) : lowP omT 3 d 5 = (1, some 7000) := rfl
@[simp] theorem low_73 (L : Nat) (d : Option Nat) : lowP omT L d 73 = (L, d) := rfl
def XAw : List T → Option T
 | [] => some (.sc (.bool true))
 | _ => none
def XR (f : FuncId) : Option (List T → Option T) := if f = 13 then some XAw else if f = 81 then some XIB else if f = 82 then some XIX else none
noncomputable def E : Env := { P := Tryz.prog, om := omT, an := an, X := XR }
@[simp] theorem E_om (f : FuncId) : E.om f = omT f := rfl
@[simp] theorem E_low (L : Nat) (d : Option Nat) (e : TypeId) : lowP E.om L d e = lowP omT L d e := rfl
@[simp] theorem bs_0_0 : bytesN 0 0 = [] := rfl
@[simp] theorem bs_1_33 : bytesN 1 33 = [33] := rfl
@[simp] theorem bs_1_35 : bytesN 1 35 = [35] := rfl
@[simp] theorem bs_1_37 : bytesN 1 37 = [37] := rfl
@[simp] theorem bs_1_38 : bytesN 1 38 = [38] := rfl
@[simp] theorem bs_1_39 : bytesN 1 39 = [39] := rfl
@[simp] theorem bs_1_40 : bytesN 1 40 = [40] := rfl
@[simp] theorem bs_1_41 : bytesN 1 41 = [41] := rfl
@[simp] theorem bs_1_42 : bytesN 1 42 = [42] := rfl
@[simp] theorem bs_1_43 : bytesN 1 43 = [43] := rfl
@[simp] theorem bs_1_44 : bytesN 1 44 = [44] := rfl
@[simp] theorem bs_1_45 : bytesN 1 45 = [45] := rfl
@[simp] theorem bs_1_46 : bytesN 1 46 = [46] := rfl
@[simp] theorem bs_1_47 : bytesN 1 47 = [47] := rfl
@[simp] theorem bs_1_58 : bytesN 1 58 = [58] := rfl
@[simp] theorem bs_1_59 : bytesN 1 59 = [59] := rfl
@[simp] theorem bs_1_60 : bytesN 1 60 = [60] := rfl
@[simp] theorem bs_1_61 : bytesN 1 61 = [61] := rfl
@[simp] theorem bs_1_62 : bytesN 1 62 = [62] := rfl
@[simp] theorem bs_1_63 : bytesN 1 63 = [63] := rfl
@[simp] theorem bs_1_64 : bytesN 1 64 = [64] := rfl
@[simp] theorem bs_1_91 : bytesN 1 91 = [91] := rfl
@[simp] theorem bs_1_93 : bytesN 1 93 = [93] := rfl
@[simp] theorem bs_1_94 : bytesN 1 94 = [94] := rfl
@[simp] theorem bs_1_123 : bytesN 1 123 = [123] := rfl
@[simp] theorem bs_1_124 : bytesN 1 124 = [124] := rfl
@[simp] theorem bs_1_125 : bytesN 1 125 = [125] := rfl
@[simp] theorem bs_1_126 : bytesN 1 126 = [126] := rfl
@[simp] theorem bs_2_9766 : bytesN 2 9766 = [38, 38] := rfl
@[simp] theorem bs_2_9854 : bytesN 2 9854 = [126, 38] := rfl
@[simp] theorem bs_2_10794 : bytesN 2 10794 = [42, 42] := rfl
@[simp] theorem bs_2_10799 : bytesN 2 10799 = [47, 42] := rfl
@[simp] theorem bs_2_12074 : bytesN 2 12074 = [42, 47] := rfl
@[simp] theorem bs_2_12079 : bytesN 2 12079 = [47, 47] := rfl
@[simp] theorem bs_2_14891 : bytesN 2 14891 = [43, 58] := rfl
@[simp] theorem bs_2_15420 : bytesN 2 15420 = [60, 60] := rfl
@[simp] theorem bs_2_15649 : bytesN 2 15649 = [33, 61] := rfl
@[simp] theorem bs_2_15676 : bytesN 2 15676 = [60, 61] := rfl
@[simp] theorem bs_2_15677 : bytesN 2 15677 = [61, 61] := rfl
@[simp] theorem bs_2_15678 : bytesN 2 15678 = [62, 61] := rfl
@[simp] theorem bs_2_15934 : bytesN 2 15934 = [62, 62] := rfl
@[simp] theorem bs_2_24190 : bytesN 2 24190 = [126, 94] := rfl
@[simp] theorem bs_2_26217 : bytesN 2 26217 = [105, 102] := rfl
@[simp] theorem bs_2_29295 : bytesN 2 29295 = [111, 114] := rfl
@[simp] theorem bs_2_31868 : bytesN 2 31868 = [124, 124] := rfl
@[simp] theorem bs_2_31870 : bytesN 2 31870 = [126, 124] := rfl
@[simp] theorem bs_3_3947580 : bytesN 3 3947580 = [60, 60, 60] := rfl
@[simp] theorem bs_3_4013345 : bytesN 3 4013345 = [33, 61, 61] := rfl
@[simp] theorem bs_3_4013373 : bytesN 3 4013373 = [61, 61, 61] := rfl
@[simp] theorem bs_3_4079166 : bytesN 3 4079166 = [62, 62, 62] := rfl
@[simp] theorem bs_3_6581857 : bytesN 3 6581857 = [97, 110, 100] := rfl
@[simp] theorem bs_3_6581861 : bytesN 3 6581861 = [101, 110, 100] := rfl
@[simp] theorem bs_3_6714722 : bytesN 3 6714722 = [98, 117, 102] := rfl
@[simp] theorem bs_3_6776178 : bytesN 3 6776178 = [114, 101, 103] := rfl
@[simp] theorem bs_3_7499622 : bytesN 3 7499622 = [102, 111, 114] := rfl
@[simp] theorem bs_3_7499630 : bytesN 3 7499630 = [110, 111, 114] := rfl
@[simp] theorem bs_3_7499639 : bytesN 3 7499639 = [119, 111, 114] := rfl
@[simp] theorem bs_3_7499640 : bytesN 3 7499640 = [120, 111, 114] := rfl
@[simp] theorem bs_3_7630702 : bytesN 3 7630702 = [110, 111, 116] := rfl
@[simp] theorem bs_4_812216948 : bytesN 4 812216948 = [116, 114, 105, 48] := rfl
@[simp] theorem bs_4_828994164 : bytesN 4 828994164 = [116, 114, 105, 49] := rfl
@[simp] theorem bs_4_1684955502 : bytesN 4 1684955502 = [110, 97, 110, 100] := rfl
@[simp] theorem bs_4_1684955511 : bytesN 4 1684955511 = [119, 97, 110, 100] := rfl
@[simp] theorem bs_4_1701996919 : bytesN 4 1701996919 = [119, 105, 114, 101] := rfl
@[simp] theorem bs_4_1702060387 : bytesN 4 1702060387 = [99, 97, 115, 101] := rfl
@[simp] theorem bs_4_1702063205 : bytesN 4 1702063205 = [101, 108, 115, 101] := rfl
@[simp] theorem bs_4_1802723700 : bytesN 4 1802723700 = [116, 97, 115, 107] := rfl
@[simp] theorem bs_4_1919905400 : bytesN 4 1919905400 = [120, 110, 111, 114] := rfl
@[simp] theorem bs_4_1953063287 : bytesN 4 1953063287 = [119, 97, 105, 116] := rfl
@[simp] theorem bs_5_207959975287 : bytesN 5 207959975287 = [119, 101, 97, 107, 48] := rfl
@[simp] theorem bs_5_207977477488 : bytesN 5 207977477488 = [112, 117, 108, 108, 48] := rfl
@[simp] theorem bs_5_212254942583 : bytesN 5 212254942583 = [119, 101, 97, 107, 49] := rfl
@[simp] theorem bs_5_212272444784 : bytesN 5 212272444784 = [112, 117, 108, 108, 49] := rfl
@[simp] theorem bs_5_435610544247 : bytesN 5 435610544247 = [119, 104, 105, 108, 101] := rfl
@[simp] theorem bs_5_474214786402 : bytesN 5 474214786402 = [98, 101, 103, 105, 110] := rfl
@[simp] theorem bs_5_500186508905 : bytesN 5 500186508905 = [105, 110, 112, 117, 116] := rfl
@[simp] theorem bs_5_517098135907 : bytesN 5 517098135907 = [99, 97, 115, 101, 120] := rfl
@[simp] theorem bs_5_525688070499 : bytesN 5 525688070499 = [99, 97, 115, 101, 122] := rfl
@[simp] theorem bs_6_53212085379436 : bytesN 6 53212085379436 = [108, 97, 114, 103, 101, 48] := rfl
@[simp] theorem bs_6_53216413119842 : bytesN 6 53216413119842 = [98, 117, 102, 105, 102, 48] := rfl
@[simp] theorem bs_6_53216414035822 : bytesN 6 53216414035822 = [110, 111, 116, 105, 102, 48] := rfl
@[simp] theorem bs_6_53242232925555 : bytesN 6 53242232925555 = [115, 109, 97, 108, 108, 48] := rfl
@[simp] theorem bs_6_53302295751016 : bytesN 6 53302295751016 = [104, 105, 103, 104, 122, 48] := rfl
@[simp] theorem bs_6_54311597007212 : bytesN 6 54311597007212 = [108, 97, 114, 103, 101, 49] := rfl
@[simp] theorem bs_6_54315924747618 : bytesN 6 54315924747618 = [98, 117, 102, 105, 102, 49] := rfl
@[simp] theorem bs_6_54315925663598 : bytesN 6 54315925663598 = [110, 111, 116, 105, 102, 49] := rfl
@[simp] theorem bs_6_54341744553331 : bytesN 6 54341744553331 = [115, 109, 97, 108, 108, 49] := rfl
@[simp] theorem bs_6_54401807378792 : bytesN 6 54401807378792 = [104, 105, 103, 104, 122, 49] := rfl
@[simp] theorem bs_6_110386806745459 : bytesN 6 110386806745459 = [115, 105, 103, 110, 101, 100] := rfl
@[simp] theorem bs_6_111516500389741 : bytesN 6 111516500389741 = [109, 111, 100, 117, 108, 101] := rfl
@[simp] theorem bs_6_121390429860705 : bytesN 6 121390429860705 = [97, 115, 115, 105, 103, 110] := rfl
@[simp] theorem bs_6_125762924340583 : bytesN 6 125762924340583 = [103, 101, 110, 118, 97, 114] := rfl
@[simp] theorem bs_6_126965163453537 : bytesN 6 126965163453537 = [97, 108, 119, 97, 121, 115] := rfl
@[simp] theorem bs_6_127961662514546 : bytesN 6 127961662514546 = [114, 101, 112, 101, 97, 116] := rfl
@[simp] theorem bs_6_128047746676079 : bytesN 6 128047746676079 = [111, 117, 116, 112, 117, 116] := rfl
@[simp] theorem bs_7_13624522895946867 : bytesN 7 13624522895946867 = [115, 116, 114, 111, 110, 103, 48] := rfl
@[simp] theorem bs_7_13631149928899949 : bytesN 7 13631149928899949 = [109, 101, 100, 105, 117, 109, 48] := rfl
@[simp] theorem bs_7_13644305531958643 : bytesN 7 13644305531958643 = [115, 117, 112, 112, 108, 121, 48] := rfl
@[simp] theorem bs_7_13905997872657523 : bytesN 7 13905997872657523 = [115, 116, 114, 111, 110, 103, 49] := rfl
@[simp] theorem bs_7_13912624905610605 : bytesN 7 13912624905610605 = [109, 101, 100, 105, 117, 109, 49] := rfl
@[simp] theorem bs_7_13925780508669299 : bytesN 7 13925780508669299 = [115, 117, 112, 112, 108, 121, 49] := rfl
@[simp] theorem bs_7_28542653543441774 : bytesN 7 28542653543441774 = [110, 101, 103, 101, 100, 103, 101] := rfl
@[simp] theorem bs_7_28542653544230768 : bytesN 7 28542653544230768 = [112, 111, 115, 101, 100, 103, 101] := rfl
@[simp] theorem bs_7_28555834764324453 : bytesN 7 28555834764324453 = [101, 110, 100, 99, 97, 115, 101] := rfl
@[simp] theorem bs_7_30244684909801061 : bytesN 7 30244684909801061 = [101, 110, 100, 116, 97, 115, 107] := rfl
@[simp] theorem bs_7_30506403037277801 : bytesN 7 30506403037277801 = [105, 110, 105, 116, 105, 97, 108] := rfl
@[simp] theorem bs_7_32199642103180905 : bytesN 7 32199642103180905 = [105, 110, 116, 101, 103, 101, 114] := rfl
@[simp] theorem bs_7_32199706527559526 : bytesN 7 32199706527559526 = [102, 111, 114, 101, 118, 101, 114] := rfl
@[simp] theorem bs_7_32770348699510116 : bytesN 7 32770348699510116 = [100, 101, 102, 97, 117, 108, 116] := rfl
@[simp] theorem bs_8_7957695015192261990 : bytesN 8 7957695015192261990 = [102, 117, 110, 99, 116, 105, 111, 110] := rfl
@[simp] theorem bs_9_1870936414602775522917 : bytesN 9 1870936414602775522917 = [101, 110, 100, 109, 111, 100, 117, 108, 101] := rfl
@[simp] theorem bs_9_2110239404018478768496 : bytesN 9 2110239404018478768496 = [112, 97, 114, 97, 109, 101, 116, 101, 114] := rfl
@[simp] theorem bs_10_516535522800345012203372 : bytesN 10 516535522800345012203372 = [108, 111, 99, 97, 108, 112, 97, 114, 97, 109] := rfl
@[simp] theorem bs_11_133507968132003860941401701 : bytesN 11 133507968132003860941401701 = [101, 110, 100, 102, 117, 110, 99, 116, 105, 111, 110] := rfl
@[simp] theorem bs_26_98425825427143655934000711143467890508455725773951778094198059 : bytesN 26 98425825427143655934000711143467890508455725773951778094198059 = [43, 45, 42, 47, 37, 60, 62, 33, 126, 38, 124, 94, 63, 58, 59, 44, 46, 40, 41, 91, 93, 123, 125, 35, 64, 61] := rfl
theorem lf_Builder_String : toLF Tryz.prog (an 72) Tryz.f72 = some K_Builder_String.f := by kernel_rfl
theorem pf_Builder_String : Tryz.prog.funcs[(72 : Nat)]? = some Tryz.f72 := Tryz.func72
theorem lf_Builder_WriteByte : toLF Tryz.prog (an 97) Tryz.f97 = some K_Builder_WriteByte.f := by kernel_rfl
theorem pf_Builder_WriteByte : Tryz.prog.funcs[(97 : Nat)]? = some Tryz.f97 := Tryz.func97
theorem lf_Builder_WriteString : toLF Tryz.prog (an 70) Tryz.f70 = some K_Builder_WriteString.f := by kernel_rfl
theorem pf_Builder_WriteString : Tryz.prog.funcs[(70 : Nat)]? = some Tryz.f70 := Tryz.func70
theorem lf_Builder_copyCheck : toLF Tryz.prog (an 104) Tryz.f104 = some K_Builder_copyCheck.f := by kernel_rfl
theorem pf_Builder_copyCheck : Tryz.prog.funcs[(104 : Nat)]? = some Tryz.f104 := Tryz.func104
theorem lf_bit_FromBool : toLF Tryz.prog (an 182) Tryz.f182 = some K_bit_FromBool.f := by kernel_rfl
theorem pf_bit_FromBool : Tryz.prog.funcs[(182 : Nat)]? = some Tryz.f182 := Tryz.func182
theorem lf_bv_Add : toLF Tryz.prog (an 184) Tryz.f184 = some K_bv_Add.f := by kernel_rfl
theorem pf_bv_Add : Tryz.prog.funcs[(184 : Nat)]? = some Tryz.f184 := Tryz.func184
theorem lf_bv_FromInt : toLF Tryz.prog (an 164) Tryz.f164 = some K_bv_FromInt.f := by kernel_rfl
theorem pf_bv_FromInt : Tryz.prog.funcs[(164 : Nat)]? = some Tryz.f164 := Tryz.func164
theorem lf_bv_Mul : toLF Tryz.prog (an 185) Tryz.f185 = some K_bv_Mul.f := by kernel_rfl
theorem pf_bv_Mul : Tryz.prog.funcs[(185 : Nat)]? = some Tryz.f185 := Tryz.func185
theorem lf_bv_Shl : toLF Tryz.prog (an 200) Tryz.f200 = some K_bv_Shl.f := by kernel_rfl
theorem pf_bv_Shl : Tryz.prog.funcs[(200 : Nat)]? = some Tryz.f200 := Tryz.func200
theorem lf_bv_adder : toLF Tryz.prog (an 198) Tryz.f198 = some K_bv_adder.f := by kernel_rfl
theorem pf_bv_adder : Tryz.prog.funcs[(198 : Nat)]? = some Tryz.f198 := Tryz.func198
theorem lf_bv_adder_1 : toLF Tryz.prog (an 206) Tryz.f206 = some K_bv_adder_1.f := by kernel_rfl
theorem pf_bv_adder_1 : Tryz.prog.funcs[(206 : Nat)]? = some Tryz.f206 := Tryz.func206
theorem lf_bv_at : toLF Tryz.prog (an 199) Tryz.f199 = some K_bv_at.f := by kernel_rfl
theorem pf_bv_at : Tryz.prog.funcs[(199 : Nat)]? = some Tryz.f199 := Tryz.func199
theorem lf_i_stringslite_HasPrefix : toLF Tryz.prog (an 55) Tryz.f55 = some K_i_stringslite_HasPrefix.f := by kernel_rfl
theorem pf_i_stringslite_HasPrefix : Tryz.prog.funcs[(55 : Nat)]? = some Tryz.f55 := Tryz.func55
theorem lf_literal_Parse : toLF Tryz.prog (an 116) Tryz.f116 = some K_literal_Parse.f := by kernel_rfl
theorem pf_literal_Parse : Tryz.prog.funcs[(116 : Nat)]? = some Tryz.f116 := Tryz.func116
theorem lf_literal_Parse_1 : toLF Tryz.prog (an 145) Tryz.f145 = some K_literal_Parse_1.f := by kernel_rfl
theorem pf_literal_Parse_1 : Tryz.prog.funcs[(145 : Nat)]? = some Tryz.f145 := Tryz.func145
theorem lf_literal_baseOf : toLF Tryz.prog (an 151) Tryz.f151 = some K_literal_baseOf.f := by kernel_rfl
theorem pf_literal_baseOf : Tryz.prog.funcs[(151 : Nat)]? = some Tryz.f151 := Tryz.func151
theorem lf_literal_base_digit : toLF Tryz.prog (an 186) Tryz.f186 = some K_literal_base_digit.f := by kernel_rfl
theorem pf_literal_base_digit : Tryz.prog.funcs[(186 : Nat)]? = some Tryz.f186 := Tryz.func186
theorem lf_literal_base_digits : toLF Tryz.prog (an 167) Tryz.f167 = some K_literal_base_digits.f := by kernel_rfl
theorem pf_literal_base_digits : Tryz.prog.funcs[(167 : Nat)]? = some Tryz.f167 := Tryz.func167
theorem lf_literal_base_value : toLF Tryz.prog (an 183) Tryz.f183 = some K_literal_base_value.f := by kernel_rfl
theorem pf_literal_base_value : Tryz.prog.funcs[(183 : Nat)]? = some Tryz.f183 := Tryz.func183
theorem lf_literal_base_vector : toLF Tryz.prog (an 168) Tryz.f168 = some K_literal_base_vector.f := by kernel_rfl
theorem pf_literal_base_vector : Tryz.prog.funcs[(168 : Nat)]? = some Tryz.f168 := Tryz.func168
theorem lf_literal_based : toLF Tryz.prog (an 146) Tryz.f146 = some K_literal_based.f := by kernel_rfl
theorem pf_literal_based : Tryz.prog.funcs[(146 : Nat)]? = some Tryz.f146 := Tryz.func146
theorem lf_literal_extent : toLF Tryz.prog (an 141) Tryz.f141 = some K_literal_extent.f := by kernel_rfl
theorem pf_literal_extent : Tryz.prog.funcs[(141 : Nat)]? = some Tryz.f141 := Tryz.func141
theorem lf_literal_lower : toLF Tryz.prog (an 166) Tryz.f166 = some K_literal_lower.f := by kernel_rfl
theorem pf_literal_lower : Tryz.prog.funcs[(166 : Nat)]? = some Tryz.f166 := Tryz.func166
theorem lf_literal_plain : toLF Tryz.prog (an 143) Tryz.f143 = some K_literal_plain.f := by kernel_rfl
theorem pf_literal_plain : Tryz.prog.funcs[(143 : Nat)]? = some Tryz.f143 := Tryz.func143
theorem lf_literal_word : toLF Tryz.prog (an 142) Tryz.f142 = some K_literal_word.f := by kernel_rfl
theorem pf_literal_word : Tryz.prog.funcs[(142 : Nat)]? = some Tryz.f142 := Tryz.func142
theorem lf_strings_Contains : toLF Tryz.prog (an 98) Tryz.f98 = some K_strings_Contains.f := by kernel_rfl
theorem pf_strings_Contains : Tryz.prog.funcs[(98 : Nat)]? = some Tryz.f98 := Tryz.func98
theorem lf_strings_HasPrefix : toLF Tryz.prog (an 22) Tryz.f22 = some K_strings_HasPrefix.f := by kernel_rfl
theorem pf_strings_HasPrefix : Tryz.prog.funcs[(22 : Nat)]? = some Tryz.f22 := Tryz.func22
theorem lf_token_IsKeyword : toLF Tryz.prog (an 29) Tryz.f29 = some K_token_IsKeyword.f := by kernel_rfl
theorem pf_token_IsKeyword : Tryz.prog.funcs[(29 : Nat)]? = some Tryz.f29 := Tryz.func29
theorem lf_token_digit : toLF Tryz.prog (an 86) Tryz.f86 = some K_token_digit.f := by kernel_rfl
theorem pf_token_digit : Tryz.prog.funcs[(86 : Nat)]? = some Tryz.f86 := Tryz.func86
theorem lf_token_isPunct : toLF Tryz.prog (an 62) Tryz.f62 = some K_token_isPunct.f := by kernel_rfl
theorem pf_token_isPunct : Tryz.prog.funcs[(62 : Nat)]? = some Tryz.f62 := Tryz.func62
theorem lf_token_letter : toLF Tryz.prog (an 83) Tryz.f83 = some K_token_letter.f := by kernel_rfl
theorem pf_token_letter : Tryz.prog.funcs[(83 : Nat)]? = some Tryz.f83 := Tryz.func83
theorem lf_token_lexers : toLF Tryz.prog (an 53) Tryz.f53 = some K_token_lexers.f := by kernel_rfl
theorem pf_token_lexers : Tryz.prog.funcs[(53 : Nat)]? = some Tryz.f53 := Tryz.func53
theorem lf_token_lexers_1 : toLF Tryz.prog (an 85) Tryz.f85 = some K_token_lexers_1.f := by kernel_rfl
theorem pf_token_lexers_1 : Tryz.prog.funcs[(85 : Nat)]? = some Tryz.f85 := Tryz.func85
theorem lf_token_lexers_2 : toLF Tryz.prog (an 88) Tryz.f88 = some K_token_lexers_2.f := by kernel_rfl
theorem pf_token_lexers_2 : Tryz.prog.funcs[(88 : Nat)]? = some Tryz.f88 := Tryz.func88
theorem lf_token_lexers_3 : toLF Tryz.prog (an 90) Tryz.f90 = some K_token_lexers_3.f := by kernel_rfl
theorem pf_token_lexers_3 : Tryz.prog.funcs[(90 : Nat)]? = some Tryz.f90 := Tryz.func90
theorem lf_token_nameEnd : toLF Tryz.prog (an 92) Tryz.f92 = some K_token_nameEnd.f := by kernel_rfl
theorem pf_token_nameEnd : Tryz.prog.funcs[(92 : Nat)]? = some Tryz.f92 := Tryz.func92
theorem lf_token_readName : toLF Tryz.prog (an 84) Tryz.f84 = some K_token_readName.f := by kernel_rfl
theorem pf_token_readName : Tryz.prog.funcs[(84 : Nat)]? = some Tryz.f84 := Tryz.func84
theorem lf_token_readNumber : toLF Tryz.prog (an 87) Tryz.f87 = some K_token_readNumber.f := by kernel_rfl
theorem pf_token_readNumber : Tryz.prog.funcs[(87 : Nat)]? = some Tryz.f87 := Tryz.func87
theorem lf_token_readPunct : toLF Tryz.prog (an 54) Tryz.f54 = some K_token_readPunct.f := by kernel_rfl
theorem pf_token_readPunct : Tryz.prog.funcs[(54 : Nat)]? = some Tryz.f54 := Tryz.func54
theorem lf_token_readString : toLF Tryz.prog (an 91) Tryz.f91 = some K_token_readString.f := by kernel_rfl
theorem pf_token_readString : Tryz.prog.funcs[(91 : Nat)]? = some Tryz.f91 := Tryz.func91
theorem lf_token_readSystem : toLF Tryz.prog (an 89) Tryz.f89 = some K_token_readSystem.f := by kernel_rfl
theorem pf_token_readSystem : Tryz.prog.funcs[(89 : Nat)]? = some Tryz.f89 := Tryz.func89
theorem lf_token_skip : toLF Tryz.prog (an 52) Tryz.f52 = some K_token_skip.f := by kernel_rfl
theorem pf_token_skip : Tryz.prog.funcs[(52 : Nat)]? = some Tryz.f52 := Tryz.func52
theorem lf_token_unescape : toLF Tryz.prog (an 117) Tryz.f117 = some K_token_unescape.f := by kernel_rfl
theorem pf_token_unescape : Tryz.prog.funcs[(117 : Nat)]? = some Tryz.f117 := Tryz.func117
theorem lf_vec_FromInt : toLF Tryz.prog (an 144) Tryz.f144 = some K_vec_FromInt.f := by kernel_rfl
theorem pf_vec_FromInt : Tryz.prog.funcs[(144 : Nat)]? = some Tryz.f144 := Tryz.func144
theorem lf_vec_vector : toLF Tryz.prog (an 165) Tryz.f165 = some K_vec_vector.f := by kernel_rfl
theorem pf_vec_vector : Tryz.prog.funcs[(165 : Nat)]? = some Tryz.f165 := Tryz.func165
theorem lf_vec_width : toLF Tryz.prog (an 163) Tryz.f163 = some K_vec_width.f := by kernel_rfl
theorem pf_vec_width : Tryz.prog.funcs[(163 : Nat)]? = some Tryz.f163 := Tryz.func163
theorem lf_token_Next : toLF Tryz.prog (an 16) Tryz.f16 = some K_token_Next.f := by kernel_rfl
theorem pf_token_Next : Tryz.prog.funcs[(16 : Nat)]? = some Tryz.f16 := Tryz.func16
theorem lf_token_must : toLF Tryz.prog (an 56) Tryz.f56 = some K_token_must.f := by kernel_rfl
theorem pf_token_must : Tryz.prog.funcs[(56 : Nat)]? = some Tryz.f56 := Tryz.func56
theorem lf_token_Take : toLF Tryz.prog (an 23) Tryz.f23 = some K_token_Take.f := by kernel_rfl
theorem pf_token_Take : Tryz.prog.funcs[(23 : Nat)]? = some Tryz.f23 := Tryz.func23
theorem lf_token_Name : toLF Tryz.prog (an 25) Tryz.f25 = some K_token_Name.f := by kernel_rfl
theorem pf_token_Name : Tryz.prog.funcs[(25 : Nat)]? = some Tryz.f25 := Tryz.func25
theorem lf_token_Peek : toLF Tryz.prog (an 27) Tryz.f27 = some K_token_Peek.f := by kernel_rfl
theorem pf_token_Peek : Tryz.prog.funcs[(27 : Nat)]? = some Tryz.f27 := Tryz.func27
theorem lf_ref07_Puncts : toLF Tryz.prog (an 21) Tryz.f21 = some K_ref07_Puncts.f := by kernel_rfl
theorem pf_ref07_Puncts : Tryz.prog.funcs[(21 : Nat)]? = some Tryz.f21 := Tryz.func21
theorem lf_ref07_Next : toLF Tryz.prog (an 14) Tryz.f14 = some K_ref07_Next.f := by kernel_rfl
theorem pf_ref07_Next : Tryz.prog.funcs[(14 : Nat)]? = some Tryz.f14 := Tryz.func14
theorem lf_ref07_skip : toLF Tryz.prog (an 46) Tryz.f46 = some K_ref07_skip.f := by kernel_rfl
theorem pf_ref07_skip : Tryz.prog.funcs[(46 : Nat)]? = some Tryz.f46 := Tryz.func46
theorem lf_ref07_fits : toLF Tryz.prog (an 51) Tryz.f51 = some K_ref07_fits.f := by kernel_rfl
theorem pf_ref07_fits : Tryz.prog.funcs[(51 : Nat)]? = some Tryz.f51 := Tryz.func51
theorem lf_ref07_name : toLF Tryz.prog (an 50) Tryz.f50 = some K_ref07_name.f := by kernel_rfl
theorem pf_ref07_name : Tryz.prog.funcs[(50 : Nat)]? = some Tryz.f50 := Tryz.func50
theorem lf_ref07_letter : toLF Tryz.prog (an 80) Tryz.f80 = some K_ref07_letter.f := by kernel_rfl
theorem pf_ref07_letter : Tryz.prog.funcs[(80 : Nat)]? = some Tryz.f80 := Tryz.func80
theorem lf_ref07_digit : toLF Tryz.prog (an 48) Tryz.f48 = some K_ref07_digit.f := by kernel_rfl
theorem pf_ref07_digit : Tryz.prog.funcs[(48 : Nat)]? = some Tryz.f48 := Tryz.func48
theorem lf_ref07_quoted : toLF Tryz.prog (an 47) Tryz.f47 = some K_ref07_quoted.f := by kernel_rfl
theorem pf_ref07_quoted : Tryz.prog.funcs[(47 : Nat)]? = some Tryz.f47 := Tryz.func47
theorem lf_ref07_IsKeyword : toLF Tryz.prog (an 30) Tryz.f30 = some K_ref07_IsKeyword.f := by kernel_rfl
theorem pf_ref07_IsKeyword : Tryz.prog.funcs[(30 : Nat)]? = some Tryz.f30 := Tryz.func30
theorem lf_ref07_in : toLF Tryz.prog (an 57) Tryz.f57 = some K_ref07_in.f := by kernel_rfl
theorem pf_ref07_in : Tryz.prog.funcs[(57 : Nat)]? = some Tryz.f57 := Tryz.func57
theorem lf_ref07_Keywords : toLF Tryz.prog (an 38) Tryz.f38 = some K_ref07_Keywords.f := by kernel_rfl
theorem pf_ref07_Keywords : Tryz.prog.funcs[(38 : Nat)]? = some Tryz.f38 := Tryz.func38
theorem lf_ref07_Take : toLF Tryz.prog (an 24) Tryz.f24 = some K_ref07_Take.f := by kernel_rfl
theorem pf_ref07_Take : Tryz.prog.funcs[(24 : Nat)]? = some Tryz.f24 := Tryz.func24
theorem lf_ref07_Name : toLF Tryz.prog (an 26) Tryz.f26 = some K_ref07_Name.f := by kernel_rfl
theorem pf_ref07_Name : Tryz.prog.funcs[(26 : Nat)]? = some Tryz.f26 := Tryz.func26
theorem lf_ref07_Peek : toLF Tryz.prog (an 28) Tryz.f28 = some K_ref07_Peek.f := by kernel_rfl
theorem pf_ref07_Peek : Tryz.prog.funcs[(28 : Nat)]? = some Tryz.f28 := Tryz.func28
theorem lf_law07_TokenTakesMatch : toLF Tryz.prog (an 7) Tryz.f7 = some K_law07_TokenTakesMatch.f := by kernel_rfl
theorem pf_law07_TokenTakesMatch : Tryz.prog.funcs[(7 : Nat)]? = some Tryz.f7 := Tryz.func7
theorem lf_law07_Long : toLF Tryz.prog (an 12) Tryz.f12 = some K_law07_Long.f := by kernel_rfl
theorem pf_law07_Long : Tryz.prog.funcs[(12 : Nat)]? = some Tryz.f12 := Tryz.func12
theorem lf_ref05_Parse : toLF Tryz.prog (an 49) Tryz.f49 = some K_ref05_Parse.f := by kernel_rfl
theorem pf_ref05_Parse : Tryz.prog.funcs[(49 : Nat)]? = some Tryz.f49 := Tryz.func49
theorem lf_ref05_run : toLF Tryz.prog (an 73) Tryz.f73 = some K_ref05_run.f := by kernel_rfl
theorem pf_ref05_run : Tryz.prog.funcs[(73 : Nat)]? = some Tryz.f73 := Tryz.func73
theorem lf_ref05_number : toLF Tryz.prog (an 74) Tryz.f74 = some K_ref05_number.f := by kernel_rfl
theorem pf_ref05_number : Tryz.prog.funcs[(74 : Nat)]? = some Tryz.f74 := Tryz.func74
theorem lf_ref04_FromInt : toLF Tryz.prog (an 75) Tryz.f75 = some K_ref04_FromInt.f := by kernel_rfl
theorem pf_ref04_FromInt : Tryz.prog.funcs[(75 : Nat)]? = some Tryz.f75 := Tryz.func75
theorem lf_ref05_lower : toLF Tryz.prog (an 76) Tryz.f76 = some K_ref05_lower.f := by kernel_rfl
theorem pf_ref05_lower : Tryz.prog.funcs[(76 : Nat)]? = some Tryz.f76 := Tryz.func76
theorem lf_ref05_size : toLF Tryz.prog (an 77) Tryz.f77 = some K_ref05_size.f := by kernel_rfl
theorem pf_ref05_size : Tryz.prog.funcs[(77 : Nat)]? = some Tryz.f77 := Tryz.func77
theorem lf_ref05_digits : toLF Tryz.prog (an 78) Tryz.f78 = some K_ref05_digits.f := by kernel_rfl
theorem pf_ref05_digits : Tryz.prog.funcs[(78 : Nat)]? = some Tryz.f78 := Tryz.func78
theorem lf_ref05_vector : toLF Tryz.prog (an 79) Tryz.f79 = some K_ref05_vector.f := by kernel_rfl
theorem pf_ref05_vector : Tryz.prog.funcs[(79 : Nat)]? = some Tryz.f79 := Tryz.func79
theorem lf_ref03_FromInt : toLF Tryz.prog (an 100) Tryz.f100 = some K_ref03_FromInt.f := by kernel_rfl
theorem pf_ref03_FromInt : Tryz.prog.funcs[(100 : Nat)]? = some Tryz.f100 := Tryz.func100
theorem lf_ref05_letter : toLF Tryz.prog (an 106) Tryz.f106 = some K_ref05_letter.f := by kernel_rfl
theorem pf_ref05_letter : Tryz.prog.funcs[(106 : Nat)]? = some Tryz.f106 := Tryz.func106
theorem lf_ref05_decimal : toLF Tryz.prog (an 107) Tryz.f107 = some K_ref05_decimal.f := by kernel_rfl
theorem pf_ref05_decimal : Tryz.prog.funcs[(107 : Nat)]? = some Tryz.f107 := Tryz.func107
theorem lf_ref04_FromBools : toLF Tryz.prog (an 108) Tryz.f108 = some K_ref04_FromBools.f := by kernel_rfl
theorem pf_ref04_FromBools : Tryz.prog.funcs[(108 : Nat)]? = some Tryz.f108 := Tryz.func108
theorem lf_ref05_value : toLF Tryz.prog (an 109) Tryz.f109 = some K_ref05_value.f := by kernel_rfl
theorem pf_ref05_value : Tryz.prog.funcs[(109 : Nat)]? = some Tryz.f109 := Tryz.func109
theorem lf_ref04_Fill : toLF Tryz.prog (an 110) Tryz.f110 = some K_ref04_Fill.f := by kernel_rfl
theorem pf_ref04_Fill : Tryz.prog.funcs[(110 : Nat)]? = some Tryz.f110 := Tryz.func110
theorem lf_ref05_bitOf : toLF Tryz.prog (an 111) Tryz.f111 = some K_ref05_bitOf.f := by kernel_rfl
theorem pf_ref05_bitOf : Tryz.prog.funcs[(111 : Nat)]? = some Tryz.f111 := Tryz.func111
theorem lf_ref03_Add : toLF Tryz.prog (an 112) Tryz.f112 = some K_ref03_Add.f := by kernel_rfl
theorem pf_ref03_Add : Tryz.prog.funcs[(112 : Nat)]? = some Tryz.f112 := Tryz.func112
theorem lf_ref03_Mul : toLF Tryz.prog (an 113) Tryz.f113 = some K_ref03_Mul.f := by kernel_rfl
theorem pf_ref03_Mul : Tryz.prog.funcs[(113 : Nat)]? = some Tryz.f113 := Tryz.func113
theorem lf_ref01_FromBool : toLF Tryz.prog (an 133) Tryz.f133 = some K_ref01_FromBool.f := by kernel_rfl
theorem pf_ref01_FromBool : Tryz.prog.funcs[(133 : Nat)]? = some Tryz.f133 := Tryz.func133
theorem lf_ref03_Fit : toLF Tryz.prog (an 134) Tryz.f134 = some K_ref03_Fit.f := by kernel_rfl
theorem pf_ref03_Fit : Tryz.prog.funcs[(134 : Nat)]? = some Tryz.f134 := Tryz.func134
theorem lf_ref03_sum : toLF Tryz.prog (an 135) Tryz.f135 = some K_ref03_sum.f := by kernel_rfl
theorem pf_ref03_sum : Tryz.prog.funcs[(135 : Nat)]? = some Tryz.f135 := Tryz.func135
theorem lf_ref03_times : toLF Tryz.prog (an 136) Tryz.f136 = some K_ref03_times.f := by kernel_rfl
theorem pf_ref03_times : Tryz.prog.funcs[(136 : Nat)]? = some Tryz.f136 := Tryz.func136
theorem lf_ref03_At : toLF Tryz.prog (an 161) Tryz.f161 = some K_ref03_At.f := by kernel_rfl
theorem pf_ref03_At : Tryz.prog.funcs[(161 : Nat)]? = some Tryz.f161 := Tryz.func161
end Go.TM.R7
