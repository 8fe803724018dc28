/- Functions of the program in the fast form, by name, and that it is theirs. Written by a program (genR.py). -/
import Derived.Test.YtioldkniiilhnaaGreatDoorTmRun
import Derived.Test.YtioldkniiilhnaaGreatDoorTmKo
import Derived.Test.YtioldkniiilhnaaGreatDoorProg
import Derived.Test.YtioldkniiilhnaaGreatDoorA7KF
set_option linter.all false
namespace Go.TM.R7
open Go Go.TM Go.Proofs
open Go.TM.A7 (K_Builder_String K_Builder_WriteByte K_Builder_copyCheck K_i_stringslite_HasPrefix K_literal_baseOf K_literal_word K_strings_Contains K_strings_HasPrefix K_token_IsKeyword K_token_digit K_token_isPunct K_token_letter K_token_nameEnd_b0 K_token_nameEnd_h0 K_token_nameEnd K_token_skip_b0 K_token_skip_h0 K_token_skip K_law07_asRef_b0 K_law07_asRef_h0 K_law07_asRef K_ref07_Same_b0 K_ref07_Same_h0 K_ref07_Same K_ref04_Same_b0 K_ref04_Same_h0 K_ref04_Same K_token_decimal_b0 K_token_decimal_h0 K_token_decimal K_token_number K_token_Format K_vec_Check_b0 K_vec_Check_h0 K_vec_Check K_bit_Valid K_law07_given_b0 K_law07_given_h0 K_law07_given an_72 an_97 an_104 an_55 an_151 an_142 an_98 an_22 an_29 an_86 an_62 an_83 an_92 an_52 an_19 an_18 an_37 an_94 an_60 an_35 an_93 an_118 an_32)
set_option linter.unusedVariables false
set_option maxRecDepth 100000

def K_Builder_WriteString : KF := ⟨19,(.seq (.ops (.o 4 (.mv (.p 9223372036854775808 0))<|.o 5 (.mv .ni)<|.nil)) (.seq (.ops (.o 6 (.mv (.t 0))<|.o 7 (.call (.f 104) [(.t 6)])<|.nil)) (.seq (.ops (.o 8 (.mv (.t 0))<|.o 9 (.mv (.t 0))<|.o 10 (.nck (.t 9))<|.o 11 (.faddr 1 (.t 10))<|.o 12 (.load false 1 (.t 11))<|.o 13 (.mv (.t 1))<|.o 14 (.apps 5 (.t 12) (.t 13))<|.o 15 (.nck (.t 8))<|.o 16 (.faddr 1 (.t 15))<|.on (.store 1 (.t 16) (.t 14))<|.nil)) (.seq (.ops (.o 17 (.mv (.t 1))<|.o 18 (.lenS (.t 17))<|.o 4 (.mv (.t 18))<|.o 5 (.mv .ni)<|.nil)) (.ret ⟨[],[4,5],[4,5],true⟩))))),[.tmp 4,.tmp 5],true⟩
def K_ref07_Puncts : KF := ⟨2,(.seq (.ops (.o 0 (.mv .ns)<|.nil)) (.seq (.ops (.o 1 (.bsl 9 1 [(.s 3 3947580),(.s 3 4079166),(.s 3 4013373),(.s 3 4013345),(.s 2 15420),(.s 2 15934),(.s 2 15676),(.s 2 15678),(.s 2 15677),(.s 2 15649),(.s 2 9766),(.s 2 31868),(.s 2 10794),(.s 2 9854),(.s 2 31870),(.s 2 24190),(.s 2 14891),(.s 1 43),(.s 1 45),(.s 1 42),(.s 1 47),(.s 1 37),(.s 1 60),(.s 1 62),(.s 1 33),(.s 1 126),(.s 1 38),(.s 1 124),(.s 1 94),(.s 1 63),(.s 1 58),(.s 1 59),(.s 1 44),(.s 1 46),(.s 1 40),(.s 1 41),(.s 1 91),(.s 1 93),(.s 1 123),(.s 1 125),(.s 1 35),(.s 1 64),(.s 1 61)])<|.o 0 (.mv (.t 1))<|.nil)) (.ret ⟨[],[0],[0],true⟩))),[.tmp 0],true⟩
def K_ref07_fits : KF := ⟨25,(.seq (.ops (.o 6 (.mv (.b false))<|.nil)) (.seq (.ops (.o 7 (.mv (.t 1))<|.o 8 (.mv (.t 2))<|.o 9 (.lenS (.t 8))<|.o 10 (.bin .add (.t 7) (.t 9))<|.o 11 (.mv (.t 0))<|.o 12 (.lenS (.t 11))<|.o 13 (.bin .leq (.t 10) (.t 12))<|.o 14 (.mv (.t 13))<|.og 15 14 true (.mv (.t 0))<|.og 16 14 true (.mv (.t 1))<|.og 17 14 true (.mv (.t 1))<|.og 18 14 true (.mv (.t 2))<|.og 19 14 true (.lenS (.t 18))<|.og 20 14 true (.bin .add (.t 17) (.t 19))<|.og 21 14 true (.cutS (.t 15) (some (.t 16)) (some (.t 20)))<|.og 22 14 true (.mv (.t 2))<|.og 23 14 true (.bin .eql (.t 21) (.t 22))<|.o 24 (.pick (.t 14) (.t 23) (.b false))<|.o 6 (.mv (.t 24))<|.nil)) (.ret ⟨[],[6],[6],true⟩))),[.tmp 6],true⟩
def K_ref07_name_b0 : KC := (.seq (.seq (.ops (.o 17 (.mv (.t 1))<|.o 18 (.mv (.t 0))<|.o 19 (.lenS (.t 18))<|.o 20 (.bin .lss (.t 17) (.t 19))<|.o 21 (.mv (.t 20))<|.og 22 21 true (.mv (.t 0))<|.og 23 21 true (.mv (.t 1))<|.og 24 21 true (.idxS (.t 22) (.t 23))<|.og 25 21 true (.call (.f 80) [(.t 24)])<|.og 26 21 true (.mv (.t 25))<|.og 27 26 false (.mv (.t 0))<|.og 28 26 false (.mv (.t 1))<|.og 29 26 false (.idxS (.t 27) (.t 28))<|.og 30 26 false (.call (.f 48) [(.t 29)])<|.og 31 21 true (.pick (.t 26) (.b true) (.t 30))<|.og 32 21 true (.mv (.t 31))<|.og 33 32 false (.mv (.t 0))<|.og 34 32 false (.mv (.t 1))<|.og 35 32 false (.idxS (.t 33) (.t 34))<|.og 36 32 false (.bin .eql (.t 35) (.p 256 36))<|.og 37 21 true (.pick (.t 32) (.b true) (.t 36))<|.o 38 (.pick (.t 21) (.t 37) (.b false))<|.nil)) (.cond (.t 38) .skip (.exit ⟨[],[1],[],false⟩ 0))) (.block 1 (.ops (.o 39 (.mv (.t 1))<|.o 40 (.bin .add (.t 39) (.p 9223372036854775808 1))<|.o 1 (.mv (.t 40))<|.nil))))
@[reducible] def K_ref07_name_h0 : Head := ⟨[14000, 14001, 14002, 14003], [0, 1], [], true⟩
def K_ref07_name : KF := ⟨42,(.seq (.ops (.o 4 (.mv (.p 9223372036854775808 0))<|.nil)) (.seq (.seq (.ops (.o 5 (.mv (.t 1))<|.o 6 (.mv (.t 0))<|.o 7 (.lenS (.t 6))<|.o 8 (.bin .geq (.t 5) (.t 7))<|.o 9 (.mv (.t 8))<|.og 10 9 false (.mv (.t 0))<|.og 11 9 false (.mv (.t 1))<|.og 12 9 false (.idxS (.t 10) (.t 11))<|.og 13 9 false (.call (.f 80) [(.t 12)])<|.og 14 9 false (.not (.t 13))<|.o 15 (.pick (.t 9) (.b true) (.t 14))<|.nil)) (.cond (.t 15) (.seq (.ops (.o 16 (.mv (.t 1))<|.o 4 (.mv (.t 16))<|.nil)) (.ret ⟨[],[4],[4],true⟩)) .skip)) (.seq (.block 0 (.loop K_ref07_name_h0 K_ref07_name_b0)) (.seq (.ops (.o 41 (.mv (.t 1))<|.o 4 (.mv (.t 41))<|.nil)) (.ret ⟨[],[4],[4],true⟩))))),[.tmp 4],true⟩
def K_ref07_letter : KF := ⟨21,(.seq (.ops (.o 2 (.mv (.b false))<|.nil)) (.seq (.ops (.o 3 (.mv (.t 0))<|.o 4 (.bin .geq (.t 3) (.p 256 97))<|.o 5 (.mv (.t 4))<|.og 6 5 true (.mv (.t 0))<|.og 7 5 true (.bin .leq (.t 6) (.p 256 122))<|.o 8 (.pick (.t 5) (.t 7) (.b false))<|.o 9 (.mv (.t 8))<|.og 10 9 false (.mv (.t 0))<|.og 11 9 false (.bin .geq (.t 10) (.p 256 65))<|.og 12 9 false (.mv (.t 11))<|.og 13 12 true (.mv (.t 0))<|.og 14 12 true (.bin .leq (.t 13) (.p 256 90))<|.og 15 9 false (.pick (.t 12) (.t 14) (.b false))<|.o 16 (.pick (.t 9) (.b true) (.t 15))<|.o 17 (.mv (.t 16))<|.og 18 17 false (.mv (.t 0))<|.og 19 17 false (.bin .eql (.t 18) (.p 256 95))<|.o 20 (.pick (.t 17) (.b true) (.t 19))<|.o 2 (.mv (.t 20))<|.nil)) (.ret ⟨[],[2],[2],true⟩))),[.tmp 2],true⟩
def K_ref07_digit : KF := ⟨9,(.seq (.ops (.o 2 (.mv (.b false))<|.nil)) (.seq (.ops (.o 3 (.mv (.t 0))<|.o 4 (.bin .geq (.t 3) (.p 256 48))<|.o 5 (.mv (.t 4))<|.og 6 5 true (.mv (.t 0))<|.og 7 5 true (.bin .leq (.t 6) (.p 256 57))<|.o 8 (.pick (.t 5) (.t 7) (.b false))<|.o 2 (.mv (.t 8))<|.nil)) (.ret ⟨[],[2],[2],true⟩))),[.tmp 2],true⟩
def K_ref07_IsKeyword : KF := ⟨6,(.seq (.ops (.o 2 (.mv (.b false))<|.nil)) (.seq (.ops (.o 3 (.call (.f 38) [])<|.o 4 (.mv (.t 0))<|.o 5 (.call (.f 57) [(.t 3),(.t 4)])<|.o 2 (.mv (.t 5))<|.nil)) (.ret ⟨[],[2],[2],true⟩))),[.tmp 2],true⟩
def K_ref07_in_b0 : KC := (.seq (.seq (.ops (.o 6 (.mv (.t 5))<|.o 7 (.mv (.t 0))<|.o 8 (.len (.t 7))<|.o 9 (.bin .lss (.t 6) (.t 8))<|.nil)) (.cond (.t 9) .skip (.exit ⟨[],[],[],false⟩ 0))) (.seq (.block 1 (.seq (.ops (.o 12 (.mv (.t 0))<|.o 13 (.mv (.t 5))<|.o 14 (.iaddr 1 (.t 12) (.t 13))<|.o 15 (.load false 1 (.t 14))<|.o 16 (.mv (.t 1))<|.o 17 (.bin .eql (.t 15) (.t 16))<|.nil)) (.cond (.t 17) (.seq (.ops (.o 4 (.mv (.b true))<|.nil)) (.ret ⟨[],[4],[4],true⟩)) .skip))) (.ops (.o 10 (.mv (.t 5))<|.o 11 (.bin .add (.t 10) (.p 9223372036854775808 1))<|.o 5 (.mv (.t 11))<|.nil))))
@[reducible] def K_ref07_in_h0 : Head := ⟨[], [0, 1, 5], [], true⟩
def K_ref07_in : KF := ⟨18,(.seq (.ops (.o 4 (.mv (.b false))<|.nil)) (.seq (.seq (.ops (.o 5 (.mv (.p 9223372036854775808 0))<|.nil)) (.block 0 (.loop K_ref07_in_h0 K_ref07_in_b0))) (.seq (.ops (.o 4 (.mv (.b false))<|.nil)) (.ret ⟨[],[4],[4],true⟩)))),[.tmp 4],true⟩
def K_ref07_Keywords : KF := ⟨2,(.seq (.ops (.o 0 (.mv .ns)<|.nil)) (.seq (.ops (.o 1 (.bsl 9 1 [(.s 6 126965163453537),(.s 3 6581857),(.s 6 121390429860705),(.s 5 474214786402),(.s 3 6714722),(.s 6 53216413119842),(.s 6 54315924747618),(.s 4 1702060387),(.s 5 517098135907),(.s 5 525688070499),(.s 7 32770348699510116),(.s 4 1702063205),(.s 3 6581861),(.s 7 28555834764324453),(.s 11 133507968132003860941401701),(.s 9 1870936414602775522917),(.s 7 30244684909801061),(.s 3 7499622),(.s 7 32199706527559526),(.s 8 7957695015192261990),(.s 6 125762924340583),(.s 6 53302295751016),(.s 6 54401807378792),(.s 2 26217),(.s 7 30506403037277801),(.s 5 500186508905),(.s 7 32199642103180905),(.s 6 53212085379436),(.s 6 54311597007212),(.s 10 516535522800345012203372),(.s 7 13631149928899949),(.s 7 13912624905610605),(.s 6 111516500389741),(.s 4 1684955502),(.s 7 28542653543441774),(.s 3 7499630),(.s 3 7630702),(.s 6 53216414035822),(.s 6 54315925663598),(.s 2 29295),(.s 6 128047746676079),(.s 9 2110239404018478768496),(.s 7 28542653544230768),(.s 5 207977477488),(.s 5 212272444784),(.s 3 6776178),(.s 6 127961662514546),(.s 6 110386806745459),(.s 6 53242232925555),(.s 6 54341744553331),(.s 7 13624522895946867),(.s 7 13905997872657523),(.s 7 13644305531958643),(.s 7 13925780508669299),(.s 4 1802723700),(.s 4 812216948),(.s 4 828994164),(.s 4 1953063287),(.s 4 1684955511),(.s 5 207959975287),(.s 5 212254942583),(.s 5 435610544247),(.s 4 1701996919),(.s 3 7499639),(.s 4 1919905400),(.s 3 7499640)])<|.o 0 (.mv (.t 1))<|.nil)) (.ret ⟨[],[0],[0],true⟩))),[.tmp 0],true⟩
def K_ref05_size : KF := ⟨12,(.seq (.ops (.o 2 (.mv (.p 9223372036854775808 0))<|.nil)) (.seq (.seq (.ops (.o 3 (.mv (.t 0))<|.nil)) (.block 0 (.seq (.ops (.o 5 (.bin .eql (.t 3) (.p 256 98))<|.o 4 (.mv (.t 5))<|.nil)) (.cond (.t 4) (.seq (.ops (.o 2 (.mv (.p 9223372036854775808 1))<|.nil)) (.ret ⟨[],[2],[2],true⟩)) (.seq (.ops (.o 7 (.bin .eql (.t 3) (.p 256 111))<|.o 6 (.mv (.t 7))<|.nil)) (.cond (.t 6) (.seq (.ops (.o 2 (.mv (.p 9223372036854775808 3))<|.nil)) (.ret ⟨[],[2],[2],true⟩)) (.seq (.ops (.o 9 (.bin .eql (.t 3) (.p 256 100))<|.o 8 (.mv (.t 9))<|.nil)) (.cond (.t 8) (.seq (.ops (.o 2 (.mv (.p 9223372036854775808 0))<|.nil)) (.ret ⟨[],[2],[2],true⟩)) (.seq (.ops (.o 11 (.bin .eql (.t 3) (.p 256 104))<|.o 10 (.mv (.t 11))<|.nil)) (.cond (.t 10) (.seq (.ops (.o 2 (.mv (.p 9223372036854775808 4))<|.nil)) (.ret ⟨[],[2],[2],true⟩)) .skip)))))))))) (.seq (.ops (.o 2 (.mv (.m 9223372036854775808 0))<|.nil)) (.ret ⟨[],[2],[2],true⟩)))),[.tmp 2],true⟩
def K_ref03_FromInt_b0 : KC := (.seq (.seq (.ops (.o 14 (.mv (.t 7))<|.o 15 (.mv (.t 1))<|.o 16 (.bin .lss (.t 14) (.t 15))<|.nil)) (.cond (.t 16) .skip (.exit ⟨[],[6],[],false⟩ 0))) (.seq (.block 1 (.seq (.ops (.o 19 (.mv (.t 6))<|.o 20 (.mv (.t 0))<|.o 21 (.bin .and (.t 20) (.p 9223372036854775808 1))<|.o 22 (.bin .eql (.t 21) (.p 9223372036854775808 1))<|.o 23 (.bsl 4 1 [(.t 22)])<|.o 24 (.app 4 1 (.t 19) (.t 23))<|.o 6 (.mv (.t 24))<|.nil)) (.ops (.o 25 (.mv (.t 0))<|.o 26 (.bin .shr (.t 25) (.p 18446744073709551616 1))<|.o 0 (.mv (.t 26))<|.nil)))) (.ops (.o 17 (.mv (.t 7))<|.o 18 (.bin .add (.t 17) (.p 9223372036854775808 1))<|.o 7 (.mv (.t 18))<|.nil))))
@[reducible] def K_ref03_FromInt_h0 : Head := ⟨[24], [0, 1, 6, 7], [], true⟩
def K_ref03_FromInt : KF := ⟨28,(.seq (.ops (.o 4 (.mv .ns)<|.o 5 (.mv (.p 9223372036854775808 0))<|.nil)) (.seq (.seq (.ops (.o 8 (.mv (.t 1))<|.o 9 (.bin .lss (.t 8) (.p 9223372036854775808 0))<|.o 10 (.mv (.t 9))<|.og 11 10 false (.mv (.t 1))<|.og 12 10 false (.bin .gtr (.t 11) (.p 9223372036854775808 128))<|.o 13 (.pick (.t 10) (.b true) (.t 12))<|.nil)) (.cond (.t 13) (.seq (.ops (.o 4 (.mv .ns)<|.o 5 (.mv (.p 9223372036854775808 1))<|.nil)) (.ret ⟨[],[4,5],[4,5],true⟩)) .skip)) (.seq (.ops (.o 6 (.mv .ns)<|.nil)) (.seq (.seq (.ops (.o 7 (.mv (.p 9223372036854775808 0))<|.nil)) (.block 0 (.loop K_ref03_FromInt_h0 K_ref03_FromInt_b0))) (.seq (.ops (.o 27 (.mv (.t 6))<|.o 4 (.mv (.t 27))<|.o 5 (.mv (.p 9223372036854775808 0))<|.nil)) (.ret ⟨[],[4,5],[4,5],true⟩)))))),[.tmp 4,.tmp 5],true⟩
def K_ref03_Fit_b0 : KC := (.seq (.seq (.ops (.o 7 (.mv (.t 6))<|.o 8 (.mv (.t 1))<|.o 9 (.bin .lss (.t 7) (.t 8))<|.nil)) (.cond (.t 9) .skip (.exit ⟨[],[5],[],false⟩ 0))) (.seq (.block 1 (.ops (.o 12 (.mv (.t 5))<|.o 13 (.mv (.t 0))<|.o 14 (.mv (.t 6))<|.o 15 (.call (.f 161) [(.t 13),(.t 14)])<|.o 16 (.bsl 4 1 [(.t 15)])<|.o 17 (.app 4 1 (.t 12) (.t 16))<|.o 5 (.mv (.t 17))<|.nil))) (.ops (.o 10 (.mv (.t 6))<|.o 11 (.bin .add (.t 10) (.p 9223372036854775808 1))<|.o 6 (.mv (.t 11))<|.nil))))
@[reducible] def K_ref03_Fit_h0 : Head := ⟨[17], [0, 1, 5, 6], [], true⟩
def K_ref03_Fit : KF := ⟨19,(.seq (.ops (.o 4 (.mv .ns)<|.nil)) (.seq (.ops (.o 5 (.mv .ns)<|.nil)) (.seq (.seq (.ops (.o 6 (.mv (.p 9223372036854775808 0))<|.nil)) (.block 0 (.loop K_ref03_Fit_h0 K_ref03_Fit_b0))) (.seq (.ops (.o 18 (.mv (.t 5))<|.o 4 (.mv (.t 18))<|.nil)) (.ret ⟨[],[4],[4],true⟩))))),[.tmp 4],true⟩
def K_ref03_At : KF := ⟨19,(.seq (.ops (.o 4 (.mv (.b false))<|.nil)) (.seq (.ops (.o 5 (.mv (.t 1))<|.o 6 (.bin .geq (.t 5) (.p 9223372036854775808 0))<|.o 7 (.mv (.t 6))<|.og 8 7 true (.mv (.t 1))<|.og 9 7 true (.mv (.t 0))<|.og 10 7 true (.len (.t 9))<|.og 11 7 true (.bin .lss (.t 8) (.t 10))<|.o 12 (.pick (.t 7) (.t 11) (.b false))<|.o 13 (.mv (.t 12))<|.og 14 13 true (.mv (.t 0))<|.og 15 13 true (.mv (.t 1))<|.og 16 13 true (.iaddr 1 (.t 14) (.t 15))<|.og 17 13 true (.load false 1 (.t 16))<|.o 18 (.pick (.t 13) (.t 17) (.b false))<|.o 4 (.mv (.t 18))<|.nil)) (.ret ⟨[],[4],[4],true⟩))),[.tmp 4],true⟩
def K_token_whole : KF := ⟨17,(.seq (.ops (.o 4 (.mv (.b false))<|.nil)) (.seq (.ops (.o 5 (.mv (.t 1))<|.o 6 (.mv (.t 0))<|.o 7 (.lenS (.t 6))<|.o 8 (.bin .lss (.t 5) (.t 7))<|.o 9 (.mv (.t 8))<|.og 10 9 true (.mv (.t 0))<|.og 11 9 true (.mv (.t 1))<|.og 12 9 true (.call (.f 92) [(.t 10),(.t 11)])<|.og 13 9 true (.mv (.t 0))<|.og 14 9 true (.lenS (.t 13))<|.og 15 9 true (.bin .eql (.t 12) (.t 14))<|.o 16 (.pick (.t 9) (.t 15) (.b false))<|.o 4 (.mv (.t 16))<|.nil)) (.ret ⟨[],[4],[4],true⟩))),[.tmp 4],true⟩
def K_token_quote_b0 : KC := (.seq (.ops (.o 11 (.bin .lss (.t 10) (.t 9))<|.nil)) (.seq (.cond (.t 11) .skip (.exit ⟨[],[4],[],false⟩ 0)) (.seq (.block 1 (.seq (.ops (.o 12 (.mv (.t 10))<|.o 5 (.mv (.t 12))<|.nil)) (.seq (.ops (.o 13 (.mv (.t 0))<|.o 14 (.mv (.t 5))<|.o 15 (.idxS (.t 13) (.t 14))<|.o 6 (.mv (.t 15))<|.nil)) (.block 2 (.seq (.ops (.o 19 (.mv (.t 6))<|.o 20 (.bin .eql (.t 19) (.p 256 10))<|.o 18 (.mv (.t 20))<|.nil)) (.cond (.t 18) (.ops (.o 21 (.call (.f 70) [(.t 4),(.s 2 28252)])<|.nil)) (.seq (.ops (.o 23 (.mv (.t 6))<|.o 24 (.bin .eql (.t 23) (.p 256 9))<|.o 22 (.mv (.t 24))<|.nil)) (.cond (.t 22) (.ops (.o 25 (.call (.f 70) [(.t 4),(.s 2 29788)])<|.nil)) (.seq (.ops (.o 27 (.mv (.t 6))<|.o 28 (.bin .eql (.t 27) (.p 256 34))<|.o 29 (.mv (.t 28))<|.og 30 29 false (.mv (.t 6))<|.og 31 29 false (.bin .eql (.t 30) (.p 256 92))<|.o 32 (.pick (.t 29) (.b true) (.t 31))<|.o 26 (.mv (.t 32))<|.nil)) (.cond (.t 26) (.seq (.ops (.o 33 (.call (.f 97) [(.t 4),(.p 256 92)])<|.nil)) (.ops (.o 34 (.mv (.t 6))<|.o 35 (.call (.f 97) [(.t 4),(.t 34)])<|.nil))) (.seq (.ops (.o 37 (.mv (.t 6))<|.o 38 (.bin .lss (.t 37) (.p 256 32))<|.o 39 (.mv (.t 38))<|.og 40 39 false (.mv (.t 6))<|.og 41 39 false (.bin .gtr (.t 40) (.p 256 126))<|.o 42 (.pick (.t 39) (.b true) (.t 41))<|.o 36 (.mv (.t 42))<|.nil)) (.cond (.t 36) (.seq (.ops (.o 2 (.mv (.s 0 0))<|.o 3 (.mv (.p 9223372036854775808 3))<|.nil)) (.ret ⟨[],[2,3],[2,3],true⟩)) (.ops (.o 16 (.mv (.t 6))<|.o 17 (.call (.f 97) [(.t 4),(.t 16)])<|.nil)))))))))))))) (.ops (.o 43 (.bin .add (.t 10) (.p 9223372036854775808 1))<|.o 10 (.mv (.t 43))<|.nil)))))
@[reducible] def K_token_quote_h0 : Head := ⟨[4, 7000, 8000, 8001, 8002, 8003, 45000, 45001, 45002, 45003, 46000, 46001, 46002, 46003], [0, 4, 9, 10], [], true⟩
def K_token_quote : KF := ⟨46,(.seq (.ops (.o 2 (.mv (.s 0 0))<|.o 3 (.mv (.p 9223372036854775808 0))<|.nil)) (.seq (.ops (.o 4 (.alloc 99 [.np,.ns])<|.nil)) (.seq (.ops (.o 7 (.call (.f 97) [(.t 4),(.p 256 34)])<|.nil)) (.seq (.seq (.ops (.o 8 (.mv (.t 0))<|.o 9 (.lenS (.t 8))<|.o 10 (.mv (.p 9223372036854775808 0))<|.nil)) (.block 0 (.loop K_token_quote_h0 K_token_quote_b0))) (.seq (.ops (.o 44 (.call (.f 97) [(.t 4),(.p 256 34)])<|.nil)) (.seq (.ops (.o 45 (.call (.f 72) [(.t 4)])<|.o 2 (.mv (.t 45))<|.o 3 (.mv (.p 9223372036854775808 0))<|.nil)) (.ret ⟨[],[2,3],[2,3],true⟩))))))),[.tmp 2,.tmp 3],true⟩
def K_token_Join_b0 : KC := (.seq (.ops (.o 16 (.bin .lss (.t 15) (.t 14))<|.nil)) (.seq (.cond (.t 16) .skip (.exit ⟨[],[4],[],false⟩ 0)) (.seq (.block 1 (.seq (.ops (.o 17 (.mv (.t 15))<|.o 18 (.iaddr 4 (.t 13) (.t 15))<|.o 19 (.load true 4 (.t 18))<|.o 6 (.alloc 35 [.p 256 0,.s 0 0,.ns,.b false])<|.o 5 (.mv (.t 17))<|.on (.store 4 (.t 6) (.t 19))<|.nil)) (.seq (.ops (.o 21 (.load true 4 (.t 6))<|.o 22 (.call (.f 35) [(.t 21)])<|.o 20 (.mv (.t 22))<|.o 23 (.ext (.t 20) 0)<|.o 24 (.ext (.t 20) 1)<|.o 7 (.mv (.t 23))<|.o 8 (.mv (.t 24))<|.nil)) (.seq (.seq (.ops (.o 25 (.mv (.t 8))<|.o 26 (.bin .neq (.t 25) (.p 9223372036854775808 0))<|.nil)) (.cond (.t 26) (.seq (.ops (.o 27 (.mv (.t 8))<|.o 2 (.mv (.s 0 0))<|.o 3 (.mv (.t 27))<|.nil)) (.ret ⟨[],[2,3],[2,3],true⟩)) .skip)) (.ops (.o 28 (.mv (.t 4))<|.o 29 (.mv (.t 5))<|.o 30 (.mv (.t 7))<|.o 31 (.iaddr 1 (.t 28) (.t 29))<|.on (.store 1 (.t 31) (.t 30))<|.nil)))))) (.ops (.o 32 (.bin .add (.t 15) (.p 9223372036854775808 1))<|.o 15 (.mv (.t 32))<|.nil)))))
@[reducible] def K_token_Join_h0 : Head := ⟨[12, 35000, 35001, 35002, 35003], [4, 13, 14, 15], [], true⟩
def K_token_Join : KF := ⟨39,(.seq (.ops (.o 2 (.mv (.s 0 0))<|.o 3 (.mv (.p 9223372036854775808 0))<|.nil)) (.seq (.ops (.o 10 (.mv (.t 0))<|.o 11 (.len (.t 10))<|.o 12 (.mk 1 9 (.s 0 0) (.t 11) (.t 11))<|.o 4 (.mv (.t 12))<|.nil)) (.seq (.seq (.ops (.o 13 (.mv (.t 0))<|.o 14 (.len (.t 13))<|.o 15 (.mv (.p 9223372036854775808 0))<|.nil)) (.block 0 (.loop K_token_Join_h0 K_token_Join_b0))) (.seq (.ops (.o 33 (.mv (.t 4))<|.o 34 (.call (.f 58) [(.t 33),(.s 1 32)])<|.o 9 (.mv (.t 34))<|.nil)) (.seq (.seq (.ops (.o 35 (.mv (.t 9))<|.o 36 (.lenS (.t 35))<|.o 37 (.bin .gtr (.t 36) (.p 9223372036854775808 65536))<|.nil)) (.cond (.t 37) (.seq (.ops (.o 2 (.mv (.s 0 0))<|.o 3 (.mv (.p 9223372036854775808 5))<|.nil)) (.ret ⟨[],[2,3],[2,3],true⟩)) .skip)) (.seq (.ops (.o 38 (.mv (.t 9))<|.o 2 (.mv (.t 38))<|.o 3 (.mv (.p 9223372036854775808 0))<|.nil)) (.ret ⟨[],[2,3],[2,3],true⟩))))))),[.tmp 2,.tmp 3],true⟩
def K_literal_group_b0 : KC := (.seq (.ops (.o 10 (.bin .lss (.t 9) (.t 8))<|.nil)) (.seq (.cond (.t 10) .skip (.exit ⟨[],[0,3,4],[],false⟩ 0)) (.seq (.block 1 (.seq (.ops (.o 11 (.mv (.t 9))<|.o 12 (.iaddr 1 (.t 7) (.t 9))<|.o 13 (.load false 1 (.t 12))<|.o 5 (.mv (.t 11))<|.o 6 (.mv (.t 13))<|.nil)) (.seq (.ops (.o 14 (.mv (.t 6))<|.o 15 (.iaddrA 4 1 (.t 3) (.t 14))<|.o 16 (.load false 1 (.t 15))<|.o 17 (.bin .add (.t 16) (.p 9223372036854775808 1))<|.o 18 (.iaddrA 4 1 (.t 3) (.t 14))<|.on (.store 1 (.t 18) (.t 17))<|.nil)) (.seq (.ops (.o 19 (.mv (.t 6))<|.o 20 (.bin .eql (.t 19) (.p 256 1))<|.nil)) (.cond (.t 20) (.ops (.o 21 (.mv (.t 4))<|.o 22 (.mv (.t 5))<|.o 23 (.bin .shl (.p 9223372036854775808 1) (.t 22))<|.o 24 (.bin .or (.t 21) (.t 23))<|.o 4 (.mv (.t 24))<|.nil)) .skip))))) (.ops (.o 25 (.bin .add (.t 9) (.p 9223372036854775808 1))<|.o 9 (.mv (.t 25))<|.nil)))))
@[reducible] def K_literal_group_h0 : Head := ⟨[3], [0, 3, 4, 7, 8, 9], [], true⟩
def K_literal_group : KF := ⟨49,(.seq (.ops (.o 2 (.mv (.p 256 0))<|.nil)) (.seq (.ops (.o 3 (.alloc 183 [.p 9223372036854775808 0,.p 9223372036854775808 0,.p 9223372036854775808 0,.p 9223372036854775808 0])<|.nil)) (.seq (.ops (.o 4 (.mv (.p 9223372036854775808 0))<|.nil)) (.seq (.seq (.ops (.o 7 (.mv (.t 0))<|.o 8 (.len (.t 7))<|.o 9 (.mv (.p 9223372036854775808 0))<|.nil)) (.block 0 (.loop K_literal_group_h0 K_literal_group_b0))) (.seq (.block 2 (.seq (.ops (.o 27 (.iaddrA 4 1 (.t 3) (.p 256 2))<|.o 28 (.load false 1 (.t 27))<|.o 29 (.mv (.t 0))<|.o 30 (.len (.t 29))<|.o 31 (.bin .eql (.t 28) (.t 30))<|.o 26 (.mv (.t 31))<|.nil)) (.cond (.t 26) (.seq (.ops (.o 2 (.mv (.p 256 120))<|.nil)) (.ret ⟨[],[2],[2],true⟩)) (.seq (.ops (.o 33 (.iaddrA 4 1 (.t 3) (.p 256 3))<|.o 34 (.load false 1 (.t 33))<|.o 35 (.mv (.t 0))<|.o 36 (.len (.t 35))<|.o 37 (.bin .eql (.t 34) (.t 36))<|.o 32 (.mv (.t 37))<|.nil)) (.cond (.t 32) (.seq (.ops (.o 2 (.mv (.p 256 122))<|.nil)) (.ret ⟨[],[2],[2],true⟩)) (.seq (.ops (.o 39 (.iaddrA 4 1 (.t 3) (.p 256 2))<|.o 40 (.load false 1 (.t 39))<|.o 41 (.bin .gtr (.t 40) (.p 9223372036854775808 0))<|.o 38 (.mv (.t 41))<|.nil)) (.cond (.t 38) (.seq (.ops (.o 2 (.mv (.p 256 88))<|.nil)) (.ret ⟨[],[2],[2],true⟩)) (.seq (.ops (.o 43 (.iaddrA 4 1 (.t 3) (.p 256 3))<|.o 44 (.load false 1 (.t 43))<|.o 45 (.bin .gtr (.t 44) (.p 9223372036854775808 0))<|.o 42 (.mv (.t 45))<|.nil)) (.cond (.t 42) (.seq (.ops (.o 2 (.mv (.p 256 90))<|.nil)) (.ret ⟨[],[2],[2],true⟩)) .skip))))))))) (.seq (.ops (.o 46 (.mv (.t 4))<|.o 47 (.bin .and (.t 46) (.p 9223372036854775808 15))<|.o 48 (.idxS (.s 16 136107713667768957684761770045455085872) (.t 47))<|.o 2 (.mv (.t 48))<|.nil)) (.ret ⟨[],[2],[2],true⟩))))))),[.tmp 2],true⟩
def K_literal_Digits_b0 : KC := (.seq (.ops (.o 46 (.bin .lss (.t 45) (.t 44))<|.nil)) (.seq (.cond (.t 46) .skip (.exit ⟨[],[10],[],false⟩ 1)) (.seq (.block 2 (.seq (.ops (.o 47 (.mv (.t 45))<|.o 11 (.mv (.t 47))<|.nil)) (.ops (.o 48 (.mv (.t 10))<|.o 49 (.mv (.t 9))<|.o 50 (.bin .sub (.t 49) (.p 9223372036854775808 1))<|.o 51 (.mv (.t 11))<|.o 52 (.bin .sub (.t 50) (.t 51))<|.o 53 (.faddr 0 (.t 2))<|.o 54 (.load false 1 (.t 53))<|.o 55 (.mv (.t 11))<|.o 56 (.faddr 0 (.t 7))<|.o 57 (.load false 1 (.t 56))<|.o 58 (.bin .mul (.t 55) (.t 57))<|.o 59 (.faddr 0 (.t 2))<|.o 60 (.load false 1 (.t 59))<|.o 61 (.len (.t 60))<|.o 62 (.mv (.t 11))<|.o 63 (.bin .add (.t 62) (.p 9223372036854775808 1))<|.o 64 (.faddr 0 (.t 7))<|.o 65 (.load false 1 (.t 64))<|.o 66 (.bin .mul (.t 63) (.t 65))<|.o 67 (.mm false (.t 61) (.t 66))<|.o 68 (.slc 1 (.t 54) (some (.t 58)) (some (.t 67)) none)<|.o 69 (.call (.f 153) [(.t 68)])<|.o 70 (.iaddr 1 (.t 48) (.t 52))<|.on (.store 1 (.t 70) (.t 69))<|.nil)))) (.ops (.o 71 (.bin .add (.t 45) (.p 9223372036854775808 1))<|.o 45 (.mv (.t 71))<|.nil)))))
@[reducible] def K_literal_Digits_h0 : Head := ⟨[2, 7, 42, 14000, 14001, 14002, 14003, 20000, 20001, 20002, 20003, 31000, 31001, 31002, 31003], [2, 7, 9, 10, 44, 45], [], true⟩
def K_literal_Digits : KF := ⟨74,(.seq (.ops (.o 2 (.box 26 (.t 0))<|.o 4 (.mv (.s 0 0))<|.o 5 (.mv (.p 9223372036854775808 0))<|.nil)) (.seq (.seq (.ops (.o 12 (.load true 2 (.t 2))<|.o 13 (.call (.f 93) [(.t 12)])<|.o 6 (.mv (.t 13))<|.nil)) (.seq (.ops (.o 14 (.mv (.t 6))<|.o 15 (.bin .neq (.t 14) (.p 9223372036854775808 0))<|.nil)) (.cond (.t 15) (.seq (.ops (.o 16 (.mv (.t 6))<|.o 4 (.mv (.s 0 0))<|.o 5 (.mv (.t 16))<|.nil)) (.ret ⟨[],[4,5],[4,5],true⟩)) .skip))) (.seq (.ops (.o 18 (.mv (.t 1))<|.o 19 (.call (.f 151) [(.t 18)])<|.o 17 (.mv (.t 19))<|.o 20 (.ext (.t 17) 0)<|.o 21 (.ext (.t 17) 1)<|.o 7 (.alloc 164 [.p 9223372036854775808 0,.p 9223372036854775808 0])<|.on (.store 2 (.t 7) (.t 20))<|.o 8 (.mv (.t 21))<|.nil)) (.seq (.block 0 (.seq (.ops (.o 23 (.mv (.t 8))<|.o 24 (.not (.t 23))<|.o 22 (.mv (.t 24))<|.nil)) (.cond (.t 22) (.seq (.ops (.o 4 (.mv (.s 0 0))<|.o 5 (.mv (.p 9223372036854775808 11))<|.nil)) (.ret ⟨[],[4,5],[4,5],true⟩)) (.seq (.ops (.o 26 (.faddr 0 (.t 7))<|.o 27 (.load false 1 (.t 26))<|.o 28 (.bin .eql (.t 27) (.p 9223372036854775808 0))<|.o 25 (.mv (.t 28))<|.nil)) (.cond (.t 25) (.seq (.ops (.o 29 (.load true 2 (.t 2))<|.o 30 (.call (.f 152) [(.t 29)])<|.o 4 (.mv (.t 30))<|.o 5 (.mv (.p 9223372036854775808 0))<|.nil)) (.ret ⟨[],[4,5],[4,5],true⟩)) .skip))))) (.seq (.ops (.o 31 (.faddr 0 (.t 2))<|.o 32 (.load false 1 (.t 31))<|.o 33 (.len (.t 32))<|.o 34 (.faddr 0 (.t 7))<|.o 35 (.load false 1 (.t 34))<|.o 36 (.bin .add (.t 33) (.t 35))<|.o 37 (.bin .sub (.t 36) (.p 9223372036854775808 1))<|.o 38 (.faddr 0 (.t 7))<|.o 39 (.load false 1 (.t 38))<|.o 40 (.bin .quo (.t 37) (.t 39))<|.o 9 (.mv (.t 40))<|.nil)) (.seq (.ops (.o 41 (.mv (.t 9))<|.o 42 (.mk 1 5 (.p 256 0) (.t 41) (.t 41))<|.o 10 (.mv (.t 42))<|.nil)) (.seq (.seq (.ops (.o 43 (.mv (.t 10))<|.o 44 (.len (.t 43))<|.o 45 (.mv (.p 9223372036854775808 0))<|.nil)) (.block 1 (.loop K_literal_Digits_h0 K_literal_Digits_b0))) (.seq (.ops (.o 72 (.mv (.t 10))<|.o 73 (.b2s (.t 72))<|.o 4 (.mv (.t 73))<|.o 5 (.mv (.p 9223372036854775808 0))<|.nil)) (.ret ⟨[],[4,5],[4,5],true⟩))))))))),[.tmp 4,.tmp 5],true⟩
def K_literal_Format : KF := ⟨37,(.seq (.ops (.o 2 (.box 26 (.t 0))<|.o 4 (.mv (.s 0 0))<|.o 5 (.mv (.p 9223372036854775808 0))<|.nil)) (.seq (.ops (.o 10 (.load true 2 (.t 2))<|.o 11 (.mv (.t 1))<|.o 12 (.call (.f 120) [(.t 10),(.t 11)])<|.o 9 (.mv (.t 12))<|.o 13 (.ext (.t 9) 0)<|.o 14 (.ext (.t 9) 1)<|.o 6 (.mv (.t 13))<|.o 7 (.mv (.t 14))<|.nil)) (.seq (.block 0 (.seq (.ops (.o 16 (.mv (.t 7))<|.o 17 (.bin .neq (.t 16) (.p 9223372036854775808 0))<|.o 15 (.mv (.t 17))<|.nil)) (.cond (.t 15) (.seq (.ops (.o 18 (.mv (.t 7))<|.o 4 (.mv (.s 0 0))<|.o 5 (.mv (.t 18))<|.nil)) (.ret ⟨[],[4,5],[4,5],true⟩)) (.seq (.ops (.o 20 (.mv (.t 6))<|.o 21 (.call (.f 121) [(.t 20),(.s 3 2972248)])<|.o 19 (.mv (.t 21))<|.nil)) (.cond (.t 19) (.seq (.ops (.o 4 (.mv (.s 0 0))<|.o 5 (.mv (.p 9223372036854775808 8))<|.nil)) (.ret ⟨[],[4,5],[4,5],true⟩)) .skip))))) (.seq (.ops (.o 22 (.faddr 0 (.t 2))<|.o 23 (.load false 1 (.t 22))<|.o 24 (.len (.t 23))<|.o 25 (.call (.f 122) [(.t 24)])<|.o 26 (.bin .add (.t 25) (.s 1 39))<|.o 8 (.mv (.t 26))<|.nil)) (.seq (.seq (.ops (.o 27 (.faddr 1 (.t 2))<|.o 28 (.load false 1 (.t 27))<|.nil)) (.cond (.t 28) (.ops (.o 29 (.mv (.t 8))<|.o 30 (.bin .add (.t 29) (.s 1 115))<|.o 8 (.mv (.t 30))<|.nil)) .skip)) (.seq (.ops (.o 31 (.mv (.t 8))<|.o 32 (.mv (.t 1))<|.o 33 (.i2s (.t 32))<|.o 34 (.bin .add (.t 31) (.t 33))<|.o 35 (.mv (.t 6))<|.o 36 (.bin .add (.t 34) (.t 35))<|.o 4 (.mv (.t 36))<|.o 5 (.mv (.p 9223372036854775808 0))<|.nil)) (.ret ⟨[],[4,5],[4,5],true⟩))))))),[.tmp 4,.tmp 5],true⟩
def K_ref04_Check_b0 : KC := (.seq (.seq (.ops (.o 12 (.mv (.t 3))<|.o 13 (.faddr 0 (.t 1))<|.o 14 (.load false 1 (.t 13))<|.o 15 (.len (.t 14))<|.o 16 (.bin .lss (.t 12) (.t 15))<|.nil)) (.cond (.t 16) .skip (.exit ⟨[],[],[],false⟩ 0))) (.seq (.block 1 (.seq (.ops (.o 19 (.faddr 0 (.t 1))<|.o 20 (.load false 1 (.t 19))<|.o 21 (.mv (.t 3))<|.o 22 (.iaddr 1 (.t 20) (.t 21))<|.o 23 (.load false 1 (.t 22))<|.o 24 (.bin .gtr (.t 23) (.p 256 3))<|.nil)) (.cond (.t 24) (.seq (.ops (.o 2 (.mv (.p 9223372036854775808 1))<|.nil)) (.ret ⟨[],[2],[2],true⟩)) .skip))) (.ops (.o 17 (.mv (.t 3))<|.o 18 (.bin .add (.t 17) (.p 9223372036854775808 1))<|.o 3 (.mv (.t 18))<|.nil))))
@[reducible] def K_ref04_Check_h0 : Head := ⟨[1], [1, 3], [], true⟩
def K_ref04_Check : KF := ⟨25,(.seq (.ops (.o 1 (.box 26 (.t 0))<|.o 2 (.mv (.p 9223372036854775808 0))<|.nil)) (.seq (.seq (.ops (.o 4 (.faddr 0 (.t 1))<|.o 5 (.load false 1 (.t 4))<|.o 6 (.len (.t 5))<|.o 7 (.bin .eql (.t 6) (.p 9223372036854775808 0))<|.nil)) (.cond (.t 7) (.seq (.ops (.o 2 (.mv (.p 9223372036854775808 4))<|.nil)) (.ret ⟨[],[2],[2],true⟩)) .skip)) (.seq (.seq (.ops (.o 8 (.faddr 0 (.t 1))<|.o 9 (.load false 1 (.t 8))<|.o 10 (.len (.t 9))<|.o 11 (.bin .gtr (.t 10) (.p 9223372036854775808 128))<|.nil)) (.cond (.t 11) (.seq (.ops (.o 2 (.mv (.p 9223372036854775808 5))<|.nil)) (.ret ⟨[],[2],[2],true⟩)) .skip)) (.seq (.seq (.ops (.o 3 (.mv (.p 9223372036854775808 0))<|.nil)) (.block 0 (.loop K_ref04_Check_h0 K_ref04_Check_b0))) (.seq (.ops (.o 2 (.mv (.p 9223372036854775808 0))<|.nil)) (.ret ⟨[],[2],[2],true⟩)))))),[.tmp 2],true⟩
def K_ref05_group_b0 : KC := (.seq (.seq (.ops (.o 10 (.mv (.t 6))<|.o 11 (.bin .geq (.t 10) (.p 9223372036854775808 0))<|.nil)) (.cond (.t 11) .skip (.exit ⟨[],[0,3,4,5],[],false⟩ 0))) (.seq (.block 1 (.seq (.ops (.o 14 (.mv (.t 5))<|.o 15 (.bin .mul (.p 9223372036854775808 2) (.t 14))<|.o 5 (.mv (.t 15))<|.nil)) (.seq (.ops (.o 16 (.mv (.t 0))<|.o 17 (.mv (.t 6))<|.o 18 (.iaddr 1 (.t 16) (.t 17))<|.o 19 (.load false 1 (.t 18))<|.nil)) (.block 2 (.seq (.ops (.o 21 (.bin .eql (.t 19) (.p 256 1))<|.o 20 (.mv (.t 21))<|.nil)) (.cond (.t 20) (.ops (.o 22 (.mv (.t 5))<|.o 23 (.bin .add (.t 22) (.p 9223372036854775808 1))<|.o 5 (.mv (.t 23))<|.nil)) (.seq (.ops (.o 25 (.bin .eql (.t 19) (.p 256 2))<|.o 24 (.mv (.t 25))<|.nil)) (.cond (.t 24) (.ops (.o 26 (.mv (.t 3))<|.o 27 (.bin .add (.t 26) (.p 9223372036854775808 1))<|.o 3 (.mv (.t 27))<|.nil)) (.seq (.ops (.o 29 (.bin .eql (.t 19) (.p 256 3))<|.o 28 (.mv (.t 29))<|.nil)) (.cond (.t 28) (.ops (.o 30 (.mv (.t 4))<|.o 31 (.bin .add (.t 30) (.p 9223372036854775808 1))<|.o 4 (.mv (.t 31))<|.nil)) .skip)))))))))) (.ops (.o 12 (.mv (.t 6))<|.o 13 (.bin .sub (.t 12) (.p 9223372036854775808 1))<|.o 6 (.mv (.t 13))<|.nil))))
@[reducible] def K_ref05_group_h0 : Head := ⟨[], [0, 3, 4, 5, 6], [], true⟩
def K_ref05_group : KF := ⟨50,(.seq (.ops (.o 2 (.mv (.p 256 0))<|.nil)) (.seq (.ops (.o 3 (.mv (.p 9223372036854775808 0))<|.o 4 (.mv (.p 9223372036854775808 0))<|.o 5 (.mv (.p 9223372036854775808 0))<|.nil)) (.seq (.seq (.ops (.o 7 (.mv (.t 0))<|.o 8 (.len (.t 7))<|.o 9 (.bin .sub (.t 8) (.p 9223372036854775808 1))<|.o 6 (.mv (.t 9))<|.nil)) (.block 0 (.loop K_ref05_group_h0 K_ref05_group_b0))) (.seq (.block 3 (.seq (.ops (.o 33 (.mv (.t 3))<|.o 34 (.mv (.t 0))<|.o 35 (.len (.t 34))<|.o 36 (.bin .eql (.t 33) (.t 35))<|.o 32 (.mv (.t 36))<|.nil)) (.cond (.t 32) (.seq (.ops (.o 2 (.mv (.p 256 120))<|.nil)) (.ret ⟨[],[2],[2],true⟩)) (.seq (.ops (.o 38 (.mv (.t 4))<|.o 39 (.mv (.t 0))<|.o 40 (.len (.t 39))<|.o 41 (.bin .eql (.t 38) (.t 40))<|.o 37 (.mv (.t 41))<|.nil)) (.cond (.t 37) (.seq (.ops (.o 2 (.mv (.p 256 122))<|.nil)) (.ret ⟨[],[2],[2],true⟩)) (.seq (.ops (.o 43 (.mv (.t 3))<|.o 44 (.bin .gtr (.t 43) (.p 9223372036854775808 0))<|.o 42 (.mv (.t 44))<|.nil)) (.cond (.t 42) (.seq (.ops (.o 2 (.mv (.p 256 88))<|.nil)) (.ret ⟨[],[2],[2],true⟩)) (.seq (.ops (.o 46 (.mv (.t 4))<|.o 47 (.bin .gtr (.t 46) (.p 9223372036854775808 0))<|.o 45 (.mv (.t 47))<|.nil)) (.cond (.t 45) (.seq (.ops (.o 2 (.mv (.p 256 90))<|.nil)) (.ret ⟨[],[2],[2],true⟩)) .skip))))))))) (.seq (.ops (.o 48 (.mv (.t 5))<|.o 49 (.idxS (.s 16 136107713667768957684761770045455085872) (.t 48))<|.o 2 (.mv (.t 49))<|.nil)) (.ret ⟨[],[2],[2],true⟩)))))),[.tmp 2],true⟩
def K_ref05_Digits_b0 : KC := (.seq (.seq (.ops (.o 44 (.mv (.t 10))<|.o 45 (.faddr 0 (.t 2))<|.o 46 (.load false 1 (.t 45))<|.o 47 (.len (.t 46))<|.o 48 (.bin .lss (.t 44) (.t 47))<|.nil)) (.cond (.t 48) .skip (.exit ⟨[],[9],[],false⟩ 0))) (.seq (.block 1 (.ops (.o 52 (.faddr 0 (.t 2))<|.o 53 (.load false 1 (.t 52))<|.o 54 (.mv (.t 10))<|.o 55 (.faddr 0 (.t 2))<|.o 56 (.load false 1 (.t 55))<|.o 57 (.len (.t 56))<|.o 58 (.mv (.t 10))<|.o 59 (.mv (.t 7))<|.o 60 (.bin .add (.t 58) (.t 59))<|.o 61 (.mm false (.t 57) (.t 60))<|.o 62 (.slc 1 (.t 53) (some (.t 54)) (some (.t 61)) none)<|.o 63 (.call (.f 125) [(.t 62)])<|.o 64 (.bsl 5 1 [(.t 63)])<|.o 65 (.b2s (.t 64))<|.o 66 (.mv (.t 9))<|.o 67 (.bin .add (.t 65) (.t 66))<|.o 9 (.mv (.t 67))<|.nil))) (.ops (.o 49 (.mv (.t 10))<|.o 50 (.mv (.t 7))<|.o 51 (.bin .add (.t 49) (.t 50))<|.o 10 (.mv (.t 51))<|.nil))))
@[reducible] def K_ref05_Digits_h0 : Head := ⟨[2, 30, 13000, 13001, 13002, 13003, 18000, 18001, 18002, 18003, 24000, 24001, 24002, 24003, 26000, 26001, 26002, 26003, 30000, 30001, 30002, 30003, 37000, 37001, 37002, 37003, 40000, 40001, 40002, 40003, 41000, 41001, 41002, 41003, 44000, 44001, 44002, 44003], [2, 7, 9, 10], [], true⟩
def K_ref05_Digits : KF := ⟨69,(.seq (.ops (.o 2 (.box 26 (.t 0))<|.o 4 (.mv (.s 0 0))<|.o 5 (.mv (.p 9223372036854775808 0))<|.nil)) (.seq (.ops (.o 11 (.load true 2 (.t 2))<|.o 12 (.call (.f 63) [(.t 11)])<|.o 6 (.mv (.t 12))<|.nil)) (.seq (.seq (.ops (.o 13 (.mv (.t 6))<|.o 14 (.bin .neq (.t 13) (.p 9223372036854775808 0))<|.nil)) (.cond (.t 14) (.seq (.ops (.o 15 (.mv (.t 6))<|.o 4 (.mv (.s 0 0))<|.o 5 (.mv (.t 15))<|.nil)) (.ret ⟨[],[4,5],[4,5],true⟩)) .skip)) (.seq (.ops (.o 16 (.mv (.t 1))<|.o 17 (.call (.f 77) [(.t 16)])<|.o 7 (.mv (.t 17))<|.nil)) (.seq (.seq (.ops (.o 18 (.mv (.t 7))<|.o 19 (.bin .lss (.t 18) (.p 9223372036854775808 0))<|.nil)) (.cond (.t 19) (.seq (.ops (.o 4 (.mv (.s 0 0))<|.o 5 (.mv (.p 9223372036854775808 11))<|.nil)) (.ret ⟨[],[4,5],[4,5],true⟩)) .skip)) (.seq (.seq (.ops (.o 20 (.mv (.t 7))<|.o 21 (.bin .eql (.t 20) (.p 9223372036854775808 0))<|.nil)) (.cond (.t 21) (.seq (.ops (.o 22 (.load true 2 (.t 2))<|.o 23 (.call (.f 123) [(.t 22)])<|.o 8 (.mv (.t 23))<|.nil)) (.seq (.seq (.ops (.o 24 (.load true 2 (.t 2))<|.o 25 (.call (.f 124) [(.t 24)])<|.o 26 (.not (.t 25))<|.nil)) (.cond (.t 26) (.seq (.ops (.o 27 (.faddr 0 (.t 2))<|.o 28 (.load false 1 (.t 27))<|.o 29 (.call (.f 125) [(.t 28)])<|.o 30 (.bsl 5 1 [(.t 29)])<|.o 31 (.b2s (.t 30))<|.o 4 (.mv (.t 31))<|.o 5 (.mv (.p 9223372036854775808 0))<|.nil)) (.ret ⟨[],[4,5],[4,5],true⟩)) .skip)) (.seq (.seq (.ops (.o 32 (.faddr 1 (.t 2))<|.o 33 (.load false 1 (.t 32))<|.o 34 (.mv (.t 33))<|.og 35 34 true (.mv (.t 8))<|.og 36 34 true (.call (.f 126) [(.t 35)])<|.o 37 (.pick (.t 34) (.t 36) (.b false))<|.nil)) (.cond (.t 37) (.seq (.ops (.o 38 (.mv (.t 8))<|.o 39 (.call (.f 127) [(.t 38)])<|.o 40 (.call (.f 101) [(.t 39)])<|.o 41 (.bin .add (.s 1 45) (.t 40))<|.o 4 (.mv (.t 41))<|.o 5 (.mv (.p 9223372036854775808 0))<|.nil)) (.ret ⟨[],[4,5],[4,5],true⟩)) .skip)) (.seq (.ops (.o 42 (.mv (.t 8))<|.o 43 (.call (.f 101) [(.t 42)])<|.o 4 (.mv (.t 43))<|.o 5 (.mv (.p 9223372036854775808 0))<|.nil)) (.ret ⟨[],[4,5],[4,5],true⟩))))) .skip)) (.seq (.ops (.o 9 (.mv (.s 0 0))<|.nil)) (.seq (.seq (.ops (.o 10 (.mv (.p 9223372036854775808 0))<|.nil)) (.block 0 (.loop K_ref05_Digits_h0 K_ref05_Digits_b0))) (.seq (.ops (.o 68 (.mv (.t 9))<|.o 4 (.mv (.t 68))<|.o 5 (.mv (.p 9223372036854775808 0))<|.nil)) (.ret ⟨[],[4,5],[4,5],true⟩)))))))))),[.tmp 4,.tmp 5],true⟩
def K_ref05_Format_b0 : KC := (.seq (.seq (.ops (.o 21 (.mv (.t 8))<|.o 22 (.mv (.t 6))<|.o 23 (.lenS (.t 22))<|.o 24 (.bin .lss (.t 21) (.t 23))<|.nil)) (.cond (.t 24) .skip (.exit ⟨[],[1,2,6],[],false⟩ 0))) (.seq (.block 1 (.seq (.ops (.o 27 (.mv (.t 6))<|.o 28 (.mv (.t 8))<|.o 29 (.idxS (.t 27) (.t 28))<|.o 30 (.bin .eql (.t 29) (.p 256 88))<|.o 31 (.mv (.t 30))<|.og 32 31 false (.mv (.t 6))<|.og 33 31 false (.mv (.t 8))<|.og 34 31 false (.idxS (.t 32) (.t 33))<|.og 35 31 false (.bin .eql (.t 34) (.p 256 90))<|.o 36 (.pick (.t 31) (.b true) (.t 35))<|.o 37 (.mv (.t 36))<|.og 38 37 false (.mv (.t 6))<|.og 39 37 false (.mv (.t 8))<|.og 40 37 false (.idxS (.t 38) (.t 39))<|.og 41 37 false (.bin .eql (.t 40) (.p 256 45))<|.o 42 (.pick (.t 37) (.b true) (.t 41))<|.nil)) (.cond (.t 42) (.seq (.ops (.o 4 (.mv (.s 0 0))<|.o 5 (.mv (.p 9223372036854775808 8))<|.nil)) (.ret ⟨[],[4,5],[4,5],true⟩)) .skip))) (.ops (.o 25 (.mv (.t 8))<|.o 26 (.bin .add (.t 25) (.p 9223372036854775808 1))<|.o 8 (.mv (.t 26))<|.nil))))
@[reducible] def K_ref05_Format_h0 : Head := ⟨[2, 59, 16000, 16001, 16002, 16003, 48000, 48001, 48002, 48003, 52000, 52001, 52002, 52003], [1, 2, 6, 8], [], true⟩
def K_ref05_Format : KF := ⟨64,(.seq (.ops (.o 2 (.box 26 (.t 0))<|.o 4 (.mv (.s 0 0))<|.o 5 (.mv (.p 9223372036854775808 0))<|.nil)) (.seq (.ops (.o 13 (.load true 2 (.t 2))<|.o 14 (.mv (.t 1))<|.o 15 (.call (.f 99) [(.t 13),(.t 14)])<|.o 12 (.mv (.t 15))<|.o 16 (.ext (.t 12) 0)<|.o 17 (.ext (.t 12) 1)<|.o 6 (.mv (.t 16))<|.o 7 (.mv (.t 17))<|.nil)) (.seq (.seq (.ops (.o 18 (.mv (.t 7))<|.o 19 (.bin .neq (.t 18) (.p 9223372036854775808 0))<|.nil)) (.cond (.t 19) (.seq (.ops (.o 20 (.mv (.t 7))<|.o 4 (.mv (.s 0 0))<|.o 5 (.mv (.t 20))<|.nil)) (.ret ⟨[],[4,5],[4,5],true⟩)) .skip)) (.seq (.seq (.ops (.o 8 (.mv (.p 9223372036854775808 0))<|.nil)) (.block 0 (.loop K_ref05_Format_h0 K_ref05_Format_b0))) (.seq (.ops (.o 44 (.faddr 0 (.t 2))<|.o 45 (.load false 1 (.t 44))<|.o 46 (.len (.t 45))<|.o 47 (.call (.f 100) [(.t 46),(.p 9223372036854775808 12)])<|.o 43 (.mv (.t 47))<|.o 48 (.ext (.t 43) 0)<|.o 49 (.ext (.t 43) 1)<|.o 9 (.mv (.t 48))<|.o 10 (.mv (.t 49))<|.nil)) (.seq (.ops (.o 50 (.mv (.t 9))<|.o 51 (.call (.f 101) [(.t 50)])<|.o 52 (.bin .add (.t 51) (.s 1 39))<|.o 11 (.mv (.t 52))<|.nil)) (.seq (.seq (.ops (.o 53 (.faddr 1 (.t 2))<|.o 54 (.load false 1 (.t 53))<|.nil)) (.cond (.t 54) (.ops (.o 55 (.mv (.t 11))<|.o 56 (.bin .add (.t 55) (.s 1 115))<|.o 11 (.mv (.t 56))<|.nil)) .skip)) (.seq (.ops (.o 57 (.mv (.t 11))<|.o 58 (.mv (.t 1))<|.o 59 (.bsl 5 1 [(.t 58)])<|.o 60 (.b2s (.t 59))<|.o 61 (.bin .add (.t 57) (.t 60))<|.o 62 (.mv (.t 6))<|.o 63 (.bin .add (.t 61) (.t 62))<|.o 4 (.mv (.t 63))<|.o 5 (.mv (.p 9223372036854775808 0))<|.nil)) (.ret ⟨[],[4,5],[4,5],true⟩))))))))),[.tmp 4,.tmp 5],true⟩
def K_ref05_Decimal_b0 : KC := (.block 1 (.seq (.ops (.o 10 (.bsl 4 1 [])<|.o 11 (.mv (.t 0))<|.o 12 (.app 4 1 (.t 10) (.t 11))<|.o 13 (.bsl 4 1 [(.b false),(.b false),(.b false),(.b false)])<|.o 14 (.app 4 1 (.t 12) (.t 13))<|.o 15 (.bsl 4 1 [(.b false),(.b true),(.b false),(.b true)])<|.o 16 (.call (.f 128) [(.t 14),(.t 15)])<|.o 9 (.mv (.t 16))<|.o 17 (.ext (.t 9) 0)<|.o 18 (.ext (.t 9) 1)<|.o 19 (.ext (.t 9) 2)<|.o 4 (.mv (.t 17))<|.o 5 (.mv (.t 18))<|.o 6 (.mv (.t 19))<|.nil)) (.seq (.ops (.o 21 (.mv (.t 5))<|.o 22 (.call (.f 129) [(.t 21)])<|.o 20 (.mv (.t 22))<|.o 23 (.ext (.t 20) 0)<|.o 24 (.ext (.t 20) 1)<|.o 7 (.mv (.t 23))<|.o 8 (.mv (.t 24))<|.nil)) (.seq (.ops (.o 25 (.mv (.t 7))<|.o 26 (.bin .add (.p 18446744073709551616 48) (.t 25))<|.o 27 (.cv 256 (.t 26))<|.o 28 (.bsl 5 1 [(.t 27)])<|.o 29 (.b2s (.t 28))<|.o 30 (.mv (.t 3))<|.o 31 (.bin .add (.t 29) (.t 30))<|.o 3 (.mv (.t 31))<|.nil)) (.seq (.ops (.o 32 (.mv (.t 4))<|.o 33 (.call (.f 130) [(.t 32)])<|.o 0 (.mv (.t 33))<|.nil)) (.seq (.ops (.o 34 (.mv (.t 0))<|.o 35 (.len (.t 34))<|.o 36 (.bin .eql (.t 35) (.p 9223372036854775808 0))<|.nil)) (.cond (.t 36) (.seq (.ops (.o 37 (.mv (.t 3))<|.o 2 (.mv (.t 37))<|.nil)) (.ret ⟨[],[2],[2],true⟩)) .skip)))))))
@[reducible] def K_ref05_Decimal_h0 : Head := ⟨[12, 14], [0, 3], [], true⟩
def K_ref05_Decimal : KF := ⟨38,(.seq (.ops (.o 2 (.mv (.s 0 0))<|.nil)) (.seq (.ops (.o 3 (.mv (.s 0 0))<|.nil)) (.block 0 (.loop K_ref05_Decimal_h0 K_ref05_Decimal_b0)))),[.tmp 2],true⟩
def K_ref03_DivMod : KF := ⟨27,(.seq (.ops (.o 4 (.mv .ns)<|.o 5 (.mv .ns)<|.o 6 (.mv (.p 9223372036854775808 0))<|.nil)) (.seq (.seq (.ops (.o 9 (.mv (.t 1))<|.o 10 (.call (.f 130) [(.t 9)])<|.o 11 (.len (.t 10))<|.o 12 (.bin .eql (.t 11) (.p 9223372036854775808 0))<|.nil)) (.cond (.t 12) (.seq (.ops (.o 4 (.mv .ns)<|.o 5 (.mv .ns)<|.o 6 (.mv (.p 9223372036854775808 7))<|.nil)) (.ret ⟨[],[4,5,6],[4,5,6],true⟩)) .skip)) (.seq (.ops (.o 14 (.mv (.t 0))<|.o 15 (.mv (.t 1))<|.o 16 (.call (.f 160) [(.t 14),(.t 15)])<|.o 13 (.mv (.t 16))<|.o 17 (.ext (.t 13) 0)<|.o 18 (.ext (.t 13) 1)<|.o 7 (.mv (.t 17))<|.o 8 (.mv (.t 18))<|.nil)) (.seq (.ops (.o 19 (.mv (.t 7))<|.o 20 (.mv (.t 0))<|.o 21 (.len (.t 20))<|.o 22 (.call (.f 134) [(.t 19),(.t 21)])<|.o 23 (.mv (.t 8))<|.o 24 (.mv (.t 0))<|.o 25 (.len (.t 24))<|.o 26 (.call (.f 134) [(.t 23),(.t 25)])<|.o 4 (.mv (.t 22))<|.o 5 (.mv (.t 26))<|.o 6 (.mv (.p 9223372036854775808 0))<|.nil)) (.ret ⟨[],[4,5,6],[4,5,6],true⟩))))),[.tmp 4,.tmp 5,.tmp 6],true⟩
def K_ref03_Trim_b0 : KC := (.seq (.seq (.ops (.o 6 (.mv (.t 3))<|.o 7 (.bin .gtr (.t 6) (.p 9223372036854775808 0))<|.o 8 (.mv (.t 7))<|.og 9 8 true (.mv (.t 0))<|.og 10 8 true (.mv (.t 3))<|.og 11 8 true (.bin .sub (.t 10) (.p 9223372036854775808 1))<|.og 12 8 true (.iaddr 1 (.t 9) (.t 11))<|.og 13 8 true (.load false 1 (.t 12))<|.og 14 8 true (.not (.t 13))<|.o 15 (.pick (.t 8) (.t 14) (.b false))<|.nil)) (.cond (.t 15) .skip (.exit ⟨[],[0,3],[],false⟩ 0))) (.block 1 (.ops (.o 16 (.mv (.t 3))<|.o 17 (.bin .sub (.t 16) (.p 9223372036854775808 1))<|.o 3 (.mv (.t 17))<|.nil))))
@[reducible] def K_ref03_Trim_h0 : Head := ⟨[18, 22], [0, 3], [], true⟩
def K_ref03_Trim : KF := ⟨23,(.seq (.ops (.o 2 (.mv .ns)<|.nil)) (.seq (.ops (.o 4 (.mv (.t 0))<|.o 5 (.len (.t 4))<|.o 3 (.mv (.t 5))<|.nil)) (.seq (.block 0 (.loop K_ref03_Trim_h0 K_ref03_Trim_b0)) (.seq (.ops (.o 18 (.bsl 4 1 [])<|.o 19 (.mv (.t 0))<|.o 20 (.mv (.t 3))<|.o 21 (.slc 1 (.t 19) none (some (.t 20)) none)<|.o 22 (.app 4 1 (.t 18) (.t 21))<|.o 2 (.mv (.t 22))<|.nil)) (.ret ⟨[],[2],[2],true⟩))))),[.tmp 2],true⟩
def K_ref03_divide_b0 : KC := (.seq (.seq (.ops (.o 15 (.mv (.t 8))<|.o 16 (.bin .geq (.t 15) (.p 9223372036854775808 0))<|.nil)) (.cond (.t 16) .skip (.exit ⟨[],[6,7],[],false⟩ 0))) (.seq (.block 1 (.seq (.ops (.o 19 (.mv (.t 0))<|.o 20 (.mv (.t 8))<|.o 21 (.iaddr 1 (.t 19) (.t 20))<|.o 22 (.load false 1 (.t 21))<|.o 23 (.bsl 4 1 [(.t 22)])<|.o 24 (.mv (.t 7))<|.o 25 (.app 4 1 (.t 23) (.t 24))<|.o 7 (.mv (.t 25))<|.nil)) (.seq (.ops (.o 26 (.mv (.t 7))<|.o 27 (.mv (.t 1))<|.o 28 (.call (.f 181) [(.t 26),(.t 27)])<|.o 29 (.not (.t 28))<|.nil)) (.cond (.t 29) (.seq (.ops (.o 30 (.mv (.t 7))<|.o 31 (.mv (.t 1))<|.o 32 (.call (.f 158) [(.t 30),(.t 31)])<|.o 7 (.mv (.t 32))<|.nil)) (.ops (.o 33 (.mv (.t 6))<|.o 34 (.mv (.t 8))<|.o 35 (.iaddr 1 (.t 33) (.t 34))<|.on (.store 1 (.t 35) (.b true))<|.nil))) .skip)))) (.ops (.o 17 (.mv (.t 8))<|.o 18 (.bin .sub (.t 17) (.p 9223372036854775808 1))<|.o 8 (.mv (.t 18))<|.nil))))
@[reducible] def K_ref03_divide_h0 : Head := ⟨[11], [0, 1, 6, 7, 8], [7], true⟩
def K_ref03_divide : KF := ⟨38,(.seq (.ops (.o 4 (.mv .ns)<|.o 5 (.mv .ns)<|.nil)) (.seq (.ops (.o 9 (.mv (.t 0))<|.o 10 (.len (.t 9))<|.o 11 (.mk 1 4 (.b false) (.t 10) (.t 10))<|.o 6 (.mv (.t 11))<|.nil)) (.seq (.ops (.o 7 (.mv .ns)<|.nil)) (.seq (.seq (.ops (.o 12 (.mv (.t 0))<|.o 13 (.len (.t 12))<|.o 14 (.bin .sub (.t 13) (.p 9223372036854775808 1))<|.o 8 (.mv (.t 14))<|.nil)) (.block 0 (.loop K_ref03_divide_h0 K_ref03_divide_b0))) (.seq (.ops (.o 36 (.mv (.t 6))<|.o 37 (.mv (.t 7))<|.o 4 (.mv (.t 36))<|.o 5 (.mv (.t 37))<|.nil)) (.ret ⟨[],[4,5],[4,5],true⟩)))))),[.tmp 4,.tmp 5],true⟩
def K_ref03_less : KF := ⟨9,(.seq (.ops (.o 4 (.mv (.b false))<|.nil)) (.seq (.ops (.o 5 (.mv (.t 0))<|.o 6 (.mv (.t 1))<|.o 7 (.call (.f 197) [(.t 5),(.t 6)])<|.o 8 (.bin .lss (.t 7) (.p 9223372036854775808 0))<|.o 4 (.mv (.t 8))<|.nil)) (.ret ⟨[],[4],[4],true⟩))),[.tmp 4],true⟩
def K_ref03_Cmp_b0 : KC := (.seq (.seq (.ops (.o 23 (.mv (.t 5))<|.o 24 (.bin .geq (.t 23) (.p 9223372036854775808 0))<|.nil)) (.cond (.t 24) .skip (.exit ⟨[],[],[],false⟩ 0))) (.seq (.block 1 (.seq (.drq (.o 27 (.mv (.t 0))<|.o 28 (.mv (.t 5))<|.o 29 (.iaddr 1 (.t 27) (.t 28))<|.o 30 (.load false 1 (.t 29))<|.o 31 (.mv (.t 1))<|.o 32 (.mv (.t 5))<|.o 33 (.iaddr 1 (.t 31) (.t 32))<|.o 34 (.load false 1 (.t 33))<|.o 35 (.beq true (.t 30) (.t 34))<|.nil) [([],[]),([],[]),([],[]),([],[]),([],[]),([],[]),([],[]),([],[]),([],[])]) (.cond (.t 35) (.seq (.seq (.ops (.o 36 (.mv (.t 1))<|.o 37 (.mv (.t 5))<|.o 38 (.iaddr 1 (.t 36) (.t 37))<|.o 39 (.load false 1 (.t 38))<|.nil)) (.cond (.t 39) (.seq (.ops (.o 4 (.mv (.m 9223372036854775808 0))<|.nil)) (.ret ⟨[],[4],[4],true⟩)) .skip)) (.seq (.ops (.o 4 (.mv (.p 9223372036854775808 1))<|.nil)) (.ret ⟨[],[4],[4],true⟩))) .skip))) (.ops (.o 25 (.mv (.t 5))<|.o 26 (.bin .sub (.t 25) (.p 9223372036854775808 1))<|.o 5 (.mv (.t 26))<|.nil))))
@[reducible] def K_ref03_Cmp_h0 : Head := ⟨[8000, 8001, 8002, 8003, 10000, 10001, 10002, 10003], [0, 1, 5], [], true⟩
def K_ref03_Cmp : KF := ⟨40,(.seq (.ops (.o 4 (.mv (.p 9223372036854775808 0))<|.nil)) (.seq (.ops (.o 6 (.mv (.t 0))<|.o 7 (.call (.f 130) [(.t 6)])<|.o 8 (.mv (.t 1))<|.o 9 (.call (.f 130) [(.t 8)])<|.o 0 (.mv (.t 7))<|.o 1 (.mv (.t 9))<|.nil)) (.seq (.seq (.ops (.o 10 (.mv (.t 0))<|.o 11 (.len (.t 10))<|.o 12 (.mv (.t 1))<|.o 13 (.len (.t 12))<|.o 14 (.bin .neq (.t 11) (.t 13))<|.nil)) (.cond (.t 14) (.seq (.seq (.ops (.o 15 (.mv (.t 0))<|.o 16 (.len (.t 15))<|.o 17 (.mv (.t 1))<|.o 18 (.len (.t 17))<|.o 19 (.bin .lss (.t 16) (.t 18))<|.nil)) (.cond (.t 19) (.seq (.ops (.o 4 (.mv (.m 9223372036854775808 0))<|.nil)) (.ret ⟨[],[4],[4],true⟩)) .skip)) (.seq (.ops (.o 4 (.mv (.p 9223372036854775808 1))<|.nil)) (.ret ⟨[],[4],[4],true⟩))) .skip)) (.seq (.seq (.ops (.o 20 (.mv (.t 0))<|.o 21 (.len (.t 20))<|.o 22 (.bin .sub (.t 21) (.p 9223372036854775808 1))<|.o 5 (.mv (.t 22))<|.nil)) (.block 0 (.loop K_ref03_Cmp_h0 K_ref03_Cmp_b0))) (.seq (.ops (.o 4 (.mv (.p 9223372036854775808 0))<|.nil)) (.ret ⟨[],[4],[4],true⟩)))))),[.tmp 4],true⟩
def K_ref03_minus_b0 : KC := (.seq (.seq (.ops (.o 9 (.mv (.t 7))<|.o 10 (.mv (.t 0))<|.o 11 (.len (.t 10))<|.o 12 (.bin .lss (.t 9) (.t 11))<|.nil)) (.cond (.t 12) .skip (.exit ⟨[],[5],[],false⟩ 0))) (.seq (.block 1 (.seq (.ops (.o 15 (.mv (.t 6))<|.o 16 (.neg (.t 15))<|.o 8 (.mv (.t 16))<|.nil)) (.seq (.seq (.ops (.o 17 (.mv (.t 0))<|.o 18 (.mv (.t 7))<|.o 19 (.iaddr 1 (.t 17) (.t 18))<|.o 20 (.load false 1 (.t 19))<|.nil)) (.cond (.t 20) (.ops (.o 21 (.mv (.t 8))<|.o 22 (.bin .add (.t 21) (.p 9223372036854775808 1))<|.o 8 (.mv (.t 22))<|.nil)) .skip)) (.seq (.seq (.ops (.o 23 (.mv (.t 1))<|.o 24 (.mv (.t 7))<|.o 25 (.call (.f 161) [(.t 23),(.t 24)])<|.nil)) (.cond (.t 25) (.ops (.o 26 (.mv (.t 8))<|.o 27 (.bin .sub (.t 26) (.p 9223372036854775808 1))<|.o 8 (.mv (.t 27))<|.nil)) .skip)) (.seq (.ops (.o 6 (.mv (.p 9223372036854775808 0))<|.nil)) (.seq (.seq (.ops (.o 28 (.mv (.t 8))<|.o 29 (.bin .lss (.t 28) (.p 9223372036854775808 0))<|.nil)) (.cond (.t 29) (.seq (.ops (.o 30 (.mv (.t 8))<|.o 31 (.bin .add (.t 30) (.p 9223372036854775808 2))<|.o 8 (.mv (.t 31))<|.nil)) (.ops (.o 6 (.mv (.p 9223372036854775808 1))<|.nil))) .skip)) (.ops (.o 32 (.mv (.t 5))<|.o 33 (.mv (.t 8))<|.o 34 (.bin .eql (.t 33) (.p 9223372036854775808 1))<|.o 35 (.bsl 4 1 [(.t 34)])<|.o 36 (.app 4 1 (.t 32) (.t 35))<|.o 5 (.mv (.t 36))<|.nil)))))))) (.ops (.o 13 (.mv (.t 7))<|.o 14 (.bin .add (.t 13) (.p 9223372036854775808 1))<|.o 7 (.mv (.t 14))<|.nil))))
@[reducible] def K_ref03_minus_h0 : Head := ⟨[36], [0, 1, 5, 6, 7], [], true⟩
def K_ref03_minus : KF := ⟨38,(.seq (.ops (.o 4 (.mv .ns)<|.nil)) (.seq (.ops (.o 5 (.mv .ns)<|.nil)) (.seq (.ops (.o 6 (.mv (.p 9223372036854775808 0))<|.nil)) (.seq (.seq (.ops (.o 7 (.mv (.p 9223372036854775808 0))<|.nil)) (.block 0 (.loop K_ref03_minus_h0 K_ref03_minus_b0))) (.seq (.ops (.o 37 (.mv (.t 5))<|.o 4 (.mv (.t 37))<|.nil)) (.ret ⟨[],[4],[4],true⟩)))))),[.tmp 4],true⟩
def K_ref03_Uint_b0 : KC := (.seq (.seq (.ops (.o 11 (.mv (.t 5))<|.o 12 (.bin .geq (.t 11) (.p 9223372036854775808 0))<|.nil)) (.cond (.t 12) .skip (.exit ⟨[],[0,4],[],false⟩ 0))) (.seq (.block 1 (.seq (.ops (.o 15 (.mv (.t 4))<|.o 16 (.bin .mul (.t 15) (.p 18446744073709551616 2))<|.o 4 (.mv (.t 16))<|.nil)) (.seq (.ops (.o 17 (.mv (.t 0))<|.o 18 (.mv (.t 5))<|.o 19 (.iaddr 1 (.t 17) (.t 18))<|.o 20 (.load false 1 (.t 19))<|.nil)) (.cond (.t 20) (.ops (.o 21 (.mv (.t 4))<|.o 22 (.bin .add (.t 21) (.p 18446744073709551616 1))<|.o 4 (.mv (.t 22))<|.nil)) .skip)))) (.ops (.o 13 (.mv (.t 5))<|.o 14 (.bin .sub (.t 13) (.p 9223372036854775808 1))<|.o 5 (.mv (.t 14))<|.nil))))
@[reducible] def K_ref03_Uint_h0 : Head := ⟨[8000, 8001, 8002, 8003], [0, 4, 5], [], true⟩
def K_ref03_Uint : KF := ⟨27,(.seq (.ops (.o 2 (.mv (.p 18446744073709551616 0))<|.o 3 (.mv (.b false))<|.nil)) (.seq (.ops (.o 6 (.mv (.t 0))<|.o 7 (.call (.f 130) [(.t 6)])<|.o 0 (.mv (.t 7))<|.nil)) (.seq (.ops (.o 4 (.mv (.p 18446744073709551616 0))<|.nil)) (.seq (.seq (.ops (.o 8 (.mv (.t 0))<|.o 9 (.len (.t 8))<|.o 10 (.bin .sub (.t 9) (.p 9223372036854775808 1))<|.o 5 (.mv (.t 10))<|.nil)) (.block 0 (.loop K_ref03_Uint_h0 K_ref03_Uint_b0))) (.seq (.seq (.ops (.o 23 (.mv (.t 0))<|.o 24 (.len (.t 23))<|.o 25 (.bin .gtr (.t 24) (.p 9223372036854775808 64))<|.nil)) (.cond (.t 25) (.seq (.ops (.o 2 (.mv (.p 18446744073709551616 0))<|.o 3 (.mv (.b false))<|.nil)) (.ret ⟨[],[2,3],[2,3],true⟩)) .skip)) (.seq (.ops (.o 26 (.mv (.t 4))<|.o 2 (.mv (.t 26))<|.o 3 (.mv (.b true))<|.nil)) (.ret ⟨[],[2,3],[2,3],true⟩))))))),[.tmp 2,.tmp 3],true⟩
def K_ref07_plain_b0 : KC := (.seq (.seq (.ops (.o 14 (.mv (.t 4))<|.o 15 (.bin .geq (.t 14) (.p 9223372036854775808 0))<|.nil)) (.cond (.t 15) .skip (.exit ⟨[],[3],[],false⟩ 0))) (.seq (.block 1 (.seq (.seq (.ops (.o 18 (.faddr 0 (.t 1))<|.o 19 (.load false 1 (.t 18))<|.o 20 (.mv (.t 4))<|.o 21 (.iaddr 1 (.t 19) (.t 20))<|.o 22 (.load false 1 (.t 21))<|.o 23 (.bin .gtr (.t 22) (.p 256 1))<|.o 24 (.mv (.t 23))<|.og 25 24 false (.mv (.t 4))<|.og 26 24 false (.bin .eql (.t 25) (.p 9223372036854775808 31))<|.og 27 24 false (.mv (.t 26))<|.og 28 27 true (.faddr 0 (.t 1))<|.og 29 27 true (.load false 1 (.t 28))<|.og 30 27 true (.mv (.t 4))<|.og 31 27 true (.iaddr 1 (.t 29) (.t 30))<|.og 32 27 true (.load false 1 (.t 31))<|.og 33 27 true (.bin .eql (.t 32) (.p 256 1))<|.og 34 24 false (.pick (.t 27) (.t 33) (.b false))<|.o 35 (.pick (.t 24) (.b true) (.t 34))<|.nil)) (.cond (.t 35) (.seq (.ops (.o 2 (.mv (.m 9223372036854775808 0))<|.nil)) (.ret ⟨[],[2],[2],true⟩)) .skip)) (.ops (.o 36 (.mv (.t 3))<|.o 37 (.bin .mul (.p 9223372036854775808 2) (.t 36))<|.o 38 (.faddr 0 (.t 1))<|.o 39 (.load false 1 (.t 38))<|.o 40 (.mv (.t 4))<|.o 41 (.iaddr 1 (.t 39) (.t 40))<|.o 42 (.load false 1 (.t 41))<|.o 43 (.cv 9223372036854775808 (.t 42))<|.o 44 (.bin .add (.t 37) (.t 43))<|.o 3 (.mv (.t 44))<|.nil)))) (.ops (.o 16 (.mv (.t 4))<|.o 17 (.bin .sub (.t 16) (.p 9223372036854775808 1))<|.o 4 (.mv (.t 17))<|.nil))))
@[reducible] def K_ref07_plain_h0 : Head := ⟨[1], [1, 3, 4], [], true⟩
def K_ref07_plain : KF := ⟨46,(.seq (.ops (.o 1 (.box 26 (.t 0))<|.o 2 (.mv (.p 9223372036854775808 0))<|.nil)) (.seq (.seq (.ops (.o 5 (.faddr 0 (.t 1))<|.o 6 (.load false 1 (.t 5))<|.o 7 (.len (.t 6))<|.o 8 (.bin .neq (.t 7) (.p 9223372036854775808 32))<|.o 9 (.mv (.t 8))<|.og 10 9 false (.faddr 1 (.t 1))<|.og 11 9 false (.load false 1 (.t 10))<|.og 12 9 false (.not (.t 11))<|.o 13 (.pick (.t 9) (.b true) (.t 12))<|.nil)) (.cond (.t 13) (.seq (.ops (.o 2 (.mv (.m 9223372036854775808 0))<|.nil)) (.ret ⟨[],[2],[2],true⟩)) .skip)) (.seq (.ops (.o 3 (.mv (.p 9223372036854775808 0))<|.nil)) (.seq (.seq (.ops (.o 4 (.mv (.p 9223372036854775808 31))<|.nil)) (.block 0 (.loop K_ref07_plain_h0 K_ref07_plain_b0))) (.seq (.ops (.o 45 (.mv (.t 3))<|.o 2 (.mv (.t 45))<|.nil)) (.ret ⟨[],[2],[2],true⟩)))))),[.tmp 2],true⟩
def K_ref07_Decimal_b0 : KC := (.seq (.seq (.ops (.o 4 (.mv (.t 0))<|.o 5 (.bin .gtr (.t 4) (.p 9223372036854775808 0))<|.o 6 (.mv (.t 5))<|.og 7 6 false (.mv (.t 3))<|.og 8 6 false (.bin .eql (.t 7) (.s 0 0))<|.o 9 (.pick (.t 6) (.b true) (.t 8))<|.nil)) (.cond (.t 9) .skip (.exit ⟨[],[3],[],false⟩ 0))) (.block 1 (.seq (.ops (.o 10 (.mv (.t 0))<|.o 11 (.bin .rem (.t 10) (.p 9223372036854775808 10))<|.o 12 (.cv 256 (.t 11))<|.o 13 (.bin .add (.p 256 48) (.t 12))<|.o 14 (.bsl 5 1 [(.t 13)])<|.o 15 (.b2s (.t 14))<|.o 16 (.mv (.t 3))<|.o 17 (.bin .add (.t 15) (.t 16))<|.o 3 (.mv (.t 17))<|.nil)) (.ops (.o 18 (.mv (.t 0))<|.o 19 (.bin .quo (.t 18) (.p 9223372036854775808 10))<|.o 0 (.mv (.t 19))<|.nil)))))
@[reducible] def K_ref07_Decimal_h0 : Head := ⟨[], [0, 3], [], true⟩
def K_ref07_Decimal : KF := ⟨21,(.seq (.ops (.o 2 (.mv (.s 0 0))<|.nil)) (.seq (.ops (.o 3 (.mv (.s 0 0))<|.nil)) (.seq (.block 0 (.loop K_ref07_Decimal_h0 K_ref07_Decimal_b0)) (.seq (.ops (.o 20 (.mv (.t 3))<|.o 2 (.mv (.t 20))<|.nil)) (.ret ⟨[],[2],[2],true⟩))))),[.tmp 2],true⟩
def K_ref07_quote_b0 : KC := (.seq (.seq (.ops (.o 8 (.mv (.t 5))<|.o 9 (.mv (.t 0))<|.o 10 (.lenS (.t 9))<|.o 11 (.bin .lss (.t 8) (.t 10))<|.nil)) (.cond (.t 11) .skip (.exit ⟨[],[4],[],false⟩ 0))) (.seq (.block 1 (.seq (.ops (.o 14 (.mv (.t 0))<|.o 15 (.mv (.t 5))<|.o 16 (.idxS (.t 14) (.t 15))<|.o 6 (.mv (.t 16))<|.nil)) (.block 2 (.seq (.ops (.o 22 (.mv (.t 6))<|.o 23 (.bin .eql (.t 22) (.p 256 10))<|.o 21 (.mv (.t 23))<|.nil)) (.cond (.t 21) (.ops (.o 24 (.mv (.t 4))<|.o 25 (.bsl 5 1 [(.p 256 92),(.p 256 110)])<|.o 26 (.app 5 1 (.t 24) (.t 25))<|.o 4 (.mv (.t 26))<|.nil)) (.seq (.ops (.o 28 (.mv (.t 6))<|.o 29 (.bin .eql (.t 28) (.p 256 9))<|.o 27 (.mv (.t 29))<|.nil)) (.cond (.t 27) (.ops (.o 30 (.mv (.t 4))<|.o 31 (.bsl 5 1 [(.p 256 92),(.p 256 116)])<|.o 32 (.app 5 1 (.t 30) (.t 31))<|.o 4 (.mv (.t 32))<|.nil)) (.seq (.ops (.o 34 (.mv (.t 6))<|.o 35 (.bin .eql (.t 34) (.p 256 34))<|.o 36 (.mv (.t 35))<|.og 37 36 false (.mv (.t 6))<|.og 38 36 false (.bin .eql (.t 37) (.p 256 92))<|.o 39 (.pick (.t 36) (.b true) (.t 38))<|.o 33 (.mv (.t 39))<|.nil)) (.cond (.t 33) (.ops (.o 40 (.mv (.t 4))<|.o 41 (.mv (.t 6))<|.o 42 (.bsl 5 1 [(.p 256 92),(.t 41)])<|.o 43 (.app 5 1 (.t 40) (.t 42))<|.o 4 (.mv (.t 43))<|.nil)) (.seq (.ops (.o 45 (.mv (.t 6))<|.o 46 (.bin .lss (.t 45) (.p 256 32))<|.o 47 (.mv (.t 46))<|.og 48 47 false (.mv (.t 6))<|.og 49 47 false (.bin .gtr (.t 48) (.p 256 126))<|.o 50 (.pick (.t 47) (.b true) (.t 49))<|.o 44 (.mv (.t 50))<|.nil)) (.cond (.t 44) (.seq (.ops (.o 2 (.mv (.s 0 0))<|.o 3 (.mv (.p 9223372036854775808 3))<|.nil)) (.ret ⟨[],[2,3],[2,3],true⟩)) (.ops (.o 17 (.mv (.t 4))<|.o 18 (.mv (.t 6))<|.o 19 (.bsl 5 1 [(.t 18)])<|.o 20 (.app 5 1 (.t 17) (.t 19))<|.o 4 (.mv (.t 20))<|.nil))))))))))))) (.ops (.o 12 (.mv (.t 5))<|.o 13 (.bin .add (.t 12) (.p 9223372036854775808 1))<|.o 5 (.mv (.t 13))<|.nil))))
@[reducible] def K_ref07_quote_h0 : Head := ⟨[7, 20, 26, 32, 43, 52, 53], [0, 4, 5], [], true⟩
def K_ref07_quote : KF := ⟨55,(.seq (.ops (.o 2 (.mv (.s 0 0))<|.o 3 (.mv (.p 9223372036854775808 0))<|.nil)) (.seq (.ops (.o 7 (.bsl 5 1 [(.p 256 34)])<|.o 4 (.mv (.t 7))<|.nil)) (.seq (.seq (.ops (.o 5 (.mv (.p 9223372036854775808 0))<|.nil)) (.block 0 (.loop K_ref07_quote_h0 K_ref07_quote_b0))) (.seq (.ops (.o 51 (.mv (.t 4))<|.o 52 (.bsl 5 1 [(.p 256 34)])<|.o 53 (.app 5 1 (.t 51) (.t 52))<|.o 54 (.b2s (.t 53))<|.o 2 (.mv (.t 54))<|.o 3 (.mv (.p 9223372036854775808 0))<|.nil)) (.ret ⟨[],[2,3],[2,3],true⟩))))),[.tmp 2,.tmp 3],true⟩
def K_ref07_Format : KF := ⟨96,(.seq (.ops (.o 1 (.box 28 (.t 0))<|.o 2 (.mv (.s 0 0))<|.o 3 (.mv (.p 9223372036854775808 0))<|.nil)) (.seq (.seq (.ops (.o 6 (.faddr 0 (.t 1))<|.o 7 (.load false 1 (.t 6))<|.nil)) (.block 0 (.seq (.ops (.o 9 (.bin .eql (.t 7) (.p 256 1))<|.o 8 (.mv (.t 9))<|.nil)) (.cond (.t 8) (.seq (.seq (.drq (.o 10 (.faddr 1 (.t 1))<|.o 11 (.load false 1 (.t 10))<|.o 12 (.bin .eql (.t 11) (.s 0 0))<|.o 13 (.mv (.t 12))<|.og 14 13 false (.faddr 1 (.t 1))<|.og 15 13 false (.load false 1 (.t 14))<|.og 16 13 false (.call (.f 50) [(.t 15),(.p 9223372036854775808 0)])<|.og 17 13 false (.faddr 1 (.t 1))<|.og 18 13 false (.load false 1 (.t 17))<|.og 19 13 false (.lenS (.t 18))<|.og 20 13 false (.bin .neq (.t 16) (.t 19))<|.o 21 (.pick (.t 13) (.b true) (.t 20))<|.o 22 (.mv (.t 21))<|.og 23 22 false (.faddr 1 (.t 1))<|.og 24 22 false (.load false 1 (.t 23))<|.og 25 22 false (.call (.f 30) [(.t 24)])<|.o 26 (.pick (.t 22) (.b true) (.t 25))<|.nil) [([],[]),([1],[]),([],[]),([],[]),([],[]),([1],[]),([],[]),([],[]),([1],[]),([],[]),([],[]),([],[]),([],[]),([],[]),([1],[]),([],[]),([],[])]) (.cond (.t 26) (.seq (.ops (.o 2 (.mv (.s 0 0))<|.o 3 (.mv (.p 9223372036854775808 3))<|.nil)) (.ret ⟨[],[2,3],[2,3],true⟩)) .skip)) (.seq (.ops (.o 27 (.faddr 1 (.t 1))<|.o 28 (.load false 1 (.t 27))<|.o 2 (.mv (.t 28))<|.o 3 (.mv (.p 9223372036854775808 0))<|.nil)) (.ret ⟨[],[2,3],[2,3],true⟩))) (.seq (.ops (.o 30 (.bin .eql (.t 7) (.p 256 2))<|.o 29 (.mv (.t 30))<|.nil)) (.cond (.t 29) (.seq (.seq (.ops (.o 31 (.faddr 1 (.t 1))<|.o 32 (.load false 1 (.t 31))<|.o 33 (.call (.f 30) [(.t 32)])<|.o 34 (.not (.t 33))<|.nil)) (.cond (.t 34) (.seq (.ops (.o 2 (.mv (.s 0 0))<|.o 3 (.mv (.p 9223372036854775808 3))<|.nil)) (.ret ⟨[],[2,3],[2,3],true⟩)) .skip)) (.seq (.ops (.o 35 (.faddr 1 (.t 1))<|.o 36 (.load false 1 (.t 35))<|.o 2 (.mv (.t 36))<|.o 3 (.mv (.p 9223372036854775808 0))<|.nil)) (.ret ⟨[],[2,3],[2,3],true⟩))) (.seq (.ops (.o 38 (.bin .eql (.t 7) (.p 256 3))<|.o 37 (.mv (.t 38))<|.nil)) (.cond (.t 37) (.seq (.seq (.drq (.o 39 (.faddr 1 (.t 1))<|.o 40 (.load false 1 (.t 39))<|.o 41 (.lenS (.t 40))<|.o 42 (.bin .lss (.t 41) (.p 9223372036854775808 2))<|.o 43 (.mv (.t 42))<|.og 44 43 false (.faddr 1 (.t 1))<|.og 45 43 false (.load false 1 (.t 44))<|.og 46 43 false (.idxS (.t 45) (.p 9223372036854775808 0))<|.og 47 43 false (.bin .neq (.t 46) (.p 256 36))<|.o 48 (.pick (.t 43) (.b true) (.t 47))<|.o 49 (.mv (.t 48))<|.og 50 49 false (.faddr 1 (.t 1))<|.og 51 49 false (.load false 1 (.t 50))<|.og 52 49 false (.call (.f 50) [(.t 51),(.p 9223372036854775808 1)])<|.og 53 49 false (.faddr 1 (.t 1))<|.og 54 49 false (.load false 1 (.t 53))<|.og 55 49 false (.lenS (.t 54))<|.og 56 49 false (.bin .neq (.t 52) (.t 55))<|.o 57 (.pick (.t 49) (.b true) (.t 56))<|.nil) [([],[]),([1],[]),([],[]),([],[]),([],[]),([],[]),([1],[]),([],[]),([],[]),([],[]),([],[]),([],[]),([1],[]),([],[]),([],[]),([1],[]),([],[]),([],[]),([],[])]) (.cond (.t 57) (.seq (.ops (.o 2 (.mv (.s 0 0))<|.o 3 (.mv (.p 9223372036854775808 3))<|.nil)) (.ret ⟨[],[2,3],[2,3],true⟩)) .skip)) (.seq (.ops (.o 58 (.faddr 1 (.t 1))<|.o 59 (.load false 1 (.t 58))<|.o 2 (.mv (.t 59))<|.o 3 (.mv (.p 9223372036854775808 0))<|.nil)) (.ret ⟨[],[2,3],[2,3],true⟩))) (.seq (.ops (.o 61 (.bin .eql (.t 7) (.p 256 4))<|.o 60 (.mv (.t 61))<|.nil)) (.cond (.t 60) (.seq (.ops (.o 62 (.faddr 2 (.t 1))<|.o 63 (.load true 2 (.t 62))<|.o 64 (.call (.f 63) [(.t 63)])<|.o 4 (.mv (.t 64))<|.nil)) (.seq (.seq (.ops (.o 65 (.mv (.t 4))<|.o 66 (.bin .neq (.t 65) (.p 9223372036854775808 0))<|.nil)) (.cond (.t 66) (.seq (.ops (.o 67 (.mv (.t 4))<|.o 2 (.mv (.s 0 0))<|.o 3 (.mv (.t 67))<|.nil)) (.ret ⟨[],[2,3],[2,3],true⟩)) .skip)) (.seq (.ops (.o 68 (.faddr 2 (.t 1))<|.o 69 (.load true 2 (.t 68))<|.o 70 (.call (.f 64) [(.t 69)])<|.o 5 (.mv (.t 70))<|.nil)) (.seq (.seq (.ops (.o 71 (.mv (.t 5))<|.o 72 (.bin .geq (.t 71) (.p 9223372036854775808 0))<|.nil)) (.cond (.t 72) (.seq (.ops (.o 73 (.mv (.t 5))<|.o 74 (.call (.f 65) [(.t 73)])<|.o 2 (.mv (.t 74))<|.o 3 (.mv (.p 9223372036854775808 0))<|.nil)) (.ret ⟨[],[2,3],[2,3],true⟩)) .skip)) (.seq (.ops (.o 75 (.faddr 2 (.t 1))<|.o 76 (.load true 2 (.t 75))<|.o 77 (.call (.f 66) [(.t 76),(.p 256 98)])<|.o 78 (.ext (.t 77) 0)<|.o 79 (.ext (.t 77) 1)<|.o 2 (.mv (.t 78))<|.o 3 (.mv (.t 79))<|.nil)) (.ret ⟨[],[2,3],[2,3],true⟩)))))) (.seq (.ops (.o 81 (.bin .eql (.t 7) (.p 256 5))<|.o 80 (.mv (.t 81))<|.nil)) (.cond (.t 80) (.seq (.ops (.o 82 (.faddr 1 (.t 1))<|.o 83 (.load false 1 (.t 82))<|.o 84 (.call (.f 67) [(.t 83)])<|.o 85 (.ext (.t 84) 0)<|.o 86 (.ext (.t 84) 1)<|.o 2 (.mv (.t 85))<|.o 3 (.mv (.t 86))<|.nil)) (.ret ⟨[],[2,3],[2,3],true⟩)) (.seq (.ops (.o 88 (.bin .eql (.t 7) (.p 256 6))<|.o 87 (.mv (.t 88))<|.nil)) (.cond (.t 87) (.seq (.seq (.drq (.o 89 (.call (.f 21) [])<|.o 90 (.faddr 1 (.t 1))<|.o 91 (.load false 1 (.t 90))<|.o 92 (.call (.f 57) [(.t 89),(.t 91)])<|.o 93 (.not (.t 92))<|.nil) [([],[]),([],[]),([1],[]),([],[]),([],[])]) (.cond (.t 93) (.seq (.ops (.o 2 (.mv (.s 0 0))<|.o 3 (.mv (.p 9223372036854775808 3))<|.nil)) (.ret ⟨[],[2,3],[2,3],true⟩)) .skip)) (.seq (.ops (.o 94 (.faddr 1 (.t 1))<|.o 95 (.load false 1 (.t 94))<|.o 2 (.mv (.t 95))<|.o 3 (.mv (.p 9223372036854775808 0))<|.nil)) (.ret ⟨[],[2,3],[2,3],true⟩))) .skip)))))))))))))) (.seq (.ops (.o 2 (.mv (.s 0 0))<|.o 3 (.mv (.p 9223372036854775808 11))<|.nil)) (.ret ⟨[],[2,3],[2,3],true⟩)))),[.tmp 2,.tmp 3],true⟩
def K_ref07_Join_b0 : KC := (.seq (.seq (.ops (.o 8 (.mv (.t 5))<|.o 9 (.mv (.t 0))<|.o 10 (.len (.t 9))<|.o 11 (.bin .lss (.t 8) (.t 10))<|.nil)) (.cond (.t 11) .skip (.exit ⟨[],[4],[],false⟩ 0))) (.seq (.block 1 (.seq (.ops (.o 15 (.mv (.t 0))<|.o 16 (.mv (.t 5))<|.o 17 (.iaddr 4 (.t 15) (.t 16))<|.o 18 (.load true 4 (.t 17))<|.o 19 (.call (.f 36) [(.t 18)])<|.o 14 (.mv (.t 19))<|.o 20 (.ext (.t 14) 0)<|.o 21 (.ext (.t 14) 1)<|.o 6 (.mv (.t 20))<|.o 7 (.mv (.t 21))<|.nil)) (.seq (.seq (.ops (.o 22 (.mv (.t 7))<|.o 23 (.bin .neq (.t 22) (.p 9223372036854775808 0))<|.nil)) (.cond (.t 23) (.seq (.ops (.o 24 (.mv (.t 7))<|.o 2 (.mv (.s 0 0))<|.o 3 (.mv (.t 24))<|.nil)) (.ret ⟨[],[2,3],[2,3],true⟩)) .skip)) (.seq (.seq (.ops (.o 25 (.mv (.t 5))<|.o 26 (.bin .gtr (.t 25) (.p 9223372036854775808 0))<|.nil)) (.cond (.t 26) (.ops (.o 27 (.mv (.t 4))<|.o 28 (.bin .add (.t 27) (.s 1 32))<|.o 4 (.mv (.t 28))<|.nil)) .skip)) (.ops (.o 29 (.mv (.t 4))<|.o 30 (.mv (.t 6))<|.o 31 (.bin .add (.t 29) (.t 30))<|.o 4 (.mv (.t 31))<|.nil)))))) (.ops (.o 12 (.mv (.t 5))<|.o 13 (.bin .add (.t 12) (.p 9223372036854775808 1))<|.o 5 (.mv (.t 13))<|.nil))))
@[reducible] def K_ref07_Join_h0 : Head := ⟨[], [0, 4, 5], [], true⟩
def K_ref07_Join : KF := ⟨36,(.seq (.ops (.o 2 (.mv (.s 0 0))<|.o 3 (.mv (.p 9223372036854775808 0))<|.nil)) (.seq (.ops (.o 4 (.mv (.s 0 0))<|.nil)) (.seq (.seq (.ops (.o 5 (.mv (.p 9223372036854775808 0))<|.nil)) (.block 0 (.loop K_ref07_Join_h0 K_ref07_Join_b0))) (.seq (.seq (.ops (.o 32 (.mv (.t 4))<|.o 33 (.lenS (.t 32))<|.o 34 (.bin .gtr (.t 33) (.p 9223372036854775808 65536))<|.nil)) (.cond (.t 34) (.seq (.ops (.o 2 (.mv (.s 0 0))<|.o 3 (.mv (.p 9223372036854775808 5))<|.nil)) (.ret ⟨[],[2,3],[2,3],true⟩)) .skip)) (.seq (.ops (.o 35 (.mv (.t 4))<|.o 2 (.mv (.t 35))<|.o 3 (.mv (.p 9223372036854775808 0))<|.nil)) (.ret ⟨[],[2,3],[2,3],true⟩)))))),[.tmp 2,.tmp 3],true⟩
def K_law07_longTokens_b0 : KC := (.seq (.seq (.ops (.o 8 (.mv (.t 4))<|.o 9 (.mv (.t 0))<|.o 10 (.len (.t 9))<|.o 11 (.bin .lss (.t 8) (.t 10))<|.nil)) (.cond (.t 11) .skip (.exit ⟨[],[3],[],false⟩ 0))) (.seq (.block 1 (.seq (.seq (.ops (.o 14 (.mv (.t 0))<|.o 15 (.mv (.t 4))<|.o 16 (.iaddr 4 (.t 14) (.t 15))<|.o 17 (.faddr 1 (.t 16))<|.o 18 (.load false 1 (.t 17))<|.o 19 (.lenS (.t 18))<|.o 20 (.bin .gtr (.t 19) (.p 9223372036854775808 1000))<|.o 21 (.mv (.t 20))<|.og 22 21 false (.mv (.t 0))<|.og 23 21 false (.mv (.t 4))<|.og 24 21 false (.iaddr 4 (.t 22) (.t 23))<|.og 25 21 false (.faddr 2 (.t 24))<|.og 26 21 false (.faddr 0 (.t 25))<|.og 27 21 false (.load false 1 (.t 26))<|.og 28 21 false (.len (.t 27))<|.og 29 21 false (.bin .gtr (.t 28) (.p 9223372036854775808 300))<|.o 30 (.pick (.t 21) (.b true) (.t 29))<|.nil)) (.cond (.t 30) (.seq (.ops (.o 2 (.mv (.b true))<|.nil)) (.ret ⟨[],[2],[2],true⟩)) .skip)) (.ops (.o 31 (.mv (.t 3))<|.o 32 (.mv (.t 0))<|.o 33 (.mv (.t 4))<|.o 34 (.iaddr 4 (.t 32) (.t 33))<|.o 35 (.faddr 1 (.t 34))<|.o 36 (.load false 1 (.t 35))<|.o 37 (.lenS (.t 36))<|.o 38 (.bin .add (.t 31) (.t 37))<|.o 3 (.mv (.t 38))<|.nil)))) (.ops (.o 12 (.mv (.t 4))<|.o 13 (.bin .add (.t 12) (.p 9223372036854775808 1))<|.o 4 (.mv (.t 13))<|.nil))))
@[reducible] def K_law07_longTokens_h0 : Head := ⟨[], [0, 3, 4], [], true⟩
def K_law07_longTokens : KF := ⟨41,(.seq (.ops (.o 2 (.mv (.b false))<|.nil)) (.seq (.seq (.ops (.o 5 (.mv (.t 0))<|.o 6 (.len (.t 5))<|.o 7 (.bin .gtr (.t 6) (.p 9223372036854775808 100))<|.nil)) (.cond (.t 7) (.seq (.ops (.o 2 (.mv (.b true))<|.nil)) (.ret ⟨[],[2],[2],true⟩)) .skip)) (.seq (.ops (.o 3 (.mv (.p 9223372036854775808 0))<|.nil)) (.seq (.seq (.ops (.o 4 (.mv (.p 9223372036854775808 0))<|.nil)) (.block 0 (.loop K_law07_longTokens_h0 K_law07_longTokens_b0))) (.seq (.ops (.o 39 (.mv (.t 3))<|.o 40 (.bin .gtr (.t 39) (.p 9223372036854775808 3000))<|.o 2 (.mv (.t 40))<|.nil)) (.ret ⟨[],[2],[2],true⟩)))))),[.tmp 2],true⟩
def K_law07_TokenFormatMatches_b0 : KC := (.seq (.seq (.ops (.o 38 (.mv (.t 8))<|.o 39 (.mv (.t 0))<|.o 40 (.len (.t 39))<|.o 41 (.bin .lss (.t 38) (.t 40))<|.nil)) (.cond (.t 41) .skip (.exit ⟨[],[],[],false⟩ 0))) (.seq (.block 1 (.seq (.ops (.o 45 (.mv (.t 3))<|.o 46 (.mv (.t 8))<|.o 47 (.iaddr 4 (.t 45) (.t 46))<|.o 48 (.load true 4 (.t 47))<|.o 49 (.call (.f 35) [(.t 48)])<|.o 44 (.mv (.t 49))<|.o 50 (.ext (.t 44) 0)<|.o 51 (.ext (.t 44) 1)<|.o 9 (.mv (.t 50))<|.o 10 (.mv (.t 51))<|.nil)) (.seq (.ops (.o 53 (.mv (.t 0))<|.o 54 (.mv (.t 8))<|.o 55 (.iaddr 4 (.t 53) (.t 54))<|.o 56 (.load true 4 (.t 55))<|.o 57 (.call (.f 36) [(.t 56)])<|.o 52 (.mv (.t 57))<|.o 58 (.ext (.t 52) 0)<|.o 59 (.ext (.t 52) 1)<|.o 11 (.mv (.t 58))<|.o 12 (.mv (.t 59))<|.nil)) (.seq (.drq (.o 60 (.mv (.t 9))<|.o 61 (.mv (.t 11))<|.o 62 (.bin .neq (.t 60) (.t 61))<|.o 63 (.mv (.t 62))<|.og 64 63 false (.mv (.t 10))<|.og 65 63 false (.mv (.t 12))<|.og 66 63 false (.bin .neq (.t 64) (.t 65))<|.o 67 (.pick (.t 63) (.b true) (.t 66))<|.o 68 (.mv (.t 67))<|.og 69 68 false (.mv (.t 3))<|.og 70 68 false (.mv (.t 8))<|.og 71 68 false (.iaddr 4 (.t 69) (.t 70))<|.og 72 68 false (.faddr 2 (.t 71))<|.og 73 68 false (.load true 2 (.t 72))<|.og 74 68 false (.mv (.t 0))<|.og 75 68 false (.mv (.t 8))<|.og 76 68 false (.iaddr 4 (.t 74) (.t 75))<|.og 77 68 false (.faddr 2 (.t 76))<|.og 78 68 false (.load true 2 (.t 77))<|.og 79 68 false (.call (.f 37) [(.t 73),(.t 78)])<|.og 80 68 false (.not (.t 79))<|.o 81 (.pick (.t 68) (.b true) (.t 80))<|.nil) [([],[]),([],[]),([],[]),([],[]),([],[]),([],[]),([],[]),([],[]),([],[]),([],[]),([],[]),([],[]),([],[]),([],[]),([],[]),([],[]),([],[]),([],[]),([],[]),([],[]),([],[]),([],[])]) (.cond (.t 81) (.seq (.ops (.o 2 (.mv (.b false))<|.nil)) (.ret ⟨[],[2],[2],true⟩)) .skip))))) (.ops (.o 42 (.mv (.t 8))<|.o 43 (.bin .add (.t 42) (.p 9223372036854775808 1))<|.o 8 (.mv (.t 43))<|.nil))))
@[reducible] def K_law07_TokenFormatMatches_h0 : Head := ⟨[15000, 15001, 15002, 15003, 16000, 16001, 16002, 16003, 18000, 18001, 18002, 18003, 21000, 21001, 21002, 21003, 26000, 26001, 26002, 26003, 27000, 27001, 27002, 27003, 28000, 28001, 28002, 28003, 83000, 83001, 83002, 83003], [0, 3, 8], [], true⟩
def K_law07_TokenFormatMatches : KF := ⟨83,(.seq (.ops (.o 2 (.mv (.b false))<|.nil)) (.seq (.seq (.ops (.o 13 (.mv (.t 0))<|.o 14 (.call (.f 31) [(.t 13)])<|.nil)) (.cond (.t 14) (.seq (.ops (.o 15 (.call (.f 13) [])<|.o 2 (.mv (.t 15))<|.nil)) (.ret ⟨[],[2],[2],true⟩)) .skip)) (.seq (.ops (.o 16 (.mv (.t 0))<|.o 17 (.call (.f 32) [(.t 16)])<|.o 3 (.mv (.t 17))<|.nil)) (.seq (.ops (.o 19 (.mv (.t 3))<|.o 20 (.call (.f 33) [(.t 19)])<|.o 18 (.mv (.t 20))<|.o 21 (.ext (.t 18) 0)<|.o 22 (.ext (.t 18) 1)<|.o 4 (.mv (.t 21))<|.o 5 (.mv (.t 22))<|.nil)) (.seq (.ops (.o 24 (.mv (.t 0))<|.o 25 (.call (.f 32) [(.t 24)])<|.o 26 (.call (.f 19) [(.t 25)])<|.o 27 (.call (.f 34) [(.t 26)])<|.o 23 (.mv (.t 27))<|.o 28 (.ext (.t 23) 0)<|.o 29 (.ext (.t 23) 1)<|.o 6 (.mv (.t 28))<|.o 7 (.mv (.t 29))<|.nil)) (.seq (.seq (.ops (.o 30 (.mv (.t 4))<|.o 31 (.mv (.t 6))<|.o 32 (.bin .neq (.t 30) (.t 31))<|.o 33 (.mv (.t 32))<|.og 34 33 false (.mv (.t 5))<|.og 35 33 false (.mv (.t 7))<|.og 36 33 false (.bin .neq (.t 34) (.t 35))<|.o 37 (.pick (.t 33) (.b true) (.t 36))<|.nil)) (.cond (.t 37) (.seq (.ops (.o 2 (.mv (.b false))<|.nil)) (.ret ⟨[],[2],[2],true⟩)) .skip)) (.seq (.seq (.ops (.o 8 (.mv (.p 9223372036854775808 0))<|.nil)) (.block 0 (.loop K_law07_TokenFormatMatches_h0 K_law07_TokenFormatMatches_b0))) (.seq (.ops (.o 82 (.call (.f 13) [])<|.o 2 (.mv (.t 82))<|.nil)) (.ret ⟨[],[2],[2],true⟩))))))))),[.tmp 2],true⟩
def an_70 : List (Nat × Head) := [(3000005, ⟨[], [], [], true⟩), (3000002, ⟨[], [4, 5], [4, 5], true⟩)]
def an_21 : List (Nat × Head) := [(3000005, ⟨[], [], [], true⟩), (3000002, ⟨[], [0], [0], true⟩)]
def an_51 : List (Nat × Head) := [(3000005, ⟨[], [], [], true⟩), (3000002, ⟨[], [6], [6], true⟩)]
def an_50 : List (Nat × Head) := [(1, ⟨[], [1], [], false⟩), (9, K_ref07_name_h0), (3000005, ⟨[], [], [], true⟩), (3000002, ⟨[], [4], [4], true⟩)]
def an_80 : List (Nat × Head) := [(3000005, ⟨[], [], [], true⟩), (3000002, ⟨[], [2], [2], true⟩)]
def an_48 : List (Nat × Head) := [(3000005, ⟨[], [], [], true⟩), (3000002, ⟨[], [2], [2], true⟩)]
def an_30 : List (Nat × Head) := [(3000005, ⟨[], [], [], true⟩), (3000002, ⟨[], [2], [2], true⟩)]
def an_57 : List (Nat × Head) := [(1, ⟨[], [], [], false⟩), (6, K_ref07_in_h0), (3000005, ⟨[], [], [], true⟩), (3000002, ⟨[], [4], [4], true⟩)]
def an_38 : List (Nat × Head) := [(3000005, ⟨[], [], [], true⟩), (3000002, ⟨[], [0], [0], true⟩)]
def an_77 : List (Nat × Head) := [(3000005, ⟨[], [], [], true⟩), (3000002, ⟨[], [2], [2], true⟩)]
def an_100 : List (Nat × Head) := [(1, ⟨[], [6], [], false⟩), (15, K_ref03_FromInt_h0), (3000005, ⟨[], [], [], true⟩), (3000002, ⟨[], [4, 5], [4, 5], true⟩)]
def an_134 : List (Nat × Head) := [(1, ⟨[], [5], [], false⟩), (9, K_ref03_Fit_h0), (3000005, ⟨[], [], [], true⟩), (3000002, ⟨[], [4], [4], true⟩)]
def an_161 : List (Nat × Head) := [(3000005, ⟨[], [], [], true⟩), (3000002, ⟨[], [4], [4], true⟩)]
def an_59 : List (Nat × Head) := [(3000005, ⟨[], [], [], true⟩), (3000002, ⟨[], [4], [4], true⟩)]
def an_61 : List (Nat × Head) := [(1, ⟨[], [4], [], false⟩), (12, K_token_quote_h0), (3000005, ⟨[], [], [], true⟩), (3000002, ⟨[], [2, 3], [2, 3], true⟩)]
def an_33 : List (Nat × Head) := [(1, ⟨[], [4], [], false⟩), (9, K_token_Join_h0), (3000005, ⟨[], [], [], true⟩), (3000002, ⟨[], [2, 3], [2, 3], true⟩)]
def an_153 : List (Nat × Head) := [(1, ⟨[], [0, 3, 4], [], false⟩), (12, K_literal_group_h0), (3000005, ⟨[], [], [], true⟩), (3000002, ⟨[], [2], [2], true⟩)]
def an_120 : List (Nat × Head) := [(4, ⟨[], [10], [], false⟩), (36, K_literal_Digits_h0), (3000005, ⟨[], [], [], true⟩), (3000002, ⟨[], [4, 5], [4, 5], true⟩)]
def an_96 : List (Nat × Head) := [(3000005, ⟨[], [], [], true⟩), (3000002, ⟨[], [4, 5], [4, 5], true⟩)]
def an_63 : List (Nat × Head) := [(1, ⟨[], [], [], false⟩), (18, K_ref04_Check_h0), (3000005, ⟨[], [], [], true⟩), (3000002, ⟨[], [2], [2], true⟩)]
def an_125 : List (Nat × Head) := [(1, ⟨[], [0, 3, 4, 5], [], false⟩), (9, K_ref05_group_h0), (3000005, ⟨[], [], [], true⟩), (3000002, ⟨[], [2], [2], true⟩)]
def an_99 : List (Nat × Head) := [(1, ⟨[], [9], [], false⟩), (48, K_ref05_Digits_h0), (3000005, ⟨[], [], [], true⟩), (3000002, ⟨[], [4, 5], [4, 5], true⟩)]
def an_66 : List (Nat × Head) := [(1, ⟨[], [1, 2, 6], [], false⟩), (15, K_ref05_Format_h0), (3000005, ⟨[], [], [], true⟩), (3000002, ⟨[], [4, 5], [4, 5], true⟩)]
def an_101 : List (Nat × Head) := [(6, K_ref05_Decimal_h0), (3000005, ⟨[], [], [], true⟩), (3000002, ⟨[], [2], [2], true⟩)]
def an_128 : List (Nat × Head) := [(3000005, ⟨[], [], [], true⟩), (3000002, ⟨[], [4, 5, 6], [4, 5, 6], true⟩)]
def an_130 : List (Nat × Head) := [(1, ⟨[], [0, 3], [], false⟩), (6, K_ref03_Trim_h0), (3000005, ⟨[], [], [], true⟩), (3000002, ⟨[], [2], [2], true⟩)]
def an_160 : List (Nat × Head) := [(1, ⟨[], [6, 7], [], false⟩), (12, K_ref03_divide_h0), (3000005, ⟨[], [], [], true⟩), (3000002, ⟨[], [4, 5], [4, 5], true⟩)]
def an_181 : List (Nat × Head) := [(3000005, ⟨[], [], [], true⟩), (3000002, ⟨[], [4], [4], true⟩)]
def an_197 : List (Nat × Head) := [(1, ⟨[], [], [], false⟩), (29, ⟨[0, 0, 0, 0, 0, 0, 0, 0, 0, 0, 0, 0, 0, 0, 0, 0, 0, 0], [], [], false⟩), (21, K_ref03_Cmp_h0), (3000005, ⟨[], [], [], true⟩), (3000002, ⟨[], [4], [4], true⟩)]
def an_158 : List (Nat × Head) := [(1, ⟨[], [5], [], false⟩), (12, K_ref03_minus_h0), (3000005, ⟨[], [], [], true⟩), (3000002, ⟨[], [4], [4], true⟩)]
def an_129 : List (Nat × Head) := [(1, ⟨[], [0, 4], [], false⟩), (12, K_ref03_Uint_h0), (3000005, ⟨[], [], [], true⟩), (3000002, ⟨[], [2, 3], [2, 3], true⟩)]
def an_64 : List (Nat × Head) := [(1, ⟨[], [3], [], false⟩), (15, K_ref07_plain_h0), (3000005, ⟨[], [], [], true⟩), (3000002, ⟨[], [2], [2], true⟩)]
def an_65 : List (Nat × Head) := [(1, ⟨[], [3], [], false⟩), (6, K_ref07_Decimal_h0), (3000005, ⟨[], [], [], true⟩), (3000002, ⟨[], [2], [2], true⟩)]
def an_67 : List (Nat × Head) := [(1, ⟨[], [4], [], false⟩), (9, K_ref07_quote_h0), (3000005, ⟨[], [], [], true⟩), (3000002, ⟨[], [2, 3], [2, 3], true⟩)]
def an_36 : List (Nat × Head) := [(11, ⟨[0, 0, 1, 1, 0, 0, 0, 0, 0, 0, 0, 1, 1, 0, 0, 0, 0, 0, 1, 1, 0, 0, 0, 0, 0, 0, 0, 0, 0, 0, 0, 1, 1, 0, 0, 0, 0, 0], [], [], false⟩), (35, ⟨[0, 0, 1, 1, 0, 0, 0, 0, 0, 0, 0, 0, 0, 1, 1, 0, 0, 0, 0, 0, 0, 0, 0, 0, 0, 0, 1, 1, 0, 0, 0, 0, 0, 1, 1, 0, 0, 0, 0, 0, 0, 0], [], [], false⟩), (77, ⟨[0, 0, 0, 0, 1, 1, 0, 0, 0, 0, 0], [], [], false⟩), (3000005, ⟨[], [], [], true⟩), (3000002, ⟨[], [2, 3], [2, 3], true⟩)]
def an_34 : List (Nat × Head) := [(1, ⟨[], [4], [], false⟩), (9, K_ref07_Join_h0), (3000005, ⟨[], [], [], true⟩), (3000002, ⟨[], [2, 3], [2, 3], true⟩)]
def an_31 : List (Nat × Head) := [(1, ⟨[], [3], [], false⟩), (15, K_law07_longTokens_h0), (3000005, ⟨[], [], [], true⟩), (3000002, ⟨[], [2], [2], true⟩)]
def an_8 : List (Nat × Head) := [(1, ⟨[], [], [], false⟩), (41, ⟨[0, 0, 0, 0, 0, 0, 0, 0, 0, 0, 0, 0, 0, 0, 0, 0, 0, 0, 0, 0, 0, 0, 0, 0, 0, 0, 0, 0, 0, 0, 0, 0, 0, 0, 0, 0, 0, 0, 0, 0, 0, 0, 0, 0], [], [], false⟩), (27, K_law07_TokenFormatMatches_h0), (3000005, ⟨[], [], [], true⟩), (3000002, ⟨[], [2], [2], true⟩)]
inductive AT where
 | leaf
 | node (f : Nat) (a : List (Nat × Head)) (l r : AT)
noncomputable def AT.get (b : AT) (x : Nat) : List (Nat × Head) := @AT.rec (fun _ => List (Nat × Head)) [] (fun f a _ _ ihl ihr => cond (Nat.beq x f) a (cond (Nat.blt x f) ihl ihr)) b
def anT : AT := (.node 70 an_70 (.node 48 an_48 (.node 31 an_31 (.node 21 an_21 (.node 18 an_18 (.node 8 an_8 .leaf .leaf) (.node 19 an_19 .leaf .leaf)) (.node 29 an_29 (.node 22 an_22 .leaf .leaf) (.node 30 an_30 .leaf .leaf))) (.node 35 an_35 (.node 33 an_33 (.node 32 an_32 .leaf .leaf) (.node 34 an_34 .leaf .leaf)) (.node 37 an_37 (.node 36 an_36 .leaf .leaf) (.node 38 an_38 .leaf .leaf)))) (.node 61 an_61 (.node 55 an_55 (.node 51 an_51 (.node 50 an_50 .leaf .leaf) (.node 52 an_52 .leaf .leaf)) (.node 59 an_59 (.node 57 an_57 .leaf .leaf) (.node 60 an_60 .leaf .leaf))) (.node 65 an_65 (.node 63 an_63 (.node 62 an_62 .leaf .leaf) (.node 64 an_64 .leaf .leaf)) (.node 67 an_67 (.node 66 an_66 .leaf .leaf) .leaf)))) (.node 118 an_118 (.node 94 an_94 (.node 83 an_83 (.node 77 an_77 (.node 72 an_72 .leaf .leaf) (.node 80 an_80 .leaf .leaf)) (.node 92 an_92 (.node 86 an_86 .leaf .leaf) (.node 93 an_93 .leaf .leaf))) (.node 99 an_99 (.node 97 an_97 (.node 96 an_96 .leaf .leaf) (.node 98 an_98 .leaf .leaf)) (.node 101 an_101 (.node 100 an_100 .leaf .leaf) (.node 104 an_104 .leaf .leaf)))) (.node 151 an_151 (.node 129 an_129 (.node 125 an_125 (.node 120 an_120 .leaf .leaf) (.node 128 an_128 .leaf .leaf)) (.node 134 an_134 (.node 130 an_130 .leaf .leaf) (.node 142 an_142 .leaf .leaf))) (.node 161 an_161 (.node 158 an_158 (.node 153 an_153 .leaf .leaf) (.node 160 an_160 .leaf .leaf)) (.node 197 an_197 (.node 181 an_181 .leaf .leaf) .leaf)))))
noncomputable def an (f r : Nat) : Head := ((anT.get f).lookup r).getD ⟨[], [], [], false⟩
abbrev f_law07_TokenFormatMatches : FuncId := 8
abbrev f_law07_awake : FuncId := 13
abbrev f_ref07_Same : FuncId := 18
abbrev f_law07_asRef : FuncId := 19
abbrev f_ref07_Puncts : FuncId := 21
abbrev f_strings_HasPrefix : FuncId := 22
abbrev f_token_IsKeyword : FuncId := 29
abbrev f_ref07_IsKeyword : FuncId := 30
abbrev f_law07_longTokens : FuncId := 31
abbrev f_law07_given : FuncId := 32
abbrev f_token_Join : FuncId := 33
abbrev f_ref07_Join : FuncId := 34
abbrev f_token_Format : FuncId := 35
abbrev f_ref07_Format : FuncId := 36
abbrev f_ref04_Same : FuncId := 37
abbrev f_ref07_Keywords : FuncId := 38
abbrev f_ref07_digit : FuncId := 48
abbrev f_ref07_name : FuncId := 50
abbrev f_ref07_fits : FuncId := 51
abbrev f_token_skip : FuncId := 52
abbrev f_i_stringslite_HasPrefix : FuncId := 55
abbrev f_ref07_in : FuncId := 57
abbrev f_strings_Join : FuncId := 58
abbrev f_token_whole : FuncId := 59
abbrev f_token_number : FuncId := 60
abbrev f_token_quote : FuncId := 61
abbrev f_token_isPunct : FuncId := 62
abbrev f_ref04_Check : FuncId := 63
abbrev f_ref07_plain : FuncId := 64
abbrev f_ref07_Decimal : FuncId := 65
abbrev f_ref05_Format : FuncId := 66
abbrev f_ref07_quote : FuncId := 67
abbrev f_Builder_WriteString : FuncId := 70
abbrev f_Builder_String : FuncId := 72
abbrev f_ref05_size : FuncId := 77
abbrev f_ref07_letter : FuncId := 80
abbrev f_strings_IndexByte : FuncId := 81
abbrev f_strings_Index : FuncId := 82
abbrev f_token_letter : FuncId := 83
abbrev f_token_digit : FuncId := 86
abbrev f_token_nameEnd : FuncId := 92
abbrev f_vec_Check : FuncId := 93
abbrev f_token_decimal : FuncId := 94
abbrev f_strconv_FormatInt : FuncId := 95
abbrev f_literal_Format : FuncId := 96
abbrev f_Builder_WriteByte : FuncId := 97
abbrev f_strings_Contains : FuncId := 98
abbrev f_ref05_Digits : FuncId := 99
abbrev f_ref03_FromInt : FuncId := 100
abbrev f_ref05_Decimal : FuncId := 101
abbrev f_Builder_copyCheck : FuncId := 104
abbrev f_bit_Valid : FuncId := 118
abbrev f_literal_Digits : FuncId := 120
abbrev f_strings_ContainsAny : FuncId := 121
abbrev f_strconv_Itoa : FuncId := 122
abbrev f_ref04_Bools : FuncId := 123
abbrev f_ref04_Known : FuncId := 124
abbrev f_ref05_group : FuncId := 125
abbrev f_ref03_Negative : FuncId := 126
abbrev f_ref03_Size : FuncId := 127
abbrev f_ref03_DivMod : FuncId := 128
abbrev f_ref03_Uint : FuncId := 129
abbrev f_ref03_Trim : FuncId := 130
abbrev f_ref03_Fit : FuncId := 134
abbrev f_literal_word : FuncId := 142
abbrev f_literal_baseOf : FuncId := 151
abbrev f_literal_decimal : FuncId := 152
abbrev f_literal_group : FuncId := 153
abbrev f_ref03_minus : FuncId := 158
abbrev f_ref03_divide : FuncId := 160
abbrev f_ref03_At : FuncId := 161
abbrev f_ref03_less : FuncId := 181
abbrev f_ref03_Cmp : FuncId := 197
abbrev y_int : TypeId := 3
abbrev y_bool : TypeId := 4
abbrev y_uint8 : TypeId := 5
abbrev y_string : TypeId := 9
abbrev y_api_Vec : TypeId := 26
abbrev y_ref07_Token : TypeId := 28
abbrev y_token_Token : TypeId := 35
abbrev y_Builder : TypeId := 99
abbrev y_literal_base : TypeId := 164
abbrev y_4_int : TypeId := 183
@[simp] theorem yl_Builder : (y_Builder < 1000000) = True := eq_true (by decide)
def omT : FuncId → List Nat := fun g => bif Nat.beq g 1000000000 then [5] else []
@[simp] theorem om_sh : omT 1000000002 = [] := rfl
@[simp] theorem om_law07_TokenFormatMatches : omT 8 = [] := rfl
@[simp] theorem om_law07_awake : omT 13 = [] := rfl
@[simp] theorem om_ref07_Same : omT 18 = [] := rfl
@[simp] theorem om_law07_asRef : omT 19 = [] := rfl
@[simp] theorem om_ref07_Puncts : omT 21 = [] := rfl
@[simp] theorem om_strings_HasPrefix : omT 22 = [] := rfl
@[simp] theorem om_token_IsKeyword : omT 29 = [] := rfl
@[simp] theorem om_ref07_IsKeyword : omT 30 = [] := rfl
@[simp] theorem om_law07_longTokens : omT 31 = [] := rfl
@[simp] theorem om_law07_given : omT 32 = [] := rfl
@[simp] theorem om_token_Join : omT 33 = [] := rfl
@[simp] theorem om_ref07_Join : omT 34 = [] := rfl
@[simp] theorem om_token_Format : omT 35 = [] := rfl
@[simp] theorem om_ref07_Format : omT 36 = [] := rfl
@[simp] theorem om_ref04_Same : omT 37 = [] := rfl
@[simp] theorem om_ref07_Keywords : omT 38 = [] := rfl
@[simp] theorem om_ref07_digit : omT 48 = [] := rfl
@[simp] theorem om_ref07_name : omT 50 = [] := rfl
@[simp] theorem om_ref07_fits : omT 51 = [] := rfl
@[simp] theorem om_token_skip : omT 52 = [] := rfl
@[simp] theorem om_i_stringslite_HasPrefix : omT 55 = [] := rfl
@[simp] theorem om_ref07_in : omT 57 = [] := rfl
@[simp] theorem om_strings_Join : omT 58 = [] := rfl
@[simp] theorem om_token_whole : omT 59 = [] := rfl
@[simp] theorem om_token_number : omT 60 = [] := rfl
@[simp] theorem om_token_quote : omT 61 = [] := rfl
@[simp] theorem om_token_isPunct : omT 62 = [] := rfl
@[simp] theorem om_ref04_Check : omT 63 = [] := rfl
@[simp] theorem om_ref07_plain : omT 64 = [] := rfl
@[simp] theorem om_ref07_Decimal : omT 65 = [] := rfl
@[simp] theorem om_ref05_Format : omT 66 = [] := rfl
@[simp] theorem om_ref07_quote : omT 67 = [] := rfl
@[simp] theorem om_Builder_WriteString : omT 70 = [] := rfl
@[simp] theorem om_Builder_String : omT 72 = [] := rfl
@[simp] theorem om_ref05_size : omT 77 = [] := rfl
@[simp] theorem om_ref07_letter : omT 80 = [] := rfl
@[simp] theorem om_strings_IndexByte : omT 81 = [] := rfl
@[simp] theorem om_strings_Index : omT 82 = [] := rfl
@[simp] theorem om_token_letter : omT 83 = [] := rfl
@[simp] theorem om_token_digit : omT 86 = [] := rfl
@[simp] theorem om_token_nameEnd : omT 92 = [] := rfl
@[simp] theorem om_vec_Check : omT 93 = [] := rfl
@[simp] theorem om_token_decimal : omT 94 = [] := rfl
@[simp] theorem om_strconv_FormatInt : omT 95 = [] := rfl
@[simp] theorem om_literal_Format : omT 96 = [] := rfl
@[simp] theorem om_Builder_WriteByte : omT 97 = [] := rfl
@[simp] theorem om_strings_Contains : omT 98 = [] := rfl
@[simp] theorem om_ref05_Digits : omT 99 = [] := rfl
@[simp] theorem om_ref03_FromInt : omT 100 = [] := rfl
@[simp] theorem om_ref05_Decimal : omT 101 = [] := rfl
@[simp] theorem om_Builder_copyCheck : omT 104 = [] := rfl
@[simp] theorem om_bit_Valid : omT 118 = [] := rfl
@[simp] theorem om_literal_Digits : omT 120 = [] := rfl
@[simp] theorem om_strings_ContainsAny : omT 121 = [] := rfl
@[simp] theorem om_strconv_Itoa : omT 122 = [] := rfl
@[simp] theorem om_ref04_Bools : omT 123 = [] := rfl
@[simp] theorem om_ref04_Known : omT 124 = [] := rfl
@[simp] theorem om_ref05_group : omT 125 = [] := rfl
@[simp] theorem om_ref03_Negative : omT 126 = [] := rfl
@[simp] theorem om_ref03_Size : omT 127 = [] := rfl
@[simp] theorem om_ref03_DivMod : omT 128 = [] := rfl
@[simp] theorem om_ref03_Uint : omT 129 = [] := rfl
@[simp] theorem om_ref03_Trim : omT 130 = [] := rfl
@[simp] theorem om_ref03_Fit : omT 134 = [] := rfl
@[simp] theorem om_literal_word : omT 142 = [] := rfl
@[simp] theorem om_literal_baseOf : omT 151 = [] := rfl
@[simp] theorem om_literal_decimal : omT 152 = [] := rfl
@[simp] theorem om_literal_group : omT 153 = [] := rfl
@[simp] theorem om_ref03_minus : omT 158 = [] := rfl
@[simp] theorem om_ref03_divide : omT 160 = [] := rfl
@[simp] theorem om_ref03_At : omT 161 = [] := rfl
@[simp] theorem om_ref03_less : omT 181 = [] := rfl
@[simp] theorem om_ref03_Cmp : omT 197 = [] := rfl
@[simp] theorem low_4 (L : Nat) (d : Option Nat) : lowP omT L d 4 = (L, d) := rfl
@[simp] theorem low1_5 (d : Option Nat) : lowP omT 1 d 5 = (1, d) := rfl
@[simp] theorem low2_5 (d : Option Nat) : lowP omT 2 d 5 = (1, some 7000) := rfl
@[simp] theorem low3_5 (d : Option Nat) : lowP omT 3 d 5 = (1, some 7000) := rfl
@[simp] theorem low_28 (L : Nat) (d : Option Nat) : lowP omT L d 28 = (L, d) := rfl
@[simp] theorem low_35 (L : Nat) (d : Option Nat) : lowP omT L d 35 = (L, d) := rfl
def XAw : List T → Option T
 | [] => some (.sc (.bool true))
 | _ => none
def XR (f : FuncId) : Option (List T → Option T) := if f = 13 then some XAw else if f = 81 then some XIB else if f = 82 then some XIX else if f = 95 then some XF2 else if f = 122 then some XIT else if f = 58 then some XJN else if f = 121 then some XCA else none
noncomputable def E : Env := { P := Tryz.prog, om := omT, an := an, X := XR }
@[simp] theorem E_om (f : FuncId) : E.om f = omT f := rfl
@[simp] theorem E_low (L : Nat) (d : Option Nat) (e : TypeId) : lowP E.om L d e = lowP omT L d e := rfl
@[simp] theorem bs_0_0 : bytesN 0 0 = [] := rfl
@[simp] theorem bs_1_32 : bytesN 1 32 = [32] := rfl
@[simp] theorem bs_1_33 : bytesN 1 33 = [33] := rfl
@[simp] theorem bs_1_35 : bytesN 1 35 = [35] := rfl
@[simp] theorem bs_1_36 : bytesN 1 36 = [36] := rfl
@[simp] theorem bs_1_37 : bytesN 1 37 = [37] := rfl
@[simp] theorem bs_1_38 : bytesN 1 38 = [38] := rfl
@[simp] theorem bs_1_39 : bytesN 1 39 = [39] := rfl
@[simp] theorem bs_1_40 : bytesN 1 40 = [40] := rfl
@[simp] theorem bs_1_41 : bytesN 1 41 = [41] := rfl
@[simp] theorem bs_1_42 : bytesN 1 42 = [42] := rfl
@[simp] theorem bs_1_43 : bytesN 1 43 = [43] := rfl
@[simp] theorem bs_1_44 : bytesN 1 44 = [44] := rfl
@[simp] theorem bs_1_45 : bytesN 1 45 = [45] := rfl
@[simp] theorem bs_1_46 : bytesN 1 46 = [46] := rfl
@[simp] theorem bs_1_47 : bytesN 1 47 = [47] := rfl
@[simp] theorem bs_1_58 : bytesN 1 58 = [58] := rfl
@[simp] theorem bs_1_59 : bytesN 1 59 = [59] := rfl
@[simp] theorem bs_1_60 : bytesN 1 60 = [60] := rfl
@[simp] theorem bs_1_61 : bytesN 1 61 = [61] := rfl
@[simp] theorem bs_1_62 : bytesN 1 62 = [62] := rfl
@[simp] theorem bs_1_63 : bytesN 1 63 = [63] := rfl
@[simp] theorem bs_1_64 : bytesN 1 64 = [64] := rfl
@[simp] theorem bs_1_91 : bytesN 1 91 = [91] := rfl
@[simp] theorem bs_1_93 : bytesN 1 93 = [93] := rfl
@[simp] theorem bs_1_94 : bytesN 1 94 = [94] := rfl
@[simp] theorem bs_1_115 : bytesN 1 115 = [115] := rfl
@[simp] theorem bs_1_123 : bytesN 1 123 = [123] := rfl
@[simp] theorem bs_1_124 : bytesN 1 124 = [124] := rfl
@[simp] theorem bs_1_125 : bytesN 1 125 = [125] := rfl
@[simp] theorem bs_1_126 : bytesN 1 126 = [126] := rfl
@[simp] theorem bs_2_9766 : bytesN 2 9766 = [38, 38] := rfl
@[simp] theorem bs_2_9854 : bytesN 2 9854 = [126, 38] := rfl
@[simp] theorem bs_2_10794 : bytesN 2 10794 = [42, 42] := rfl
@[simp] theorem bs_2_10799 : bytesN 2 10799 = [47, 42] := rfl
@[simp] theorem bs_2_12074 : bytesN 2 12074 = [42, 47] := rfl
@[simp] theorem bs_2_12079 : bytesN 2 12079 = [47, 47] := rfl
@[simp] theorem bs_2_14891 : bytesN 2 14891 = [43, 58] := rfl
@[simp] theorem bs_2_15420 : bytesN 2 15420 = [60, 60] := rfl
@[simp] theorem bs_2_15649 : bytesN 2 15649 = [33, 61] := rfl
@[simp] theorem bs_2_15676 : bytesN 2 15676 = [60, 61] := rfl
@[simp] theorem bs_2_15677 : bytesN 2 15677 = [61, 61] := rfl
@[simp] theorem bs_2_15678 : bytesN 2 15678 = [62, 61] := rfl
@[simp] theorem bs_2_15934 : bytesN 2 15934 = [62, 62] := rfl
@[simp] theorem bs_2_24190 : bytesN 2 24190 = [126, 94] := rfl
@[simp] theorem bs_2_26217 : bytesN 2 26217 = [105, 102] := rfl
@[simp] theorem bs_2_28252 : bytesN 2 28252 = [92, 110] := rfl
@[simp] theorem bs_2_29295 : bytesN 2 29295 = [111, 114] := rfl
@[simp] theorem bs_2_29788 : bytesN 2 29788 = [92, 116] := rfl
@[simp] theorem bs_2_31868 : bytesN 2 31868 = [124, 124] := rfl
@[simp] theorem bs_2_31870 : bytesN 2 31870 = [126, 124] := rfl
@[simp] theorem bs_3_2972248 : bytesN 3 2972248 = [88, 90, 45] := rfl
@[simp] theorem bs_3_3947580 : bytesN 3 3947580 = [60, 60, 60] := rfl
@[simp] theorem bs_3_4013345 : bytesN 3 4013345 = [33, 61, 61] := rfl
@[simp] theorem bs_3_4013373 : bytesN 3 4013373 = [61, 61, 61] := rfl
@[simp] theorem bs_3_4079166 : bytesN 3 4079166 = [62, 62, 62] := rfl
@[simp] theorem bs_3_6581857 : bytesN 3 6581857 = [97, 110, 100] := rfl
@[simp] theorem bs_3_6581861 : bytesN 3 6581861 = [101, 110, 100] := rfl
@[simp] theorem bs_3_6714722 : bytesN 3 6714722 = [98, 117, 102] := rfl
@[simp] theorem bs_3_6776178 : bytesN 3 6776178 = [114, 101, 103] := rfl
@[simp] theorem bs_3_7499622 : bytesN 3 7499622 = [102, 111, 114] := rfl
@[simp] theorem bs_3_7499630 : bytesN 3 7499630 = [110, 111, 114] := rfl
@[simp] theorem bs_3_7499639 : bytesN 3 7499639 = [119, 111, 114] := rfl
@[simp] theorem bs_3_7499640 : bytesN 3 7499640 = [120, 111, 114] := rfl
@[simp] theorem bs_3_7630702 : bytesN 3 7630702 = [110, 111, 116] := rfl
@[simp] theorem bs_4_812216948 : bytesN 4 812216948 = [116, 114, 105, 48] := rfl
@[simp] theorem bs_4_828994164 : bytesN 4 828994164 = [116, 114, 105, 49] := rfl
@[simp] theorem bs_4_1684955502 : bytesN 4 1684955502 = [110, 97, 110, 100] := rfl
@[simp] theorem bs_4_1684955511 : bytesN 4 1684955511 = [119, 97, 110, 100] := rfl
@[simp] theorem bs_4_1701996919 : bytesN 4 1701996919 = [119, 105, 114, 101] := rfl
@[simp] theorem bs_4_1702060387 : bytesN 4 1702060387 = [99, 97, 115, 101] := rfl
@[simp] theorem bs_4_1702063205 : bytesN 4 1702063205 = [101, 108, 115, 101] := rfl
@[simp] theorem bs_4_1802723700 : bytesN 4 1802723700 = [116, 97, 115, 107] := rfl
@[simp] theorem bs_4_1919905400 : bytesN 4 1919905400 = [120, 110, 111, 114] := rfl
@[simp] theorem bs_4_1953063287 : bytesN 4 1953063287 = [119, 97, 105, 116] := rfl
@[simp] theorem bs_5_207959975287 : bytesN 5 207959975287 = [119, 101, 97, 107, 48] := rfl
@[simp] theorem bs_5_207977477488 : bytesN 5 207977477488 = [112, 117, 108, 108, 48] := rfl
@[simp] theorem bs_5_212254942583 : bytesN 5 212254942583 = [119, 101, 97, 107, 49] := rfl
@[simp] theorem bs_5_212272444784 : bytesN 5 212272444784 = [112, 117, 108, 108, 49] := rfl
@[simp] theorem bs_5_435610544247 : bytesN 5 435610544247 = [119, 104, 105, 108, 101] := rfl
@[simp] theorem bs_5_474214786402 : bytesN 5 474214786402 = [98, 101, 103, 105, 110] := rfl
@[simp] theorem bs_5_500186508905 : bytesN 5 500186508905 = [105, 110, 112, 117, 116] := rfl
@[simp] theorem bs_5_517098135907 : bytesN 5 517098135907 = [99, 97, 115, 101, 120] := rfl
@[simp] theorem bs_5_525688070499 : bytesN 5 525688070499 = [99, 97, 115, 101, 122] := rfl
@[simp] theorem bs_6_53212085379436 : bytesN 6 53212085379436 = [108, 97, 114, 103, 101, 48] := rfl
@[simp] theorem bs_6_53216413119842 : bytesN 6 53216413119842 = [98, 117, 102, 105, 102, 48] := rfl
@[simp] theorem bs_6_53216414035822 : bytesN 6 53216414035822 = [110, 111, 116, 105, 102, 48] := rfl
@[simp] theorem bs_6_53242232925555 : bytesN 6 53242232925555 = [115, 109, 97, 108, 108, 48] := rfl
@[simp] theorem bs_6_53302295751016 : bytesN 6 53302295751016 = [104, 105, 103, 104, 122, 48] := rfl
@[simp] theorem bs_6_54311597007212 : bytesN 6 54311597007212 = [108, 97, 114, 103, 101, 49] := rfl
@[simp] theorem bs_6_54315924747618 : bytesN 6 54315924747618 = [98, 117, 102, 105, 102, 49] := rfl
@[simp] theorem bs_6_54315925663598 : bytesN 6 54315925663598 = [110, 111, 116, 105, 102, 49] := rfl
@[simp] theorem bs_6_54341744553331 : bytesN 6 54341744553331 = [115, 109, 97, 108, 108, 49] := rfl
@[simp] theorem bs_6_54401807378792 : bytesN 6 54401807378792 = [104, 105, 103, 104, 122, 49] := rfl
@[simp] theorem bs_6_110386806745459 : bytesN 6 110386806745459 = [115, 105, 103, 110, 101, 100] := rfl
@[simp] theorem bs_6_111516500389741 : bytesN 6 111516500389741 = [109, 111, 100, 117, 108, 101] := rfl
@[simp] theorem bs_6_121390429860705 : bytesN 6 121390429860705 = [97, 115, 115, 105, 103, 110] := rfl
@[simp] theorem bs_6_125762924340583 : bytesN 6 125762924340583 = [103, 101, 110, 118, 97, 114] := rfl
@[simp] theorem bs_6_126965163453537 : bytesN 6 126965163453537 = [97, 108, 119, 97, 121, 115] := rfl
@[simp] theorem bs_6_127961662514546 : bytesN 6 127961662514546 = [114, 101, 112, 101, 97, 116] := rfl
@[simp] theorem bs_6_128047746676079 : bytesN 6 128047746676079 = [111, 117, 116, 112, 117, 116] := rfl
@[simp] theorem bs_7_13624522895946867 : bytesN 7 13624522895946867 = [115, 116, 114, 111, 110, 103, 48] := rfl
@[simp] theorem bs_7_13631149928899949 : bytesN 7 13631149928899949 = [109, 101, 100, 105, 117, 109, 48] := rfl
@[simp] theorem bs_7_13644305531958643 : bytesN 7 13644305531958643 = [115, 117, 112, 112, 108, 121, 48] := rfl
@[simp] theorem bs_7_13905997872657523 : bytesN 7 13905997872657523 = [115, 116, 114, 111, 110, 103, 49] := rfl
@[simp] theorem bs_7_13912624905610605 : bytesN 7 13912624905610605 = [109, 101, 100, 105, 117, 109, 49] := rfl
@[simp] theorem bs_7_13925780508669299 : bytesN 7 13925780508669299 = [115, 117, 112, 112, 108, 121, 49] := rfl
@[simp] theorem bs_7_28542653543441774 : bytesN 7 28542653543441774 = [110, 101, 103, 101, 100, 103, 101] := rfl
@[simp] theorem bs_7_28542653544230768 : bytesN 7 28542653544230768 = [112, 111, 115, 101, 100, 103, 101] := rfl
@[simp] theorem bs_7_28555834764324453 : bytesN 7 28555834764324453 = [101, 110, 100, 99, 97, 115, 101] := rfl
@[simp] theorem bs_7_30244684909801061 : bytesN 7 30244684909801061 = [101, 110, 100, 116, 97, 115, 107] := rfl
@[simp] theorem bs_7_30506403037277801 : bytesN 7 30506403037277801 = [105, 110, 105, 116, 105, 97, 108] := rfl
@[simp] theorem bs_7_32199642103180905 : bytesN 7 32199642103180905 = [105, 110, 116, 101, 103, 101, 114] := rfl
@[simp] theorem bs_7_32199706527559526 : bytesN 7 32199706527559526 = [102, 111, 114, 101, 118, 101, 114] := rfl
@[simp] theorem bs_7_32770348699510116 : bytesN 7 32770348699510116 = [100, 101, 102, 97, 117, 108, 116] := rfl
@[simp] theorem bs_8_7957695015192261990 : bytesN 8 7957695015192261990 = [102, 117, 110, 99, 116, 105, 111, 110] := rfl
@[simp] theorem bs_9_1870936414602775522917 : bytesN 9 1870936414602775522917 = [101, 110, 100, 109, 111, 100, 117, 108, 101] := rfl
@[simp] theorem bs_9_2110239404018478768496 : bytesN 9 2110239404018478768496 = [112, 97, 114, 97, 109, 101, 116, 101, 114] := rfl
@[simp] theorem bs_10_516535522800345012203372 : bytesN 10 516535522800345012203372 = [108, 111, 99, 97, 108, 112, 97, 114, 97, 109] := rfl
@[simp] theorem bs_11_133507968132003860941401701 : bytesN 11 133507968132003860941401701 = [101, 110, 100, 102, 117, 110, 99, 116, 105, 111, 110] := rfl
@[simp] theorem bs_16_136107713667768957684761770045455085872 : bytesN 16 136107713667768957684761770045455085872 = [48, 49, 50, 51, 52, 53, 54, 55, 56, 57, 97, 98, 99, 100, 101, 102] := rfl
@[simp] theorem bs_26_98425825427143655934000711143467890508455725773951778094198059 : bytesN 26 98425825427143655934000711143467890508455725773951778094198059 = [43, 45, 42, 47, 37, 60, 62, 33, 126, 38, 124, 94, 63, 58, 59, 44, 46, 40, 41, 91, 93, 123, 125, 35, 64, 61] := rfl
theorem lf_Builder_String : toLF Tryz.prog (an 72) Tryz.f72 = some K_Builder_String.f := by kernel_rfl
theorem pf_Builder_String : Tryz.prog.funcs[(72 : Nat)]? = some Tryz.f72 := Tryz.func72
theorem lf_Builder_WriteByte : toLF Tryz.prog (an 97) Tryz.f97 = some K_Builder_WriteByte.f := by kernel_rfl
theorem pf_Builder_WriteByte : Tryz.prog.funcs[(97 : Nat)]? = some Tryz.f97 := Tryz.func97
theorem lf_Builder_WriteString : toLF Tryz.prog (an 70) Tryz.f70 = some K_Builder_WriteString.f := by kernel_rfl
theorem pf_Builder_WriteString : Tryz.prog.funcs[(70 : Nat)]? = some Tryz.f70 := Tryz.func70
theorem lf_Builder_copyCheck : toLF Tryz.prog (an 104) Tryz.f104 = some K_Builder_copyCheck.f := by kernel_rfl
theorem pf_Builder_copyCheck : Tryz.prog.funcs[(104 : Nat)]? = some Tryz.f104 := Tryz.func104
theorem lf_i_stringslite_HasPrefix : toLF Tryz.prog (an 55) Tryz.f55 = some K_i_stringslite_HasPrefix.f := by kernel_rfl
theorem pf_i_stringslite_HasPrefix : Tryz.prog.funcs[(55 : Nat)]? = some Tryz.f55 := Tryz.func55
theorem lf_literal_baseOf : toLF Tryz.prog (an 151) Tryz.f151 = some K_literal_baseOf.f := by kernel_rfl
theorem pf_literal_baseOf : Tryz.prog.funcs[(151 : Nat)]? = some Tryz.f151 := Tryz.func151
theorem lf_literal_word : toLF Tryz.prog (an 142) Tryz.f142 = some K_literal_word.f := by kernel_rfl
theorem pf_literal_word : Tryz.prog.funcs[(142 : Nat)]? = some Tryz.f142 := Tryz.func142
theorem lf_strings_Contains : toLF Tryz.prog (an 98) Tryz.f98 = some K_strings_Contains.f := by kernel_rfl
theorem pf_strings_Contains : Tryz.prog.funcs[(98 : Nat)]? = some Tryz.f98 := Tryz.func98
theorem lf_strings_HasPrefix : toLF Tryz.prog (an 22) Tryz.f22 = some K_strings_HasPrefix.f := by kernel_rfl
theorem pf_strings_HasPrefix : Tryz.prog.funcs[(22 : Nat)]? = some Tryz.f22 := Tryz.func22
theorem lf_token_IsKeyword : toLF Tryz.prog (an 29) Tryz.f29 = some K_token_IsKeyword.f := by kernel_rfl
theorem pf_token_IsKeyword : Tryz.prog.funcs[(29 : Nat)]? = some Tryz.f29 := Tryz.func29
theorem lf_token_digit : toLF Tryz.prog (an 86) Tryz.f86 = some K_token_digit.f := by kernel_rfl
theorem pf_token_digit : Tryz.prog.funcs[(86 : Nat)]? = some Tryz.f86 := Tryz.func86
theorem lf_token_isPunct : toLF Tryz.prog (an 62) Tryz.f62 = some K_token_isPunct.f := by kernel_rfl
theorem pf_token_isPunct : Tryz.prog.funcs[(62 : Nat)]? = some Tryz.f62 := Tryz.func62
theorem lf_token_letter : toLF Tryz.prog (an 83) Tryz.f83 = some K_token_letter.f := by kernel_rfl
theorem pf_token_letter : Tryz.prog.funcs[(83 : Nat)]? = some Tryz.f83 := Tryz.func83
theorem lf_token_nameEnd : toLF Tryz.prog (an 92) Tryz.f92 = some K_token_nameEnd.f := by kernel_rfl
theorem pf_token_nameEnd : Tryz.prog.funcs[(92 : Nat)]? = some Tryz.f92 := Tryz.func92
theorem lf_token_skip : toLF Tryz.prog (an 52) Tryz.f52 = some K_token_skip.f := by kernel_rfl
theorem pf_token_skip : Tryz.prog.funcs[(52 : Nat)]? = some Tryz.f52 := Tryz.func52
theorem lf_law07_asRef : toLF Tryz.prog (an 19) Tryz.f19 = some K_law07_asRef.f := by kernel_rfl
theorem pf_law07_asRef : Tryz.prog.funcs[(19 : Nat)]? = some Tryz.f19 := Tryz.func19
theorem lf_ref07_Same : toLF Tryz.prog (an 18) Tryz.f18 = some K_ref07_Same.f := by kernel_rfl
theorem pf_ref07_Same : Tryz.prog.funcs[(18 : Nat)]? = some Tryz.f18 := Tryz.func18
theorem lf_ref04_Same : toLF Tryz.prog (an 37) Tryz.f37 = some K_ref04_Same.f := by kernel_rfl
theorem pf_ref04_Same : Tryz.prog.funcs[(37 : Nat)]? = some Tryz.f37 := Tryz.func37
theorem lf_ref07_Puncts : toLF Tryz.prog (an 21) Tryz.f21 = some K_ref07_Puncts.f := by kernel_rfl
theorem pf_ref07_Puncts : Tryz.prog.funcs[(21 : Nat)]? = some Tryz.f21 := Tryz.func21
theorem lf_ref07_fits : toLF Tryz.prog (an 51) Tryz.f51 = some K_ref07_fits.f := by kernel_rfl
theorem pf_ref07_fits : Tryz.prog.funcs[(51 : Nat)]? = some Tryz.f51 := Tryz.func51
theorem lf_ref07_name : toLF Tryz.prog (an 50) Tryz.f50 = some K_ref07_name.f := by kernel_rfl
theorem pf_ref07_name : Tryz.prog.funcs[(50 : Nat)]? = some Tryz.f50 := Tryz.func50
theorem lf_ref07_letter : toLF Tryz.prog (an 80) Tryz.f80 = some K_ref07_letter.f := by kernel_rfl
theorem pf_ref07_letter : Tryz.prog.funcs[(80 : Nat)]? = some Tryz.f80 := Tryz.func80
theorem lf_ref07_digit : toLF Tryz.prog (an 48) Tryz.f48 = some K_ref07_digit.f := by kernel_rfl
theorem pf_ref07_digit : Tryz.prog.funcs[(48 : Nat)]? = some Tryz.f48 := Tryz.func48
theorem lf_ref07_IsKeyword : toLF Tryz.prog (an 30) Tryz.f30 = some K_ref07_IsKeyword.f := by kernel_rfl
theorem pf_ref07_IsKeyword : Tryz.prog.funcs[(30 : Nat)]? = some Tryz.f30 := Tryz.func30
theorem lf_ref07_in : toLF Tryz.prog (an 57) Tryz.f57 = some K_ref07_in.f := by kernel_rfl
theorem pf_ref07_in : Tryz.prog.funcs[(57 : Nat)]? = some Tryz.f57 := Tryz.func57
theorem lf_ref07_Keywords : toLF Tryz.prog (an 38) Tryz.f38 = some K_ref07_Keywords.f := by kernel_rfl
theorem pf_ref07_Keywords : Tryz.prog.funcs[(38 : Nat)]? = some Tryz.f38 := Tryz.func38
theorem lf_ref05_size : toLF Tryz.prog (an 77) Tryz.f77 = some K_ref05_size.f := by kernel_rfl
theorem pf_ref05_size : Tryz.prog.funcs[(77 : Nat)]? = some Tryz.f77 := Tryz.func77
theorem lf_ref03_FromInt : toLF Tryz.prog (an 100) Tryz.f100 = some K_ref03_FromInt.f := by kernel_rfl
theorem pf_ref03_FromInt : Tryz.prog.funcs[(100 : Nat)]? = some Tryz.f100 := Tryz.func100
theorem lf_ref03_Fit : toLF Tryz.prog (an 134) Tryz.f134 = some K_ref03_Fit.f := by kernel_rfl
theorem pf_ref03_Fit : Tryz.prog.funcs[(134 : Nat)]? = some Tryz.f134 := Tryz.func134
theorem lf_ref03_At : toLF Tryz.prog (an 161) Tryz.f161 = some K_ref03_At.f := by kernel_rfl
theorem pf_ref03_At : Tryz.prog.funcs[(161 : Nat)]? = some Tryz.f161 := Tryz.func161
theorem lf_token_whole : toLF Tryz.prog (an 59) Tryz.f59 = some K_token_whole.f := by kernel_rfl
theorem pf_token_whole : Tryz.prog.funcs[(59 : Nat)]? = some Tryz.f59 := Tryz.func59
theorem lf_token_quote : toLF Tryz.prog (an 61) Tryz.f61 = some K_token_quote.f := by kernel_rfl
theorem pf_token_quote : Tryz.prog.funcs[(61 : Nat)]? = some Tryz.f61 := Tryz.func61
theorem lf_token_decimal : toLF Tryz.prog (an 94) Tryz.f94 = some K_token_decimal.f := by kernel_rfl
theorem pf_token_decimal : Tryz.prog.funcs[(94 : Nat)]? = some Tryz.f94 := Tryz.func94
theorem lf_token_number : toLF Tryz.prog (an 60) Tryz.f60 = some K_token_number.f := by kernel_rfl
theorem pf_token_number : Tryz.prog.funcs[(60 : Nat)]? = some Tryz.f60 := Tryz.func60
theorem lf_token_Format : toLF Tryz.prog (an 35) Tryz.f35 = some K_token_Format.f := by kernel_rfl
theorem pf_token_Format : Tryz.prog.funcs[(35 : Nat)]? = some Tryz.f35 := Tryz.func35
theorem lf_token_Join : toLF Tryz.prog (an 33) Tryz.f33 = some K_token_Join.f := by kernel_rfl
theorem pf_token_Join : Tryz.prog.funcs[(33 : Nat)]? = some Tryz.f33 := Tryz.func33
theorem lf_vec_Check : toLF Tryz.prog (an 93) Tryz.f93 = some K_vec_Check.f := by kernel_rfl
theorem pf_vec_Check : Tryz.prog.funcs[(93 : Nat)]? = some Tryz.f93 := Tryz.func93
theorem lf_bit_Valid : toLF Tryz.prog (an 118) Tryz.f118 = some K_bit_Valid.f := by kernel_rfl
theorem pf_bit_Valid : Tryz.prog.funcs[(118 : Nat)]? = some Tryz.f118 := Tryz.func118
theorem lf_literal_group : toLF Tryz.prog (an 153) Tryz.f153 = some K_literal_group.f := by kernel_rfl
theorem pf_literal_group : Tryz.prog.funcs[(153 : Nat)]? = some Tryz.f153 := Tryz.func153
theorem lf_literal_Digits : toLF Tryz.prog (an 120) Tryz.f120 = some K_literal_Digits.f := by kernel_rfl
theorem pf_literal_Digits : Tryz.prog.funcs[(120 : Nat)]? = some Tryz.f120 := Tryz.func120
theorem lf_literal_Format : toLF Tryz.prog (an 96) Tryz.f96 = some K_literal_Format.f := by kernel_rfl
theorem pf_literal_Format : Tryz.prog.funcs[(96 : Nat)]? = some Tryz.f96 := Tryz.func96
theorem lf_ref04_Check : toLF Tryz.prog (an 63) Tryz.f63 = some K_ref04_Check.f := by kernel_rfl
theorem pf_ref04_Check : Tryz.prog.funcs[(63 : Nat)]? = some Tryz.f63 := Tryz.func63
theorem lf_ref05_group : toLF Tryz.prog (an 125) Tryz.f125 = some K_ref05_group.f := by kernel_rfl
theorem pf_ref05_group : Tryz.prog.funcs[(125 : Nat)]? = some Tryz.f125 := Tryz.func125
theorem lf_ref05_Digits : toLF Tryz.prog (an 99) Tryz.f99 = some K_ref05_Digits.f := by kernel_rfl
theorem pf_ref05_Digits : Tryz.prog.funcs[(99 : Nat)]? = some Tryz.f99 := Tryz.func99
theorem lf_ref05_Format : toLF Tryz.prog (an 66) Tryz.f66 = some K_ref05_Format.f := by kernel_rfl
theorem pf_ref05_Format : Tryz.prog.funcs[(66 : Nat)]? = some Tryz.f66 := Tryz.func66
theorem lf_ref05_Decimal : toLF Tryz.prog (an 101) Tryz.f101 = some K_ref05_Decimal.f := by kernel_rfl
theorem pf_ref05_Decimal : Tryz.prog.funcs[(101 : Nat)]? = some Tryz.f101 := Tryz.func101
theorem lf_ref03_DivMod : toLF Tryz.prog (an 128) Tryz.f128 = some K_ref03_DivMod.f := by kernel_rfl
theorem pf_ref03_DivMod : Tryz.prog.funcs[(128 : Nat)]? = some Tryz.f128 := Tryz.func128
theorem lf_ref03_Trim : toLF Tryz.prog (an 130) Tryz.f130 = some K_ref03_Trim.f := by kernel_rfl
theorem pf_ref03_Trim : Tryz.prog.funcs[(130 : Nat)]? = some Tryz.f130 := Tryz.func130
theorem lf_ref03_divide : toLF Tryz.prog (an 160) Tryz.f160 = some K_ref03_divide.f := by kernel_rfl
theorem pf_ref03_divide : Tryz.prog.funcs[(160 : Nat)]? = some Tryz.f160 := Tryz.func160
theorem lf_ref03_less : toLF Tryz.prog (an 181) Tryz.f181 = some K_ref03_less.f := by kernel_rfl
theorem pf_ref03_less : Tryz.prog.funcs[(181 : Nat)]? = some Tryz.f181 := Tryz.func181
theorem lf_ref03_Cmp : toLF Tryz.prog (an 197) Tryz.f197 = some K_ref03_Cmp.f := by kernel_rfl
theorem pf_ref03_Cmp : Tryz.prog.funcs[(197 : Nat)]? = some Tryz.f197 := Tryz.func197
theorem lf_ref03_minus : toLF Tryz.prog (an 158) Tryz.f158 = some K_ref03_minus.f := by kernel_rfl
theorem pf_ref03_minus : Tryz.prog.funcs[(158 : Nat)]? = some Tryz.f158 := Tryz.func158
theorem lf_ref03_Uint : toLF Tryz.prog (an 129) Tryz.f129 = some K_ref03_Uint.f := by kernel_rfl
theorem pf_ref03_Uint : Tryz.prog.funcs[(129 : Nat)]? = some Tryz.f129 := Tryz.func129
theorem lf_ref07_plain : toLF Tryz.prog (an 64) Tryz.f64 = some K_ref07_plain.f := by kernel_rfl
theorem pf_ref07_plain : Tryz.prog.funcs[(64 : Nat)]? = some Tryz.f64 := Tryz.func64
theorem lf_ref07_Decimal : toLF Tryz.prog (an 65) Tryz.f65 = some K_ref07_Decimal.f := by kernel_rfl
theorem pf_ref07_Decimal : Tryz.prog.funcs[(65 : Nat)]? = some Tryz.f65 := Tryz.func65
theorem lf_ref07_quote : toLF Tryz.prog (an 67) Tryz.f67 = some K_ref07_quote.f := by kernel_rfl
theorem pf_ref07_quote : Tryz.prog.funcs[(67 : Nat)]? = some Tryz.f67 := Tryz.func67
theorem lf_ref07_Format : toLF Tryz.prog (an 36) Tryz.f36 = some K_ref07_Format.f := by kernel_rfl
theorem pf_ref07_Format : Tryz.prog.funcs[(36 : Nat)]? = some Tryz.f36 := Tryz.func36
theorem lf_ref07_Join : toLF Tryz.prog (an 34) Tryz.f34 = some K_ref07_Join.f := by kernel_rfl
theorem pf_ref07_Join : Tryz.prog.funcs[(34 : Nat)]? = some Tryz.f34 := Tryz.func34
theorem lf_law07_given : toLF Tryz.prog (an 32) Tryz.f32 = some K_law07_given.f := by kernel_rfl
theorem pf_law07_given : Tryz.prog.funcs[(32 : Nat)]? = some Tryz.f32 := Tryz.func32
theorem lf_law07_longTokens : toLF Tryz.prog (an 31) Tryz.f31 = some K_law07_longTokens.f := by kernel_rfl
theorem pf_law07_longTokens : Tryz.prog.funcs[(31 : Nat)]? = some Tryz.f31 := Tryz.func31
theorem lf_law07_TokenFormatMatches : toLF Tryz.prog (an 8) Tryz.f8 = some K_law07_TokenFormatMatches.f := by kernel_rfl
theorem pf_law07_TokenFormatMatches : Tryz.prog.funcs[(8 : Nat)]? = some Tryz.f8 := Tryz.func8
end Go.TM.R7
