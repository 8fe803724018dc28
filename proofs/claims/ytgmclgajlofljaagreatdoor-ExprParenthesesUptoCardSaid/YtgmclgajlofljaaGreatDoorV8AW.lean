/- Expressions: the chapter's examples (awake), by the contracts. -/
import Derived.Test.YtgmclgajlofljaaGreatDoorV8X
import Derived.KernelRfl
set_option linter.all false
namespace Go.TM.R8
open Go Go.TM Go.Proofs Go.TM.A8
attribute [-simp] Int.natCast_add Int.natCast_mul List.drop_one
theorem c_parsed (s text : List UInt8) (x : Ex') (hs : s.length ≤ 65536) (hp : parseF s 0 = (x, (s.length : Int), 0)) (hf : formatF x = (text, 0)) (h1 : (size x).1 < 900000) (h2 : big x = false) (h3 : (txt x).length < 999999999) :
  callF E 0 f_law08_parsed [.sc (str s), x.t, .sc (str text)] emp = some (.sc (.bool true), emp) := by
 have hP := c_Parse8 s 0 hs
 rw [hp] at hP
 have hF := c_FormatB x h1 h2 (fun _ => h3)
 rw [hf] at hF
 have hI := c_Is x (by omega) h2
 clear hp hf h1 h2 h3
 try simp only [lenN, Int.cast_ofNat_Int] at *
 (refine callF_light rfl pf_law08_parsed lf_law08_parsed (by simp [K_law08_parsed]) ?_; rw [evF_R, K_law08_parsed])
 simp (maxSteps := 4000000) (disch := omega) [*]
theorem c_rejected (s : List UInt8) (e : Nat) (hs : s.length ≤ 65536) (hp : parseF s 0 = (zE, 0, e)) : callF E 0 f_law08_rejected [.sc (str s), .sc (.int .i64 (e : Int))] emp = some (.sc (.bool true), emp) := by
 have hP := c_Parse8 s 0 hs
 rw [hp] at hP
 have hI := c_Is zE (by decide) rfl
 rw [zE_t] at hI hP
 clear hp
 try simp only [lenN, Int.cast_ofNat_Int] at *
 (refine callF_light rfl pf_law08_rejected lf_law08_rejected (by simp [K_law08_rejected]) ?_; rw [evF_R, K_law08_rejected])
 simp (maxSteps := 4000000) (disch := omega) [*]
theorem c_ref (s : List UInt8) : callF E 0 f_law08_ref [.sc (str s)] emp = some ((refE 2 s).t, emp) := by
 rw [refE_t]
 try simp only [lenN, Int.cast_ofNat_Int] at *
 (refine callF_light rfl pf_law08_ref lf_law08_ref (by simp [K_law08_ref]) ?_; rw [evF_R, K_law08_ref])
 simp (maxSteps := 4000000) (disch := omega) [*]
theorem c_op (o : Nat) (l : List Ex') : callF E 0 f_law08_op [.sc (.int .u8 (o : Int)), .lst 8 (ml Ex'.t l)] emp = some ((mkE o [] l).t, emp) := by
 rw [mkE_t]
 try simp only [lenN, Int.cast_ofNat_Int] at *
 (refine callF_light rfl pf_law08_op lf_law08_op (by simp [K_law08_op]) ?_; rw [evF_R, K_law08_op])
 simp (maxSteps := 4000000) (disch := omega) [*]
def twoE : Ex' := litE false ([0, 1] ++ List.replicate 30 0) true
theorem c_two : callF E 0 f_law08_two [] emp = some (twoE.t, emp) := by
 unfold twoE
 rw [litE_t, gs_false]
 try simp only [lenN, Int.cast_ofNat_Int] at *
 (refine callF_light rfl pf_law08_two lf_law08_two (by simp [K_law08_two]) ?_; rw [evF_R, K_law08_two])
 simp (maxSteps := 4000000) (disch := omega) [*]
def eA : Ex' := refE 2 [97]
def eB : Ex' := refE 2 [98]
def eC : Ex' := refE 2 [99]
def eD : Ex' := refE 2 [100]
theorem ml3 (x y z : Ex') : ml Ex'.t [x, y, z] = [x.t, y.t, z.t] := rfl
theorem aw_p0 : callF E 0 f_law08_parsed [.sc (str [97, 32, 43, 32, 98, 32, 42, 32, 99]), (mkE 21 [] [eA, (mkE 23 [] [eB, eC])]).t, .sc (str [40, 97, 32, 43, 32, 40, 98, 32, 42, 32, 99, 41, 41])] emp = some (.sc (.bool true), emp) :=
 c_parsed [97, 32, 43, 32, 98, 32, 42, 32, 99] [40, 97, 32, 43, 32, 40, 98, 32, 42, 32, 99, 41, 41] (mkE 21 [] [eA, (mkE 23 [] [eB, eC])]) (by decide) (by kernel_rfl) (by kernel_rfl) (of_decide_eq_true (by kernel_rfl)) (by kernel_rfl) (of_decide_eq_true (by kernel_rfl))
theorem aw_p1 : callF E 0 f_law08_parsed [.sc (str [97, 32, 45, 32, 98, 32, 45, 32, 99]), (mkE 22 [] [(mkE 22 [] [eA, eB]), eC]).t, .sc (str [40, 40, 97, 32, 45, 32, 98, 41, 32, 45, 32, 99, 41])] emp = some (.sc (.bool true), emp) :=
 c_parsed [97, 32, 45, 32, 98, 32, 45, 32, 99] [40, 40, 97, 32, 45, 32, 98, 41, 32, 45, 32, 99, 41] (mkE 22 [] [(mkE 22 [] [eA, eB]), eC]) (by decide) (by kernel_rfl) (by kernel_rfl) (of_decide_eq_true (by kernel_rfl)) (by kernel_rfl) (of_decide_eq_true (by kernel_rfl))
theorem aw_p2 : callF E 0 f_law08_parsed [.sc (str [99, 32, 63, 32, 97, 32, 58, 32, 100, 32, 63, 32, 98, 32, 58, 32, 99]), (mkE 10 [] [eC, eA, (mkE 10 [] [eD, eB, eC])]).t, .sc (str [40, 99, 32, 63, 32, 97, 32, 58, 32, 40, 100, 32, 63, 32, 98, 32, 58, 32, 99, 41, 41])] emp = some (.sc (.bool true), emp) :=
 c_parsed [99, 32, 63, 32, 97, 32, 58, 32, 100, 32, 63, 32, 98, 32, 58, 32, 99] [40, 99, 32, 63, 32, 97, 32, 58, 32, 40, 100, 32, 63, 32, 98, 32, 58, 32, 99, 41, 41] (mkE 10 [] [eC, eA, (mkE 10 [] [eD, eB, eC])]) (by decide) (by kernel_rfl) (by kernel_rfl) (of_decide_eq_true (by kernel_rfl)) (by kernel_rfl) (of_decide_eq_true (by kernel_rfl))
theorem aw_p3 : callF E 0 f_law08_parsed [.sc (str [123, 50, 123, 97, 44, 32, 98, 125, 125]), (mkE 7 [] [twoE, eA, eB]).t, .sc (str [123, 50, 123, 97, 44, 32, 98, 125, 125])] emp = some (.sc (.bool true), emp) :=
 c_parsed [123, 50, 123, 97, 44, 32, 98, 125, 125] [123, 50, 123, 97, 44, 32, 98, 125, 125] (mkE 7 [] [twoE, eA, eB]) (by decide) (by kernel_rfl) (by kernel_rfl) (of_decide_eq_true (by kernel_rfl)) (by kernel_rfl) (of_decide_eq_true (by kernel_rfl))
theorem aw_p4 : callF E 0 f_law08_parsed [.sc (str [109, 91, 97, 93, 91, 98, 93]), (mkE 3 [109] [eA, eB]).t, .sc (str [109, 91, 97, 93, 91, 98, 93])] emp = some (.sc (.bool true), emp) :=
 c_parsed [109, 91, 97, 93, 91, 98, 93] [109, 91, 97, 93, 91, 98, 93] (mkE 3 [109] [eA, eB]) (by decide) (by kernel_rfl) (by kernel_rfl) (of_decide_eq_true (by kernel_rfl)) (by kernel_rfl) (of_decide_eq_true (by kernel_rfl))
theorem aw_p5 : callF E 0 f_law08_parsed [.sc (str [38, 32, 38, 32, 97]), (mkE 15 [] [(mkE 15 [] [eA])]).t, .sc (str [40, 38, 40, 38, 97, 41, 41])] emp = some (.sc (.bool true), emp) :=
 c_parsed [38, 32, 38, 32, 97] [40, 38, 40, 38, 97, 41, 41] (mkE 15 [] [(mkE 15 [] [eA])]) (by decide) (by kernel_rfl) (by kernel_rfl) (of_decide_eq_true (by kernel_rfl)) (by kernel_rfl) (of_decide_eq_true (by kernel_rfl))
theorem aw_p6 : callF E 0 f_law08_parsed [.sc (str [36, 116, 105, 109, 101]), (refE 9 [36, 116, 105, 109, 101]).t, .sc (str [36, 116, 105, 109, 101])] emp = some (.sc (.bool true), emp) :=
 c_parsed [36, 116, 105, 109, 101] [36, 116, 105, 109, 101] (refE 9 [36, 116, 105, 109, 101]) (by decide) (by kernel_rfl) (by kernel_rfl) (of_decide_eq_true (by kernel_rfl)) (by kernel_rfl) (of_decide_eq_true (by kernel_rfl))
theorem aw_p7 : callF E 0 f_law08_parsed [.sc (str [36, 115, 105, 103, 110, 101, 100, 40, 97, 41]), (mkE 9 [36, 115, 105, 103, 110, 101, 100] [eA]).t, .sc (str [36, 115, 105, 103, 110, 101, 100, 40, 97, 41])] emp = some (.sc (.bool true), emp) :=
 c_parsed [36, 115, 105, 103, 110, 101, 100, 40, 97, 41] [36, 115, 105, 103, 110, 101, 100, 40, 97, 41] (mkE 9 [36, 115, 105, 103, 110, 101, 100] [eA]) (by decide) (by kernel_rfl) (by kernel_rfl) (of_decide_eq_true (by kernel_rfl)) (by kernel_rfl) (of_decide_eq_true (by kernel_rfl))
theorem aw_r0 : callF E 0 f_law08_rejected [.sc (str [38, 38, 32, 97]), .sc (.int .i64 3)] emp = some (.sc (.bool true), emp) := c_rejected [38, 38, 32, 97] 3 (by decide) (by kernel_rfl)
theorem aw_r1 : callF E 0 f_law08_rejected [.sc (str [40, 97]), .sc (.int .i64 4)] emp = some (.sc (.bool true), emp) := c_rejected [40, 97] 4 (by decide) (by kernel_rfl)
theorem aw_r2 : callF E 0 f_law08_rejected [.sc (str [97, 91, 50, 58, 93]), .sc (.int .i64 3)] emp = some (.sc (.bool true), emp) := c_rejected [97, 91, 50, 58, 93] 3 (by decide) (by kernel_rfl)
theorem aw_o0 : callF E 0 f_law08_op [.sc (.int .u8 23), .lst 8 [eB.t, eC.t]] emp = some ((mkE 23 [] [eB, eC]).t, emp) := c_op 23 [eB, eC]
theorem aw_o1 : callF E 0 f_law08_op [.sc (.int .u8 21), .lst 8 [eA.t, (mkE 23 [] [eB, eC]).t]] emp = some ((mkE 21 [] [eA, (mkE 23 [] [eB, eC])]).t, emp) := c_op 21 [eA, (mkE 23 [] [eB, eC])]
theorem aw_o2 : callF E 0 f_law08_op [.sc (.int .u8 22), .lst 8 [eA.t, eB.t]] emp = some ((mkE 22 [] [eA, eB]).t, emp) := c_op 22 [eA, eB]
theorem aw_o3 : callF E 0 f_law08_op [.sc (.int .u8 22), .lst 8 [(mkE 22 [] [eA, eB]).t, eC.t]] emp = some ((mkE 22 [] [(mkE 22 [] [eA, eB]), eC]).t, emp) := c_op 22 [(mkE 22 [] [eA, eB]), eC]
theorem aw_o4 : callF E 0 f_law08_op [.sc (.int .u8 10), .lst 8 [eD.t, eB.t, eC.t]] emp = some ((mkE 10 [] [eD, eB, eC]).t, emp) := c_op 10 [eD, eB, eC]
theorem aw_o5 : callF E 0 f_law08_op [.sc (.int .u8 10), .lst 8 [eC.t, eA.t, (mkE 10 [] [eD, eB, eC]).t]] emp = some ((mkE 10 [] [eC, eA, (mkE 10 [] [eD, eB, eC])]).t, emp) := c_op 10 [eC, eA, (mkE 10 [] [eD, eB, eC])]
theorem aw_o6 : callF E 0 f_law08_op [.sc (.int .u8 7), .lst 8 [twoE.t, eA.t, eB.t]] emp = some ((mkE 7 [] [twoE, eA, eB]).t, emp) := c_op 7 [twoE, eA, eB]
theorem aw_o7 : callF E 0 f_law08_op [.sc (.int .u8 15), .lst 8 [eA.t]] emp = some ((mkE 15 [] [eA]).t, emp) := c_op 15 [eA]
theorem aw_o8 : callF E 0 f_law08_op [.sc (.int .u8 15), .lst 8 [(mkE 15 [] [eA]).t]] emp = some ((mkE 15 [] [(mkE 15 [] [eA])]).t, emp) := c_op 15 [(mkE 15 [] [eA])]
theorem aw_A : callF E 0 f_law08_ref [.sc (str [97])] emp = some (eA.t, emp) := c_ref [97]
theorem aw_B : callF E 0 f_law08_ref [.sc (str [98])] emp = some (eB.t, emp) := c_ref [98]
theorem aw_C : callF E 0 f_law08_ref [.sc (str [99])] emp = some (eC.t, emp) := c_ref [99]
theorem aw_D : callF E 0 f_law08_ref [.sc (str [100])] emp = some (eD.t, emp) := c_ref [100]
theorem aw_0 : callF E 0 f_expr_Parse [.sc (str [97, 32, 98]), .sc (.int .i64 0)] emp = some (.tup [eA.t, .sc (.int .i64 1), .sc (.int .i64 0)], emp) := by
 have h := c_Parse8 [97, 32, 98] 0 (by decide)
 rw [show parseF [97, 32, 98] 0 = (eA, 1, 0) by kernel_rfl] at h
 exact h
theorem hl_mkE (o : Nat) (nm : List UInt8) (l : List Ex') : hasLst (mkE o nm l).t = true := by rw [mkE_t]; simp [hasLst, hasLstL]
theorem hl_two : hasLst twoE.t = true := by unfold twoE; rw [litE_t, gs_false]; simp [hasLst, hasLstL]
theorem hl_ref (x : List UInt8) : hasLst (refE 2 x).t = false := by rw [refE_t]; simp [hasLst, hasLstL]
set_option maxRecDepth 200000 in
set_option maxHeartbeats 16000000 in
@[simp] theorem c_awake : callF E 0 f_law08_awake [] emp = some (.sc (.bool true), emp) := by
 have p0 := aw_p0
 have p1 := aw_p1
 have p2 := aw_p2
 have p3 := aw_p3
 have p4 := aw_p4
 have p5 := aw_p5
 have p6 := aw_p6
 have p7 := aw_p7
 have r0 := aw_r0
 have r1 := aw_r1
 have r2 := aw_r2
 have o0 := aw_o0
 have o1 := aw_o1
 have o2 := aw_o2
 have o3 := aw_o3
 have o4 := aw_o4
 have o5 := aw_o5
 have o6 := aw_o6
 have o7 := aw_o7
 have o8 := aw_o8
 have qA := aw_A
 have qB := aw_B
 have qC := aw_C
 have qD := aw_D
 have q0 := aw_0
 have q2 := c_two
 have hA : hasLst eA.t = false := hl_ref _
 have hB : hasLst eB.t = false := hl_ref _
 have hC : hasLst eC.t = false := hl_ref _
 have hD : hasLst eD.t = false := hl_ref _
 have hT := hl_two
 have hM := hl_mkE
 rw [mkE_t, ml2] at p4
 rw [mkE_t, ml1] at p7
 rw [refE_t] at p6
 try simp only [lenN, Int.cast_ofNat_Int] at *
 (refine callF_light rfl pf_law08_awake lf_law08_awake (by simp [K_law08_awake]) ?_; rw [evF_R, K_law08_awake])
 simp (maxSteps := 4000000) (disch := omega) [*]
end Go.TM.R8
