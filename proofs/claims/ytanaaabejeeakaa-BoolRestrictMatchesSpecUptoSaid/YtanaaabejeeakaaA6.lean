/- Joined by a program: what the proof of the law leans on, part 6. -/
import Derived.Test.YtanaaabejeeakaaA5
set_option linter.unusedVariables false
set_option linter.unusedSimpArgs false
section
namespace Go.Proofs.Ytanaaabejeeakaa
open Go.AI
set_option maxRecDepth 100000
set_option maxHeartbeats 2000000
set_option linter.unusedVariables false
attribute [local irreducible] Ld Sto New NewS NewM NN NZ GE0 FA IA IAP LenS Slc App Cpy Clr MkS Fnc NilQ IxS Look MSet Run CV RunT CVT LoopT Same1 Same2 wpC wpOs wpT wpO wpOp
def Z11.c67 : RC := (.cond 90 (.seq (.ops [.put 91 (.fa 2 (.tm 3)), .run (.st 1 (.tm 91) (.ct (.one (.bool true))))]) (.seq (.ops [.put 92 (.ld true [.ac, .ac, .bool] (.tm 3)), .run (.st 3 (.tm 6) (.tm 92)), .put 7 (.mov (cI 0))]) .ret)) .skip)
def Z11.c50 : RC := (.cond 60 (.seq (.ops [.put 61 (.ld true [.ac, .ac, .bool] (.tm 3)), pM 62 9, .run (.st 3 (.tm 6) (.tm 61)), pM 7 62]) .ret) .skip)
def Z11.c40 : RC := (.seq (.seq (.ops [pM 37 9, .put 38 (.fa 0 (.tm 3)), .put 39 (.ld false [.ac] (.tm 38)), .put 40 (.lens (.tm 39)), .put 41 (.cm .lt (.tm 37) (.tm 40))]) (.cond 41 .skip (.exit 2))) (.seq (.block 3 (.seq (.ops [.put 44 (.fa 0 (.tm 3)), .put 45 (.ld false [.ac] (.tm 44)), pM 46 9, .put 47 (.ia 3 (.tm 45) (.tm 46)), .put 48 (.fa 0 (.tm 47)), .put 49 (.ld false [.int .i64] (.tm 48)), pM 50 2, .put 51 (.cm .eq (.tm 49) (.tm 50)), pM 52 51, .gput 53 52 true (.fa 1 (.tm 3)), .gput 54 52 true (.ld false [.ac] (.tm 53)), .gput 55 52 true (.mov (.tm 9)), .gput 56 52 true (.ia 1 (.tm 54) (.tm 55)), .gput 57 52 true (.ld false [.ac] (.tm 56)), .gput 58 52 true (.mov (.tm 1)), .gput 59 52 true (.call 83 [(.tm 57), (.tm 58)]), .put 60 (.pick (.tm 52) (.tm 59) (.ct (.one (.bool false))))]) Z11.c50)) (.ops [pM 42 9, .put 43 (.ar .add (.tm 42) (cI 1)), pM 9 43])))
def Z11.c23 : RC := (.seq (.seq (.ops [pM 22 1, pM 23 8, .put 24 (.slc 1 (.tm 22) none (some (.tm 23))), pM 25 1, pM 26 8, .put 27 (.slc 1 (.tm 25) (some (.tm 26)) none), .put 28 (.call 83 [(.tm 24), (.tm 27)])]) (.cond 28 .skip (.exit 0))) (.block 1 (.seq (.ops [pM 29 1, pM 30 8, .put 31 (.slc 1 (.tm 29) none (some (.tm 30))), pM 1 31]) (.seq (.ops [pM 32 1, .put 33 (.lens (.tm 32)), .put 34 (.ar .quo (.tm 33) (cI 2)), pM 8 34]) (.ops [pM 35 2, .put 36 (.ar .add (.tm 35) (cI 1)), pM 2 36])))))
def Z11.c : RC := (.seq (.ops [.put 3 (.box 71 (.tm 0)), .put 6 (.new 71 [(.sl none 0 0 (some 0)), (.sl none 0 0 (some 0)), (.bool false)]), .put 7 (.mov (cI 0))]) (.seq (.seq (.ops [pM 12 1, .put 13 (.call 82 [(.tm 12)])]) (.cond 13 (.seq (.seq (.ops [pM 14 1, .put 15 (.ia 1 (.tm 14) (cI 0)), .put 16 (.ld false [.bool] (.tm 15))]) (.cond 16 (.seq (.ops [.put 17 (.ld true [.ac, .ac, .bool] (.tm 3)), .run (.st 3 (.tm 6) (.tm 17)), .put 7 (.mov (.ct (.one (.int .i64 (-2)))))]) .ret) .skip)) (.seq (.ops [.put 18 (.ld true [.ac, .ac, .bool] (.tm 3)), .run (.st 3 (.tm 6) (.tm 18)), .put 7 (.mov (.ct (.one (.int .i64 (-1)))))]) .ret)) .skip)) (.seq (.ops [pM 19 1, .put 20 (.lens (.tm 19)), .put 21 (.ar .quo (.tm 20) (cI 2)), pM 8 21]) (.seq (.block 0 (.loop Z11.c23)) (.seq (.seq (.ops [.put 9 (.mov (cI 0))]) (.block 2 (.loop Z11.c40))) (.seq (.ops [.put 10 (.mov (cI 0))]) (.seq (.ops [.put 11 (.mov (cI 0))]) (.seq (.ops [.put 64 (.ld true [.ac, .ac, .bool] (.tm 3)), pM 65 1, pM 66 8, .put 67 (.slc 1 (.tm 65) none (some (.tm 66))), pM 68 2, .put 69 (.ar .add (.tm 68) (cI 1)), .put 70 (.call 48 [(.tm 64), (.tm 67), (.tm 69)]), pM 63 70, .put 71 (.ex (.tm 63) 0), .put 72 (.ex (.tm 63) 1), .run (.st 3 (.tm 3) (.tm 71)), pM 10 72]) (.seq (.ops [.put 74 (.ld true [.ac, .ac, .bool] (.tm 3)), pM 75 1, pM 76 8, .put 77 (.slc 1 (.tm 75) (some (.tm 76)) none), pM 78 2, .put 79 (.ar .add (.tm 78) (cI 1)), .put 80 (.call 48 [(.tm 74), (.tm 77), (.tm 79)]), pM 73 80, .put 81 (.ex (.tm 73) 0), .put 82 (.ex (.tm 73) 1), .run (.st 3 (.tm 3) (.tm 81)), pM 11 82]) (.seq (.seq (.ops [.put 83 (.fa 2 (.tm 3)), .put 84 (.ld false [.bool] (.tm 83)), pM 85 84, .gput 86 85 false (.fa 0 (.tm 3)), .gput 87 85 false (.ld false [.ac] (.tm 86)), .gput 88 85 false (.lens (.tm 87)), .gput 89 85 false (.cm .eq (.tm 88) (cI 2000)), .put 90 (.pick (.tm 85) (.ct (.one (.bool true))) (.tm 89))]) Z11.c67) (.seq (.ops [.put 93 (.fa 0 (.tm 3)), .put 94 (.ld false [.ac] (.tm 93)), pM 95 2, pM 96 10, pM 97 11, .put 98 (.bld [(.int .i64 0), (.int .i64 0), (.int .i64 0)] [(0, 1, (.tm 95)), (1, 1, (.tm 96)), (2, 1, (.tm 97))]), .put 99 (.blds 77 3 1 [(.int .i64 0), (.int .i64 0), (.int .i64 0)] [(0, 3, (.tm 98))]), .put 100 (.app 77 3 24 (.tm 94) (.tm 99)), .put 101 (.fa 0 (.tm 3)), .run (.st 1 (.tm 101) (.tm 100))]) (.seq (.ops [.put 102 (.fa 1 (.tm 3)), .put 103 (.ld false [.ac] (.tm 102)), pM 104 1, .put 105 (.blds 33 1 1 [(.sl none 0 0 (some 0))] [(0, 1, (.tm 104))]), .put 106 (.app 33 1 24 (.tm 103) (.tm 105)), .put 107 (.fa 1 (.tm 3)), .run (.st 1 (.tm 107) (.tm 106))]) (.seq (.held [.put 108 (.ld true [.ac, .ac, .bool] (.tm 3)), .put 109 (.fa 0 (.tm 3)), .put 110 (.ld false [.ac] (.tm 109)), .put 111 (.lens (.tm 110)), .put 112 (.ar .sub (.tm 111) (cI 1)), .run (.st 3 (.tm 6) (.tm 108)), pM 7 112] [(2, 5), (3, 5)]) .ret)))))))))))))
abbrev Z11.KQ (Q : AHeap → AC → AC → Bool → Int → Prop) : AV → AHeap → Prop := KQT [(true, [.ac, .ac, .bool]), (false, [.int .i64])] Q
abbrev Z11.K (Q : AHeap → AC → AC → Bool → Int → Prop) : Ex → Env → AHeap → Prop := kTop [.cell 6 true [.ac, .ac, .bool], .tm 7] (Z11.KQ Q)
abbrev Z11.k21 (Q : AHeap → AC → AC → Bool → Int → Prop) : Ex → Env → AHeap → Prop := kSeq (fun t H => wpC Try.prog (.seq (.seq (.ops [.put 9 (.mov (cI 0))]) (.block 2 (.loop Z11.c40))) (.seq (.ops [.put 10 (.mov (cI 0))]) (.seq (.ops [.put 11 (.mov (cI 0))]) (.seq (.ops [.put 64 (.ld true [.ac, .ac, .bool] (.tm 3)), pM 65 1, pM 66 8, .put 67 (.slc 1 (.tm 65) none (some (.tm 66))), pM 68 2, .put 69 (.ar .add (.tm 68) (cI 1)), .put 70 (.call 48 [(.tm 64), (.tm 67), (.tm 69)]), pM 63 70, .put 71 (.ex (.tm 63) 0), .put 72 (.ex (.tm 63) 1), .run (.st 3 (.tm 3) (.tm 71)), pM 10 72]) (.seq (.ops [.put 74 (.ld true [.ac, .ac, .bool] (.tm 3)), pM 75 1, pM 76 8, .put 77 (.slc 1 (.tm 75) (some (.tm 76)) none), pM 78 2, .put 79 (.ar .add (.tm 78) (cI 1)), .put 80 (.call 48 [(.tm 74), (.tm 77), (.tm 79)]), pM 73 80, .put 81 (.ex (.tm 73) 0), .put 82 (.ex (.tm 73) 1), .run (.st 3 (.tm 3) (.tm 81)), pM 11 82]) (.seq (.seq (.ops [.put 83 (.fa 2 (.tm 3)), .put 84 (.ld false [.bool] (.tm 83)), pM 85 84, .gput 86 85 false (.fa 0 (.tm 3)), .gput 87 85 false (.ld false [.ac] (.tm 86)), .gput 88 85 false (.lens (.tm 87)), .gput 89 85 false (.cm .eq (.tm 88) (cI 2000)), .put 90 (.pick (.tm 85) (.ct (.one (.bool true))) (.tm 89))]) Z11.c67) (.seq (.ops [.put 93 (.fa 0 (.tm 3)), .put 94 (.ld false [.ac] (.tm 93)), pM 95 2, pM 96 10, pM 97 11, .put 98 (.bld [(.int .i64 0), (.int .i64 0), (.int .i64 0)] [(0, 1, (.tm 95)), (1, 1, (.tm 96)), (2, 1, (.tm 97))]), .put 99 (.blds 77 3 1 [(.int .i64 0), (.int .i64 0), (.int .i64 0)] [(0, 3, (.tm 98))]), .put 100 (.app 77 3 24 (.tm 94) (.tm 99)), .put 101 (.fa 0 (.tm 3)), .run (.st 1 (.tm 101) (.tm 100))]) (.seq (.ops [.put 102 (.fa 1 (.tm 3)), .put 103 (.ld false [.ac] (.tm 102)), pM 104 1, .put 105 (.blds 33 1 1 [(.sl none 0 0 (some 0))] [(0, 1, (.tm 104))]), .put 106 (.app 33 1 24 (.tm 103) (.tm 105)), .put 107 (.fa 1 (.tm 3)), .run (.st 1 (.tm 107) (.tm 106))]) (.seq (.held [.put 108 (.ld true [.ac, .ac, .bool] (.tm 3)), .put 109 (.fa 0 (.tm 3)), .put 110 (.ld false [.ac] (.tm 109)), .put 111 (.lens (.tm 110)), .put 112 (.ar .sub (.tm 111) (cI 1)), .run (.st 3 (.tm 6) (.tm 108)), pM 7 112] [(2, 5), (3, 5)]) .ret))))))))) t H (Z11.K Q)) (Z11.K Q)
abbrev Z11.k36 (Q : AHeap → AC → AC → Bool → Int → Prop) : Ex → Env → AHeap → Prop := kSeq (fun t H => wpC Try.prog (.seq (.ops [.put 10 (.mov (cI 0))]) (.seq (.ops [.put 11 (.mov (cI 0))]) (.seq (.ops [.put 64 (.ld true [.ac, .ac, .bool] (.tm 3)), pM 65 1, pM 66 8, .put 67 (.slc 1 (.tm 65) none (some (.tm 66))), pM 68 2, .put 69 (.ar .add (.tm 68) (cI 1)), .put 70 (.call 48 [(.tm 64), (.tm 67), (.tm 69)]), pM 63 70, .put 71 (.ex (.tm 63) 0), .put 72 (.ex (.tm 63) 1), .run (.st 3 (.tm 3) (.tm 71)), pM 10 72]) (.seq (.ops [.put 74 (.ld true [.ac, .ac, .bool] (.tm 3)), pM 75 1, pM 76 8, .put 77 (.slc 1 (.tm 75) (some (.tm 76)) none), pM 78 2, .put 79 (.ar .add (.tm 78) (cI 1)), .put 80 (.call 48 [(.tm 74), (.tm 77), (.tm 79)]), pM 73 80, .put 81 (.ex (.tm 73) 0), .put 82 (.ex (.tm 73) 1), .run (.st 3 (.tm 3) (.tm 81)), pM 11 82]) (.seq (.seq (.ops [.put 83 (.fa 2 (.tm 3)), .put 84 (.ld false [.bool] (.tm 83)), pM 85 84, .gput 86 85 false (.fa 0 (.tm 3)), .gput 87 85 false (.ld false [.ac] (.tm 86)), .gput 88 85 false (.lens (.tm 87)), .gput 89 85 false (.cm .eq (.tm 88) (cI 2000)), .put 90 (.pick (.tm 85) (.ct (.one (.bool true))) (.tm 89))]) Z11.c67) (.seq (.ops [.put 93 (.fa 0 (.tm 3)), .put 94 (.ld false [.ac] (.tm 93)), pM 95 2, pM 96 10, pM 97 11, .put 98 (.bld [(.int .i64 0), (.int .i64 0), (.int .i64 0)] [(0, 1, (.tm 95)), (1, 1, (.tm 96)), (2, 1, (.tm 97))]), .put 99 (.blds 77 3 1 [(.int .i64 0), (.int .i64 0), (.int .i64 0)] [(0, 3, (.tm 98))]), .put 100 (.app 77 3 24 (.tm 94) (.tm 99)), .put 101 (.fa 0 (.tm 3)), .run (.st 1 (.tm 101) (.tm 100))]) (.seq (.ops [.put 102 (.fa 1 (.tm 3)), .put 103 (.ld false [.ac] (.tm 102)), pM 104 1, .put 105 (.blds 33 1 1 [(.sl none 0 0 (some 0))] [(0, 1, (.tm 104))]), .put 106 (.app 33 1 24 (.tm 103) (.tm 105)), .put 107 (.fa 1 (.tm 3)), .run (.st 1 (.tm 107) (.tm 106))]) (.seq (.held [.put 108 (.ld true [.ac, .ac, .bool] (.tm 3)), .put 109 (.fa 0 (.tm 3)), .put 110 (.ld false [.ac] (.tm 109)), .put 111 (.lens (.tm 110)), .put 112 (.ar .sub (.tm 111) (cI 1)), .run (.st 3 (.tm 6) (.tm 108)), pM 7 112] [(2, 5), (3, 5)]) .ret)))))))) t H (Z11.K Q)) (Z11.K Q)
abbrev Z11.k47 (Q : AHeap → AC → AC → Bool → Int → Prop) (X39 : Env → AHeap → Prop) : Ex → Env → AHeap → Prop := kSeq (fun t H => wpC Try.prog (.ops [pM 42 9, .put 43 (.ar .add (.tm 42) (cI 1)), pM 9 43]) t H (kSeq X39 (kBlk 2 (Z11.k36 Q)))) (kSeq X39 (kBlk 2 (Z11.k36 Q)))
abbrev Z11.k65 (Q : AHeap → AC → AC → Bool → Int → Prop) : Ex → Env → AHeap → Prop := kSeq (fun t H => wpC Try.prog (.seq (.ops [.put 93 (.fa 0 (.tm 3)), .put 94 (.ld false [.ac] (.tm 93)), pM 95 2, pM 96 10, pM 97 11, .put 98 (.bld [(.int .i64 0), (.int .i64 0), (.int .i64 0)] [(0, 1, (.tm 95)), (1, 1, (.tm 96)), (2, 1, (.tm 97))]), .put 99 (.blds 77 3 1 [(.int .i64 0), (.int .i64 0), (.int .i64 0)] [(0, 3, (.tm 98))]), .put 100 (.app 77 3 24 (.tm 94) (.tm 99)), .put 101 (.fa 0 (.tm 3)), .run (.st 1 (.tm 101) (.tm 100))]) (.seq (.ops [.put 102 (.fa 1 (.tm 3)), .put 103 (.ld false [.ac] (.tm 102)), pM 104 1, .put 105 (.blds 33 1 1 [(.sl none 0 0 (some 0))] [(0, 1, (.tm 104))]), .put 106 (.app 33 1 24 (.tm 103) (.tm 105)), .put 107 (.fa 1 (.tm 3)), .run (.st 1 (.tm 107) (.tm 106))]) (.seq (.held [.put 108 (.ld true [.ac, .ac, .bool] (.tm 3)), .put 109 (.fa 0 (.tm 3)), .put 110 (.ld false [.ac] (.tm 109)), .put 111 (.lens (.tm 110)), .put 112 (.ar .sub (.tm 111) (cI 1)), .run (.st 3 (.tm 6) (.tm 108)), pM 7 112] [(2, 5), (3, 5)]) .ret))) t H (Z11.K Q)) (Z11.K Q)
def Z11.R39 (s : Tup [.ac, .int .i64, .ac, .ac, .int .i64, .int .i64]) (t : Env) : Prop := t 1 = (.one (s.1)) ∧ t 2 = (.one (.int .i64 (s.2.1))) ∧ t 3 = (.one (s.2.2.1)) ∧ t 6 = (.one (s.2.2.2.1)) ∧ t 8 = (.one (.int .i64 (s.2.2.2.2.1))) ∧ t 9 = (.one (.int .i64 (s.2.2.2.2.2.1))) ∧ True
def Z11.R22 (s : Tup [.ac, .int .i64, .ac, .ac, .int .i64]) (t : Env) : Prop := t 1 = (.one (s.1)) ∧ t 2 = (.one (.int .i64 (s.2.1))) ∧ t 3 = (.one (s.2.2.1)) ∧ t 6 = (.one (s.2.2.2.1)) ∧ t 8 = (.one (.int .i64 (s.2.2.2.2.1))) ∧ True
def Z11.p67 (Q : AHeap → AC → AC → Bool → Int → Prop) (x1 : AC) (x2 : Int) (x3 : AC) (x6 : AC) (x10 : Int) (x11 : Int) (x90 : Bool) (H : AHeap) : Prop := CondB x90 (FA 2 x3 fun q_1 => Sto H q_1 [(.bool true)] fun H_2 => Ld [.ac, .ac, .bool] H_2 x3 fun (v_3 : AC) (v_4 : AC) (v_5 : Bool) => Sto H_2 x6 [v_3, v_4, (.bool v_5)] fun H_6 => Ld [.ac, .ac, .bool] H_6 x6 fun (r0_7 : AC) (r1_8 : AC) (r2_9 : Bool) => Q H_6 r0_7 r1_8 r2_9 0) (FA 0 x3 fun q_10 => Ld [.ac] H q_10 fun (v_11 : AC) => NewS 77 3 1 [(.int .i64 x2), (.int .i64 x10), (.int .i64 x11)] H fun p_12 H_13 => App 77 3 24 v_11 p_12 H_13 fun s_14 H_15 => FA 0 x3 fun q_16 => Sto H_15 q_16 [s_14] fun H_17 => FA 1 x3 fun q_18 => Ld [.ac] H_17 q_18 fun (v_19 : AC) => NewS 33 1 1 [x1] H_17 fun p_20 H_21 => App 33 1 24 v_19 p_20 H_21 fun s_22 H_23 => FA 1 x3 fun q_24 => Sto H_23 q_24 [s_22] fun H_25 => Ld [.ac, .ac, .bool] H_25 x3 fun (v_26 : AC) (v_27 : AC) (v_28 : Bool) => FA 0 x3 fun q_29 => Ld [.ac] H_25 q_29 fun (v_30 : AC) => LenS v_30 fun n_31 => Sto H_25 x6 [v_26, v_27, (.bool v_28)] fun H_32 => Same1 H_25 H_32 q_29 1 ∧ Ld [.ac, .ac, .bool] H_32 x6 fun (r0_33 : AC) (r1_34 : AC) (r2_35 : Bool) => Q H_32 r0_33 r1_34 r2_35 (IntKind.wrap .i64 (n_31 - 1)))
def Z11.p50 (Q : AHeap → AC → AC → Bool → Int → Prop) (Y39 : Tup [.ac, .int .i64, .ac, .ac, .int .i64, .int .i64] → AHeap → Prop) (x1 : AC) (x2 : Int) (x3 : AC) (x6 : AC) (x8 : Int) (x9 : Int) (x60 : Bool) (H : AHeap) : Prop := CondB x60 (Ld [.ac, .ac, .bool] H x3 fun (v_1 : AC) (v_2 : AC) (v_3 : Bool) => Sto H x6 [v_1, v_2, (.bool v_3)] fun H_4 => Ld [.ac, .ac, .bool] H_4 x6 fun (r0_5 : AC) (r1_6 : AC) (r2_7 : Bool) => Q H_4 r0_5 r1_6 r2_7 x9) (Y39 (x1, (x2 : Int), x3, x6, (x8 : Int), ((IntKind.wrap .i64 (x9 + 1)) : Int), ()) H)
def Z11.b39 (Q : AHeap → AC → AC → Bool → Int → Prop) (Y39 : Tup [.ac, .int .i64, .ac, .ac, .int .i64, .int .i64] → AHeap → Prop) (x1 : AC) (x2 : Int) (x3 : AC) (x6 : AC) (x8 : Int) (x9 : Int) (H : AHeap) : Prop := FA 0 x3 fun q_1 => Ld [.ac] H q_1 fun (v_2 : AC) => LenS v_2 fun n_3 => CondB (decide (x9 < n_3)) (FA 0 x3 fun q_4 => Ld [.ac] H q_4 fun (v_5 : AC) => IA 3 v_5 x9 fun q_6 => FA 0 q_6 fun q_7 => Ld [.int .i64] H q_7 fun (v_8 : Int) => CondB (v_8 == x2) (FA 1 x3 fun q_9 => Ld [.ac] H q_9 fun (v_10 : AC) => IA 1 v_10 x9 fun q_11 => Ld [.ac] H q_11 fun (v_12 : AC) => Fn.Z8 v_12 x1 H fun H_13 (v_14 : Bool) => Z11.p50 Q Y39 x1 x2 x3 x6 x8 x9 v_14 H_13) (Z11.p50 Q Y39 x1 x2 x3 x6 x8 x9 false H)) (Ld [.ac, .ac, .bool] H x3 fun (v_15 : AC) (v_16 : AC) (v_17 : Bool) => Slc 1 x1 none (some x8) fun s_18 => Fn.Z11 v_15 v_16 v_17 s_18 (IntKind.wrap .i64 (x2 + 1)) H fun H_19 (v_20 : AC) (v_21 : AC) (v_22 : Bool) (v_23 : Int) => Sto H_19 x3 [v_20, v_21, (.bool v_22)] fun H_24 => Ld [.ac, .ac, .bool] H_24 x3 fun (v_25 : AC) (v_26 : AC) (v_27 : Bool) => Slc 1 x1 (some x8) none fun s_28 => Fn.Z11 v_25 v_26 v_27 s_28 (IntKind.wrap .i64 (x2 + 1)) H_24 fun H_29 (v_30 : AC) (v_31 : AC) (v_32 : Bool) (v_33 : Int) => Sto H_29 x3 [v_30, v_31, (.bool v_32)] fun H_34 => FA 2 x3 fun q_35 => Ld [.bool] H_34 q_35 fun (v_36 : Bool) => CondB v_36 (Z11.p67 Q x1 x2 x3 x6 v_23 v_33 true H_34) (FA 0 x3 fun q_37 => Ld [.ac] H_34 q_37 fun (v_38 : AC) => LenS v_38 fun n_39 => Z11.p67 Q x1 x2 x3 x6 v_23 v_33 (n_39 == 2000) H_34))
def Z11.l39 (Q : AHeap → AC → AC → Bool → Int → Prop) (x1 : AC) (x2 : Int) (x3 : AC) (x6 : AC) (x8 : Int) (x9 : Int) (H : AHeap) : Prop := LoopT (Tup [.ac, .int .i64, .ac, .ac, .int .i64, .int .i64]) (fun Y s H => Z11.b39 Q Y (s.1) (s.2.1) (s.2.2.1) (s.2.2.2.1) (s.2.2.2.2.1) (s.2.2.2.2.2.1) H) (x1, x2, x3, x6, x8, x9, ()) H
def Z11.b22 (Q : AHeap → AC → AC → Bool → Int → Prop) (Y22 : Tup [.ac, .int .i64, .ac, .ac, .int .i64] → AHeap → Prop) (x1 : AC) (x2 : Int) (x3 : AC) (x6 : AC) (x8 : Int) (H : AHeap) : Prop := Slc 1 x1 none (some x8) fun s_1 => Slc 1 x1 (some x8) none fun s_2 => Fn.Z8 s_1 s_2 H fun H_3 (v_4 : Bool) => CondB v_4 (Slc 1 x1 none (some x8) fun s_5 => LenS s_5 fun n_6 => NZ 2 <| Y22 (s_5, ((IntKind.wrap .i64 (x2 + 1)) : Int), x3, x6, ((IntKind.wrap .i64 (Int.tdiv n_6 2)) : Int), ()) H_3) (Z11.l39 Q x1 x2 x3 x6 x8 0 H_3)
def Z11.l22 (Q : AHeap → AC → AC → Bool → Int → Prop) (x1 : AC) (x2 : Int) (x3 : AC) (x6 : AC) (x8 : Int) (H : AHeap) : Prop := LoopT (Tup [.ac, .int .i64, .ac, .ac, .int .i64]) (fun Y s H => Z11.b22 Q Y (s.1) (s.2.1) (s.2.2.1) (s.2.2.2.1) (s.2.2.2.2.1) H) (x1, x2, x3, x6, x8, ()) H
def Z11.W (a0_0 : AC) (a0_1 : AC) (a0_2 : Bool) (a1 : AC) (a2 : Int) (H : AHeap) (Q : AHeap → AC → AC → Bool → Int → Prop) : Prop := New 71 [a0_0, a0_1, (.bool a0_2)] H fun p_1 H_2 => New 71 [(.sl none 0 0 (some 0)), (.sl none 0 0 (some 0)), (.bool false)] H_2 fun p_3 H_4 => Fn.Z10 a1 H_4 fun H_5 (v_6 : Bool) => CondB v_6 (IA 1 a1 0 fun q_7 => Ld [.bool] H_5 q_7 fun (v_8 : Bool) => CondB v_8 (Ld [.ac, .ac, .bool] H_5 p_1 fun (v_9 : AC) (v_10 : AC) (v_11 : Bool) => Sto H_5 p_3 [v_9, v_10, (.bool v_11)] fun H_12 => Ld [.ac, .ac, .bool] H_12 p_3 fun (r0_13 : AC) (r1_14 : AC) (r2_15 : Bool) => Q H_12 r0_13 r1_14 r2_15 (-2)) (Ld [.ac, .ac, .bool] H_5 p_1 fun (v_16 : AC) (v_17 : AC) (v_18 : Bool) => Sto H_5 p_3 [v_16, v_17, (.bool v_18)] fun H_19 => Ld [.ac, .ac, .bool] H_19 p_3 fun (r0_20 : AC) (r1_21 : AC) (r2_22 : Bool) => Q H_19 r0_20 r1_21 r2_22 (-1))) (LenS a1 fun n_23 => NZ 2 <| Z11.l22 Q a1 a2 p_1 p_3 (IntKind.wrap .i64 (Int.tdiv n_23 2)) H_5)
theorem Z11.p67_okE (Q : AHeap → AC → AC → Bool → Int → Prop) {x1 : AC} {x2 : Int} {x3 : AC} {x6 : AC} {x10 : Int} {x11 : Int} {x90 : Bool} {H : AHeap} (j : Env) : Z11.p67 Q x1 x2 x3 x6 x10 x11 x90 H → wpC Try.prog Z11.c67 (upd (upd (upd (upd (upd (upd (upd j 1 (.one x1)) 2 (.one (.int .i64 x2))) 3 (.one x3)) 6 (.one x6)) 10 (.one (.int .i64 x10))) 11 (.one (.int .i64 x11))) 90 (.one (.bool x90))) H (Z11.k65 Q) := c_if rfl (cO (sP (o_fa rfl (fun q_1 => s_cons (w_run (o_st rfl rfl rfl (fun H_2 => sK (cO (sP (o_ld3 rfl (fun (v_3 : AC) (v_4 : AC) (v_5 : Bool) => s_cons (w_run (o_st rfl rfl rfl (fun H_6 => sP (o_mov rfl (sK (c_ret (k_seqR (k_topR (r_cell3 rfl (fun (r0_7 : AC) (r1_8 : AC) (r2_9 : Bool) => r_one rfl (r_nil (fun h => ⟨(r0_7, r1_8, (r2_9 : Bool), (0 : Int), ()), rfl, h⟩))))))))))))))))))))))) (c_skip (k_seq (cO (sP (o_fa rfl (fun q_10 => sP (o_ld1 rfl (fun (v_11 : AC) => sP (o_mov rfl (sP (o_mov rfl (sP (o_mov rfl (sP (o_bld rfl (sP (o_blds rfl (fun p_12 H_13 => sP (o_app rfl rfl (fun s_14 H_15 => sP (o_fa rfl (fun q_16 => s_cons (w_run (o_st rfl rfl rfl (fun H_17 => sK (cO (sP (o_fa rfl (fun q_18 => sP (o_ld1 rfl (fun (v_19 : AC) => sP (o_mov rfl (sP (o_blds rfl (fun p_20 H_21 => sP (o_app rfl rfl (fun s_22 H_23 => sP (o_fa rfl (fun q_24 => s_cons (w_run (o_st rfl rfl rfl (fun H_25 => sK (c_seq (c_held (t_cons (w_put (o_ld3 rfl (fun (v_26 : AC) (v_27 : AC) (v_28 : Bool) => t_cons (w_put (o_fa rfl (fun q_29 => t_cons (w_put (o_ld1 rfl (fun (v_30 : AC) => t_cons (w_put (o_lens rfl (fun n_31 => t_cons (w_put (o_sub rfl rfl (t_cons (w_run (o_st rfl rfl rfl (fun H_32 => t_cons (w_put (o_mov rfl (t_nil (p_one rfl rfl rfl rfl rfl rfl rfl rfl (p_skip trivial (p_nil (k_seq (c_ret (k_topR (r_cell3 rfl (fun (r0_33 : AC) (r1_34 : AC) (r2_35 : Bool) => r_one rfl (r_nil (fun h => ⟨(r0_33, r1_34, (r2_35 : Bool), ((IntKind.wrap .i64 (n_31 - 1)) : Int), ()), rfl, h⟩))))))))))))))))))))))))))))))))))))))))))))))))))))))))))))))))))))))))))))
theorem Z11.p67_ok (Q : AHeap → AC → AC → Bool → Int → Prop) {x1 : AC} {x2 : Int} {x3 : AC} {x6 : AC} {x10 : Int} {x11 : Int} {x90 : Bool} {H : AHeap} {t : Env} (h1 : t 1 = (.one x1)) (h2 : t 2 = (.one (.int .i64 x2))) (h3 : t 3 = (.one x3)) (h6 : t 6 = (.one x6)) (h10 : t 10 = (.one (.int .i64 x10))) (h11 : t 11 = (.one (.int .i64 x11))) (h90 : t 90 = (.one (.bool x90))) (h : Z11.p67 Q x1 x2 x3 x6 x10 x11 x90 H) : wpC Try.prog Z11.c67 t H (Z11.k65 Q) := by
  have g := Z11.p67_okE Q t h
  rw [upd_self h1] at g
  rw [upd_self h2] at g
  rw [upd_self h3] at g
  rw [upd_self h6] at g
  rw [upd_self h10] at g
  rw [upd_self h11] at g
  rw [upd_self h90] at g
  exact g
theorem Z11.p50_okE (Q : AHeap → AC → AC → Bool → Int → Prop) (Y39 : Tup [.ac, .int .i64, .ac, .ac, .int .i64, .int .i64] → AHeap → Prop) (X39 : Env → AHeap → Prop) (hX39 : ∀ s t H, Z11.R39 s t → Y39 s H → X39 t H) {x1 : AC} {x2 : Int} {x3 : AC} {x6 : AC} {x8 : Int} {x9 : Int} {x60 : Bool} {H : AHeap} (j : Env) : Z11.p50 Q Y39 x1 x2 x3 x6 x8 x9 x60 H → wpC Try.prog Z11.c50 (upd (upd (upd (upd (upd (upd (upd j 1 (.one x1)) 2 (.one (.int .i64 x2))) 3 (.one x3)) 6 (.one x6)) 8 (.one (.int .i64 x8))) 9 (.one (.int .i64 x9))) 60 (.one (.bool x60))) H (kBlk 3 (Z11.k47 Q X39)) := c_if rfl (cO (sP (o_ld3 rfl (fun (v_1 : AC) (v_2 : AC) (v_3 : Bool) => sP (o_mov rfl (s_cons (w_run (o_st rfl rfl rfl (fun H_4 => sP (o_mov rfl (sK (c_ret (k_blkR (k_seqR (k_seqR (k_blkR (k_seqR (k_topR (r_cell3 rfl (fun (r0_5 : AC) (r1_6 : AC) (r2_7 : Bool) => r_one rfl (r_nil (fun h => ⟨(r0_5, r1_6, (r2_7 : Bool), (x9 : Int), ()), rfl, h⟩)))))))))))))))))))))) (c_skip (k_blk (k_seq (c_ops (sP (o_mov rfl (sP (o_add rfl rfl (sP (o_mov rfl (sK (hX39 _ _ _ ⟨rfl, rfl, rfl, rfl, rfl, rfl, trivial⟩))))))))))))
theorem Z11.p50_ok (Q : AHeap → AC → AC → Bool → Int → Prop) (Y39 : Tup [.ac, .int .i64, .ac, .ac, .int .i64, .int .i64] → AHeap → Prop) (X39 : Env → AHeap → Prop) (hX39 : ∀ s t H, Z11.R39 s t → Y39 s H → X39 t H) {x1 : AC} {x2 : Int} {x3 : AC} {x6 : AC} {x8 : Int} {x9 : Int} {x60 : Bool} {H : AHeap} {t : Env} (h1 : t 1 = (.one x1)) (h2 : t 2 = (.one (.int .i64 x2))) (h3 : t 3 = (.one x3)) (h6 : t 6 = (.one x6)) (h8 : t 8 = (.one (.int .i64 x8))) (h9 : t 9 = (.one (.int .i64 x9))) (h60 : t 60 = (.one (.bool x60))) (h : Z11.p50 Q Y39 x1 x2 x3 x6 x8 x9 x60 H) : wpC Try.prog Z11.c50 t H (kBlk 3 (Z11.k47 Q X39)) := by
  have g := Z11.p50_okE Q Y39 X39 hX39 t h
  rw [upd_self h1] at g
  rw [upd_self h2] at g
  rw [upd_self h3] at g
  rw [upd_self h6] at g
  rw [upd_self h8] at g
  rw [upd_self h9] at g
  rw [upd_self h60] at g
  exact g
theorem Z11.b39_ok (Q : AHeap → AC → AC → Bool → Int → Prop) (Y39 : Tup [.ac, .int .i64, .ac, .ac, .int .i64, .int .i64] → AHeap → Prop) (X39 : Env → AHeap → Prop) (hX39 : ∀ s t H, Z11.R39 s t → Y39 s H → X39 t H) {x1 : AC} {x2 : Int} {x3 : AC} {x6 : AC} {x8 : Int} {x9 : Int} {H : AHeap} (j : Env) : Z11.b39 Q Y39 x1 x2 x3 x6 x8 x9 H → wpC Try.prog Z11.c40 (upd (upd (upd (upd (upd (upd j 1 (.one x1)) 2 (.one (.int .i64 x2))) 3 (.one x3)) 6 (.one x6)) 8 (.one (.int .i64 x8))) 9 (.one (.int .i64 x9))) H (kSeq X39 (kBlk 2 (Z11.k36 Q))) := c_seq (cO (sP (o_mov rfl (sP (o_fa rfl (fun q_1 => sP (o_ld1 rfl (fun (v_2 : AC) => sP (o_lens rfl (fun n_3 => sP (o_lt rfl rfl (sK (c_if rfl (c_skip (k_seq (c_seq (c_blk (cO (sP (o_fa rfl (fun q_4 => sP (o_ld1 rfl (fun (v_5 : AC) => sP (o_mov rfl (sP (o_ia rfl rfl (fun q_6 => sP (o_fa rfl (fun q_7 => sP (o_ld1 rfl (fun (v_8 : Int) => sP (o_mov rfl (sP (o_eq rfl rfl (sP (o_mov rfl (s_cons (w_gputT rfl (o_fa rfl (fun q_9 => s_cons (w_gputY rfl (o_ld1 rfl (fun (v_10 : AC) => s_cons (w_gputY rfl (o_mov rfl (s_cons (w_gputY rfl (o_ia rfl rfl (fun q_11 => s_cons (w_gputY rfl (o_ld1 rfl (fun (v_12 : AC) => s_cons (w_gputY rfl (o_mov rfl (s_cons (w_gputY rfl (o_call rfl (cv_1 (fun H_13 (v_14 : Bool) => sP (o_pickT rfl rfl (sK (Z11.p50_ok Q Y39 X39 hX39 rfl rfl rfl rfl rfl rfl rfl)))))))))))))))))))))))) (s_cons (w_gputN rfl (s_cons (w_gputN rfl (s_cons (w_gputN rfl (s_cons (w_gputN rfl (s_cons (w_gputN rfl (s_cons (w_gputN rfl (sP (o_pickF rfl rfl (sK (Z11.p50_ok Q Y39 X39 hX39 rfl rfl rfl rfl rfl rfl rfl))))))))))))))))))))))))))))))))))))))))) (c_exit (k_seqE (k_seqE (k_blkH (k_seq (cO (sP (o_mov rfl (sK (cO (sP (o_mov rfl (sK (cO (sP (o_ld3 rfl (fun (v_15 : AC) (v_16 : AC) (v_17 : Bool) => sP (o_mov rfl (sP (o_mov rfl (sP (o_slc rfl rfl rfl (fun s_18 => sP (o_mov rfl (sP (o_add rfl rfl (sP (o_call rfl (cv_a3_o1 (fun H_19 (v_20 : AC) (v_21 : AC) (v_22 : Bool) (v_23 : Int) => sP (o_mov rfl (sP (o_ex rfl rfl rfl (sP (o_ex rfl rfl rfl (s_cons (w_run (o_st rfl rfl rfl (fun H_24 => sP (o_mov rfl (sK (cO (sP (o_ld3 rfl (fun (v_25 : AC) (v_26 : AC) (v_27 : Bool) => sP (o_mov rfl (sP (o_mov rfl (sP (o_slc rfl rfl rfl (fun s_28 => sP (o_mov rfl (sP (o_add rfl rfl (sP (o_call rfl (cv_a3_o1 (fun H_29 (v_30 : AC) (v_31 : AC) (v_32 : Bool) (v_33 : Int) => sP (o_mov rfl (sP (o_ex rfl rfl rfl (sP (o_ex rfl rfl rfl (s_cons (w_run (o_st rfl rfl rfl (fun H_34 => sP (o_mov rfl (sK (c_seq (cO (sP (o_fa rfl (fun q_35 => sP (o_ld1 rfl (fun (v_36 : Bool) => sP (o_mov rfl (s_cons (w_gputF rfl (s_cons (w_gputN rfl (s_cons (w_gputN rfl (s_cons (w_gputN rfl (sP (o_pickT rfl rfl (sK (Z11.p67_ok Q rfl rfl rfl rfl rfl rfl rfl)))))))))) (o_fa rfl (fun q_37 => s_cons (w_gputY rfl (o_ld1 rfl (fun (v_38 : AC) => s_cons (w_gputY rfl (o_lens rfl (fun n_39 => s_cons (w_gputY rfl (o_eq rfl rfl (sP (o_pickF rfl rfl (sK (Z11.p67_ok Q rfl rfl rfl rfl rfl rfl rfl))))))))))))))))))))))))))))))))))))))))))))))))))))))))))))))))))))))))))))))))))))))))))))))))))))))))))
theorem Z11.l39_ok (Q : AHeap → AC → AC → Bool → Int → Prop) {x1 : AC} {x2 : Int} {x3 : AC} {x6 : AC} {x8 : Int} {x9 : Int} {H : AHeap} {t : Env} (h1 : t 1 = (.one x1)) (h2 : t 2 = (.one (.int .i64 x2))) (h3 : t 3 = (.one x3)) (h6 : t 6 = (.one x6)) (h8 : t 8 = (.one (.int .i64 x8))) (h9 : t 9 = (.one (.int .i64 x9))) : Z11.l39 Q x1 x2 x3 x6 x8 x9 H → wpC Try.prog (.loop Z11.c40) t H (kBlk 2 (Z11.k36 Q)) :=
  m_loop Z11.R39 ⟨h1, h2, h3, h6, h8, h9, trivial⟩ fun X Y hX s t H hR hB => by
    have g := Z11.b39_ok Q Y X hX t hB
    rw [upd_self hR.1] at g
    rw [upd_self hR.2.1] at g
    rw [upd_self hR.2.2.1] at g
    rw [upd_self hR.2.2.2.1] at g
    rw [upd_self hR.2.2.2.2.1] at g
    rw [upd_self hR.2.2.2.2.2.1] at g
    exact g
theorem Z11.b22_ok (Q : AHeap → AC → AC → Bool → Int → Prop) (Y22 : Tup [.ac, .int .i64, .ac, .ac, .int .i64] → AHeap → Prop) (X22 : Env → AHeap → Prop) (hX22 : ∀ s t H, Z11.R22 s t → Y22 s H → X22 t H) {x1 : AC} {x2 : Int} {x3 : AC} {x6 : AC} {x8 : Int} {H : AHeap} (j : Env) : Z11.b22 Q Y22 x1 x2 x3 x6 x8 H → wpC Try.prog Z11.c23 (upd (upd (upd (upd (upd j 1 (.one x1)) 2 (.one (.int .i64 x2))) 3 (.one x3)) 6 (.one x6)) 8 (.one (.int .i64 x8))) H (kSeq X22 (kBlk 0 (Z11.k21 Q))) := c_seq (cO (sP (o_mov rfl (sP (o_mov rfl (sP (o_slc rfl rfl rfl (fun s_1 => sP (o_mov rfl (sP (o_mov rfl (sP (o_slc rfl rfl rfl (fun s_2 => sP (o_call rfl (cv_1 (fun H_3 (v_4 : Bool) => sK (c_if rfl (c_skip (k_seq (c_blk (cO (sP (o_mov rfl (sP (o_mov rfl (sP (o_slc rfl rfl rfl (fun s_5 => sP (o_mov rfl (sK (cO (sP (o_mov rfl (sP (o_lens rfl (fun n_6 => sP (o_quo rfl rfl (sP (o_mov rfl (sK (c_ops (sP (o_mov rfl (sP (o_add rfl rfl (sP (o_mov rfl (s_nil (k_blk (k_seq (hX22 _ _ _ ⟨rfl, rfl, rfl, rfl, rfl, trivial⟩)))))))))))))))))))))))))))))))))) (c_exit (k_seqE (k_seqE (k_blkH (k_seq (c_seq (cO (sP (o_mov rfl (sK (c_blk (Z11.l39_ok Q rfl rfl rfl rfl rfl rfl))))))))))))))))))))))))))))))
theorem Z11.l22_ok (Q : AHeap → AC → AC → Bool → Int → Prop) {x1 : AC} {x2 : Int} {x3 : AC} {x6 : AC} {x8 : Int} {H : AHeap} {t : Env} (h1 : t 1 = (.one x1)) (h2 : t 2 = (.one (.int .i64 x2))) (h3 : t 3 = (.one x3)) (h6 : t 6 = (.one x6)) (h8 : t 8 = (.one (.int .i64 x8))) : Z11.l22 Q x1 x2 x3 x6 x8 H → wpC Try.prog (.loop Z11.c23) t H (kBlk 0 (Z11.k21 Q)) :=
  m_loop Z11.R22 ⟨h1, h2, h3, h6, h8, trivial⟩ fun X Y hX s t H hR hB => by
    have g := Z11.b22_ok Q Y X hX t hB
    rw [upd_self hR.1] at g
    rw [upd_self hR.2.1] at g
    rw [upd_self hR.2.2.1] at g
    rw [upd_self hR.2.2.2.1] at g
    rw [upd_self hR.2.2.2.2.1] at g
    exact g
theorem Z11.ok {a0_0 : AC} {a0_1 : AC} {a0_2 : Bool} {a1 : AC} {a2 : Int} {H : AHeap} (Q : AHeap → AC → AC → Bool → Int → Prop) : Z11.W a0_0 a0_1 a0_2 a1 a2 H Q → wpF Try.prog Z11.c [.cell 6 true [.ac, .ac, .bool], .tm 7] (envOf [(.agg [a0_0, a0_1, (.bool a0_2)]), (.one a1), (.one (.int .i64 a2))]) H (Z11.KQ Q) := cO (sP (o_box rfl (fun p_1 H_2 => sP (o_new (fun p_3 H_4 => sP (o_mov rfl (sK (c_seq (cO (sP (o_mov rfl (sP (o_call rfl (cv_1 (fun H_5 (v_6 : Bool) => sK (c_if rfl (c_seq (cO (sP (o_mov rfl (sP (o_ia rfl rfl (fun q_7 => sP (o_ld1 rfl (fun (v_8 : Bool) => sK (c_if rfl (cO (sP (o_ld3 rfl (fun (v_9 : AC) (v_10 : AC) (v_11 : Bool) => s_cons (w_run (o_st rfl rfl rfl (fun H_12 => sP (o_mov rfl (sK (c_ret (k_seqR (k_seqR (k_topR (r_cell3 rfl (fun (r0_13 : AC) (r1_14 : AC) (r2_15 : Bool) => r_one rfl (r_nil (fun h => ⟨(r0_13, r1_14, (r2_15 : Bool), ((-2) : Int), ()), rfl, h⟩))))))))))))))))) (c_skip (k_seq (cO (sP (o_ld3 rfl (fun (v_16 : AC) (v_17 : AC) (v_18 : Bool) => s_cons (w_run (o_st rfl rfl rfl (fun H_19 => sP (o_mov rfl (sK (c_ret (k_seqR (k_topR (r_cell3 rfl (fun (r0_20 : AC) (r1_21 : AC) (r2_22 : Bool) => r_one rfl (r_nil (fun h => ⟨(r0_20, r1_21, (r2_22 : Bool), ((-1) : Int), ()), rfl, h⟩)))))))))))))))))))))))))))) (c_skip (k_seq (cO (sP (o_mov rfl (sP (o_lens rfl (fun n_23 => sP (o_quo rfl rfl (sP (o_mov rfl (sK (c_seq (c_blk (Z11.l22_ok Q rfl rfl rfl rfl rfl)))))))))))))))))))))))))))))))
theorem Z11.run {a0_0 : AC} {a0_1 : AC} {a0_2 : Bool} {a1 : AC} {a2 : Int} {H : AHeap} {Q : AHeap → AC → AC → Bool → Int → Prop} (h : Z11.W a0_0 a0_1 a0_2 a1 a2 H Q) : Fn.Z11 a0_0 a0_1 a0_2 a1 a2 H Q := by
  unfold Fn.Z11 RunT
  exact runK aggs_ok [(6, []), (17, []), (18, []), (24, [(2, 5), (3, 5)])] Try.func48 rfl (by kernel_rfl) (by kernel_rfl) (by kernel_rfl) (by kernel_rfl) (by kernel_rfl) (Z11.ok Q h)
end Go.Proofs.Ytanaaabejeeakaa
end
section
namespace Go.Proofs.Ytanaaabejeeakaa
open Go.AI
set_option maxRecDepth 100000
set_option maxHeartbeats 2000000
set_option linter.unusedVariables false
attribute [local irreducible] Ld Sto New NewS NewM NN NZ GE0 FA IA IAP LenS Slc App Cpy Clr MkS Fnc NilQ IxS Look MSet Run CV RunT CVT LoopT Same1 Same2 wpC wpOs wpT wpO wpOp
def Z31.c11 : RC := (.seq (.ops [.put 18 (.cm .lt (.tm 17) (.tm 16))]) (.seq (.cond 18 .skip (.exit 0)) (.seq (.block 1 (.seq (.ops [pM 19 17, .put 20 (.ia 3 (.tm 15) (.tm 17)), .put 21 (.ld true [.int .i64, .int .i64, .int .i64] (.tm 20)), .put 8 (.new 77 [(.int .i64 0), (.int .i64 0), (.int .i64 0)]), pM 7 19, .run (.st 3 (.tm 8) (.tm 21))]) (.held [.put 22 (.ld false [.ac] (.tm 5)), pM 23 7, pM 24 0, .put 25 (.fa 0 (.tm 8)), .put 26 (.ld false [.int .i64] (.tm 25)), pM 27 6, .put 28 (.fa 1 (.tm 8)), .put 29 (.ld false [.int .i64] (.tm 28)), .put 30 (.callv (.tm 27) [(.tm 29)]), pM 31 6, .put 32 (.fa 2 (.tm 8)), .put 33 (.ld false [.int .i64] (.tm 32)), .put 34 (.callv (.tm 31) [(.tm 33)]), .put 35 (.call 80 [(.tm 24), (.tm 26), (.tm 30), (.tm 34)]), .put 36 (.ia 1 (.tm 22) (.tm 23)), .run (.st 1 (.tm 36) (.tm 35))] [(0, 8), (0, 12), (0, 13), (4, 8), (4, 12), (11, 8)]))) (.ops [.put 37 (.ar .add (.tm 17) (cI 1)), pM 17 37]))))
def Z31.c : RC := (.seq (.ops [.put 3 (.box 27 (.tm 1)), .put 4 (.mov (cI 0))]) (.seq (.ops [.put 9 (.fa 0 (.tm 3)), .put 10 (.ld false [.ac] (.tm 9)), .put 11 (.lens (.tm 10)), .put 12 (.mks 3 1 8 [(.int .i64 0)] (.tm 11) (.tm 11)), .put 5 (.new 53 [(.sl none 0 0 (some 0))]), .run (.st 1 (.tm 5) (.tm 12))]) (.seq (.ops [.put 13 (.fn 84 [] [(.tm 5)]), pM 6 13]) (.seq (.seq (.ops [.put 14 (.fa 0 (.tm 3)), .put 15 (.ld false [.ac] (.tm 14)), .put 16 (.lens (.tm 15)), .put 17 (.mov (cI 0))]) (.block 0 (.loop Z31.c11))) (.seq (.ops [pM 38 6, .put 39 (.fa 1 (.tm 3)), .put 40 (.ld false [.int .i64] (.tm 39)), .put 41 (.callv (.tm 38) [(.tm 40)]), pM 4 41]) .ret)))))
abbrev Z31.KQ (Q : AHeap → Int → Prop) : AV → AHeap → Prop := KQT [(false, [.int .i64])] Q
abbrev Z31.K (Q : AHeap → Int → Prop) : Ex → Env → AHeap → Prop := kTop [.tm 4] (Z31.KQ Q)
abbrev Z31.k7 (Q : AHeap → Int → Prop) : Ex → Env → AHeap → Prop := kSeq (fun t H => wpC Try.prog (.seq (.ops [pM 38 6, .put 39 (.fa 1 (.tm 3)), .put 40 (.ld false [.int .i64] (.tm 39)), .put 41 (.callv (.tm 38) [(.tm 40)]), pM 4 41]) .ret) t H (Z31.K Q)) (Z31.K Q)
def Z31.R10 (s : Tup [.ac, .ac, .ac, .ac, .ac, .int .i64, .int .i64]) (t : Env) : Prop := t 0 = (.one (s.1)) ∧ t 3 = (.one (s.2.1)) ∧ t 5 = (.one (s.2.2.1)) ∧ t 6 = (.one (s.2.2.2.1)) ∧ t 15 = (.one (s.2.2.2.2.1)) ∧ t 16 = (.one (.int .i64 (s.2.2.2.2.2.1))) ∧ t 17 = (.one (.int .i64 (s.2.2.2.2.2.2.1))) ∧ True
def Z31.b10 (Q : AHeap → Int → Prop) (Y10 : Tup [.ac, .ac, .ac, .ac, .ac, .int .i64, .int .i64] → AHeap → Prop) (x0 : AC) (x3 : AC) (x5 : AC) (x6 : AC) (x15 : AC) (x16 : Int) (x17 : Int) (H : AHeap) : Prop := CondB (decide (x17 < x16)) (IA 3 x15 x17 fun q_1 => Ld [.int .i64, .int .i64, .int .i64] H q_1 fun (v_2 : Int) (v_3 : Int) (v_4 : Int) => New 77 [(.int .i64 0), (.int .i64 0), (.int .i64 0)] H fun p_5 H_6 => Sto H_6 p_5 [(.int .i64 v_2), (.int .i64 v_3), (.int .i64 v_4)] fun H_7 => Ld [.ac] H_7 x5 fun (v_8 : AC) => FA 0 p_5 fun q_9 => Ld [.int .i64] H_7 q_9 fun (v_10 : Int) => FA 1 p_5 fun q_11 => Ld [.int .i64] H_7 q_11 fun (v_12 : Int) => CVT Try.prog [(false, [.int .i64])] x6 [(.one (.int .i64 v_12))] H_7 fun H_13 (v_14 : Int) => FA 2 p_5 fun q_15 => Ld [.int .i64] H_13 q_15 fun (v_16 : Int) => CVT Try.prog [(false, [.int .i64])] x6 [(.one (.int .i64 v_16))] H_13 fun H_17 (v_18 : Int) => Fn.Z40 x0 v_10 v_14 v_18 H_17 fun H_19 (v_20 : Int) => IA 1 v_8 x17 fun q_21 => Sto H_19 q_21 [(.int .i64 v_20)] fun H_22 => Same1 H_7 H_13 x5 1 ∧ Same1 H_7 H_17 x5 1 ∧ Same1 H_7 H_19 x5 1 ∧ Same1 H_7 H_13 q_9 1 ∧ Same1 H_7 H_17 q_9 1 ∧ Same2 H_13 H_7 q_15 1 ∧ Y10 (x0, x3, x5, x6, x15, (x16 : Int), ((IntKind.wrap .i64 (x17 + 1)) : Int), ()) H_22) (FA 1 x3 fun q_23 => Ld [.int .i64] H q_23 fun (v_24 : Int) => CVT Try.prog [(false, [.int .i64])] x6 [(.one (.int .i64 v_24))] H fun H_25 (v_26 : Int) => Q H_25 v_26)
def Z31.l10 (Q : AHeap → Int → Prop) (x0 : AC) (x3 : AC) (x5 : AC) (x6 : AC) (x15 : AC) (x16 : Int) (x17 : Int) (H : AHeap) : Prop := LoopT (Tup [.ac, .ac, .ac, .ac, .ac, .int .i64, .int .i64]) (fun Y s H => Z31.b10 Q Y (s.1) (s.2.1) (s.2.2.1) (s.2.2.2.1) (s.2.2.2.2.1) (s.2.2.2.2.2.1) (s.2.2.2.2.2.2.1) H) (x0, x3, x5, x6, x15, x16, x17, ()) H
def Z31.W (a0 : AC) (a1_0 : AC) (a1_1 : Int) (H : AHeap) (Q : AHeap → Int → Prop) : Prop := New 27 [a1_0, (.int .i64 a1_1)] H fun p_1 H_2 => FA 0 p_1 fun q_3 => Ld [.ac] H_2 q_3 fun (v_4 : AC) => LenS v_4 fun n_5 => MkS 3 1 8 [(.int .i64 0)] n_5 n_5 H_2 fun p_6 H_7 => New 53 [(.sl none 0 0 (some 0))] H_7 fun p_8 H_9 => Sto H_9 p_8 [p_6] fun H_10 => Fnc 84 [] [p_8] fun f_11 => FA 0 p_1 fun q_12 => Ld [.ac] H_10 q_12 fun (v_13 : AC) => LenS v_13 fun n_14 => Z31.l10 Q a0 p_1 p_8 f_11 v_13 n_14 0 H_10
theorem Z31.b10_ok (Q : AHeap → Int → Prop) (Y10 : Tup [.ac, .ac, .ac, .ac, .ac, .int .i64, .int .i64] → AHeap → Prop) (X10 : Env → AHeap → Prop) (hX10 : ∀ s t H, Z31.R10 s t → Y10 s H → X10 t H) {x0 : AC} {x3 : AC} {x5 : AC} {x6 : AC} {x15 : AC} {x16 : Int} {x17 : Int} {H : AHeap} (j : Env) : Z31.b10 Q Y10 x0 x3 x5 x6 x15 x16 x17 H → wpC Try.prog Z31.c11 (upd (upd (upd (upd (upd (upd (upd j 0 (.one x0)) 3 (.one x3)) 5 (.one x5)) 6 (.one x6)) 15 (.one x15)) 16 (.one (.int .i64 x16))) 17 (.one (.int .i64 x17))) H (kSeq X10 (kBlk 0 (Z31.k7 Q))) := cO (sP (o_lt rfl rfl (sK (c_seq (c_if rfl (c_skip (k_seq (c_seq (c_blk (cO (sP (o_mov rfl (sP (o_ia rfl rfl (fun q_1 => sP (o_ld3 rfl (fun (v_2 : Int) (v_3 : Int) (v_4 : Int) => sP (o_new (fun p_5 H_6 => sP (o_mov rfl (s_cons (w_run (o_st rfl rfl rfl (fun H_7 => sK (c_held (t_cons (w_put (o_ld1 rfl (fun (v_8 : AC) => t_cons (w_put (o_mov rfl (t_cons (w_put (o_mov rfl (t_cons (w_put (o_fa rfl (fun q_9 => t_cons (w_put (o_ld1 rfl (fun (v_10 : Int) => t_cons (w_put (o_mov rfl (t_cons (w_put (o_fa rfl (fun q_11 => t_cons (w_put (o_ld1 rfl (fun (v_12 : Int) => t_cons (w_put (o_callv rfl rfl (cu_1 (fun H_13 (v_14 : Int) => t_cons (w_put (o_mov rfl (t_cons (w_put (o_fa rfl (fun q_15 => t_cons (w_put (o_ld1 rfl (fun (v_16 : Int) => t_cons (w_put (o_callv rfl rfl (cu_1 (fun H_17 (v_18 : Int) => t_cons (w_put (o_call rfl (cv_1 (fun H_19 (v_20 : Int) => t_cons (w_put (o_ia rfl rfl (fun q_21 => t_cons (w_run (o_st rfl rfl rfl (fun H_22 => t_nil (p_one rfl rfl rfl rfl rfl rfl rfl rfl (p_one rfl rfl rfl rfl rfl rfl rfl rfl (p_one rfl rfl rfl rfl rfl rfl rfl rfl (p_one rfl rfl rfl rfl rfl rfl rfl rfl (p_one rfl rfl rfl rfl rfl rfl rfl rfl (p_two rfl rfl rfl rfl rfl rfl rfl rfl (p_nil (k_blk (k_seq (c_ops (sP (o_add rfl rfl (sP (o_mov rfl (sK (hX10 _ _ _ ⟨rfl, rfl, rfl, rfl, rfl, rfl, rfl, trivial⟩)))))))))))))))))))))))))))))))))))))))))))))))))))))))))))))))))))))))))))))))))))))))) (c_exit (k_seqE (k_seqE (k_blkH (k_seq (cO (sP (o_mov rfl (sP (o_fa rfl (fun q_23 => sP (o_ld1 rfl (fun (v_24 : Int) => sP (o_callv rfl rfl (cu_1 (fun H_25 (v_26 : Int) => sP (o_mov rfl (sK (c_ret (k_topR (r_one rfl (r_nil (fun h => ⟨((v_26 : Int), ()), rfl, h⟩))))))))))))))))))))))))))))
theorem Z31.l10_ok (Q : AHeap → Int → Prop) {x0 : AC} {x3 : AC} {x5 : AC} {x6 : AC} {x15 : AC} {x16 : Int} {x17 : Int} {H : AHeap} {t : Env} (h0 : t 0 = (.one x0)) (h3 : t 3 = (.one x3)) (h5 : t 5 = (.one x5)) (h6 : t 6 = (.one x6)) (h15 : t 15 = (.one x15)) (h16 : t 16 = (.one (.int .i64 x16))) (h17 : t 17 = (.one (.int .i64 x17))) : Z31.l10 Q x0 x3 x5 x6 x15 x16 x17 H → wpC Try.prog (.loop Z31.c11) t H (kBlk 0 (Z31.k7 Q)) :=
  m_loop Z31.R10 ⟨h0, h3, h5, h6, h15, h16, h17, trivial⟩ fun X Y hX s t H hR hB => by
    have g := Z31.b10_ok Q Y X hX t hB
    rw [upd_self hR.1] at g
    rw [upd_self hR.2.1] at g
    rw [upd_self hR.2.2.1] at g
    rw [upd_self hR.2.2.2.1] at g
    rw [upd_self hR.2.2.2.2.1] at g
    rw [upd_self hR.2.2.2.2.2.1] at g
    rw [upd_self hR.2.2.2.2.2.2.1] at g
    exact g
theorem Z31.ok {a0 : AC} {a1_0 : AC} {a1_1 : Int} {H : AHeap} (Q : AHeap → Int → Prop) : Z31.W a0 a1_0 a1_1 H Q → wpF Try.prog Z31.c [.tm 4] (envOf [(.one a0), (.agg [a1_0, (.int .i64 a1_1)])]) H (Z31.KQ Q) := cO (sP (o_box rfl (fun p_1 H_2 => sP (o_mov rfl (sK (cO (sP (o_fa rfl (fun q_3 => sP (o_ld1 rfl (fun (v_4 : AC) => sP (o_lens rfl (fun n_5 => sP (o_mks rfl rfl (fun p_6 H_7 => sP (o_new (fun p_8 H_9 => s_cons (w_run (o_st rfl rfl rfl (fun H_10 => sK (cO (sP (o_fn rfl rfl (fun f_11 => sP (o_mov rfl (sK (c_seq (cO (sP (o_fa rfl (fun q_12 => sP (o_ld1 rfl (fun (v_13 : AC) => sP (o_lens rfl (fun n_14 => sP (o_mov rfl (sK (c_blk (Z31.l10_ok Q rfl rfl rfl rfl rfl rfl rfl)))))))))))))))))))))))))))))))))))))))
theorem Z31.run {a0 : AC} {a1_0 : AC} {a1_1 : Int} {H : AHeap} {Q : AHeap → Int → Prop} (h : Z31.W a0 a1_0 a1_1 H Q) : Fn.Z31 a0 a1_0 a1_1 H Q := by
  unfold Fn.Z31 RunT
  exact runK aggs_ok [(6, [(0, 8), (0, 12), (0, 13), (4, 8), (4, 12), (11, 8)])] Try.func51 rfl (by kernel_rfl) (by kernel_rfl) (by kernel_rfl) (by kernel_rfl) (by kernel_rfl) (Z31.ok Q h)
def Z33.c : RC := (.seq (.ops [.put 6 (.mov (cI 0))]) (.seq (.ops [pM 7 0, pM 8 1, pM 9 2, .put 10 (.call 81 [(.tm 7), (.tm 8), (.tm 9), (.ct (.one (.int .i64 (-1))))]), pM 6 10]) .ret))
abbrev Z33.KQ (Q : AHeap → Int → Prop) : AV → AHeap → Prop := KQT [(false, [.int .i64])] Q
abbrev Z33.K (Q : AHeap → Int → Prop) : Ex → Env → AHeap → Prop := kTop [.tm 6] (Z33.KQ Q)
def Z33.W (a0 : AC) (a1 : Int) (a2 : Int) (H : AHeap) (Q : AHeap → Int → Prop) : Prop := Fn.Z39 a0 a1 a2 (-1) H fun H_1 (v_2 : Int) => Q H_1 v_2
theorem Z33.ok {a0 : AC} {a1 : Int} {a2 : Int} {H : AHeap} (Q : AHeap → Int → Prop) : Z33.W a0 a1 a2 H Q → wpF Try.prog Z33.c [.tm 6] (envOf [(.one a0), (.one (.int .i64 a1)), (.one (.int .i64 a2))]) H (Z33.KQ Q) := cO (sP (o_mov rfl (sK (cO (sP (o_mov rfl (sP (o_mov rfl (sP (o_mov rfl (sP (o_call rfl (cv_1 (fun H_1 (v_2 : Int) => sP (o_mov rfl (sK (c_ret (k_topR (r_one rfl (r_nil (fun h => ⟨((v_2 : Int), ()), rfl, h⟩)))))))))))))))))))))
theorem Z33.run {a0 : AC} {a1 : Int} {a2 : Int} {H : AHeap} {Q : AHeap → Int → Prop} (h : Z33.W a0 a1 a2 H Q) : Fn.Z33 a0 a1 a2 H Q := by
  unfold Fn.Z33 RunT
  exact runK aggs_ok [] Try.func52 rfl (by kernel_rfl) (by kernel_rfl) (by kernel_rfl) (by kernel_rfl) (by kernel_rfl) (Z33.ok Q h)
def Z42.c : RC := (.seq (.ops [.put 6 (.mov (cI 0))]) (.seq (.ops [pM 7 0, pM 8 1, pM 9 2, .put 10 (.call 81 [(.tm 7), (.tm 8), (.ct (.one (.int .i64 (-2)))), (.tm 9)]), pM 6 10]) .ret))
abbrev Z42.KQ (Q : AHeap → Int → Prop) : AV → AHeap → Prop := KQT [(false, [.int .i64])] Q
abbrev Z42.K (Q : AHeap → Int → Prop) : Ex → Env → AHeap → Prop := kTop [.tm 6] (Z42.KQ Q)
def Z42.W (a0 : AC) (a1 : Int) (a2 : Int) (H : AHeap) (Q : AHeap → Int → Prop) : Prop := Fn.Z39 a0 a1 (-2) a2 H fun H_1 (v_2 : Int) => Q H_1 v_2
theorem Z42.ok {a0 : AC} {a1 : Int} {a2 : Int} {H : AHeap} (Q : AHeap → Int → Prop) : Z42.W a0 a1 a2 H Q → wpF Try.prog Z42.c [.tm 6] (envOf [(.one a0), (.one (.int .i64 a1)), (.one (.int .i64 a2))]) H (Z42.KQ Q) := cO (sP (o_mov rfl (sK (cO (sP (o_mov rfl (sP (o_mov rfl (sP (o_mov rfl (sP (o_call rfl (cv_1 (fun H_1 (v_2 : Int) => sP (o_mov rfl (sK (c_ret (k_topR (r_one rfl (r_nil (fun h => ⟨((v_2 : Int), ()), rfl, h⟩)))))))))))))))))))))
theorem Z42.run {a0 : AC} {a1 : Int} {a2 : Int} {H : AHeap} {Q : AHeap → Int → Prop} (h : Z42.W a0 a1 a2 H Q) : Fn.Z42 a0 a1 a2 H Q := by
  unfold Fn.Z42 RunT
  exact runK aggs_ok [] Try.func53 rfl (by kernel_rfl) (by kernel_rfl) (by kernel_rfl) (by kernel_rfl) (by kernel_rfl) (Z42.ok Q h)
def Z46.c : RC := (.seq (.ops [.put 6 (.mov (cI 0))]) (.seq (.ops [pM 7 0, pM 8 1, pM 9 0, pM 10 2, .put 11 (.call 56 [(.tm 9), (.tm 10)]), pM 12 2, .put 13 (.call 81 [(.tm 7), (.tm 8), (.tm 11), (.tm 12)]), pM 6 13]) .ret))
abbrev Z46.KQ (Q : AHeap → Int → Prop) : AV → AHeap → Prop := KQT [(false, [.int .i64])] Q
abbrev Z46.K (Q : AHeap → Int → Prop) : Ex → Env → AHeap → Prop := kTop [.tm 6] (Z46.KQ Q)
def Z46.W (a0 : AC) (a1 : Int) (a2 : Int) (H : AHeap) (Q : AHeap → Int → Prop) : Prop := Fn.Z41 a0 a2 H fun H_1 (v_2 : Int) => Fn.Z39 a0 a1 v_2 a2 H_1 fun H_3 (v_4 : Int) => Q H_3 v_4
theorem Z46.ok {a0 : AC} {a1 : Int} {a2 : Int} {H : AHeap} (Q : AHeap → Int → Prop) : Z46.W a0 a1 a2 H Q → wpF Try.prog Z46.c [.tm 6] (envOf [(.one a0), (.one (.int .i64 a1)), (.one (.int .i64 a2))]) H (Z46.KQ Q) := cO (sP (o_mov rfl (sK (cO (sP (o_mov rfl (sP (o_mov rfl (sP (o_mov rfl (sP (o_mov rfl (sP (o_call rfl (cv_1 (fun H_1 (v_2 : Int) => sP (o_mov rfl (sP (o_call rfl (cv_1 (fun H_3 (v_4 : Int) => sP (o_mov rfl (sK (c_ret (k_topR (r_one rfl (r_nil (fun h => ⟨((v_4 : Int), ()), rfl, h⟩))))))))))))))))))))))))))))
theorem Z46.run {a0 : AC} {a1 : Int} {a2 : Int} {H : AHeap} {Q : AHeap → Int → Prop} (h : Z46.W a0 a1 a2 H Q) : Fn.Z46 a0 a1 a2 H Q := by
  unfold Fn.Z46 RunT
  exact runK aggs_ok [] Try.func54 rfl (by kernel_rfl) (by kernel_rfl) (by kernel_rfl) (by kernel_rfl) (by kernel_rfl) (Z46.ok Q h)
def Z3.c22 : RC := (.seq (.seq (.ops [pM 15 5, .put 16 (.cm .ge (.tm 15) (cI 0))]) (.cond 16 .skip (.exit 2))) (.block 3 (.seq (.ops [pM 17 4, .put 18 (.fa 0 (.tm 1)), .put 19 (.ld false [.ac] (.tm 18)), pM 20 5, .put 21 (.ia 3 (.tm 19) (.tm 20)), .put 22 (.fa 0 (.tm 21)), .put 23 (.ld false [.int .i64] (.tm 22)), .put 24 (.ar .sub (cI 15) (.tm 23)), .put 25 (.sh false (.tm 17) (.tm 24)), .put 26 (.ar .and (.tm 25) (cI 1)), .put 27 (.cm .eq (.tm 26) (cI 1))]) (.cond 27 (.ops [.put 28 (.fa 0 (.tm 1)), .put 29 (.ld false [.ac] (.tm 28)), pM 30 5, .put 31 (.ia 3 (.tm 29) (.tm 30)), .put 32 (.fa 2 (.tm 31)), .put 33 (.ld false [.int .i64] (.tm 32)), pM 5 33]) (.ops [.put 34 (.fa 0 (.tm 1)), .put 35 (.ld false [.ac] (.tm 34)), pM 36 5, .put 37 (.ia 3 (.tm 35) (.tm 36)), .put 38 (.fa 1 (.tm 37)), .put 39 (.ld false [.int .i64] (.tm 38)), pM 5 39])))))
def Z3.c9 : RC := (.seq (.seq (.ops [pM 7 4, pM 8 3, .put 9 (.lens (.tm 8)), .put 10 (.cm .lt (.tm 7) (.tm 9))]) (.cond 10 .skip (.exit 0))) (.seq (.block 1 (.seq (.ops [.put 13 (.fa 1 (.tm 1)), .put 14 (.ld false [.int .i64] (.tm 13)), pM 5 14]) (.seq (.block 2 (.loop Z3.c22)) (.ops [pM 40 3, pM 41 4, pM 42 5, .put 43 (.cm .eq (.tm 42) (.ct (.one (.int .i64 (-2))))), .put 44 (.ia 1 (.tm 40) (.tm 41)), .run (.st 1 (.tm 44) (.tm 43))])))) (.ops [pM 11 4, .put 12 (.ar .add (.tm 11) (cI 1)), pM 4 12])))
def Z3.c : RC := (.seq (.ops [.put 1 (.box 27 (.tm 0)), .put 2 (.mov (.ct (.one (.sl none 0 0 (some 0)))))]) (.seq (.ops [.put 6 (.mks 4 1 1 [(.bool false)] (cI 65536) (cI 65536)), pM 3 6]) (.seq (.seq (.ops [.put 4 (.mov (cI 0))]) (.block 0 (.loop Z3.c9))) (.seq (.ops [pM 45 3, pM 2 45]) .ret))))
abbrev Z3.KQ (Q : AHeap → AC → Prop) : AV → AHeap → Prop := KQT [(false, [.ac])] Q
abbrev Z3.K (Q : AHeap → AC → Prop) : Ex → Env → AHeap → Prop := kTop [.tm 2] (Z3.KQ Q)
abbrev Z3.k5 (Q : AHeap → AC → Prop) : Ex → Env → AHeap → Prop := kSeq (fun t H => wpC Try.prog (.seq (.ops [pM 45 3, pM 2 45]) .ret) t H (Z3.K Q)) (Z3.K Q)
abbrev Z3.k16 (Q : AHeap → AC → Prop) (X8 : Env → AHeap → Prop) : Ex → Env → AHeap → Prop := kSeq (fun t H => wpC Try.prog (.ops [pM 11 4, .put 12 (.ar .add (.tm 11) (cI 1)), pM 4 12]) t H (kSeq X8 (kBlk 0 (Z3.k5 Q)))) (kSeq X8 (kBlk 0 (Z3.k5 Q)))
abbrev Z3.k20 (Q : AHeap → AC → Prop) (X8 : Env → AHeap → Prop) : Ex → Env → AHeap → Prop := kSeq (fun t H => wpC Try.prog (.ops [pM 40 3, pM 41 4, pM 42 5, .put 43 (.cm .eq (.tm 42) (.ct (.one (.int .i64 (-2))))), .put 44 (.ia 1 (.tm 40) (.tm 41)), .run (.st 1 (.tm 44) (.tm 43))]) t H (kBlk 1 (Z3.k16 Q X8))) (kBlk 1 (Z3.k16 Q X8))
def Z3.R21 (s : Tup [.ac, .ac, .int .i64, .int .i64]) (t : Env) : Prop := t 1 = (.one (s.1)) ∧ t 3 = (.one (s.2.1)) ∧ t 4 = (.one (.int .i64 (s.2.2.1))) ∧ t 5 = (.one (.int .i64 (s.2.2.2.1))) ∧ True
def Z3.R8 (s : Tup [.ac, .ac, .int .i64]) (t : Env) : Prop := t 1 = (.one (s.1)) ∧ t 3 = (.one (s.2.1)) ∧ t 4 = (.one (.int .i64 (s.2.2.1))) ∧ True
def Z3.b21 (Q : AHeap → AC → Prop) (Y8 : Tup [.ac, .ac, .int .i64] → AHeap → Prop) (Y21 : Tup [.ac, .ac, .int .i64, .int .i64] → AHeap → Prop) (x1 : AC) (x3 : AC) (x4 : Int) (x5 : Int) (H : AHeap) : Prop := CondB (decide (x5 ≥ 0)) (FA 0 x1 fun q_1 => Ld [.ac] H q_1 fun (v_2 : AC) => IA 3 v_2 x5 fun q_3 => FA 0 q_3 fun q_4 => Ld [.int .i64] H q_4 fun (v_5 : Int) => GE0 (IntKind.wrap .i64 (15 - v_5)) <| CondB ((arith .and .i64 (shr .i64 x4 (IntKind.wrap .i64 (15 - v_5))) 1) == 1) (FA 0 x1 fun q_6 => Ld [.ac] H q_6 fun (v_7 : AC) => IA 3 v_7 x5 fun q_8 => FA 2 q_8 fun q_9 => Ld [.int .i64] H q_9 fun (v_10 : Int) => Y21 (x1, x3, (x4 : Int), (v_10 : Int), ()) H) (FA 0 x1 fun q_11 => Ld [.ac] H q_11 fun (v_12 : AC) => IA 3 v_12 x5 fun q_13 => FA 1 q_13 fun q_14 => Ld [.int .i64] H q_14 fun (v_15 : Int) => Y21 (x1, x3, (x4 : Int), (v_15 : Int), ()) H)) (IA 1 x3 x4 fun q_16 => Sto H q_16 [(.bool (x5 == (-2)))] fun H_17 => Y8 (x1, x3, ((IntKind.wrap .i64 (x4 + 1)) : Int), ()) H_17)
def Z3.l21 (Q : AHeap → AC → Prop) (Y8 : Tup [.ac, .ac, .int .i64] → AHeap → Prop) (x1 : AC) (x3 : AC) (x4 : Int) (x5 : Int) (H : AHeap) : Prop := LoopT (Tup [.ac, .ac, .int .i64, .int .i64]) (fun Y s H => Z3.b21 Q Y8 Y (s.1) (s.2.1) (s.2.2.1) (s.2.2.2.1) H) (x1, x3, x4, x5, ()) H
def Z3.b8 (Q : AHeap → AC → Prop) (Y8 : Tup [.ac, .ac, .int .i64] → AHeap → Prop) (x1 : AC) (x3 : AC) (x4 : Int) (H : AHeap) : Prop := LenS x3 fun n_1 => CondB (decide (x4 < n_1)) (FA 1 x1 fun q_2 => Ld [.int .i64] H q_2 fun (v_3 : Int) => Z3.l21 Q Y8 x1 x3 x4 v_3 H) (Q H x3)
def Z3.l8 (Q : AHeap → AC → Prop) (x1 : AC) (x3 : AC) (x4 : Int) (H : AHeap) : Prop := LoopT (Tup [.ac, .ac, .int .i64]) (fun Y s H => Z3.b8 Q Y (s.1) (s.2.1) (s.2.2.1) H) (x1, x3, x4, ()) H
def Z3.W (a0_0 : AC) (a0_1 : Int) (H : AHeap) (Q : AHeap → AC → Prop) : Prop := New 27 [a0_0, (.int .i64 a0_1)] H fun p_1 H_2 => MkS 4 1 1 [(.bool false)] 65536 65536 H_2 fun p_3 H_4 => Z3.l8 Q p_1 p_3 0 H_4
theorem Z3.b21_ok (Q : AHeap → AC → Prop) (Y8 : Tup [.ac, .ac, .int .i64] → AHeap → Prop) (X8 : Env → AHeap → Prop) (hX8 : ∀ s t H, Z3.R8 s t → Y8 s H → X8 t H) (Y21 : Tup [.ac, .ac, .int .i64, .int .i64] → AHeap → Prop) (X21 : Env → AHeap → Prop) (hX21 : ∀ s t H, Z3.R21 s t → Y21 s H → X21 t H) {x1 : AC} {x3 : AC} {x4 : Int} {x5 : Int} {H : AHeap} (j : Env) : Z3.b21 Q Y8 Y21 x1 x3 x4 x5 H → wpC Try.prog Z3.c22 (upd (upd (upd (upd j 1 (.one x1)) 3 (.one x3)) 4 (.one (.int .i64 x4))) 5 (.one (.int .i64 x5))) H (kSeq X21 (kBlk 2 (Z3.k20 Q X8))) := c_seq (cO (sP (o_mov rfl (sP (o_ge rfl rfl (sK (c_if rfl (c_skip (k_seq (c_blk (cO (sP (o_mov rfl (sP (o_fa rfl (fun q_1 => sP (o_ld1 rfl (fun (v_2 : AC) => sP (o_mov rfl (sP (o_ia rfl rfl (fun q_3 => sP (o_fa rfl (fun q_4 => sP (o_ld1 rfl (fun (v_5 : Int) => sP (o_sub rfl rfl (sP (o_shr rfl rfl (sP (o_and rfl rfl (sP (o_eq rfl rfl (sK (c_if rfl (c_ops (sP (o_fa rfl (fun q_6 => sP (o_ld1 rfl (fun (v_7 : AC) => sP (o_mov rfl (sP (o_ia rfl rfl (fun q_8 => sP (o_fa rfl (fun q_9 => sP (o_ld1 rfl (fun (v_10 : Int) => sP (o_mov rfl (s_nil (k_blk (k_seq (hX21 _ _ _ ⟨rfl, rfl, rfl, rfl, trivial⟩))))))))))))))))))) (c_ops (sP (o_fa rfl (fun q_11 => sP (o_ld1 rfl (fun (v_12 : AC) => sP (o_mov rfl (sP (o_ia rfl rfl (fun q_13 => sP (o_fa rfl (fun q_14 => sP (o_ld1 rfl (fun (v_15 : Int) => sP (o_mov rfl (s_nil (k_blk (k_seq (hX21 _ _ _ ⟨rfl, rfl, rfl, rfl, trivial⟩))))))))))))))))))))))))))))))))))))))))))))))) (c_exit (k_seqE (k_seqE (k_blkH (k_seq (c_ops (sP (o_mov rfl (sP (o_mov rfl (sP (o_mov rfl (sP (o_eq rfl rfl (sP (o_ia rfl rfl (fun q_16 => s_cons (w_run (o_st rfl rfl rfl (fun H_17 => s_nil (k_blk (k_seq (c_ops (sP (o_mov rfl (sP (o_add rfl rfl (sP (o_mov rfl (sK (hX8 _ _ _ ⟨rfl, rfl, rfl, trivial⟩))))))))))))))))))))))))))))))))))))))
theorem Z3.l21_ok (Q : AHeap → AC → Prop) (Y8 : Tup [.ac, .ac, .int .i64] → AHeap → Prop) (X8 : Env → AHeap → Prop) (hX8 : ∀ s t H, Z3.R8 s t → Y8 s H → X8 t H) {x1 : AC} {x3 : AC} {x4 : Int} {x5 : Int} {H : AHeap} {t : Env} (h1 : t 1 = (.one x1)) (h3 : t 3 = (.one x3)) (h4 : t 4 = (.one (.int .i64 x4))) (h5 : t 5 = (.one (.int .i64 x5))) : Z3.l21 Q Y8 x1 x3 x4 x5 H → wpC Try.prog (.loop Z3.c22) t H (kBlk 2 (Z3.k20 Q X8)) :=
  m_loop Z3.R21 ⟨h1, h3, h4, h5, trivial⟩ fun X Y hX s t H hR hB => by
    have g := Z3.b21_ok Q Y8 X8 hX8 Y X hX t hB
    rw [upd_self hR.1] at g
    rw [upd_self hR.2.1] at g
    rw [upd_self hR.2.2.1] at g
    rw [upd_self hR.2.2.2.1] at g
    exact g
theorem Z3.b8_ok (Q : AHeap → AC → Prop) (Y8 : Tup [.ac, .ac, .int .i64] → AHeap → Prop) (X8 : Env → AHeap → Prop) (hX8 : ∀ s t H, Z3.R8 s t → Y8 s H → X8 t H) {x1 : AC} {x3 : AC} {x4 : Int} {H : AHeap} (j : Env) : Z3.b8 Q Y8 x1 x3 x4 H → wpC Try.prog Z3.c9 (upd (upd (upd j 1 (.one x1)) 3 (.one x3)) 4 (.one (.int .i64 x4))) H (kSeq X8 (kBlk 0 (Z3.k5 Q))) := c_seq (cO (sP (o_mov rfl (sP (o_mov rfl (sP (o_lens rfl (fun n_1 => sP (o_lt rfl rfl (sK (c_if rfl (c_skip (k_seq (c_seq (c_blk (cO (sP (o_fa rfl (fun q_2 => sP (o_ld1 rfl (fun (v_3 : Int) => sP (o_mov rfl (sK (c_seq (c_blk (Z3.l21_ok Q Y8 X8 hX8 rfl rfl rfl rfl))))))))))))))) (c_exit (k_seqE (k_seqE (k_blkH (k_seq (cO (sP (o_mov rfl (sP (o_mov rfl (sK (c_ret (k_topR (r_one rfl (r_nil (fun h => ⟨(x3, ()), rfl, h⟩)))))))))))))))))))))))))))
theorem Z3.l8_ok (Q : AHeap → AC → Prop) {x1 : AC} {x3 : AC} {x4 : Int} {H : AHeap} {t : Env} (h1 : t 1 = (.one x1)) (h3 : t 3 = (.one x3)) (h4 : t 4 = (.one (.int .i64 x4))) : Z3.l8 Q x1 x3 x4 H → wpC Try.prog (.loop Z3.c9) t H (kBlk 0 (Z3.k5 Q)) :=
  m_loop Z3.R8 ⟨h1, h3, h4, trivial⟩ fun X Y hX s t H hR hB => by
    have g := Z3.b8_ok Q Y X hX t hB
    rw [upd_self hR.1] at g
    rw [upd_self hR.2.1] at g
    rw [upd_self hR.2.2.1] at g
    exact g
theorem Z3.ok {a0_0 : AC} {a0_1 : Int} {H : AHeap} (Q : AHeap → AC → Prop) : Z3.W a0_0 a0_1 H Q → wpF Try.prog Z3.c [.tm 2] (envOf [(.agg [a0_0, (.int .i64 a0_1)])]) H (Z3.KQ Q) := cO (sP (o_box rfl (fun p_1 H_2 => sP (o_mov rfl (sK (cO (sP (o_mks rfl rfl (fun p_3 H_4 => sP (o_mov rfl (sK (c_seq (cO (sP (o_mov rfl (sK (c_blk (Z3.l8_ok Q rfl rfl rfl))))))))))))))))))
theorem Z3.run {a0_0 : AC} {a0_1 : Int} {H : AHeap} {Q : AHeap → AC → Prop} (h : Z3.W a0_0 a0_1 H Q) : Fn.Z3 a0_0 a0_1 H Q := by
  unfold Fn.Z3 RunT
  exact runK aggs_ok [] Try.func55 rfl (by kernel_rfl) (by kernel_rfl) (by kernel_rfl) (by kernel_rfl) (by kernel_rfl) (Z3.ok Q h)
def Z41.c : RC := (.seq (.ops [.put 4 (.mov (cI 0))]) (.seq (.ops [pM 5 0, pM 6 1, .put 7 (.call 81 [(.tm 5), (.tm 6), (.ct (.one (.int .i64 (-1)))), (.ct (.one (.int .i64 (-2))))]), pM 4 7]) .ret))
abbrev Z41.KQ (Q : AHeap → Int → Prop) : AV → AHeap → Prop := KQT [(false, [.int .i64])] Q
abbrev Z41.K (Q : AHeap → Int → Prop) : Ex → Env → AHeap → Prop := kTop [.tm 4] (Z41.KQ Q)
def Z41.W (a0 : AC) (a1 : Int) (H : AHeap) (Q : AHeap → Int → Prop) : Prop := Fn.Z39 a0 a1 (-1) (-2) H fun H_1 (v_2 : Int) => Q H_1 v_2
theorem Z41.ok {a0 : AC} {a1 : Int} {H : AHeap} (Q : AHeap → Int → Prop) : Z41.W a0 a1 H Q → wpF Try.prog Z41.c [.tm 4] (envOf [(.one a0), (.one (.int .i64 a1))]) H (Z41.KQ Q) := cO (sP (o_mov rfl (sK (cO (sP (o_mov rfl (sP (o_mov rfl (sP (o_call rfl (cv_1 (fun H_1 (v_2 : Int) => sP (o_mov rfl (sK (c_ret (k_topR (r_one rfl (r_nil (fun h => ⟨((v_2 : Int), ()), rfl, h⟩)))))))))))))))))))
theorem Z41.run {a0 : AC} {a1 : Int} {H : AHeap} {Q : AHeap → Int → Prop} (h : Z41.W a0 a1 H Q) : Fn.Z41 a0 a1 H Q := by
  unfold Fn.Z41 RunT
  exact runK aggs_ok [] Try.func56 rfl (by kernel_rfl) (by kernel_rfl) (by kernel_rfl) (by kernel_rfl) (by kernel_rfl) (Z41.ok Q h)
def Z49.c15 : RC := (.cond 22 (.seq (.ops [.put 4 (.mov (cI 1))]) .ret) .skip)
def Z49.c : RC := (.seq (.ops [.put 2 (.box 27 (.tm 0)), .put 3 (.box 3 (.tm 1)), .put 4 (.mov (cI 0))]) (.seq (.seq (.ops [.put 6 (.ld true [.ac, .int .i64] (.tm 2)), .put 7 (.call 31 [(.tm 6)]), pM 5 7]) (.seq (.ops [pM 8 5, .put 9 (.cm .ne (.tm 8) (cI 0))]) (.cond 9 (.seq (.ops [pM 10 5, pM 4 10]) .ret) .skip))) (.seq (.seq (.ops [.put 11 (.ld false [.int .i64] (.tm 3)), .put 12 (.cm .lt (.tm 11) (cI 0)), pM 13 12, .gput 14 13 false (.ld false [.int .i64] (.tm 3)), .gput 15 13 false (.cm .gt (.tm 14) (cI 16)), .put 16 (.pick (.tm 13) (.ct (.one (.bool true))) (.tm 15)), pM 17 16, .gput 18 17 false (.fa 0 (.tm 2)), .gput 19 17 false (.ld false [.ac] (.tm 18)), .gput 20 17 false (.fn 86 [] [(.tm 3)]), .gput 21 17 false (.call 85 [(.tm 19), (.tm 20)]), .put 22 (.pick (.tm 17) (.ct (.one (.bool true))) (.tm 21))]) Z49.c15) (.seq (.ops [.put 4 (.mov (cI 0))]) .ret))))
abbrev Z49.KQ (Q : AHeap → Int → Prop) : AV → AHeap → Prop := KQT [(false, [.int .i64])] Q
abbrev Z49.K (Q : AHeap → Int → Prop) : Ex → Env → AHeap → Prop := kTop [.tm 4] (Z49.KQ Q)
abbrev Z49.k13 (Q : AHeap → Int → Prop) : Ex → Env → AHeap → Prop := kSeq (fun t H => wpC Try.prog (.seq (.ops [.put 4 (.mov (cI 0))]) .ret) t H (Z49.K Q)) (Z49.K Q)
def Z49.p15 (Q : AHeap → Int → Prop) (x22 : Bool) (H : AHeap) : Prop := CondB x22 (Q H 1) (Q H 0)
def Z49.W (a0_0 : AC) (a0_1 : Int) (a1 : Int) (H : AHeap) (Q : AHeap → Int → Prop) : Prop := New 27 [a0_0, (.int .i64 a0_1)] H fun p_1 H_2 => New 3 [(.int .i64 a1)] H_2 fun p_3 H_4 => Ld [.ac, .int .i64] H_4 p_1 fun (v_5 : AC) (v_6 : Int) => Fn.Z23 v_5 v_6 H_4 fun H_7 (v_8 : Int) => CondB (v_8 != 0) (Q H_7 v_8) (Ld [.int .i64] H_7 p_3 fun (v_9 : Int) => CondB (decide (v_9 < 0)) (Z49.p15 Q true H_7) (Ld [.int .i64] H_7 p_3 fun (v_10 : Int) => CondB (decide (v_10 > 16)) (Z49.p15 Q true H_7) (FA 0 p_1 fun q_11 => Ld [.ac] H_7 q_11 fun (v_12 : AC) => Fnc 86 [] [p_3] fun f_13 => Fn.Z13 v_12 f_13 H_7 fun H_14 (v_15 : Bool) => Z49.p15 Q v_15 H_14)))
theorem Z49.p15_okE (Q : AHeap → Int → Prop) {x22 : Bool} {H : AHeap} (j : Env) : Z49.p15 Q x22 H → wpC Try.prog Z49.c15 (upd j 22 (.one (.bool x22))) H (Z49.k13 Q) := c_if rfl (cO (sP (o_mov rfl (sK (c_ret (k_seqR (k_topR (r_one rfl (r_nil (fun h => ⟨((1 : Int), ()), rfl, h⟩)))))))))) (c_skip (k_seq (cO (sP (o_mov rfl (sK (c_ret (k_topR (r_one rfl (r_nil (fun h => ⟨((0 : Int), ()), rfl, h⟩)))))))))))
theorem Z49.p15_ok (Q : AHeap → Int → Prop) {x22 : Bool} {H : AHeap} {t : Env} (h22 : t 22 = (.one (.bool x22))) (h : Z49.p15 Q x22 H) : wpC Try.prog Z49.c15 t H (Z49.k13 Q) := by
  have g := Z49.p15_okE Q t h
  rw [upd_self h22] at g
  exact g
theorem Z49.ok {a0_0 : AC} {a0_1 : Int} {a1 : Int} {H : AHeap} (Q : AHeap → Int → Prop) : Z49.W a0_0 a0_1 a1 H Q → wpF Try.prog Z49.c [.tm 4] (envOf [(.agg [a0_0, (.int .i64 a0_1)]), (.one (.int .i64 a1))]) H (Z49.KQ Q) := cO (sP (o_box rfl (fun p_1 H_2 => sP (o_box rfl (fun p_3 H_4 => sP (o_mov rfl (sK (c_seq (cO (sP (o_ld2 rfl (fun (v_5 : AC) (v_6 : Int) => sP (o_call rfl (cv_1 (fun H_7 (v_8 : Int) => sP (o_mov rfl (sK (cO (sP (o_mov rfl (sP (o_ne rfl rfl (sK (c_if rfl (cO (sP (o_mov rfl (sP (o_mov rfl (sK (c_ret (k_seqR (k_topR (r_one rfl (r_nil (fun h => ⟨((v_8 : Int), ()), rfl, h⟩)))))))))))) (c_skip (k_seq (c_seq (cO (sP (o_ld1 rfl (fun (v_9 : Int) => sP (o_lt rfl rfl (sP (o_mov rfl (s_cons (w_gputF rfl (s_cons (w_gputN rfl (sP (o_pickT rfl rfl (sP (o_mov rfl (s_cons (w_gputN rfl (s_cons (w_gputN rfl (s_cons (w_gputN rfl (s_cons (w_gputN rfl (sP (o_pickT rfl rfl (sK (Z49.p15_ok Q rfl)))))))))))))))))) (o_ld1 rfl (fun (v_10 : Int) => s_cons (w_gputY rfl (o_gt rfl rfl (sP (o_pickF rfl rfl (sP (o_mov rfl (s_cons (w_gputF rfl (s_cons (w_gputN rfl (s_cons (w_gputN rfl (s_cons (w_gputN rfl (sP (o_pickT rfl rfl (sK (Z49.p15_ok Q rfl)))))))))) (o_fa rfl (fun q_11 => s_cons (w_gputY rfl (o_ld1 rfl (fun (v_12 : AC) => s_cons (w_gputY rfl (o_fn rfl rfl (fun f_13 => s_cons (w_gputY rfl (o_call rfl (cv_1 (fun H_14 (v_15 : Bool) => sP (o_pickF rfl rfl (sK (Z49.p15_ok Q rfl)))))))))))))))))))))))))))))))))))))))))))))))))))))))))))))
theorem Z49.run {a0_0 : AC} {a0_1 : Int} {a1 : Int} {H : AHeap} {Q : AHeap → Int → Prop} (h : Z49.W a0_0 a0_1 a1 H Q) : Fn.Z49 a0_0 a0_1 a1 H Q := by
  unfold Fn.Z49 RunT
  exact runK aggs_ok [] Try.func57 rfl (by kernel_rfl) (by kernel_rfl) (by kernel_rfl) (by kernel_rfl) (by kernel_rfl) (Z49.ok Q h)
def Z25.c : RC := (.seq (.ops [.put 7 (.mov (cI 0))]) (.seq (.block 0 (.seq (.ops [pM 9 0, .put 10 (.cm .eq (.tm 9) (.ct (.one (.int .i64 (-1))))), pM 8 10]) (.cond 8 (.seq (.ops [.put 7 (.mov (cI 0))]) .ret) (.seq (.ops [pM 12 0, .put 13 (.cm .eq (.tm 12) (.ct (.one (.int .i64 (-2))))), pM 11 13]) (.cond 11 (.seq (.ops [.put 14 (.ld false [.int .i64] (.tm 2)), pM 15 1, .put 16 (.ar .sub (.tm 14) (.tm 15)), .put 17 (.sh true (cI 1) (.tm 16)), pM 7 17]) .ret) .skip))))) (.seq (.ops [.put 18 (.ld false [.ac] (.tm 3)), pM 19 0, .put 20 (.ia 1 (.tm 18) (.tm 19)), .put 21 (.ld false [.int .i64] (.tm 20)), .put 22 (.fa 0 (.tm 4)), .put 23 (.ld false [.ac] (.tm 22)), pM 24 0, .put 25 (.ia 3 (.tm 23) (.tm 24)), .put 26 (.fa 0 (.tm 25)), .put 27 (.ld false [.int .i64] (.tm 26)), pM 28 1, .put 29 (.ar .sub (.tm 27) (.tm 28)), .put 30 (.sh true (.tm 21) (.tm 29)), pM 7 30]) .ret)))
abbrev Z25.KQ (Q : AHeap → Int → Prop) : AV → AHeap → Prop := KQT [(false, [.int .i64])] Q
abbrev Z25.K (Q : AHeap → Int → Prop) : Ex → Env → AHeap → Prop := kTop [.tm 7] (Z25.KQ Q)
def Z25.W (a0 : Int) (a1 : Int) (a2 : AC) (a3 : AC) (a4 : AC) (H : AHeap) (Q : AHeap → Int → Prop) : Prop := CondB (a0 == (-1)) (Q H 0) (CondB (a0 == (-2)) (Ld [.int .i64] H a2 fun (v_1 : Int) => GE0 (IntKind.wrap .i64 (v_1 - a1)) <| Q H (shl .i64 1 (IntKind.wrap .i64 (v_1 - a1)))) (Ld [.ac] H a3 fun (v_2 : AC) => IA 1 v_2 a0 fun q_3 => Ld [.int .i64] H q_3 fun (v_4 : Int) => FA 0 a4 fun q_5 => Ld [.ac] H q_5 fun (v_6 : AC) => IA 3 v_6 a0 fun q_7 => FA 0 q_7 fun q_8 => Ld [.int .i64] H q_8 fun (v_9 : Int) => GE0 (IntKind.wrap .i64 (v_9 - a1)) <| Q H (shl .i64 v_4 (IntKind.wrap .i64 (v_9 - a1)))))
theorem Z25.ok {a0 : Int} {a1 : Int} {a2 : AC} {a3 : AC} {a4 : AC} {H : AHeap} (Q : AHeap → Int → Prop) : Z25.W a0 a1 a2 a3 a4 H Q → wpF Try.prog Z25.c [.tm 7] (envOf [(.one (.int .i64 a0)), (.one (.int .i64 a1)), (.one a2), (.one a3), (.one a4)]) H (Z25.KQ Q) := cO (sP (o_mov rfl (sK (c_seq (c_blk (cO (sP (o_mov rfl (sP (o_eq rfl rfl (sP (o_mov rfl (sK (c_if rfl (cO (sP (o_mov rfl (sK (c_ret (k_blkR (k_seqR (k_topR (r_one rfl (r_nil (fun h => ⟨((0 : Int), ()), rfl, h⟩))))))))))) (cO (sP (o_mov rfl (sP (o_eq rfl rfl (sP (o_mov rfl (sK (c_if rfl (cO (sP (o_ld1 rfl (fun (v_1 : Int) => sP (o_mov rfl (sP (o_sub rfl rfl (sP (o_shl rfl rfl (sP (o_mov rfl (sK (c_ret (k_blkR (k_seqR (k_topR (r_one rfl (r_nil (fun h => ⟨(((shl .i64 1 (IntKind.wrap .i64 (v_1 - a1))) : Int), ()), rfl, h⟩))))))))))))))))))) (c_skip (k_blk (k_seq (cO (sP (o_ld1 rfl (fun (v_2 : AC) => sP (o_mov rfl (sP (o_ia rfl rfl (fun q_3 => sP (o_ld1 rfl (fun (v_4 : Int) => sP (o_fa rfl (fun q_5 => sP (o_ld1 rfl (fun (v_6 : AC) => sP (o_mov rfl (sP (o_ia rfl rfl (fun q_7 => sP (o_fa rfl (fun q_8 => sP (o_ld1 rfl (fun (v_9 : Int) => sP (o_mov rfl (sP (o_sub rfl rfl (sP (o_shl rfl rfl (sP (o_mov rfl (sK (c_ret (k_topR (r_one rfl (r_nil (fun h => ⟨(((shl .i64 v_4 (IntKind.wrap .i64 (v_9 - a1))) : Int), ()), rfl, h⟩)))))))))))))))))))))))))))))))))))))))))))))))))))))))))))))
theorem Z25.run {a0 : Int} {a1 : Int} {a2 : AC} {a3 : AC} {a4 : AC} {H : AHeap} {Q : AHeap → Int → Prop} (h : Z25.W a0 a1 a2 a3 a4 H Q) : Fn.Z25 a0 a1 a2 a3 a4 H Q := by
  unfold Fn.Z25 RunT
  exact runK aggs_ok [(5, [])] Try.func58 rfl (by kernel_rfl) (by kernel_rfl) (by kernel_rfl) (by kernel_rfl) (by kernel_rfl) (Z25.ok Q h)
end Go.Proofs.Ytanaaabejeeakaa
end
section
namespace Go.Proofs.Ytanaaabejeeakaa
open Go.AI
set_option maxRecDepth 100000
set_option maxHeartbeats 2000000
set_option linter.unusedVariables false
attribute [local irreducible] Ld Sto New NewS NewM NN NZ GE0 FA IA IAP LenS Slc App Cpy Clr MkS Fnc NilQ IxS Look MSet Run CV RunT CVT LoopT Same1 Same2 wpC wpOs wpT wpO wpOp
def Z9.c15 : RC := (.seq (.seq (.ops [pM 11 7, pM 12 2, .put 13 (.lens (.tm 12)), .put 14 (.cm .lt (.tm 11) (.tm 13))]) (.cond 14 .skip (.exit 0))) (.seq (.block 1 (.seq (.ops [pM 17 2, pM 18 7, .put 19 (.ia 1 (.tm 17) (.tm 18)), .put 20 (.ld false [.int .i64] (.tm 19)), pM 21 1, .put 22 (.cm .eq (.tm 20) (.tm 21))]) (.cond 22 (.seq (.ops [pM 23 2, pM 6 23]) .ret) .skip))) (.ops [pM 15 7, .put 16 (.ar .add (.tm 15) (cI 1)), pM 7 16])))
def Z9.c : RC := (.seq (.ops [.put 3 (.box 27 (.tm 0)), .put 6 (.mov (.ct (.one (.sl none 0 0 (some 0)))))]) (.seq (.seq (.ops [pM 8 1, .put 9 (.cm .lt (.tm 8) (cI 0))]) (.cond 9 (.seq (.ops [pM 10 2, pM 6 10]) .ret) .skip)) (.seq (.seq (.ops [.put 7 (.mov (cI 0))]) (.block 0 (.loop Z9.c15))) (.seq (.ops [.put 24 (.ld true [.ac, .int .i64] (.tm 3)), .put 25 (.fa 0 (.tm 3)), .put 26 (.ld false [.ac] (.tm 25)), pM 27 1, .put 28 (.ia 3 (.tm 26) (.tm 27)), .put 29 (.fa 1 (.tm 28)), .put 30 (.ld false [.int .i64] (.tm 29)), pM 31 2, .put 32 (.call 61 [(.tm 24), (.tm 30), (.tm 31)]), pM 2 32]) (.seq (.ops [.put 33 (.ld true [.ac, .int .i64] (.tm 3)), .put 34 (.fa 0 (.tm 3)), .put 35 (.ld false [.ac] (.tm 34)), pM 36 1, .put 37 (.ia 3 (.tm 35) (.tm 36)), .put 38 (.fa 2 (.tm 37)), .put 39 (.ld false [.int .i64] (.tm 38)), pM 40 2, .put 41 (.call 61 [(.tm 33), (.tm 39), (.tm 40)]), pM 2 41]) (.seq (.ops [pM 42 2, pM 43 1, .put 44 (.blds 3 1 1 [(.int .i64 0)] [(0, 1, (.tm 43))]), .put 45 (.app 3 1 8 (.tm 42) (.tm 44)), pM 6 45]) .ret))))))
abbrev Z9.KQ (Q : AHeap → AC → Prop) : AV → AHeap → Prop := KQT [(false, [.ac])] Q
abbrev Z9.K (Q : AHeap → AC → Prop) : Ex → Env → AHeap → Prop := kTop [.tm 6] (Z9.KQ Q)
abbrev Z9.k11 (Q : AHeap → AC → Prop) : Ex → Env → AHeap → Prop := kSeq (fun t H => wpC Try.prog (.seq (.ops [.put 24 (.ld true [.ac, .int .i64] (.tm 3)), .put 25 (.fa 0 (.tm 3)), .put 26 (.ld false [.ac] (.tm 25)), pM 27 1, .put 28 (.ia 3 (.tm 26) (.tm 27)), .put 29 (.fa 1 (.tm 28)), .put 30 (.ld false [.int .i64] (.tm 29)), pM 31 2, .put 32 (.call 61 [(.tm 24), (.tm 30), (.tm 31)]), pM 2 32]) (.seq (.ops [.put 33 (.ld true [.ac, .int .i64] (.tm 3)), .put 34 (.fa 0 (.tm 3)), .put 35 (.ld false [.ac] (.tm 34)), pM 36 1, .put 37 (.ia 3 (.tm 35) (.tm 36)), .put 38 (.fa 2 (.tm 37)), .put 39 (.ld false [.int .i64] (.tm 38)), pM 40 2, .put 41 (.call 61 [(.tm 33), (.tm 39), (.tm 40)]), pM 2 41]) (.seq (.ops [pM 42 2, pM 43 1, .put 44 (.blds 3 1 1 [(.int .i64 0)] [(0, 1, (.tm 43))]), .put 45 (.app 3 1 8 (.tm 42) (.tm 44)), pM 6 45]) .ret))) t H (Z9.K Q)) (Z9.K Q)
def Z9.R14 (s : Tup [.int .i64, .ac, .ac, .int .i64]) (t : Env) : Prop := t 1 = (.one (.int .i64 (s.1))) ∧ t 2 = (.one (s.2.1)) ∧ t 3 = (.one (s.2.2.1)) ∧ t 7 = (.one (.int .i64 (s.2.2.2.1))) ∧ True
def Z9.b14 (Q : AHeap → AC → Prop) (Y14 : Tup [.int .i64, .ac, .ac, .int .i64] → AHeap → Prop) (x1 : Int) (x2 : AC) (x3 : AC) (x7 : Int) (H : AHeap) : Prop := LenS x2 fun n_1 => CondB (decide (x7 < n_1)) (IA 1 x2 x7 fun q_2 => Ld [.int .i64] H q_2 fun (v_3 : Int) => CondB (v_3 == x1) (Q H x2) (Y14 ((x1 : Int), x2, x3, ((IntKind.wrap .i64 (x7 + 1)) : Int), ()) H)) (Ld [.ac, .int .i64] H x3 fun (v_4 : AC) (v_5 : Int) => FA 0 x3 fun q_6 => Ld [.ac] H q_6 fun (v_7 : AC) => IA 3 v_7 x1 fun q_8 => FA 1 q_8 fun q_9 => Ld [.int .i64] H q_9 fun (v_10 : Int) => Fn.Z9 v_4 v_5 v_10 x2 H fun H_11 (v_12 : AC) => Ld [.ac, .int .i64] H_11 x3 fun (v_13 : AC) (v_14 : Int) => FA 0 x3 fun q_15 => Ld [.ac] H_11 q_15 fun (v_16 : AC) => IA 3 v_16 x1 fun q_17 => FA 2 q_17 fun q_18 => Ld [.int .i64] H_11 q_18 fun (v_19 : Int) => Fn.Z9 v_13 v_14 v_19 v_12 H_11 fun H_20 (v_21 : AC) => NewS 3 1 1 [(.int .i64 x1)] H_20 fun p_22 H_23 => App 3 1 8 v_21 p_22 H_23 fun s_24 H_25 => Q H_25 s_24)
def Z9.l14 (Q : AHeap → AC → Prop) (x1 : Int) (x2 : AC) (x3 : AC) (x7 : Int) (H : AHeap) : Prop := LoopT (Tup [.int .i64, .ac, .ac, .int .i64]) (fun Y s H => Z9.b14 Q Y (s.1) (s.2.1) (s.2.2.1) (s.2.2.2.1) H) (x1, x2, x3, x7, ()) H
def Z9.W (a0_0 : AC) (a0_1 : Int) (a1 : Int) (a2 : AC) (H : AHeap) (Q : AHeap → AC → Prop) : Prop := New 27 [a0_0, (.int .i64 a0_1)] H fun p_1 H_2 => CondB (decide (a1 < 0)) (Q H_2 a2) (Z9.l14 Q a1 a2 p_1 0 H_2)
theorem Z9.b14_ok (Q : AHeap → AC → Prop) (Y14 : Tup [.int .i64, .ac, .ac, .int .i64] → AHeap → Prop) (X14 : Env → AHeap → Prop) (hX14 : ∀ s t H, Z9.R14 s t → Y14 s H → X14 t H) {x1 : Int} {x2 : AC} {x3 : AC} {x7 : Int} {H : AHeap} (j : Env) : Z9.b14 Q Y14 x1 x2 x3 x7 H → wpC Try.prog Z9.c15 (upd (upd (upd (upd j 1 (.one (.int .i64 x1))) 2 (.one x2)) 3 (.one x3)) 7 (.one (.int .i64 x7))) H (kSeq X14 (kBlk 0 (Z9.k11 Q))) := c_seq (cO (sP (o_mov rfl (sP (o_mov rfl (sP (o_lens rfl (fun n_1 => sP (o_lt rfl rfl (sK (c_if rfl (c_skip (k_seq (c_seq (c_blk (cO (sP (o_mov rfl (sP (o_mov rfl (sP (o_ia rfl rfl (fun q_2 => sP (o_ld1 rfl (fun (v_3 : Int) => sP (o_mov rfl (sP (o_eq rfl rfl (sK (c_if rfl (cO (sP (o_mov rfl (sP (o_mov rfl (sK (c_ret (k_blkR (k_seqR (k_seqR (k_blkR (k_seqR (k_topR (r_one rfl (r_nil (fun h => ⟨(x2, ()), rfl, h⟩)))))))))))))))) (c_skip (k_blk (k_seq (c_ops (sP (o_mov rfl (sP (o_add rfl rfl (sP (o_mov rfl (sK (hX14 _ _ _ ⟨rfl, rfl, rfl, rfl, trivial⟩))))))))))))))))))))))))))))))) (c_exit (k_seqE (k_seqE (k_blkH (k_seq (cO (sP (o_ld2 rfl (fun (v_4 : AC) (v_5 : Int) => sP (o_fa rfl (fun q_6 => sP (o_ld1 rfl (fun (v_7 : AC) => sP (o_mov rfl (sP (o_ia rfl rfl (fun q_8 => sP (o_fa rfl (fun q_9 => sP (o_ld1 rfl (fun (v_10 : Int) => sP (o_mov rfl (sP (o_call rfl (cv_1 (fun H_11 (v_12 : AC) => sP (o_mov rfl (sK (cO (sP (o_ld2 rfl (fun (v_13 : AC) (v_14 : Int) => sP (o_fa rfl (fun q_15 => sP (o_ld1 rfl (fun (v_16 : AC) => sP (o_mov rfl (sP (o_ia rfl rfl (fun q_17 => sP (o_fa rfl (fun q_18 => sP (o_ld1 rfl (fun (v_19 : Int) => sP (o_mov rfl (sP (o_call rfl (cv_1 (fun H_20 (v_21 : AC) => sP (o_mov rfl (sK (cO (sP (o_mov rfl (sP (o_mov rfl (sP (o_blds rfl (fun p_22 H_23 => sP (o_app rfl rfl (fun s_24 H_25 => sP (o_mov rfl (sK (c_ret (k_topR (r_one rfl (r_nil (fun h => ⟨(s_24, ()), rfl, h⟩)))))))))))))))))))))))))))))))))))))))))))))))))))))))))))))))))))))))))))))))
theorem Z9.l14_ok (Q : AHeap → AC → Prop) {x1 : Int} {x2 : AC} {x3 : AC} {x7 : Int} {H : AHeap} {t : Env} (h1 : t 1 = (.one (.int .i64 x1))) (h2 : t 2 = (.one x2)) (h3 : t 3 = (.one x3)) (h7 : t 7 = (.one (.int .i64 x7))) : Z9.l14 Q x1 x2 x3 x7 H → wpC Try.prog (.loop Z9.c15) t H (kBlk 0 (Z9.k11 Q)) :=
  m_loop Z9.R14 ⟨h1, h2, h3, h7, trivial⟩ fun X Y hX s t H hR hB => by
    have g := Z9.b14_ok Q Y X hX t hB
    rw [upd_self hR.1] at g
    rw [upd_self hR.2.1] at g
    rw [upd_self hR.2.2.1] at g
    rw [upd_self hR.2.2.2.1] at g
    exact g
theorem Z9.ok {a0_0 : AC} {a0_1 : Int} {a1 : Int} {a2 : AC} {H : AHeap} (Q : AHeap → AC → Prop) : Z9.W a0_0 a0_1 a1 a2 H Q → wpF Try.prog Z9.c [.tm 6] (envOf [(.agg [a0_0, (.int .i64 a0_1)]), (.one (.int .i64 a1)), (.one a2)]) H (Z9.KQ Q) := cO (sP (o_box rfl (fun p_1 H_2 => sP (o_mov rfl (sK (c_seq (cO (sP (o_mov rfl (sP (o_lt rfl rfl (sK (c_if rfl (cO (sP (o_mov rfl (sP (o_mov rfl (sK (c_ret (k_seqR (k_topR (r_one rfl (r_nil (fun h => ⟨(a2, ()), rfl, h⟩)))))))))))) (c_skip (k_seq (c_seq (cO (sP (o_mov rfl (sK (c_blk (Z9.l14_ok Q rfl rfl rfl rfl))))))))))))))))))))))
theorem Z9.run {a0_0 : AC} {a0_1 : Int} {a1 : Int} {a2 : AC} {H : AHeap} {Q : AHeap → AC → Prop} (h : Z9.W a0_0 a0_1 a1 a2 H Q) : Fn.Z9 a0_0 a0_1 a1 a2 H Q := by
  unfold Fn.Z9 RunT
  exact runK aggs_ok [(8, []), (9, [])] Try.func61 rfl (by kernel_rfl) (by kernel_rfl) (by kernel_rfl) (by kernel_rfl) (by kernel_rfl) (Z9.ok Q h)
def Z35.c : RC := (.seq (.ops [.put 2 (.box 64 (.tm 0)), .put 4 (.new 27 [(.sl none 0 0 (some 0)), (.int .i64 0)])]) (.seq (.ops [.put 5 (.new 27 [(.sl none 0 0 (some 0)), (.int .i64 0)])]) (.seq (.ops [.put 8 (.mkm), .put 6 (.new 109 [(.map none)]), .run (.st 1 (.tm 6) (.tm 8))]) (.seq (.ops [.put 7 (.new 75 [.nilFn])]) (.seq (.ops [.put 9 (.fn 88 [] [(.tm 6), (.tm 7), (.tm 2), (.tm 5)]), .run (.st 1 (.tm 7) (.tm 9))]) (.seq (.ops [.put 10 (.ld false [.ac] (.tm 7)), pM 11 1, .put 12 (.callv (.tm 10) [(.tm 11)]), .put 13 (.fa 1 (.tm 5)), .run (.st 1 (.tm 13) (.tm 12))]) (.seq (.ops [.put 14 (.ld true [.ac, .int .i64] (.tm 5)), .run (.st 2 (.tm 4) (.tm 14))]) .ret)))))))
abbrev Z35.KQ (Q : AHeap → AC → Int → Prop) : AV → AHeap → Prop := KQT [(true, [.ac, .int .i64])] Q
abbrev Z35.K (Q : AHeap → AC → Int → Prop) : Ex → Env → AHeap → Prop := kTop [.cell 4 true [.ac, .int .i64]] (Z35.KQ Q)
def Z35.W (a0 : AC) (a1 : Int) (H : AHeap) (Q : AHeap → AC → Int → Prop) : Prop := New 64 [a0] H fun p_1 H_2 => New 27 [(.sl none 0 0 (some 0)), (.int .i64 0)] H_2 fun p_3 H_4 => New 27 [(.sl none 0 0 (some 0)), (.int .i64 0)] H_4 fun p_5 H_6 => NewM H_6 fun p_7 H_8 => New 109 [(.map none)] H_8 fun p_9 H_10 => Sto H_10 p_9 [p_7] fun H_11 => New 75 [.nilFn] H_11 fun p_12 H_13 => Fnc 88 [] [p_9, p_12, p_1, p_5] fun f_14 => Sto H_13 p_12 [f_14] fun H_15 => Ld [.ac] H_15 p_12 fun (v_16 : AC) => CVT Try.prog [(false, [.int .i64])] v_16 [(.one (.int .i64 a1))] H_15 fun H_17 (v_18 : Int) => FA 1 p_5 fun q_19 => Sto H_17 q_19 [(.int .i64 v_18)] fun H_20 => Ld [.ac, .int .i64] H_20 p_5 fun (v_21 : AC) (v_22 : Int) => Sto H_20 p_3 [v_21, (.int .i64 v_22)] fun H_23 => Ld [.ac, .int .i64] H_23 p_3 fun (r0_24 : AC) (r1_25 : Int) => Q H_23 r0_24 r1_25
theorem Z35.ok {a0 : AC} {a1 : Int} {H : AHeap} (Q : AHeap → AC → Int → Prop) : Z35.W a0 a1 H Q → wpF Try.prog Z35.c [.cell 4 true [.ac, .int .i64]] (envOf [(.one a0), (.one (.int .i64 a1))]) H (Z35.KQ Q) := cO (sP (o_box rfl (fun p_1 H_2 => sP (o_new (fun p_3 H_4 => sK (cO (sP (o_new (fun p_5 H_6 => sK (cO (sP (o_mkm (fun p_7 H_8 => sP (o_new (fun p_9 H_10 => s_cons (w_run (o_st rfl rfl rfl (fun H_11 => sK (cO (sP (o_new (fun p_12 H_13 => sK (cO (sP (o_fn rfl rfl (fun f_14 => s_cons (w_run (o_st rfl rfl rfl (fun H_15 => sK (cO (sP (o_ld1 rfl (fun (v_16 : AC) => sP (o_mov rfl (sP (o_callv rfl rfl (cu_1 (fun H_17 (v_18 : Int) => sP (o_fa rfl (fun q_19 => s_cons (w_run (o_st rfl rfl rfl (fun H_20 => sK (cO (sP (o_ld2 rfl (fun (v_21 : AC) (v_22 : Int) => s_cons (w_run (o_st rfl rfl rfl (fun H_23 => sK (c_ret (k_topR (r_cell2 rfl (fun (r0_24 : AC) (r1_25 : Int) => r_nil (fun h => ⟨(r0_24, (r1_25 : Int), ()), rfl, h⟩)))))))))))))))))))))))))))))))))))))))))))))))))))))))
theorem Z35.run {a0 : AC} {a1 : Int} {H : AHeap} {Q : AHeap → AC → Int → Prop} (h : Z35.W a0 a1 H Q) : Fn.Z35 a0 a1 H Q := by
  unfold Fn.Z35 RunT
  exact runK aggs_ok [] Try.func63 rfl (by kernel_rfl) (by kernel_rfl) (by kernel_rfl) (by kernel_rfl) (by kernel_rfl) (Z35.ok Q h)
def Z15.c15 : RC := (.seq (.ops [.put 14 (.cm .lt (.tm 13) (.tm 12))]) (.seq (.cond 14 .skip (.exit 0)) (.seq (.block 1 (.seq (.ops [pM 15 13, pM 5 15]) (.seq (.ops [pM 16 0, pM 17 5, .put 18 (.ia 3 (.tm 16) (.tm 17)), .put 19 (.ld true [.int .i64, .int .i64, .int .i64] (.tm 18)), pM 20 1, pM 21 5, .put 22 (.ia 3 (.tm 20) (.tm 21)), .put 23 (.ld true [.int .i64, .int .i64, .int .i64] (.tm 22)), .put 24 (.eqa true 3 (.tm 19) (.tm 23))]) (.cond 24 (.seq (.ops [.put 4 (.mov (.ct (.one (.bool false))))]) .ret) .skip)))) (.ops [.put 25 (.ar .add (.tm 13) (cI 1)), pM 13 25]))))
def Z15.c : RC := (.seq (.ops [.put 4 (.mov (.ct (.one (.bool false))))]) (.seq (.seq (.ops [pM 6 0, .put 7 (.lens (.tm 6)), pM 8 1, .put 9 (.lens (.tm 8)), .put 10 (.cm .ne (.tm 7) (.tm 9))]) (.cond 10 (.seq (.ops [.put 4 (.mov (.ct (.one (.bool false))))]) .ret) .skip)) (.seq (.seq (.ops [pM 11 0, .put 12 (.lens (.tm 11)), .put 13 (.mov (cI 0))]) (.block 0 (.loop Z15.c15))) (.seq (.ops [.put 4 (.mov (.ct (.one (.bool true))))]) .ret))))
abbrev Z15.KQ (Q : AHeap → Bool → Prop) : AV → AHeap → Prop := KQT [(false, [.bool])] Q
abbrev Z15.K (Q : AHeap → Bool → Prop) : Ex → Env → AHeap → Prop := kTop [.tm 4] (Z15.KQ Q)
abbrev Z15.k11 (Q : AHeap → Bool → Prop) : Ex → Env → AHeap → Prop := kSeq (fun t H => wpC Try.prog (.seq (.ops [.put 4 (.mov (.ct (.one (.bool true))))]) .ret) t H (Z15.K Q)) (Z15.K Q)
def Z15.R14 (s : Tup [.ac, .ac, .int .i64, .int .i64]) (t : Env) : Prop := t 0 = (.one (s.1)) ∧ t 1 = (.one (s.2.1)) ∧ t 12 = (.one (.int .i64 (s.2.2.1))) ∧ t 13 = (.one (.int .i64 (s.2.2.2.1))) ∧ True
def Z15.b14 (Q : AHeap → Bool → Prop) (Y14 : Tup [.ac, .ac, .int .i64, .int .i64] → AHeap → Prop) (x0 : AC) (x1 : AC) (x12 : Int) (x13 : Int) (H : AHeap) : Prop := CondB (decide (x13 < x12)) (IA 3 x0 x13 fun q_1 => Ld [.int .i64, .int .i64, .int .i64] H q_1 fun (v_2 : Int) (v_3 : Int) (v_4 : Int) => IA 3 x1 x13 fun q_5 => Ld [.int .i64, .int .i64, .int .i64] H q_5 fun (v_6 : Int) (v_7 : Int) (v_8 : Int) => CondB (!(decide (([v_2, v_3, v_4] : List Int) = ([v_6, v_7, v_8] : List Int)))) (Q H false) (Y14 (x0, x1, (x12 : Int), ((IntKind.wrap .i64 (x13 + 1)) : Int), ()) H)) (Q H true)
def Z15.l14 (Q : AHeap → Bool → Prop) (x0 : AC) (x1 : AC) (x12 : Int) (x13 : Int) (H : AHeap) : Prop := LoopT (Tup [.ac, .ac, .int .i64, .int .i64]) (fun Y s H => Z15.b14 Q Y (s.1) (s.2.1) (s.2.2.1) (s.2.2.2.1) H) (x0, x1, x12, x13, ()) H
def Z15.W (a0 : AC) (a1 : AC) (H : AHeap) (Q : AHeap → Bool → Prop) : Prop := LenS a0 fun n_1 => LenS a1 fun n_2 => CondB (n_1 != n_2) (Q H false) (LenS a0 fun n_3 => Z15.l14 Q a0 a1 n_3 0 H)
theorem Z15.b14_ok (Q : AHeap → Bool → Prop) (Y14 : Tup [.ac, .ac, .int .i64, .int .i64] → AHeap → Prop) (X14 : Env → AHeap → Prop) (hX14 : ∀ s t H, Z15.R14 s t → Y14 s H → X14 t H) {x0 : AC} {x1 : AC} {x12 : Int} {x13 : Int} {H : AHeap} (j : Env) : Z15.b14 Q Y14 x0 x1 x12 x13 H → wpC Try.prog Z15.c15 (upd (upd (upd (upd j 0 (.one x0)) 1 (.one x1)) 12 (.one (.int .i64 x12))) 13 (.one (.int .i64 x13))) H (kSeq X14 (kBlk 0 (Z15.k11 Q))) := cO (sP (o_lt rfl rfl (sK (c_seq (c_if rfl (c_skip (k_seq (c_seq (c_blk (cO (sP (o_mov rfl (sP (o_mov rfl (sK (cO (sP (o_mov rfl (sP (o_mov rfl (sP (o_ia rfl rfl (fun q_1 => sP (o_ld3 rfl (fun (v_2 : Int) (v_3 : Int) (v_4 : Int) => sP (o_mov rfl (sP (o_mov rfl (sP (o_ia rfl rfl (fun q_5 => sP (o_ld3 rfl (fun (v_6 : Int) (v_7 : Int) (v_8 : Int) => sP (o_nea rfl rfl rfl rfl rfl (sK (c_if rfl (cO (sP (o_mov rfl (sK (c_ret (k_blkR (k_seqR (k_seqR (k_blkR (k_seqR (k_topR (r_one rfl (r_nil (fun h => ⟨((false : Bool), ()), rfl, h⟩)))))))))))))) (c_skip (k_blk (k_seq (c_ops (sP (o_add rfl rfl (sP (o_mov rfl (sK (hX14 _ _ _ ⟨rfl, rfl, rfl, rfl, trivial⟩))))))))))))))))))))))))))))))))))))))))) (c_exit (k_seqE (k_seqE (k_blkH (k_seq (cO (sP (o_mov rfl (sK (c_ret (k_topR (r_one rfl (r_nil (fun h => ⟨((true : Bool), ()), rfl, h⟩)))))))))))))))))))
theorem Z15.l14_ok (Q : AHeap → Bool → Prop) {x0 : AC} {x1 : AC} {x12 : Int} {x13 : Int} {H : AHeap} {t : Env} (h0 : t 0 = (.one x0)) (h1 : t 1 = (.one x1)) (h12 : t 12 = (.one (.int .i64 x12))) (h13 : t 13 = (.one (.int .i64 x13))) : Z15.l14 Q x0 x1 x12 x13 H → wpC Try.prog (.loop Z15.c15) t H (kBlk 0 (Z15.k11 Q)) :=
  m_loop Z15.R14 ⟨h0, h1, h12, h13, trivial⟩ fun X Y hX s t H hR hB => by
    have g := Z15.b14_ok Q Y X hX t hB
    rw [upd_self hR.1] at g
    rw [upd_self hR.2.1] at g
    rw [upd_self hR.2.2.1] at g
    rw [upd_self hR.2.2.2.1] at g
    exact g
theorem Z15.ok {a0 : AC} {a1 : AC} {H : AHeap} (Q : AHeap → Bool → Prop) : Z15.W a0 a1 H Q → wpF Try.prog Z15.c [.tm 4] (envOf [(.one a0), (.one a1)]) H (Z15.KQ Q) := cO (sP (o_mov rfl (sK (c_seq (cO (sP (o_mov rfl (sP (o_lens rfl (fun n_1 => sP (o_mov rfl (sP (o_lens rfl (fun n_2 => sP (o_ne rfl rfl (sK (c_if rfl (cO (sP (o_mov rfl (sK (c_ret (k_seqR (k_topR (r_one rfl (r_nil (fun h => ⟨((false : Bool), ()), rfl, h⟩)))))))))) (c_skip (k_seq (c_seq (cO (sP (o_mov rfl (sP (o_lens rfl (fun n_3 => sP (o_mov rfl (sK (c_blk (Z15.l14_ok Q rfl rfl rfl rfl))))))))))))))))))))))))))))))
theorem Z15.run {a0 : AC} {a1 : AC} {H : AHeap} {Q : AHeap → Bool → Prop} (h : Z15.W a0 a1 H Q) : Fn.Z15 a0 a1 H Q := by
  unfold Fn.Z15 RunT
  exact runK aggs_ok [(6, [])] Try.func64 rfl (by kernel_rfl) (by kernel_rfl) (by kernel_rfl) (by kernel_rfl) (by kernel_rfl) (Z15.ok Q h)
def Z30.c : RC := (.seq (.ops [.put 2 (.mov (.ct (.one (.bool false))))]) (.seq (.ops [pM 3 0, .put 4 (.cm .ge (.tm 3) (cI 0)), pM 5 4, .gput 6 5 true (.mov (.tm 0)), .gput 7 5 true (.cm .lt (.tm 6) (cI 16)), .put 8 (.pick (.tm 5) (.tm 7) (.ct (.one (.bool false)))), pM 2 8]) .ret))
abbrev Z30.KQ (Q : AHeap → Bool → Prop) : AV → AHeap → Prop := KQT [(false, [.bool])] Q
abbrev Z30.K (Q : AHeap → Bool → Prop) : Ex → Env → AHeap → Prop := kTop [.tm 2] (Z30.KQ Q)
def Z30.W (a0 : Int) (H : AHeap) (Q : AHeap → Bool → Prop) : Prop := CondB (decide (a0 ≥ 0)) (Q H (decide (a0 < 16))) (Q H false)
theorem Z30.ok {a0 : Int} {H : AHeap} (Q : AHeap → Bool → Prop) : Z30.W a0 H Q → wpF Try.prog Z30.c [.tm 2] (envOf [(.one (.int .i64 a0))]) H (Z30.KQ Q) := cO (sP (o_mov rfl (sK (cO (sP (o_mov rfl (sP (o_ge rfl rfl (sP (o_mov rfl (s_cons (w_gputT rfl (o_mov rfl (s_cons (w_gputY rfl (o_lt rfl rfl (sP (o_pickT rfl rfl (sP (o_mov rfl (sK (c_ret (k_topR (r_one rfl (r_nil (fun h => ⟨(((decide (a0 < 16)) : Bool), ()), rfl, h⟩)))))))))))))) (s_cons (w_gputN rfl (sP (o_pickF rfl rfl (sP (o_mov rfl (sK (c_ret (k_topR (r_one rfl (r_nil (fun h => ⟨((false : Bool), ()), rfl, h⟩))))))))))))))))))))))))
theorem Z30.run {a0 : Int} {H : AHeap} {Q : AHeap → Bool → Prop} (h : Z30.W a0 H Q) : Fn.Z30 a0 H Q := by
  unfold Fn.Z30 RunT
  exact runK aggs_ok [] Try.func65 rfl (by kernel_rfl) (by kernel_rfl) (by kernel_rfl) (by kernel_rfl) (by kernel_rfl) (Z30.ok Q h)
def Z37.c : RC := (.seq (.ops [.put 4 (.box 64 (.tm 0)), .put 6 (.box 3 (.tm 2)), .put 7 (.box 3 (.tm 3)), .put 8 (.mov (cI 0))]) (.seq (.ops [.put 11 (.mkm), .put 9 (.new 109 [(.map none)]), .run (.st 1 (.tm 9) (.tm 11))]) (.seq (.ops [.put 10 (.new 75 [.nilFn])]) (.seq (.ops [.put 12 (.fn 89 [] [(.tm 4), (.tm 6), (.tm 9), (.tm 10), (.tm 7)]), .run (.st 1 (.tm 10) (.tm 12))]) (.seq (.ops [.put 13 (.ld false [.ac] (.tm 10)), pM 14 1, .put 15 (.callv (.tm 13) [(.tm 14)]), pM 8 15]) .ret)))))
abbrev Z37.KQ (Q : AHeap → Int → Prop) : AV → AHeap → Prop := KQT [(false, [.int .i64])] Q
abbrev Z37.K (Q : AHeap → Int → Prop) : Ex → Env → AHeap → Prop := kTop [.tm 8] (Z37.KQ Q)
def Z37.W (a0 : AC) (a1 : Int) (a2 : Int) (a3 : Int) (H : AHeap) (Q : AHeap → Int → Prop) : Prop := New 64 [a0] H fun p_1 H_2 => New 3 [(.int .i64 a2)] H_2 fun p_3 H_4 => New 3 [(.int .i64 a3)] H_4 fun p_5 H_6 => NewM H_6 fun p_7 H_8 => New 109 [(.map none)] H_8 fun p_9 H_10 => Sto H_10 p_9 [p_7] fun H_11 => New 75 [.nilFn] H_11 fun p_12 H_13 => Fnc 89 [] [p_1, p_3, p_9, p_12, p_5] fun f_14 => Sto H_13 p_12 [f_14] fun H_15 => Ld [.ac] H_15 p_12 fun (v_16 : AC) => CVT Try.prog [(false, [.int .i64])] v_16 [(.one (.int .i64 a1))] H_15 fun H_17 (v_18 : Int) => Q H_17 v_18
theorem Z37.ok {a0 : AC} {a1 : Int} {a2 : Int} {a3 : Int} {H : AHeap} (Q : AHeap → Int → Prop) : Z37.W a0 a1 a2 a3 H Q → wpF Try.prog Z37.c [.tm 8] (envOf [(.one a0), (.one (.int .i64 a1)), (.one (.int .i64 a2)), (.one (.int .i64 a3))]) H (Z37.KQ Q) := cO (sP (o_box rfl (fun p_1 H_2 => sP (o_box rfl (fun p_3 H_4 => sP (o_box rfl (fun p_5 H_6 => sP (o_mov rfl (sK (cO (sP (o_mkm (fun p_7 H_8 => sP (o_new (fun p_9 H_10 => s_cons (w_run (o_st rfl rfl rfl (fun H_11 => sK (cO (sP (o_new (fun p_12 H_13 => sK (cO (sP (o_fn rfl rfl (fun f_14 => s_cons (w_run (o_st rfl rfl rfl (fun H_15 => sK (cO (sP (o_ld1 rfl (fun (v_16 : AC) => sP (o_mov rfl (sP (o_callv rfl rfl (cu_1 (fun H_17 (v_18 : Int) => sP (o_mov rfl (sK (c_ret (k_topR (r_one rfl (r_nil (fun h => ⟨((v_18 : Int), ()), rfl, h⟩)))))))))))))))))))))))))))))))))))))))))))))
theorem Z37.run {a0 : AC} {a1 : Int} {a2 : Int} {a3 : Int} {H : AHeap} {Q : AHeap → Int → Prop} (h : Z37.W a0 a1 a2 a3 H Q) : Fn.Z37 a0 a1 a2 a3 H Q := by
  unfold Fn.Z37 RunT
  exact runK aggs_ok [] Try.func66 rfl (by kernel_rfl) (by kernel_rfl) (by kernel_rfl) (by kernel_rfl) (by kernel_rfl) (Z37.ok Q h)
end Go.Proofs.Ytanaaabejeeakaa
end
section
namespace Go.Proofs.Ytanaaabejeeakaa
open Go.AI
set_option maxRecDepth 100000
set_option maxHeartbeats 2000000
set_option linter.unusedVariables false
attribute [local irreducible] Ld Sto New NewS NewM NN NZ GE0 FA IA IAP LenS Slc App Cpy Clr MkS Fnc NilQ IxS Look MSet Run CV RunT CVT LoopT Same1 Same2 wpC wpOs wpT wpO wpOp
def Z14.c : RC := (.seq (.ops [.put 4 (.mov (.ct (.one (.bool false))))]) (.seq (.ops [pM 5 0, pM 6 1, .put 7 (.call 91 [(.tm 5), (.tm 6)]), .put 8 (.cm .ge (.tm 7) (cI 0)), pM 4 8]) .ret))
abbrev Z14.KQ (Q : AHeap → Bool → Prop) : AV → AHeap → Prop := KQT [(false, [.bool])] Q
abbrev Z14.K (Q : AHeap → Bool → Prop) : Ex → Env → AHeap → Prop := kTop [.tm 4] (Z14.KQ Q)
def Z14.W (a0 : AC) (a1 : AC) (H : AHeap) (Q : AHeap → Bool → Prop) : Prop := Fn.Z17 a0 a1 H fun H_1 (v_2 : Int) => Q H_1 (decide (v_2 ≥ 0))
theorem Z14.ok {a0 : AC} {a1 : AC} {H : AHeap} (Q : AHeap → Bool → Prop) : Z14.W a0 a1 H Q → wpF Try.prog Z14.c [.tm 4] (envOf [(.one a0), (.one a1)]) H (Z14.KQ Q) := cO (sP (o_mov rfl (sK (cO (sP (o_mov rfl (sP (o_mov rfl (sP (o_call rfl (cv_1 (fun H_1 (v_2 : Int) => sP (o_ge rfl rfl (sP (o_mov rfl (sK (c_ret (k_topR (r_one rfl (r_nil (fun h => ⟨(((decide (v_2 ≥ 0)) : Bool), ()), rfl, h⟩)))))))))))))))))))))
theorem Z14.run {a0 : AC} {a1 : AC} {H : AHeap} {Q : AHeap → Bool → Prop} (h : Z14.W a0 a1 H Q) : Fn.Z14 a0 a1 H Q := by
  unfold Fn.Z14 RunT
  exact runK aggs_ok [] Try.func67 rfl (by kernel_rfl) (by kernel_rfl) (by kernel_rfl) (by kernel_rfl) (by kernel_rfl) (Z14.ok Q h)
def Z27.c : RC := (.seq (.ops [.put 2 (.mov (.ct (.one (.bool false))))]) (.seq (.ops [pM 3 0, .put 4 (.call 65 [(.tm 3)]), .put 5 (.not (.tm 4)), pM 2 5]) .ret))
abbrev Z27.KQ (Q : AHeap → Bool → Prop) : AV → AHeap → Prop := KQT [(false, [.bool])] Q
abbrev Z27.K (Q : AHeap → Bool → Prop) : Ex → Env → AHeap → Prop := kTop [.tm 2] (Z27.KQ Q)
def Z27.W (a0 : Int) (H : AHeap) (Q : AHeap → Bool → Prop) : Prop := Fn.Z30 a0 H fun H_1 (v_2 : Bool) => Q H_1 (!v_2)
theorem Z27.ok {a0 : Int} {H : AHeap} (Q : AHeap → Bool → Prop) : Z27.W a0 H Q → wpF Try.prog Z27.c [.tm 2] (envOf [(.one (.int .i64 a0))]) H (Z27.KQ Q) := cO (sP (o_mov rfl (sK (cO (sP (o_mov rfl (sP (o_call rfl (cv_1 (fun H_1 (v_2 : Bool) => sP (o_not rfl (sP (o_mov rfl (sK (c_ret (k_topR (r_one rfl (r_nil (fun h => ⟨(((!v_2) : Bool), ()), rfl, h⟩)))))))))))))))))))
theorem Z27.run {a0 : Int} {H : AHeap} {Q : AHeap → Bool → Prop} (h : Z27.W a0 H Q) : Fn.Z27 a0 H Q := by
  unfold Fn.Z27 RunT
  exact runK aggs_ok [] Try.func68 rfl (by kernel_rfl) (by kernel_rfl) (by kernel_rfl) (by kernel_rfl) (by kernel_rfl) (Z27.ok Q h)
def Z18.c : RC := (.seq (.ops [.put 2 (.mov (.ct (.one (.sl none 0 0 (some 0)))))]) (.seq (.ops [pM 4 0, .put 5 (.call 92 [(.tm 4)]), pM 3 5]) (.seq (.ops [pM 6 3, .put 7 (.call 87 [(.tm 6)])]) (.seq (.ops [pM 8 3, pM 2 8]) .ret))))
abbrev Z18.KQ (Q : AHeap → AC → Prop) : AV → AHeap → Prop := KQT [(false, [.ac])] Q
abbrev Z18.K (Q : AHeap → AC → Prop) : Ex → Env → AHeap → Prop := kTop [.tm 2] (Z18.KQ Q)
def Z18.W (a0 : AC) (H : AHeap) (Q : AHeap → AC → Prop) : Prop := Fn.Z12 a0 H fun H_1 (v_2 : AC) => Fn.slices_Sort_int_int v_2 H_1 fun H_3 => Q H_3 v_2
theorem Z18.ok {a0 : AC} {H : AHeap} (Q : AHeap → AC → Prop) : Z18.W a0 H Q → wpF Try.prog Z18.c [.tm 2] (envOf [(.one a0)]) H (Z18.KQ Q) := cO (sP (o_mov rfl (sK (cO (sP (o_mov rfl (sP (o_call rfl (cv_1 (fun H_1 (v_2 : AC) => sP (o_mov rfl (sK (cO (sP (o_mov rfl (sP (o_call rfl (cv_0 (fun H_3 => sK (cO (sP (o_mov rfl (sP (o_mov rfl (sK (c_ret (k_topR (r_one rfl (r_nil (fun h => ⟨(v_2, ()), rfl, h⟩))))))))))))))))))))))))))))))
theorem Z18.run {a0 : AC} {H : AHeap} {Q : AHeap → AC → Prop} (h : Z18.W a0 H Q) : Fn.Z18 a0 H Q := by
  unfold Fn.Z18 RunT
  exact runK aggs_ok [] Try.func70 rfl (by kernel_rfl) (by kernel_rfl) (by kernel_rfl) (by kernel_rfl) (by kernel_rfl) (Z18.ok Q h)
def Z19.c : RC := (.seq (.ops [.put 1 (.box 53 (.tm 0)), .put 2 (.mov (.ct (.one .nilFn)))]) (.seq (.ops [.put 3 (.fn 93 [] [(.tm 1)]), pM 2 3]) .ret))
abbrev Z19.KQ (Q : AHeap → AC → Prop) : AV → AHeap → Prop := KQT [(false, [.ac])] Q
abbrev Z19.K (Q : AHeap → AC → Prop) : Ex → Env → AHeap → Prop := kTop [.tm 2] (Z19.KQ Q)
def Z19.W (a0 : AC) (H : AHeap) (Q : AHeap → AC → Prop) : Prop := New 53 [a0] H fun p_1 H_2 => Fnc 93 [] [p_1] fun f_3 => Q H_2 f_3
theorem Z19.ok {a0 : AC} {H : AHeap} (Q : AHeap → AC → Prop) : Z19.W a0 H Q → wpF Try.prog Z19.c [.tm 2] (envOf [(.one a0)]) H (Z19.KQ Q) := cO (sP (o_box rfl (fun p_1 H_2 => sP (o_mov rfl (sK (cO (sP (o_fn rfl rfl (fun f_3 => sP (o_mov rfl (sK (c_ret (k_topR (r_one rfl (r_nil (fun h => ⟨(f_3, ()), rfl, h⟩))))))))))))))))
theorem Z19.run {a0 : AC} {H : AHeap} {Q : AHeap → AC → Prop} (h : Z19.W a0 H Q) : Fn.Z19 a0 H Q := by
  unfold Fn.Z19 RunT
  exact runK aggs_ok [] Try.func71 rfl (by kernel_rfl) (by kernel_rfl) (by kernel_rfl) (by kernel_rfl) (by kernel_rfl) (Z19.ok Q h)
end Go.Proofs.Ytanaaabejeeakaa
end
section
namespace Go.Proofs.Ytanaaabejeeakaa
open Go.AI
set_option maxRecDepth 100000
set_option maxHeartbeats 2000000
set_option linter.unusedVariables false
attribute [local irreducible] Ld Sto New NewS NewM NN NZ GE0 FA IA IAP LenS Slc App Cpy Clr MkS Fnc NilQ IxS Look MSet Run CV RunT CVT LoopT Same1 Same2 wpC wpOs wpT wpO wpOp
def Z40.c : RC := (.seq (.ops [.put 8 (.mov (cI 0))]) (.seq (.seq (.ops [pM 12 2, pM 13 3, .put 14 (.cm .eq (.tm 12) (.tm 13))]) (.cond 14 (.seq (.ops [pM 15 2, pM 8 15]) .ret) .skip)) (.seq (.ops [pM 16 1, pM 17 2, pM 18 3, .put 19 (.bld [(.int .i64 0), (.int .i64 0), (.int .i64 0)] [(0, 1, (.tm 16)), (1, 1, (.tm 17)), (2, 1, (.tm 18))]), .put 9 (.new 77 [(.int .i64 0), (.int .i64 0), (.int .i64 0)]), .run (.st 3 (.tm 9) (.tm 19))]) (.seq (.ops [pM 21 0, .put 22 (.nn (.tm 21)), .put 23 (.fa 1 (.tm 22)), .put 24 (.ld false [.ac] (.tm 23)), .put 25 (.ld true [.int .i64, .int .i64, .int .i64] (.tm 9)), .put 26 (.look (some 3) false [.int .i64] [(.int .i64 0)] true (.tm 24) (.tm 25)), pM 20 26, .put 27 (.ex (.tm 20) 0), .put 28 (.ex (.tm 20) 1), pM 10 27, pM 11 28]) (.seq (.seq (.ops [pM 29 11, .put 30 (.not (.tm 29))]) (.cond 30 (.seq (.ops [pM 31 0, .put 32 (.nn (.tm 31)), .put 33 (.fa 0 (.tm 32)), .put 34 (.ld false [.ac] (.tm 33)), .put 35 (.lens (.tm 34)), pM 10 35]) (.seq (.ops [pM 36 0, pM 37 0, .put 38 (.nn (.tm 37)), .put 39 (.fa 0 (.tm 38)), .put 40 (.ld false [.ac] (.tm 39)), .put 41 (.ld true [.int .i64, .int .i64, .int .i64] (.tm 9)), .put 42 (.blds 77 3 1 [(.int .i64 0), (.int .i64 0), (.int .i64 0)] [(0, 3, (.tm 41))]), .put 43 (.app 77 3 24 (.tm 40) (.tm 42)), .put 44 (.nn (.tm 36)), .put 45 (.fa 0 (.tm 44)), .run (.st 1 (.tm 45) (.tm 43))]) (.ops [pM 46 0, .put 47 (.nn (.tm 46)), .put 48 (.fa 1 (.tm 47)), .put 49 (.ld false [.ac] (.tm 48)), .put 50 (.ld true [.int .i64, .int .i64, .int .i64] (.tm 9)), pM 51 10, .run (.mset (some 3) (.tm 49) (.tm 50) (.tm 51))]))) .skip)) (.seq (.ops [pM 52 10, pM 8 52]) .ret))))))
abbrev Z40.KQ (Q : AHeap → Int → Prop) : AV → AHeap → Prop := KQT [(false, [.int .i64])] Q
abbrev Z40.K (Q : AHeap → Int → Prop) : Ex → Env → AHeap → Prop := kTop [.tm 8] (Z40.KQ Q)
def Z40.W (a0 : AC) (a1 : Int) (a2 : Int) (a3 : Int) (H : AHeap) (Q : AHeap → Int → Prop) : Prop := CondB (a2 == a3) (Q H a2) (New 77 [(.int .i64 0), (.int .i64 0), (.int .i64 0)] H fun p_1 H_2 => Sto H_2 p_1 [(.int .i64 a1), (.int .i64 a2), (.int .i64 a3)] fun H_3 => NN a0 <| FA 1 a0 fun q_4 => Ld [.ac] H_3 q_4 fun (v_5 : AC) => Ld [.int .i64, .int .i64, .int .i64] H_3 p_1 fun (v_6 : Int) (v_7 : Int) (v_8 : Int) => Look (some 3) false [.int .i64] [(.int .i64 0)] H_3 v_5 [v_6, v_7, v_8] fun b_9 (v_10 : Int) => CondB (!b_9) (NN a0 <| FA 0 a0 fun q_11 => Ld [.ac] H_3 q_11 fun (v_12 : AC) => LenS v_12 fun n_13 => NN a0 <| FA 0 a0 fun q_14 => Ld [.ac] H_3 q_14 fun (v_15 : AC) => Ld [.int .i64, .int .i64, .int .i64] H_3 p_1 fun (v_16 : Int) (v_17 : Int) (v_18 : Int) => NewS 77 3 1 [(.int .i64 v_16), (.int .i64 v_17), (.int .i64 v_18)] H_3 fun p_19 H_20 => App 77 3 24 v_15 p_19 H_20 fun s_21 H_22 => NN a0 <| FA 0 a0 fun q_23 => Sto H_22 q_23 [s_21] fun H_24 => NN a0 <| FA 1 a0 fun q_25 => Ld [.ac] H_24 q_25 fun (v_26 : AC) => Ld [.int .i64, .int .i64, .int .i64] H_24 p_1 fun (v_27 : Int) (v_28 : Int) (v_29 : Int) => MSet (some 3) H_24 v_26 [v_27, v_28, v_29] (.one (.int .i64 n_13)) fun H_30 => Q H_30 n_13) (Q H_3 v_10))
theorem Z40.ok {a0 : AC} {a1 : Int} {a2 : Int} {a3 : Int} {H : AHeap} (Q : AHeap → Int → Prop) : Z40.W a0 a1 a2 a3 H Q → wpF Try.prog Z40.c [.tm 8] (envOf [(.one a0), (.one (.int .i64 a1)), (.one (.int .i64 a2)), (.one (.int .i64 a3))]) H (Z40.KQ Q) := cO (sP (o_mov rfl (sK (c_seq (cO (sP (o_mov rfl (sP (o_mov rfl (sP (o_eq rfl rfl (sK (c_if rfl (cO (sP (o_mov rfl (sP (o_mov rfl (sK (c_ret (k_seqR (k_topR (r_one rfl (r_nil (fun h => ⟨((a2 : Int), ()), rfl, h⟩)))))))))))) (c_skip (k_seq (cO (sP (o_mov rfl (sP (o_mov rfl (sP (o_mov rfl (sP (o_bld rfl (sP (o_new (fun p_1 H_2 => s_cons (w_run (o_st rfl rfl rfl (fun H_3 => sK (cO (sP (o_mov rfl (sP (o_nn rfl (sP (o_fa rfl (fun q_4 => sP (o_ld1 rfl (fun (v_5 : AC) => sP (o_ld3 rfl (fun (v_6 : Int) (v_7 : Int) (v_8 : Int) => sP (o_look1 rfl rfl (fun b_9 (v_10 : Int) => sP (o_mov rfl (sP (o_ex rfl rfl rfl (sP (o_ex rfl rfl rfl (sP (o_mov rfl (sP (o_mov rfl (sK (c_seq (cO (sP (o_mov rfl (sP (o_not rfl (sK (c_if rfl (cO (sP (o_mov rfl (sP (o_nn rfl (sP (o_fa rfl (fun q_11 => sP (o_ld1 rfl (fun (v_12 : AC) => sP (o_lens rfl (fun n_13 => sP (o_mov rfl (sK (cO (sP (o_mov rfl (sP (o_mov rfl (sP (o_nn rfl (sP (o_fa rfl (fun q_14 => sP (o_ld1 rfl (fun (v_15 : AC) => sP (o_ld3 rfl (fun (v_16 : Int) (v_17 : Int) (v_18 : Int) => sP (o_blds rfl (fun p_19 H_20 => sP (o_app rfl rfl (fun s_21 H_22 => sP (o_nn rfl (sP (o_fa rfl (fun q_23 => s_cons (w_run (o_st rfl rfl rfl (fun H_24 => sK (c_ops (sP (o_mov rfl (sP (o_nn rfl (sP (o_fa rfl (fun q_25 => sP (o_ld1 rfl (fun (v_26 : AC) => sP (o_ld3 rfl (fun (v_27 : Int) (v_28 : Int) (v_29 : Int) => sP (o_mov rfl (s_cons (w_run (o_mset rfl rfl rfl rfl (fun H_30 => sK (cO (sP (o_mov rfl (sP (o_mov rfl (sK (c_ret (k_topR (r_one rfl (r_nil (fun h => ⟨((n_13 : Int), ()), rfl, h⟩))))))))))))))))))))))))))))))))))))))))))))))))))))))))))))))))))) (c_skip (k_seq (cO (sP (o_mov rfl (sP (o_mov rfl (sK (c_ret (k_topR (r_one rfl (r_nil (fun h => ⟨((v_10 : Int), ()), rfl, h⟩)))))))))))))))))))))))))))))))))))))))))))))))))))))))))))))))))))))))))))
theorem Z40.run {a0 : AC} {a1 : Int} {a2 : Int} {a3 : Int} {H : AHeap} {Q : AHeap → Int → Prop} (h : Z40.W a0 a1 a2 a3 H Q) : Fn.Z40 a0 a1 a2 a3 H Q := by
  unfold Fn.Z40 RunT
  exact runK aggs_ok [(4, []), (7, []), (8, [])] Try.func80 rfl (by kernel_rfl) (by kernel_rfl) (by kernel_rfl) (by kernel_rfl) (by kernel_rfl) (Z40.ok Q h)
def Z39.c18 : RC := (.cond 34 (.seq (.ops [pM 41 1, pM 8 41]) .ret) .skip)
def Z39.c6 : RC := (.cond 21 (.seq (.ops [pM 29 2, pM 8 29]) .ret) (.seq (.ops [pM 31 1, .put 32 (.cm .eq (.tm 31) (.ct (.one (.int .i64 (-1))))), pM 30 32]) (.cond 30 (.seq (.ops [pM 33 3, pM 8 33]) .ret) (.seq (.ops [pM 35 2, .put 36 (.cm .eq (.tm 35) (.ct (.one (.int .i64 (-2))))), pM 37 36, .gput 38 37 true (.mov (.tm 3)), .gput 39 37 true (.cm .eq (.tm 38) (.ct (.one (.int .i64 (-1))))), .put 40 (.pick (.tm 37) (.tm 39) (.ct (.one (.bool false)))), pM 34 40]) Z39.c18))))
def Z39.c : RC := (.seq (.ops [.put 8 (.mov (cI 0))]) (.seq (.block 0 (.seq (.ops [pM 22 1, .put 23 (.cm .eq (.tm 22) (.ct (.one (.int .i64 (-2))))), pM 24 23, .gput 25 24 false (.mov (.tm 2)), .gput 26 24 false (.mov (.tm 3)), .gput 27 24 false (.cm .eq (.tm 25) (.tm 26)), .put 28 (.pick (.tm 24) (.ct (.one (.bool true))) (.tm 27)), pM 21 28]) Z39.c6)) (.seq (.ops [pM 42 1, pM 43 2, pM 44 3, .put 45 (.bld [(.int .i64 0), (.int .i64 0), (.int .i64 0)] [(0, 1, (.tm 42)), (1, 1, (.tm 43)), (2, 1, (.tm 44))]), .put 9 (.new 115 [(.int .i64 0), (.int .i64 0), (.int .i64 0)]), .run (.st 3 (.tm 9) (.tm 45))]) (.seq (.seq (.ops [pM 47 0, .put 48 (.nn (.tm 47)), .put 49 (.fa 2 (.tm 48)), .put 50 (.ld false [.ac] (.tm 49)), .put 51 (.ld true [.int .i64, .int .i64, .int .i64] (.tm 9)), .put 52 (.look (some 3) false [.int .i64] [(.int .i64 0)] true (.tm 50) (.tm 51)), pM 46 52, .put 53 (.ex (.tm 46) 0), .put 54 (.ex (.tm 46) 1), pM 10 53, pM 11 54]) (.seq (.ops [pM 55 11]) (.cond 55 (.seq (.ops [pM 56 10, pM 8 56]) .ret) .skip))) (.seq (.ops [pM 57 0, pM 58 1, .put 59 (.call 90 [(.tm 57), (.tm 58)]), pM 60 0, pM 61 2, .put 62 (.call 90 [(.tm 60), (.tm 61)]), pM 63 0, pM 64 3, .put 65 (.call 90 [(.tm 63), (.tm 64)]), .put 66 (.min3 (.tm 59) (.tm 62) (.tm 65)), pM 12 66]) (.seq (.ops [pM 68 0, pM 69 1, pM 70 12, .put 71 (.call 98 [(.tm 68), (.tm 69), (.tm 70)]), pM 67 71, .put 72 (.ex (.tm 67) 0), .put 73 (.ex (.tm 67) 1), pM 13 72, pM 14 73]) (.seq (.ops [pM 75 0, pM 76 2, pM 77 12, .put 78 (.call 98 [(.tm 75), (.tm 76), (.tm 77)]), pM 74 78, .put 79 (.ex (.tm 74) 0), .put 80 (.ex (.tm 74) 1), pM 15 79, pM 16 80]) (.seq (.ops [pM 82 0, pM 83 3, pM 84 12, .put 85 (.call 98 [(.tm 82), (.tm 83), (.tm 84)]), pM 81 85, .put 86 (.ex (.tm 81) 0), .put 87 (.ex (.tm 81) 1), pM 17 86, pM 18 87]) (.seq (.ops [pM 88 0, pM 89 13, pM 90 15, pM 91 17, .put 92 (.call 81 [(.tm 88), (.tm 89), (.tm 90), (.tm 91)]), pM 19 92]) (.seq (.ops [pM 93 0, pM 94 12, pM 95 19, pM 96 0, pM 97 14, pM 98 16, pM 99 18, .put 100 (.call 81 [(.tm 96), (.tm 97), (.tm 98), (.tm 99)]), .put 101 (.call 80 [(.tm 93), (.tm 94), (.tm 95), (.tm 100)]), pM 20 101]) (.seq (.ops [pM 102 0, .put 103 (.nn (.tm 102)), .put 104 (.fa 2 (.tm 103)), .put 105 (.ld false [.ac] (.tm 104)), .put 106 (.ld true [.int .i64, .int .i64, .int .i64] (.tm 9)), pM 107 20, .run (.mset (some 3) (.tm 105) (.tm 106) (.tm 107))]) (.seq (.ops [pM 108 20, pM 8 108]) .ret))))))))))))
abbrev Z39.KQ (Q : AHeap → Int → Prop) : AV → AHeap → Prop := KQT [(false, [.int .i64])] Q
abbrev Z39.K (Q : AHeap → Int → Prop) : Ex → Env → AHeap → Prop := kTop [.tm 8] (Z39.KQ Q)
abbrev Z39.k3 (Q : AHeap → Int → Prop) : Ex → Env → AHeap → Prop := kSeq (fun t H => wpC Try.prog (.seq (.ops [pM 42 1, pM 43 2, pM 44 3, .put 45 (.bld [(.int .i64 0), (.int .i64 0), (.int .i64 0)] [(0, 1, (.tm 42)), (1, 1, (.tm 43)), (2, 1, (.tm 44))]), .put 9 (.new 115 [(.int .i64 0), (.int .i64 0), (.int .i64 0)]), .run (.st 3 (.tm 9) (.tm 45))]) (.seq (.seq (.ops [pM 47 0, .put 48 (.nn (.tm 47)), .put 49 (.fa 2 (.tm 48)), .put 50 (.ld false [.ac] (.tm 49)), .put 51 (.ld true [.int .i64, .int .i64, .int .i64] (.tm 9)), .put 52 (.look (some 3) false [.int .i64] [(.int .i64 0)] true (.tm 50) (.tm 51)), pM 46 52, .put 53 (.ex (.tm 46) 0), .put 54 (.ex (.tm 46) 1), pM 10 53, pM 11 54]) (.seq (.ops [pM 55 11]) (.cond 55 (.seq (.ops [pM 56 10, pM 8 56]) .ret) .skip))) (.seq (.ops [pM 57 0, pM 58 1, .put 59 (.call 90 [(.tm 57), (.tm 58)]), pM 60 0, pM 61 2, .put 62 (.call 90 [(.tm 60), (.tm 61)]), pM 63 0, pM 64 3, .put 65 (.call 90 [(.tm 63), (.tm 64)]), .put 66 (.min3 (.tm 59) (.tm 62) (.tm 65)), pM 12 66]) (.seq (.ops [pM 68 0, pM 69 1, pM 70 12, .put 71 (.call 98 [(.tm 68), (.tm 69), (.tm 70)]), pM 67 71, .put 72 (.ex (.tm 67) 0), .put 73 (.ex (.tm 67) 1), pM 13 72, pM 14 73]) (.seq (.ops [pM 75 0, pM 76 2, pM 77 12, .put 78 (.call 98 [(.tm 75), (.tm 76), (.tm 77)]), pM 74 78, .put 79 (.ex (.tm 74) 0), .put 80 (.ex (.tm 74) 1), pM 15 79, pM 16 80]) (.seq (.ops [pM 82 0, pM 83 3, pM 84 12, .put 85 (.call 98 [(.tm 82), (.tm 83), (.tm 84)]), pM 81 85, .put 86 (.ex (.tm 81) 0), .put 87 (.ex (.tm 81) 1), pM 17 86, pM 18 87]) (.seq (.ops [pM 88 0, pM 89 13, pM 90 15, pM 91 17, .put 92 (.call 81 [(.tm 88), (.tm 89), (.tm 90), (.tm 91)]), pM 19 92]) (.seq (.ops [pM 93 0, pM 94 12, pM 95 19, pM 96 0, pM 97 14, pM 98 16, pM 99 18, .put 100 (.call 81 [(.tm 96), (.tm 97), (.tm 98), (.tm 99)]), .put 101 (.call 80 [(.tm 93), (.tm 94), (.tm 95), (.tm 100)]), pM 20 101]) (.seq (.ops [pM 102 0, .put 103 (.nn (.tm 102)), .put 104 (.fa 2 (.tm 103)), .put 105 (.ld false [.ac] (.tm 104)), .put 106 (.ld true [.int .i64, .int .i64, .int .i64] (.tm 9)), pM 107 20, .run (.mset (some 3) (.tm 105) (.tm 106) (.tm 107))]) (.seq (.ops [pM 108 20, pM 8 108]) .ret)))))))))) t H (Z39.K Q)) (Z39.K Q)
def Z39.p18 (Q : AHeap → Int → Prop) (x0 : AC) (x1 : Int) (x2 : Int) (x3 : Int) (x34 : Bool) (H : AHeap) : Prop := CondB x34 (Q H x1) (New 115 [(.int .i64 0), (.int .i64 0), (.int .i64 0)] H fun p_1 H_2 => Sto H_2 p_1 [(.int .i64 x1), (.int .i64 x2), (.int .i64 x3)] fun H_3 => NN x0 <| FA 2 x0 fun q_4 => Ld [.ac] H_3 q_4 fun (v_5 : AC) => Ld [.int .i64, .int .i64, .int .i64] H_3 p_1 fun (v_6 : Int) (v_7 : Int) (v_8 : Int) => Look (some 3) false [.int .i64] [(.int .i64 0)] H_3 v_5 [v_6, v_7, v_8] fun b_9 (v_10 : Int) => CondB b_9 (Q H_3 v_10) (Fn.Z45 x0 x1 H_3 fun H_11 (v_12 : Int) => Fn.Z45 x0 x2 H_11 fun H_13 (v_14 : Int) => Fn.Z45 x0 x3 H_13 fun H_15 (v_16 : Int) => Fn.Z44 x0 x1 (if v_16 < (if v_14 < v_12 then v_14 else v_12) then v_16 else (if v_14 < v_12 then v_14 else v_12)) H_15 fun H_17 (v_18 : Int) (v_19 : Int) => Fn.Z44 x0 x2 (if v_16 < (if v_14 < v_12 then v_14 else v_12) then v_16 else (if v_14 < v_12 then v_14 else v_12)) H_17 fun H_20 (v_21 : Int) (v_22 : Int) => Fn.Z44 x0 x3 (if v_16 < (if v_14 < v_12 then v_14 else v_12) then v_16 else (if v_14 < v_12 then v_14 else v_12)) H_20 fun H_23 (v_24 : Int) (v_25 : Int) => Fn.Z39 x0 v_18 v_21 v_24 H_23 fun H_26 (v_27 : Int) => Fn.Z39 x0 v_19 v_22 v_25 H_26 fun H_28 (v_29 : Int) => Fn.Z40 x0 (if v_16 < (if v_14 < v_12 then v_14 else v_12) then v_16 else (if v_14 < v_12 then v_14 else v_12)) v_27 v_29 H_28 fun H_30 (v_31 : Int) => NN x0 <| FA 2 x0 fun q_32 => Ld [.ac] H_30 q_32 fun (v_33 : AC) => Ld [.int .i64, .int .i64, .int .i64] H_30 p_1 fun (v_34 : Int) (v_35 : Int) (v_36 : Int) => MSet (some 3) H_30 v_33 [v_34, v_35, v_36] (.one (.int .i64 v_31)) fun H_37 => Q H_37 v_31))
def Z39.p6 (Q : AHeap → Int → Prop) (x0 : AC) (x1 : Int) (x2 : Int) (x3 : Int) (x21 : Bool) (H : AHeap) : Prop := CondB x21 (Q H x2) (CondB (x1 == (-1)) (Q H x3) (CondB (x2 == (-2)) (Z39.p18 Q x0 x1 x2 x3 (x3 == (-1)) H) (Z39.p18 Q x0 x1 x2 x3 false H)))
def Z39.W (a0 : AC) (a1 : Int) (a2 : Int) (a3 : Int) (H : AHeap) (Q : AHeap → Int → Prop) : Prop := CondB (a1 == (-2)) (Z39.p6 Q a0 a1 a2 a3 true H) (Z39.p6 Q a0 a1 a2 a3 (a2 == a3) H)
theorem Z39.p18_okE (Q : AHeap → Int → Prop) {x0 : AC} {x1 : Int} {x2 : Int} {x3 : Int} {x34 : Bool} {H : AHeap} (j : Env) : Z39.p18 Q x0 x1 x2 x3 x34 H → wpC Try.prog Z39.c18 (upd (upd (upd (upd (upd j 0 (.one x0)) 1 (.one (.int .i64 x1))) 2 (.one (.int .i64 x2))) 3 (.one (.int .i64 x3))) 34 (.one (.bool x34))) H (kBlk 0 (Z39.k3 Q)) := c_if rfl (cO (sP (o_mov rfl (sP (o_mov rfl (sK (c_ret (k_blkR (k_seqR (k_topR (r_one rfl (r_nil (fun h => ⟨((x1 : Int), ()), rfl, h⟩))))))))))))) (c_skip (k_blk (k_seq (cO (sP (o_mov rfl (sP (o_mov rfl (sP (o_mov rfl (sP (o_bld rfl (sP (o_new (fun p_1 H_2 => s_cons (w_run (o_st rfl rfl rfl (fun H_3 => sK (c_seq (cO (sP (o_mov rfl (sP (o_nn rfl (sP (o_fa rfl (fun q_4 => sP (o_ld1 rfl (fun (v_5 : AC) => sP (o_ld3 rfl (fun (v_6 : Int) (v_7 : Int) (v_8 : Int) => sP (o_look1 rfl rfl (fun b_9 (v_10 : Int) => sP (o_mov rfl (sP (o_ex rfl rfl rfl (sP (o_ex rfl rfl rfl (sP (o_mov rfl (sP (o_mov rfl (sK (cO (sP (o_mov rfl (sK (c_if rfl (cO (sP (o_mov rfl (sP (o_mov rfl (sK (c_ret (k_seqR (k_topR (r_one rfl (r_nil (fun h => ⟨((v_10 : Int), ()), rfl, h⟩)))))))))))) (c_skip (k_seq (cO (sP (o_mov rfl (sP (o_mov rfl (sP (o_call rfl (cv_1 (fun H_11 (v_12 : Int) => sP (o_mov rfl (sP (o_mov rfl (sP (o_call rfl (cv_1 (fun H_13 (v_14 : Int) => sP (o_mov rfl (sP (o_mov rfl (sP (o_call rfl (cv_1 (fun H_15 (v_16 : Int) => sP (o_min3 rfl rfl rfl (sP (o_mov rfl (sK (cO (sP (o_mov rfl (sP (o_mov rfl (sP (o_mov rfl (sP (o_call rfl (cv_o1_o1 (fun H_17 (v_18 : Int) (v_19 : Int) => sP (o_mov rfl (sP (o_ex rfl rfl rfl (sP (o_ex rfl rfl rfl (sP (o_mov rfl (sP (o_mov rfl (sK (cO (sP (o_mov rfl (sP (o_mov rfl (sP (o_mov rfl (sP (o_call rfl (cv_o1_o1 (fun H_20 (v_21 : Int) (v_22 : Int) => sP (o_mov rfl (sP (o_ex rfl rfl rfl (sP (o_ex rfl rfl rfl (sP (o_mov rfl (sP (o_mov rfl (sK (cO (sP (o_mov rfl (sP (o_mov rfl (sP (o_mov rfl (sP (o_call rfl (cv_o1_o1 (fun H_23 (v_24 : Int) (v_25 : Int) => sP (o_mov rfl (sP (o_ex rfl rfl rfl (sP (o_ex rfl rfl rfl (sP (o_mov rfl (sP (o_mov rfl (sK (cO (sP (o_mov rfl (sP (o_mov rfl (sP (o_mov rfl (sP (o_mov rfl (sP (o_call rfl (cv_1 (fun H_26 (v_27 : Int) => sP (o_mov rfl (sK (cO (sP (o_mov rfl (sP (o_mov rfl (sP (o_mov rfl (sP (o_mov rfl (sP (o_mov rfl (sP (o_mov rfl (sP (o_mov rfl (sP (o_call rfl (cv_1 (fun H_28 (v_29 : Int) => sP (o_call rfl (cv_1 (fun H_30 (v_31 : Int) => sP (o_mov rfl (sK (cO (sP (o_mov rfl (sP (o_nn rfl (sP (o_fa rfl (fun q_32 => sP (o_ld1 rfl (fun (v_33 : AC) => sP (o_ld3 rfl (fun (v_34 : Int) (v_35 : Int) (v_36 : Int) => sP (o_mov rfl (s_cons (w_run (o_mset rfl rfl rfl rfl (fun H_37 => sK (cO (sP (o_mov rfl (sP (o_mov rfl (sK (c_ret (k_topR (r_one rfl (r_nil (fun h => ⟨((v_31 : Int), ()), rfl, h⟩)))))))))))))))))))))))))))))))))))))))))))))))))))))))))))))))))))))))))))))))))))))))))))))))))))))))))))))))))))))))))))))))))))))))))))))))))))))))))))))))))))))))))))))))))))))))))))))))))))))))))))))))
theorem Z39.p18_ok (Q : AHeap → Int → Prop) {x0 : AC} {x1 : Int} {x2 : Int} {x3 : Int} {x34 : Bool} {H : AHeap} {t : Env} (h0 : t 0 = (.one x0)) (h1 : t 1 = (.one (.int .i64 x1))) (h2 : t 2 = (.one (.int .i64 x2))) (h3 : t 3 = (.one (.int .i64 x3))) (h34 : t 34 = (.one (.bool x34))) (h : Z39.p18 Q x0 x1 x2 x3 x34 H) : wpC Try.prog Z39.c18 t H (kBlk 0 (Z39.k3 Q)) := by
  have g := Z39.p18_okE Q t h
  rw [upd_self h0] at g
  rw [upd_self h1] at g
  rw [upd_self h2] at g
  rw [upd_self h3] at g
  rw [upd_self h34] at g
  exact g
theorem Z39.p6_okE (Q : AHeap → Int → Prop) {x0 : AC} {x1 : Int} {x2 : Int} {x3 : Int} {x21 : Bool} {H : AHeap} (j : Env) : Z39.p6 Q x0 x1 x2 x3 x21 H → wpC Try.prog Z39.c6 (upd (upd (upd (upd (upd j 0 (.one x0)) 1 (.one (.int .i64 x1))) 2 (.one (.int .i64 x2))) 3 (.one (.int .i64 x3))) 21 (.one (.bool x21))) H (kBlk 0 (Z39.k3 Q)) := c_if rfl (cO (sP (o_mov rfl (sP (o_mov rfl (sK (c_ret (k_blkR (k_seqR (k_topR (r_one rfl (r_nil (fun h => ⟨((x2 : Int), ()), rfl, h⟩))))))))))))) (cO (sP (o_mov rfl (sP (o_eq rfl rfl (sP (o_mov rfl (sK (c_if rfl (cO (sP (o_mov rfl (sP (o_mov rfl (sK (c_ret (k_blkR (k_seqR (k_topR (r_one rfl (r_nil (fun h => ⟨((x3 : Int), ()), rfl, h⟩))))))))))))) (cO (sP (o_mov rfl (sP (o_eq rfl rfl (sP (o_mov rfl (s_cons (w_gputT rfl (o_mov rfl (s_cons (w_gputY rfl (o_eq rfl rfl (sP (o_pickT rfl rfl (sP (o_mov rfl (sK (Z39.p18_ok Q rfl rfl rfl rfl rfl)))))))))) (s_cons (w_gputN rfl (sP (o_pickF rfl rfl (sP (o_mov rfl (sK (Z39.p18_ok Q rfl rfl rfl rfl rfl))))))))))))))))))))))))))
theorem Z39.p6_ok (Q : AHeap → Int → Prop) {x0 : AC} {x1 : Int} {x2 : Int} {x3 : Int} {x21 : Bool} {H : AHeap} {t : Env} (h0 : t 0 = (.one x0)) (h1 : t 1 = (.one (.int .i64 x1))) (h2 : t 2 = (.one (.int .i64 x2))) (h3 : t 3 = (.one (.int .i64 x3))) (h21 : t 21 = (.one (.bool x21))) (h : Z39.p6 Q x0 x1 x2 x3 x21 H) : wpC Try.prog Z39.c6 t H (kBlk 0 (Z39.k3 Q)) := by
  have g := Z39.p6_okE Q t h
  rw [upd_self h0] at g
  rw [upd_self h1] at g
  rw [upd_self h2] at g
  rw [upd_self h3] at g
  rw [upd_self h21] at g
  exact g
theorem Z39.ok {a0 : AC} {a1 : Int} {a2 : Int} {a3 : Int} {H : AHeap} (Q : AHeap → Int → Prop) : Z39.W a0 a1 a2 a3 H Q → wpF Try.prog Z39.c [.tm 8] (envOf [(.one a0), (.one (.int .i64 a1)), (.one (.int .i64 a2)), (.one (.int .i64 a3))]) H (Z39.KQ Q) := cO (sP (o_mov rfl (sK (c_seq (c_blk (cO (sP (o_mov rfl (sP (o_eq rfl rfl (sP (o_mov rfl (s_cons (w_gputF rfl (s_cons (w_gputN rfl (s_cons (w_gputN rfl (sP (o_pickT rfl rfl (sP (o_mov rfl (sK (Z39.p6_ok Q rfl rfl rfl rfl rfl)))))))))) (o_mov rfl (s_cons (w_gputY rfl (o_mov rfl (s_cons (w_gputY rfl (o_eq rfl rfl (sP (o_pickF rfl rfl (sP (o_mov rfl (sK (Z39.p6_ok Q rfl rfl rfl rfl rfl)))))))))))))))))))))))))))
theorem Z39.run {a0 : AC} {a1 : Int} {a2 : Int} {a3 : Int} {H : AHeap} {Q : AHeap → Int → Prop} (h : Z39.W a0 a1 a2 a3 H Q) : Fn.Z39 a0 a1 a2 a3 H Q := by
  unfold Fn.Z39 RunT
  exact runK aggs_ok [(8, []), (17, [])] Try.func81 rfl (by kernel_rfl) (by kernel_rfl) (by kernel_rfl) (by kernel_rfl) (by kernel_rfl) (Z39.ok Q h)
def Z10.c7 : RC := (.seq (.seq (.ops [pM 4 3, pM 5 0, .put 6 (.lens (.tm 5)), .put 7 (.cm .lt (.tm 4) (.tm 6))]) (.cond 7 .skip (.exit 0))) (.seq (.block 1 (.seq (.ops [pM 10 0, pM 11 3, .put 12 (.ia 1 (.tm 10) (.tm 11)), .put 13 (.ld false [.bool] (.tm 12)), pM 14 0, .put 15 (.ia 1 (.tm 14) (cI 0)), .put 16 (.ld false [.bool] (.tm 15)), .put 17 (.eqb true (.tm 13) (.tm 16))]) (.cond 17 (.seq (.ops [.put 2 (.mov (.ct (.one (.bool false))))]) .ret) .skip))) (.ops [pM 8 3, .put 9 (.ar .add (.tm 8) (cI 1)), pM 3 9])))
def Z10.c : RC := (.seq (.ops [.put 2 (.mov (.ct (.one (.bool false))))]) (.seq (.seq (.ops [.put 3 (.mov (cI 1))]) (.block 0 (.loop Z10.c7))) (.seq (.ops [.put 2 (.mov (.ct (.one (.bool true))))]) .ret)))
abbrev Z10.KQ (Q : AHeap → Bool → Prop) : AV → AHeap → Prop := KQT [(false, [.bool])] Q
abbrev Z10.K (Q : AHeap → Bool → Prop) : Ex → Env → AHeap → Prop := kTop [.tm 2] (Z10.KQ Q)
abbrev Z10.k3 (Q : AHeap → Bool → Prop) : Ex → Env → AHeap → Prop := kSeq (fun t H => wpC Try.prog (.seq (.ops [.put 2 (.mov (.ct (.one (.bool true))))]) .ret) t H (Z10.K Q)) (Z10.K Q)
def Z10.R6 (s : Tup [.ac, .int .i64]) (t : Env) : Prop := t 0 = (.one (s.1)) ∧ t 3 = (.one (.int .i64 (s.2.1))) ∧ True
def Z10.b6 (Q : AHeap → Bool → Prop) (Y6 : Tup [.ac, .int .i64] → AHeap → Prop) (x0 : AC) (x3 : Int) (H : AHeap) : Prop := LenS x0 fun n_1 => CondB (decide (x3 < n_1)) (IA 1 x0 x3 fun q_2 => Ld [.bool] H q_2 fun (v_3 : Bool) => IA 1 x0 0 fun q_4 => Ld [.bool] H q_4 fun (v_5 : Bool) => CondB (!(v_3 == v_5)) (Q H false) (Y6 (x0, ((IntKind.wrap .i64 (x3 + 1)) : Int), ()) H)) (Q H true)
def Z10.l6 (Q : AHeap → Bool → Prop) (x0 : AC) (x3 : Int) (H : AHeap) : Prop := LoopT (Tup [.ac, .int .i64]) (fun Y s H => Z10.b6 Q Y (s.1) (s.2.1) H) (x0, x3, ()) H
def Z10.W (a0 : AC) (H : AHeap) (Q : AHeap → Bool → Prop) : Prop := Z10.l6 Q a0 1 H
theorem Z10.b6_ok (Q : AHeap → Bool → Prop) (Y6 : Tup [.ac, .int .i64] → AHeap → Prop) (X6 : Env → AHeap → Prop) (hX6 : ∀ s t H, Z10.R6 s t → Y6 s H → X6 t H) {x0 : AC} {x3 : Int} {H : AHeap} (j : Env) : Z10.b6 Q Y6 x0 x3 H → wpC Try.prog Z10.c7 (upd (upd j 0 (.one x0)) 3 (.one (.int .i64 x3))) H (kSeq X6 (kBlk 0 (Z10.k3 Q))) := c_seq (cO (sP (o_mov rfl (sP (o_mov rfl (sP (o_lens rfl (fun n_1 => sP (o_lt rfl rfl (sK (c_if rfl (c_skip (k_seq (c_seq (c_blk (cO (sP (o_mov rfl (sP (o_mov rfl (sP (o_ia rfl rfl (fun q_2 => sP (o_ld1 rfl (fun (v_3 : Bool) => sP (o_mov rfl (sP (o_ia rfl rfl (fun q_4 => sP (o_ld1 rfl (fun (v_5 : Bool) => sP (o_neb rfl rfl (sK (c_if rfl (cO (sP (o_mov rfl (sK (c_ret (k_blkR (k_seqR (k_seqR (k_blkR (k_seqR (k_topR (r_one rfl (r_nil (fun h => ⟨((false : Bool), ()), rfl, h⟩)))))))))))))) (c_skip (k_blk (k_seq (c_ops (sP (o_mov rfl (sP (o_add rfl rfl (sP (o_mov rfl (sK (hX6 _ _ _ ⟨rfl, rfl, trivial⟩))))))))))))))))))))))))))))))))))) (c_exit (k_seqE (k_seqE (k_blkH (k_seq (cO (sP (o_mov rfl (sK (c_ret (k_topR (r_one rfl (r_nil (fun h => ⟨((true : Bool), ()), rfl, h⟩)))))))))))))))))))))))))
theorem Z10.l6_ok (Q : AHeap → Bool → Prop) {x0 : AC} {x3 : Int} {H : AHeap} {t : Env} (h0 : t 0 = (.one x0)) (h3 : t 3 = (.one (.int .i64 x3))) : Z10.l6 Q x0 x3 H → wpC Try.prog (.loop Z10.c7) t H (kBlk 0 (Z10.k3 Q)) :=
  m_loop Z10.R6 ⟨h0, h3, trivial⟩ fun X Y hX s t H hR hB => by
    have g := Z10.b6_ok Q Y X hX t hB
    rw [upd_self hR.1] at g
    rw [upd_self hR.2.1] at g
    exact g
theorem Z10.ok {a0 : AC} {H : AHeap} (Q : AHeap → Bool → Prop) : Z10.W a0 H Q → wpF Try.prog Z10.c [.tm 2] (envOf [(.one a0)]) H (Z10.KQ Q) := cO (sP (o_mov rfl (sK (c_seq (cO (sP (o_mov rfl (sK (c_blk (Z10.l6_ok Q rfl rfl))))))))))
theorem Z10.run {a0 : AC} {H : AHeap} {Q : AHeap → Bool → Prop} (h : Z10.W a0 H Q) : Fn.Z10 a0 H Q := by
  unfold Fn.Z10 RunT
  exact runK aggs_ok [(4, [])] Try.func82 rfl (by kernel_rfl) (by kernel_rfl) (by kernel_rfl) (by kernel_rfl) (by kernel_rfl) (Z10.ok Q h)
def Z8.c15 : RC := (.seq (.seq (.ops [pM 11 5, pM 12 0, .put 13 (.lens (.tm 12)), .put 14 (.cm .lt (.tm 11) (.tm 13))]) (.cond 14 .skip (.exit 0))) (.seq (.block 1 (.seq (.ops [pM 17 0, pM 18 5, .put 19 (.ia 1 (.tm 17) (.tm 18)), .put 20 (.ld false [.bool] (.tm 19)), pM 21 1, pM 22 5, .put 23 (.ia 1 (.tm 21) (.tm 22)), .put 24 (.ld false [.bool] (.tm 23)), .put 25 (.eqb true (.tm 20) (.tm 24))]) (.cond 25 (.seq (.ops [.put 4 (.mov (.ct (.one (.bool false))))]) .ret) .skip))) (.ops [pM 15 5, .put 16 (.ar .add (.tm 15) (cI 1)), pM 5 16])))
def Z8.c : RC := (.seq (.ops [.put 4 (.mov (.ct (.one (.bool false))))]) (.seq (.seq (.ops [pM 6 0, .put 7 (.lens (.tm 6)), pM 8 1, .put 9 (.lens (.tm 8)), .put 10 (.cm .ne (.tm 7) (.tm 9))]) (.cond 10 (.seq (.ops [.put 4 (.mov (.ct (.one (.bool false))))]) .ret) .skip)) (.seq (.seq (.ops [.put 5 (.mov (cI 0))]) (.block 0 (.loop Z8.c15))) (.seq (.ops [.put 4 (.mov (.ct (.one (.bool true))))]) .ret))))
abbrev Z8.KQ (Q : AHeap → Bool → Prop) : AV → AHeap → Prop := KQT [(false, [.bool])] Q
abbrev Z8.K (Q : AHeap → Bool → Prop) : Ex → Env → AHeap → Prop := kTop [.tm 4] (Z8.KQ Q)
abbrev Z8.k11 (Q : AHeap → Bool → Prop) : Ex → Env → AHeap → Prop := kSeq (fun t H => wpC Try.prog (.seq (.ops [.put 4 (.mov (.ct (.one (.bool true))))]) .ret) t H (Z8.K Q)) (Z8.K Q)
def Z8.R14 (s : Tup [.ac, .ac, .int .i64]) (t : Env) : Prop := t 0 = (.one (s.1)) ∧ t 1 = (.one (s.2.1)) ∧ t 5 = (.one (.int .i64 (s.2.2.1))) ∧ True
def Z8.b14 (Q : AHeap → Bool → Prop) (Y14 : Tup [.ac, .ac, .int .i64] → AHeap → Prop) (x0 : AC) (x1 : AC) (x5 : Int) (H : AHeap) : Prop := LenS x0 fun n_1 => CondB (decide (x5 < n_1)) (IA 1 x0 x5 fun q_2 => Ld [.bool] H q_2 fun (v_3 : Bool) => IA 1 x1 x5 fun q_4 => Ld [.bool] H q_4 fun (v_5 : Bool) => CondB (!(v_3 == v_5)) (Q H false) (Y14 (x0, x1, ((IntKind.wrap .i64 (x5 + 1)) : Int), ()) H)) (Q H true)
def Z8.l14 (Q : AHeap → Bool → Prop) (x0 : AC) (x1 : AC) (x5 : Int) (H : AHeap) : Prop := LoopT (Tup [.ac, .ac, .int .i64]) (fun Y s H => Z8.b14 Q Y (s.1) (s.2.1) (s.2.2.1) H) (x0, x1, x5, ()) H
def Z8.W (a0 : AC) (a1 : AC) (H : AHeap) (Q : AHeap → Bool → Prop) : Prop := LenS a0 fun n_1 => LenS a1 fun n_2 => CondB (n_1 != n_2) (Q H false) (Z8.l14 Q a0 a1 0 H)
theorem Z8.b14_ok (Q : AHeap → Bool → Prop) (Y14 : Tup [.ac, .ac, .int .i64] → AHeap → Prop) (X14 : Env → AHeap → Prop) (hX14 : ∀ s t H, Z8.R14 s t → Y14 s H → X14 t H) {x0 : AC} {x1 : AC} {x5 : Int} {H : AHeap} (j : Env) : Z8.b14 Q Y14 x0 x1 x5 H → wpC Try.prog Z8.c15 (upd (upd (upd j 0 (.one x0)) 1 (.one x1)) 5 (.one (.int .i64 x5))) H (kSeq X14 (kBlk 0 (Z8.k11 Q))) := c_seq (cO (sP (o_mov rfl (sP (o_mov rfl (sP (o_lens rfl (fun n_1 => sP (o_lt rfl rfl (sK (c_if rfl (c_skip (k_seq (c_seq (c_blk (cO (sP (o_mov rfl (sP (o_mov rfl (sP (o_ia rfl rfl (fun q_2 => sP (o_ld1 rfl (fun (v_3 : Bool) => sP (o_mov rfl (sP (o_mov rfl (sP (o_ia rfl rfl (fun q_4 => sP (o_ld1 rfl (fun (v_5 : Bool) => sP (o_neb rfl rfl (sK (c_if rfl (cO (sP (o_mov rfl (sK (c_ret (k_blkR (k_seqR (k_seqR (k_blkR (k_seqR (k_topR (r_one rfl (r_nil (fun h => ⟨((false : Bool), ()), rfl, h⟩)))))))))))))) (c_skip (k_blk (k_seq (c_ops (sP (o_mov rfl (sP (o_add rfl rfl (sP (o_mov rfl (sK (hX14 _ _ _ ⟨rfl, rfl, rfl, trivial⟩))))))))))))))))))))))))))))))))))))) (c_exit (k_seqE (k_seqE (k_blkH (k_seq (cO (sP (o_mov rfl (sK (c_ret (k_topR (r_one rfl (r_nil (fun h => ⟨((true : Bool), ()), rfl, h⟩)))))))))))))))))))))))))
theorem Z8.l14_ok (Q : AHeap → Bool → Prop) {x0 : AC} {x1 : AC} {x5 : Int} {H : AHeap} {t : Env} (h0 : t 0 = (.one x0)) (h1 : t 1 = (.one x1)) (h5 : t 5 = (.one (.int .i64 x5))) : Z8.l14 Q x0 x1 x5 H → wpC Try.prog (.loop Z8.c15) t H (kBlk 0 (Z8.k11 Q)) :=
  m_loop Z8.R14 ⟨h0, h1, h5, trivial⟩ fun X Y hX s t H hR hB => by
    have g := Z8.b14_ok Q Y X hX t hB
    rw [upd_self hR.1] at g
    rw [upd_self hR.2.1] at g
    rw [upd_self hR.2.2.1] at g
    exact g
theorem Z8.ok {a0 : AC} {a1 : AC} {H : AHeap} (Q : AHeap → Bool → Prop) : Z8.W a0 a1 H Q → wpF Try.prog Z8.c [.tm 4] (envOf [(.one a0), (.one a1)]) H (Z8.KQ Q) := cO (sP (o_mov rfl (sK (c_seq (cO (sP (o_mov rfl (sP (o_lens rfl (fun n_1 => sP (o_mov rfl (sP (o_lens rfl (fun n_2 => sP (o_ne rfl rfl (sK (c_if rfl (cO (sP (o_mov rfl (sK (c_ret (k_seqR (k_topR (r_one rfl (r_nil (fun h => ⟨((false : Bool), ()), rfl, h⟩)))))))))) (c_skip (k_seq (c_seq (cO (sP (o_mov rfl (sK (c_blk (Z8.l14_ok Q rfl rfl rfl))))))))))))))))))))))))))
theorem Z8.run {a0 : AC} {a1 : AC} {H : AHeap} {Q : AHeap → Bool → Prop} (h : Z8.W a0 a1 H Q) : Fn.Z8 a0 a1 H Q := by
  unfold Fn.Z8 RunT
  exact runK aggs_ok [(6, [])] Try.func83 rfl (by kernel_rfl) (by kernel_rfl) (by kernel_rfl) (by kernel_rfl) (by kernel_rfl) (Z8.ok Q h)
end Go.Proofs.Ytanaaabejeeakaa
end
section
namespace Go.Proofs.Ytanaaabejeeakaa
open Go.AI
set_option maxRecDepth 100000
set_option maxHeartbeats 2000000
set_option linter.unusedVariables false
attribute [local irreducible] Ld Sto New NewS NewM NN NZ GE0 FA IA IAP LenS Slc App Cpy Clr MkS Fnc NilQ IxS Look MSet Run CV RunT CVT LoopT Same1 Same2 wpC wpOs wpT wpO wpOp
def Z32.c : RC := (.seq (.ops [.put 3 (.mov (cI 0))]) (.seq (.seq (.ops [pM 4 0, .put 5 (.cm .lt (.tm 4) (cI 0))]) (.cond 5 (.seq (.ops [pM 6 0, pM 3 6]) .ret) .skip)) (.seq (.ops [.put 7 (.ld false [.ac] (.tm 1)), pM 8 0, .put 9 (.ia 1 (.tm 7) (.tm 8)), .put 10 (.ld false [.int .i64] (.tm 9)), pM 3 10]) .ret)))
abbrev Z32.KQ (Q : AHeap → Int → Prop) : AV → AHeap → Prop := KQT [(false, [.int .i64])] Q
abbrev Z32.K (Q : AHeap → Int → Prop) : Ex → Env → AHeap → Prop := kTop [.tm 3] (Z32.KQ Q)
def Z32.W (a0 : Int) (a1 : AC) (H : AHeap) (Q : AHeap → Int → Prop) : Prop := CondB (decide (a0 < 0)) (Q H a0) (Ld [.ac] H a1 fun (v_1 : AC) => IA 1 v_1 a0 fun q_2 => Ld [.int .i64] H q_2 fun (v_3 : Int) => Q H v_3)
theorem Z32.ok {a0 : Int} {a1 : AC} {H : AHeap} (Q : AHeap → Int → Prop) : Z32.W a0 a1 H Q → wpF Try.prog Z32.c [.tm 3] (envOf [(.one (.int .i64 a0)), (.one a1)]) H (Z32.KQ Q) := cO (sP (o_mov rfl (sK (c_seq (cO (sP (o_mov rfl (sP (o_lt rfl rfl (sK (c_if rfl (cO (sP (o_mov rfl (sP (o_mov rfl (sK (c_ret (k_seqR (k_topR (r_one rfl (r_nil (fun h => ⟨((a0 : Int), ()), rfl, h⟩)))))))))))) (c_skip (k_seq (cO (sP (o_ld1 rfl (fun (v_1 : AC) => sP (o_mov rfl (sP (o_ia rfl rfl (fun q_2 => sP (o_ld1 rfl (fun (v_3 : Int) => sP (o_mov rfl (sK (c_ret (k_topR (r_one rfl (r_nil (fun h => ⟨((v_3 : Int), ()), rfl, h⟩))))))))))))))))))))))))))))))
theorem Z32.run {a0 : Int} {a1 : AC} {H : AHeap} {Q : AHeap → Int → Prop} (h : Z32.W a0 a1 H Q) : Fn.Z32 a0 a1 H Q := by
  unfold Fn.Z32 RunT
  exact runK aggs_ok [] Try.func84 rfl (by kernel_rfl) (by kernel_rfl) (by kernel_rfl) (by kernel_rfl) (by kernel_rfl) (Z32.ok Q h)
def Z13.c : RC := (.seq (.ops [.put 4 (.mov (.ct (.one (.bool false))))]) (.seq (.ops [pM 5 0, pM 6 1, .put 7 (.call 99 [(.tm 5), (.tm 6)]), .put 8 (.cm .ge (.tm 7) (cI 0)), pM 4 8]) .ret))
abbrev Z13.KQ (Q : AHeap → Bool → Prop) : AV → AHeap → Prop := KQT [(false, [.bool])] Q
abbrev Z13.K (Q : AHeap → Bool → Prop) : Ex → Env → AHeap → Prop := kTop [.tm 4] (Z13.KQ Q)
def Z13.W (a0 : AC) (a1 : AC) (H : AHeap) (Q : AHeap → Bool → Prop) : Prop := Fn.Z16 a0 a1 H fun H_1 (v_2 : Int) => Q H_1 (decide (v_2 ≥ 0))
theorem Z13.ok {a0 : AC} {a1 : AC} {H : AHeap} (Q : AHeap → Bool → Prop) : Z13.W a0 a1 H Q → wpF Try.prog Z13.c [.tm 4] (envOf [(.one a0), (.one a1)]) H (Z13.KQ Q) := cO (sP (o_mov rfl (sK (cO (sP (o_mov rfl (sP (o_mov rfl (sP (o_call rfl (cv_1 (fun H_1 (v_2 : Int) => sP (o_ge rfl rfl (sP (o_mov rfl (sK (c_ret (k_topR (r_one rfl (r_nil (fun h => ⟨(((decide (v_2 ≥ 0)) : Bool), ()), rfl, h⟩)))))))))))))))))))))
theorem Z13.run {a0 : AC} {a1 : AC} {H : AHeap} {Q : AHeap → Bool → Prop} (h : Z13.W a0 a1 H Q) : Fn.Z13 a0 a1 H Q := by
  unfold Fn.Z13 RunT
  exact runK aggs_ok [] Try.func85 rfl (by kernel_rfl) (by kernel_rfl) (by kernel_rfl) (by kernel_rfl) (by kernel_rfl) (Z13.ok Q h)
def Z50.c : RC := (.seq (.ops [.put 2 (.box 77 (.tm 0)), .put 3 (.mov (.ct (.one (.bool false))))]) (.seq (.ops [.put 4 (.fa 0 (.tm 2)), .put 5 (.ld false [.int .i64] (.tm 4)), .put 6 (.ld false [.int .i64] (.tm 1)), .put 7 (.cm .ge (.tm 5) (.tm 6)), pM 3 7]) .ret))
abbrev Z50.KQ (Q : AHeap → Bool → Prop) : AV → AHeap → Prop := KQT [(false, [.bool])] Q
abbrev Z50.K (Q : AHeap → Bool → Prop) : Ex → Env → AHeap → Prop := kTop [.tm 3] (Z50.KQ Q)
def Z50.W (a0_0 : Int) (a0_1 : Int) (a0_2 : Int) (a1 : AC) (H : AHeap) (Q : AHeap → Bool → Prop) : Prop := New 77 [(.int .i64 a0_0), (.int .i64 a0_1), (.int .i64 a0_2)] H fun p_1 H_2 => FA 0 p_1 fun q_3 => Ld [.int .i64] H_2 q_3 fun (v_4 : Int) => Ld [.int .i64] H_2 a1 fun (v_5 : Int) => Q H_2 (decide (v_4 ≥ v_5))
theorem Z50.ok {a0_0 : Int} {a0_1 : Int} {a0_2 : Int} {a1 : AC} {H : AHeap} (Q : AHeap → Bool → Prop) : Z50.W a0_0 a0_1 a0_2 a1 H Q → wpF Try.prog Z50.c [.tm 3] (envOf [(.agg [(.int .i64 a0_0), (.int .i64 a0_1), (.int .i64 a0_2)]), (.one a1)]) H (Z50.KQ Q) := cO (sP (o_box rfl (fun p_1 H_2 => sP (o_mov rfl (sK (cO (sP (o_fa rfl (fun q_3 => sP (o_ld1 rfl (fun (v_4 : Int) => sP (o_ld1 rfl (fun (v_5 : Int) => sP (o_ge rfl rfl (sP (o_mov rfl (sK (c_ret (k_topR (r_one rfl (r_nil (fun h => ⟨(((decide (v_4 ≥ v_5)) : Bool), ()), rfl, h⟩))))))))))))))))))))))
theorem Z50.run {a0_0 : Int} {a0_1 : Int} {a0_2 : Int} {a1 : AC} {H : AHeap} {Q : AHeap → Bool → Prop} (h : Z50.W a0_0 a0_1 a0_2 a1 H Q) : Fn.Z50 a0_0 a0_1 a0_2 a1 H Q := by
  unfold Fn.Z50 RunT
  exact runK aggs_ok [] Try.func86 rfl (by kernel_rfl) (by kernel_rfl) (by kernel_rfl) (by kernel_rfl) (by kernel_rfl) (Z50.ok Q h)
def Z36.c : RC := (.seq (.ops [.put 6 (.mov (cI 0))]) (.seq (.seq (.ops [pM 11 0, .put 12 (.cm .lt (.tm 11) (cI 0))]) (.cond 12 (.seq (.ops [pM 13 0, pM 6 13]) .ret) .skip)) (.seq (.seq (.ops [.put 15 (.ld false [.ac] (.tm 1)), pM 16 0, .put 17 (.look none false [.int .i64] [(.int .i64 0)] true (.tm 15) (.tm 16)), pM 14 17, .put 18 (.ex (.tm 14) 0), .put 19 (.ex (.tm 14) 1), pM 7 18, pM 8 19]) (.seq (.ops [pM 20 8]) (.cond 20 (.seq (.ops [pM 21 7, pM 6 21]) .ret) .skip))) (.seq (.ops [.put 22 (.ld false [.ac] (.tm 2)), .put 23 (.ld false [.ac] (.tm 3)), .put 24 (.nn (.tm 23)), .put 25 (.fa 0 (.tm 24)), .put 26 (.ld false [.ac] (.tm 25)), pM 27 0, .put 28 (.ia 3 (.tm 26) (.tm 27)), .put 29 (.fa 1 (.tm 28)), .put 30 (.ld false [.int .i64] (.tm 29)), .put 31 (.callv (.tm 22) [(.tm 30)]), pM 9 31]) (.seq (.ops [.put 32 (.ld false [.ac] (.tm 2)), .put 33 (.ld false [.ac] (.tm 3)), .put 34 (.nn (.tm 33)), .put 35 (.fa 0 (.tm 34)), .put 36 (.ld false [.ac] (.tm 35)), pM 37 0, .put 38 (.ia 3 (.tm 36) (.tm 37)), .put 39 (.fa 2 (.tm 38)), .put 40 (.ld false [.int .i64] (.tm 39)), .put 41 (.callv (.tm 32) [(.tm 40)]), pM 10 41]) (.seq (.ops [.put 42 (.fa 0 (.tm 4)), .put 43 (.ld false [.ac] (.tm 42)), .put 44 (.ld false [.ac] (.tm 3)), .put 45 (.nn (.tm 44)), .put 46 (.fa 0 (.tm 45)), .put 47 (.ld false [.ac] (.tm 46)), pM 48 0, .put 49 (.ia 3 (.tm 47) (.tm 48)), .put 50 (.fa 0 (.tm 49)), .put 51 (.ld false [.int .i64] (.tm 50)), pM 52 9, pM 53 10, .put 54 (.bld [(.int .i64 0), (.int .i64 0), (.int .i64 0)] [(0, 1, (.tm 51)), (1, 1, (.tm 52)), (2, 1, (.tm 53))]), .put 55 (.blds 77 3 1 [(.int .i64 0), (.int .i64 0), (.int .i64 0)] [(0, 3, (.tm 54))]), .put 56 (.app 77 3 24 (.tm 43) (.tm 55)), .put 57 (.fa 0 (.tm 4)), .run (.st 1 (.tm 57) (.tm 56))]) (.seq (.ops [.put 58 (.ld false [.ac] (.tm 1)), pM 59 0, .put 60 (.fa 0 (.tm 4)), .put 61 (.ld false [.ac] (.tm 60)), .put 62 (.lens (.tm 61)), .put 63 (.ar .sub (.tm 62) (cI 1)), .run (.mset none (.tm 58) (.tm 59) (.tm 63))]) (.seq (.ops [.put 64 (.ld false [.ac] (.tm 1)), pM 65 0, .put 66 (.look none false [.int .i64] [(.int .i64 0)] false (.tm 64) (.tm 65)), pM 6 66]) .ret))))))))
abbrev Z36.KQ (Q : AHeap → Int → Prop) : AV → AHeap → Prop := KQT [(false, [.int .i64])] Q
abbrev Z36.K (Q : AHeap → Int → Prop) : Ex → Env → AHeap → Prop := kTop [.tm 6] (Z36.KQ Q)
def Z36.W (a0 : Int) (a1 : AC) (a2 : AC) (a3 : AC) (a4 : AC) (H : AHeap) (Q : AHeap → Int → Prop) : Prop := CondB (decide (a0 < 0)) (Q H a0) (Ld [.ac] H a1 fun (v_1 : AC) => Look none false [.int .i64] [(.int .i64 0)] H v_1 [a0] fun b_2 (v_3 : Int) => CondB b_2 (Q H v_3) (Ld [.ac] H a2 fun (v_4 : AC) => Ld [.ac] H a3 fun (v_5 : AC) => NN v_5 <| FA 0 v_5 fun q_6 => Ld [.ac] H q_6 fun (v_7 : AC) => IA 3 v_7 a0 fun q_8 => FA 1 q_8 fun q_9 => Ld [.int .i64] H q_9 fun (v_10 : Int) => CVT Try.prog [(false, [.int .i64])] v_4 [(.one (.int .i64 v_10))] H fun H_11 (v_12 : Int) => Ld [.ac] H_11 a2 fun (v_13 : AC) => Ld [.ac] H_11 a3 fun (v_14 : AC) => NN v_14 <| FA 0 v_14 fun q_15 => Ld [.ac] H_11 q_15 fun (v_16 : AC) => IA 3 v_16 a0 fun q_17 => FA 2 q_17 fun q_18 => Ld [.int .i64] H_11 q_18 fun (v_19 : Int) => CVT Try.prog [(false, [.int .i64])] v_13 [(.one (.int .i64 v_19))] H_11 fun H_20 (v_21 : Int) => FA 0 a4 fun q_22 => Ld [.ac] H_20 q_22 fun (v_23 : AC) => Ld [.ac] H_20 a3 fun (v_24 : AC) => NN v_24 <| FA 0 v_24 fun q_25 => Ld [.ac] H_20 q_25 fun (v_26 : AC) => IA 3 v_26 a0 fun q_27 => FA 0 q_27 fun q_28 => Ld [.int .i64] H_20 q_28 fun (v_29 : Int) => NewS 77 3 1 [(.int .i64 v_29), (.int .i64 v_12), (.int .i64 v_21)] H_20 fun p_30 H_31 => App 77 3 24 v_23 p_30 H_31 fun s_32 H_33 => FA 0 a4 fun q_34 => Sto H_33 q_34 [s_32] fun H_35 => Ld [.ac] H_35 a1 fun (v_36 : AC) => FA 0 a4 fun q_37 => Ld [.ac] H_35 q_37 fun (v_38 : AC) => LenS v_38 fun n_39 => MSet none H_35 v_36 [a0] (.one (.int .i64 (IntKind.wrap .i64 (n_39 - 1)))) fun H_40 => Ld [.ac] H_40 a1 fun (v_41 : AC) => Look none false [.int .i64] [(.int .i64 0)] H_40 v_41 [a0] fun b_42 (v_43 : Int) => Q H_40 v_43))
theorem Z36.ok {a0 : Int} {a1 : AC} {a2 : AC} {a3 : AC} {a4 : AC} {H : AHeap} (Q : AHeap → Int → Prop) : Z36.W a0 a1 a2 a3 a4 H Q → wpF Try.prog Z36.c [.tm 6] (envOf [(.one (.int .i64 a0)), (.one a1), (.one a2), (.one a3), (.one a4)]) H (Z36.KQ Q) := cO (sP (o_mov rfl (sK (c_seq (cO (sP (o_mov rfl (sP (o_lt rfl rfl (sK (c_if rfl (cO (sP (o_mov rfl (sP (o_mov rfl (sK (c_ret (k_seqR (k_topR (r_one rfl (r_nil (fun h => ⟨((a0 : Int), ()), rfl, h⟩)))))))))))) (c_skip (k_seq (c_seq (cO (sP (o_ld1 rfl (fun (v_1 : AC) => sP (o_mov rfl (sP (o_look1 rfl rfl (fun b_2 (v_3 : Int) => sP (o_mov rfl (sP (o_ex rfl rfl rfl (sP (o_ex rfl rfl rfl (sP (o_mov rfl (sP (o_mov rfl (sK (cO (sP (o_mov rfl (sK (c_if rfl (cO (sP (o_mov rfl (sP (o_mov rfl (sK (c_ret (k_seqR (k_topR (r_one rfl (r_nil (fun h => ⟨((v_3 : Int), ()), rfl, h⟩)))))))))))) (c_skip (k_seq (cO (sP (o_ld1 rfl (fun (v_4 : AC) => sP (o_ld1 rfl (fun (v_5 : AC) => sP (o_nn rfl (sP (o_fa rfl (fun q_6 => sP (o_ld1 rfl (fun (v_7 : AC) => sP (o_mov rfl (sP (o_ia rfl rfl (fun q_8 => sP (o_fa rfl (fun q_9 => sP (o_ld1 rfl (fun (v_10 : Int) => sP (o_callv rfl rfl (cu_1 (fun H_11 (v_12 : Int) => sP (o_mov rfl (sK (cO (sP (o_ld1 rfl (fun (v_13 : AC) => sP (o_ld1 rfl (fun (v_14 : AC) => sP (o_nn rfl (sP (o_fa rfl (fun q_15 => sP (o_ld1 rfl (fun (v_16 : AC) => sP (o_mov rfl (sP (o_ia rfl rfl (fun q_17 => sP (o_fa rfl (fun q_18 => sP (o_ld1 rfl (fun (v_19 : Int) => sP (o_callv rfl rfl (cu_1 (fun H_20 (v_21 : Int) => sP (o_mov rfl (sK (cO (sP (o_fa rfl (fun q_22 => sP (o_ld1 rfl (fun (v_23 : AC) => sP (o_ld1 rfl (fun (v_24 : AC) => sP (o_nn rfl (sP (o_fa rfl (fun q_25 => sP (o_ld1 rfl (fun (v_26 : AC) => sP (o_mov rfl (sP (o_ia rfl rfl (fun q_27 => sP (o_fa rfl (fun q_28 => sP (o_ld1 rfl (fun (v_29 : Int) => sP (o_mov rfl (sP (o_mov rfl (sP (o_bld rfl (sP (o_blds rfl (fun p_30 H_31 => sP (o_app rfl rfl (fun s_32 H_33 => sP (o_fa rfl (fun q_34 => s_cons (w_run (o_st rfl rfl rfl (fun H_35 => sK (cO (sP (o_ld1 rfl (fun (v_36 : AC) => sP (o_mov rfl (sP (o_fa rfl (fun q_37 => sP (o_ld1 rfl (fun (v_38 : AC) => sP (o_lens rfl (fun n_39 => sP (o_sub rfl rfl (s_cons (w_run (o_mset rfl rfl rfl rfl (fun H_40 => sK (cO (sP (o_ld1 rfl (fun (v_41 : AC) => sP (o_mov rfl (sP (o_look1 rfl rfl (fun b_42 (v_43 : Int) => sP (o_mov rfl (sK (c_ret (k_topR (r_one rfl (r_nil (fun h => ⟨((v_43 : Int), ()), rfl, h⟩))))))))))))))))))))))))))))))))))))))))))))))))))))))))))))))))))))))))))))))))))))))))))))))))))))))))))))))))))))))))))))))))))))))))))))))))))))))))))))))
theorem Z36.run {a0 : Int} {a1 : AC} {a2 : AC} {a3 : AC} {a4 : AC} {H : AHeap} {Q : AHeap → Int → Prop} (h : Z36.W a0 a1 a2 a3 a4 H Q) : Fn.Z36 a0 a1 a2 a3 a4 H Q := by
  unfold Fn.Z36 RunT
  exact runK aggs_ok [(6, []), (7, []), (8, [])] Try.func88 rfl (by kernel_rfl) (by kernel_rfl) (by kernel_rfl) (by kernel_rfl) (by kernel_rfl) (Z36.ok Q h)
def Z38.c37 : RC := (.seq (.ops [.put 63 (.ld false [.ac] (.tm 3)), pM 64 0, pM 65 11, .run (.mset none (.tm 63) (.tm 64) (.tm 65))]) (.seq (.ops [pM 66 11, pM 7 66]) .ret))
def Z38.c5 : RC := (.cond 21 (.seq (.ops [pM 22 0, pM 7 22]) .ret) .skip)
def Z38.c : RC := (.seq (.ops [.put 7 (.mov (cI 0))]) (.seq (.seq (.held [pM 13 0, .put 14 (.cm .lt (.tm 13) (cI 0)), pM 15 14, .gput 16 15 false (.ld false [.ac] (.tm 1)), .gput 17 15 false (.mov (.tm 0)), .gput 18 15 false (.call 90 [(.tm 16), (.tm 17)]), .gput 19 15 false (.ld false [.int .i64] (.tm 2)), .gput 20 15 false (.cm .gt (.tm 18) (.tm 19)), .put 21 (.pick (.tm 15) (.ct (.one (.bool true))) (.tm 20))] [(6, 5)]) Z38.c5) (.seq (.seq (.ops [.put 24 (.ld false [.ac] (.tm 3)), pM 25 0, .put 26 (.look none false [.int .i64] [(.int .i64 0)] true (.tm 24) (.tm 25)), pM 23 26, .put 27 (.ex (.tm 23) 0), .put 28 (.ex (.tm 23) 1), pM 8 27, pM 9 28]) (.seq (.ops [pM 29 9]) (.cond 29 (.seq (.ops [pM 30 8, pM 7 30]) .ret) .skip))) (.seq (.ops [.put 31 (.ld false [.ac] (.tm 1)), .put 32 (.nn (.tm 31)), .put 33 (.fa 0 (.tm 32)), .put 34 (.ld false [.ac] (.tm 33)), pM 35 0, .put 36 (.ia 3 (.tm 34) (.tm 35)), .put 37 (.ld true [.int .i64, .int .i64, .int .i64] (.tm 36)), .put 10 (.new 77 [(.int .i64 0), (.int .i64 0), (.int .i64 0)]), .run (.st 3 (.tm 10) (.tm 37))]) (.seq (.ops [.put 38 (.fa 1 (.tm 10)), .put 39 (.ld false [.int .i64] (.tm 38)), pM 11 39]) (.seq (.block 0 (.seq (.ops [.put 41 (.fa 0 (.tm 10)), .put 42 (.ld false [.int .i64] (.tm 41)), .put 43 (.ld false [.int .i64] (.tm 2)), .put 44 (.cm .lt (.tm 42) (.tm 43)), pM 40 44]) (.cond 40 (.seq (.ops [.put 45 (.ld false [.ac] (.tm 4)), .put 46 (.fa 1 (.tm 10)), .put 47 (.ld false [.int .i64] (.tm 46)), .put 48 (.callv (.tm 45) [(.tm 47)]), pM 12 48]) (.held [.put 49 (.ld false [.ac] (.tm 1)), .put 50 (.fa 0 (.tm 10)), .put 51 (.ld false [.int .i64] (.tm 50)), pM 52 12, .put 53 (.ld false [.ac] (.tm 4)), .put 54 (.fa 2 (.tm 10)), .put 55 (.ld false [.int .i64] (.tm 54)), .put 56 (.callv (.tm 53) [(.tm 55)]), .put 57 (.call 80 [(.tm 49), (.tm 51), (.tm 52), (.tm 56)]), pM 11 57] [(0, 7), (2, 7)])) (.seq (.ops [.put 59 (.ld false [.int .i64] (.tm 5)), .put 60 (.cm .eq (.tm 59) (cI 1)), pM 58 60]) (.cond 58 (.ops [.put 61 (.fa 2 (.tm 10)), .put 62 (.ld false [.int .i64] (.tm 61)), pM 11 62]) .skip))))) Z38.c37))))))
abbrev Z38.KQ (Q : AHeap → Int → Prop) : AV → AHeap → Prop := KQT [(false, [.int .i64])] Q
abbrev Z38.K (Q : AHeap → Int → Prop) : Ex → Env → AHeap → Prop := kTop [.tm 7] (Z38.KQ Q)
abbrev Z38.k3 (Q : AHeap → Int → Prop) : Ex → Env → AHeap → Prop := kSeq (fun t H => wpC Try.prog (.seq (.seq (.ops [.put 24 (.ld false [.ac] (.tm 3)), pM 25 0, .put 26 (.look none false [.int .i64] [(.int .i64 0)] true (.tm 24) (.tm 25)), pM 23 26, .put 27 (.ex (.tm 23) 0), .put 28 (.ex (.tm 23) 1), pM 8 27, pM 9 28]) (.seq (.ops [pM 29 9]) (.cond 29 (.seq (.ops [pM 30 8, pM 7 30]) .ret) .skip))) (.seq (.ops [.put 31 (.ld false [.ac] (.tm 1)), .put 32 (.nn (.tm 31)), .put 33 (.fa 0 (.tm 32)), .put 34 (.ld false [.ac] (.tm 33)), pM 35 0, .put 36 (.ia 3 (.tm 34) (.tm 35)), .put 37 (.ld true [.int .i64, .int .i64, .int .i64] (.tm 36)), .put 10 (.new 77 [(.int .i64 0), (.int .i64 0), (.int .i64 0)]), .run (.st 3 (.tm 10) (.tm 37))]) (.seq (.ops [.put 38 (.fa 1 (.tm 10)), .put 39 (.ld false [.int .i64] (.tm 38)), pM 11 39]) (.seq (.block 0 (.seq (.ops [.put 41 (.fa 0 (.tm 10)), .put 42 (.ld false [.int .i64] (.tm 41)), .put 43 (.ld false [.int .i64] (.tm 2)), .put 44 (.cm .lt (.tm 42) (.tm 43)), pM 40 44]) (.cond 40 (.seq (.ops [.put 45 (.ld false [.ac] (.tm 4)), .put 46 (.fa 1 (.tm 10)), .put 47 (.ld false [.int .i64] (.tm 46)), .put 48 (.callv (.tm 45) [(.tm 47)]), pM 12 48]) (.held [.put 49 (.ld false [.ac] (.tm 1)), .put 50 (.fa 0 (.tm 10)), .put 51 (.ld false [.int .i64] (.tm 50)), pM 52 12, .put 53 (.ld false [.ac] (.tm 4)), .put 54 (.fa 2 (.tm 10)), .put 55 (.ld false [.int .i64] (.tm 54)), .put 56 (.callv (.tm 53) [(.tm 55)]), .put 57 (.call 80 [(.tm 49), (.tm 51), (.tm 52), (.tm 56)]), pM 11 57] [(0, 7), (2, 7)])) (.seq (.ops [.put 59 (.ld false [.int .i64] (.tm 5)), .put 60 (.cm .eq (.tm 59) (cI 1)), pM 58 60]) (.cond 58 (.ops [.put 61 (.fa 2 (.tm 10)), .put 62 (.ld false [.int .i64] (.tm 61)), pM 11 62]) .skip))))) Z38.c37)))) t H (Z38.K Q)) (Z38.K Q)
def Z38.p37 (Q : AHeap → Int → Prop) (x0 : Int) (x3 : AC) (x11 : Int) (H : AHeap) : Prop := Ld [.ac] H x3 fun (v_1 : AC) => MSet none H v_1 [x0] (.one (.int .i64 x11)) fun H_2 => Q H_2 x11
def Z38.p5 (Q : AHeap → Int → Prop) (x0 : Int) (x1 : AC) (x2 : AC) (x3 : AC) (x4 : AC) (x5 : AC) (x21 : Bool) (H : AHeap) : Prop := CondB x21 (Q H x0) (Ld [.ac] H x3 fun (v_1 : AC) => Look none false [.int .i64] [(.int .i64 0)] H v_1 [x0] fun b_2 (v_3 : Int) => CondB b_2 (Q H v_3) (Ld [.ac] H x1 fun (v_4 : AC) => NN v_4 <| FA 0 v_4 fun q_5 => Ld [.ac] H q_5 fun (v_6 : AC) => IA 3 v_6 x0 fun q_7 => Ld [.int .i64, .int .i64, .int .i64] H q_7 fun (v_8 : Int) (v_9 : Int) (v_10 : Int) => New 77 [(.int .i64 0), (.int .i64 0), (.int .i64 0)] H fun p_11 H_12 => Sto H_12 p_11 [(.int .i64 v_8), (.int .i64 v_9), (.int .i64 v_10)] fun H_13 => FA 1 p_11 fun q_14 => Ld [.int .i64] H_13 q_14 fun (v_15 : Int) => FA 0 p_11 fun q_16 => Ld [.int .i64] H_13 q_16 fun (v_17 : Int) => Ld [.int .i64] H_13 x2 fun (v_18 : Int) => CondB (decide (v_17 < v_18)) (Ld [.ac] H_13 x4 fun (v_19 : AC) => FA 1 p_11 fun q_20 => Ld [.int .i64] H_13 q_20 fun (v_21 : Int) => CVT Try.prog [(false, [.int .i64])] v_19 [(.one (.int .i64 v_21))] H_13 fun H_22 (v_23 : Int) => Ld [.ac] H_22 x1 fun (v_24 : AC) => FA 0 p_11 fun q_25 => Ld [.int .i64] H_22 q_25 fun (v_26 : Int) => Ld [.ac] H_22 x4 fun (v_27 : AC) => FA 2 p_11 fun q_28 => Ld [.int .i64] H_22 q_28 fun (v_29 : Int) => CVT Try.prog [(false, [.int .i64])] v_27 [(.one (.int .i64 v_29))] H_22 fun H_30 (v_31 : Int) => Fn.Z40 v_24 v_26 v_23 v_31 H_30 fun H_32 (v_33 : Int) => Same1 H_22 H_30 x1 1 ∧ Same1 H_22 H_30 q_25 1 ∧ Z38.p37 Q x0 x3 v_33 H_32) (Ld [.int .i64] H_13 x5 fun (v_34 : Int) => CondB (v_34 == 1) (FA 2 p_11 fun q_35 => Ld [.int .i64] H_13 q_35 fun (v_36 : Int) => Z38.p37 Q x0 x3 v_36 H_13) (Z38.p37 Q x0 x3 v_15 H_13))))
def Z38.W (a0 : Int) (a1 : AC) (a2 : AC) (a3 : AC) (a4 : AC) (a5 : AC) (H : AHeap) (Q : AHeap → Int → Prop) : Prop := CondB (decide (a0 < 0)) (Z38.p5 Q a0 a1 a2 a3 a4 a5 true H) (Ld [.ac] H a1 fun (v_1 : AC) => Fn.Z45 v_1 a0 H fun H_2 (v_3 : Int) => Ld [.int .i64] H_2 a2 fun (v_4 : Int) => Same2 H_2 H a2 1 ∧ Z38.p5 Q a0 a1 a2 a3 a4 a5 (decide (v_3 > v_4)) H_2)
theorem Z38.p37_okE (Q : AHeap → Int → Prop) {x0 : Int} {x3 : AC} {x11 : Int} {H : AHeap} (j : Env) : Z38.p37 Q x0 x3 x11 H → wpC Try.prog Z38.c37 (upd (upd (upd j 0 (.one (.int .i64 x0))) 3 (.one x3)) 11 (.one (.int .i64 x11))) H (Z38.K Q) := cO (sP (o_ld1 rfl (fun (v_1 : AC) => sP (o_mov rfl (sP (o_mov rfl (s_cons (w_run (o_mset rfl rfl rfl rfl (fun H_2 => sK (cO (sP (o_mov rfl (sP (o_mov rfl (sK (c_ret (k_topR (r_one rfl (r_nil (fun h => ⟨((x11 : Int), ()), rfl, h⟩)))))))))))))))))))))
theorem Z38.p37_ok (Q : AHeap → Int → Prop) {x0 : Int} {x3 : AC} {x11 : Int} {H : AHeap} {t : Env} (h0 : t 0 = (.one (.int .i64 x0))) (h3 : t 3 = (.one x3)) (h11 : t 11 = (.one (.int .i64 x11))) (h : Z38.p37 Q x0 x3 x11 H) : wpC Try.prog Z38.c37 t H (Z38.K Q) := by
  have g := Z38.p37_okE Q t h
  rw [upd_self h0] at g
  rw [upd_self h3] at g
  rw [upd_self h11] at g
  exact g
theorem Z38.p5_okE (Q : AHeap → Int → Prop) {x0 : Int} {x1 : AC} {x2 : AC} {x3 : AC} {x4 : AC} {x5 : AC} {x21 : Bool} {H : AHeap} (j : Env) : Z38.p5 Q x0 x1 x2 x3 x4 x5 x21 H → wpC Try.prog Z38.c5 (upd (upd (upd (upd (upd (upd (upd j 0 (.one (.int .i64 x0))) 1 (.one x1)) 2 (.one x2)) 3 (.one x3)) 4 (.one x4)) 5 (.one x5)) 21 (.one (.bool x21))) H (Z38.k3 Q) := c_if rfl (cO (sP (o_mov rfl (sP (o_mov rfl (sK (c_ret (k_seqR (k_topR (r_one rfl (r_nil (fun h => ⟨((x0 : Int), ()), rfl, h⟩)))))))))))) (c_skip (k_seq (c_seq (cO (sP (o_ld1 rfl (fun (v_1 : AC) => sP (o_mov rfl (sP (o_look1 rfl rfl (fun b_2 (v_3 : Int) => sP (o_mov rfl (sP (o_ex rfl rfl rfl (sP (o_ex rfl rfl rfl (sP (o_mov rfl (sP (o_mov rfl (sK (cO (sP (o_mov rfl (sK (c_if rfl (cO (sP (o_mov rfl (sP (o_mov rfl (sK (c_ret (k_seqR (k_topR (r_one rfl (r_nil (fun h => ⟨((v_3 : Int), ()), rfl, h⟩)))))))))))) (c_skip (k_seq (cO (sP (o_ld1 rfl (fun (v_4 : AC) => sP (o_nn rfl (sP (o_fa rfl (fun q_5 => sP (o_ld1 rfl (fun (v_6 : AC) => sP (o_mov rfl (sP (o_ia rfl rfl (fun q_7 => sP (o_ld3 rfl (fun (v_8 : Int) (v_9 : Int) (v_10 : Int) => sP (o_new (fun p_11 H_12 => s_cons (w_run (o_st rfl rfl rfl (fun H_13 => sK (cO (sP (o_fa rfl (fun q_14 => sP (o_ld1 rfl (fun (v_15 : Int) => sP (o_mov rfl (sK (c_seq (c_blk (cO (sP (o_fa rfl (fun q_16 => sP (o_ld1 rfl (fun (v_17 : Int) => sP (o_ld1 rfl (fun (v_18 : Int) => sP (o_lt rfl rfl (sP (o_mov rfl (sK (c_if rfl (cO (sP (o_ld1 rfl (fun (v_19 : AC) => sP (o_fa rfl (fun q_20 => sP (o_ld1 rfl (fun (v_21 : Int) => sP (o_callv rfl rfl (cu_1 (fun H_22 (v_23 : Int) => sP (o_mov rfl (sK (c_held (t_cons (w_put (o_ld1 rfl (fun (v_24 : AC) => t_cons (w_put (o_fa rfl (fun q_25 => t_cons (w_put (o_ld1 rfl (fun (v_26 : Int) => t_cons (w_put (o_mov rfl (t_cons (w_put (o_ld1 rfl (fun (v_27 : AC) => t_cons (w_put (o_fa rfl (fun q_28 => t_cons (w_put (o_ld1 rfl (fun (v_29 : Int) => t_cons (w_put (o_callv rfl rfl (cu_1 (fun H_30 (v_31 : Int) => t_cons (w_put (o_call rfl (cv_1 (fun H_32 (v_33 : Int) => t_cons (w_put (o_mov rfl (t_nil (p_one rfl rfl rfl rfl rfl rfl rfl rfl (p_one rfl rfl rfl rfl rfl rfl rfl rfl (p_nil (k_blk (k_seq (Z38.p37_ok Q rfl rfl rfl))))))))))))))))))))))))))))))))))))))))))))))))))))) (cO (sP (o_ld1 rfl (fun (v_34 : Int) => sP (o_eq rfl rfl (sP (o_mov rfl (sK (c_if rfl (c_ops (sP (o_fa rfl (fun q_35 => sP (o_ld1 rfl (fun (v_36 : Int) => sP (o_mov rfl (s_nil (k_blk (k_seq (Z38.p37_ok Q rfl rfl rfl))))))))))) (c_skip (k_blk (k_seq (Z38.p37_ok Q rfl rfl rfl)))))))))))))))))))))))))))))))))))))))))))))))))))))))))))))))))))))))))))))))))))))
theorem Z38.p5_ok (Q : AHeap → Int → Prop) {x0 : Int} {x1 : AC} {x2 : AC} {x3 : AC} {x4 : AC} {x5 : AC} {x21 : Bool} {H : AHeap} {t : Env} (h0 : t 0 = (.one (.int .i64 x0))) (h1 : t 1 = (.one x1)) (h2 : t 2 = (.one x2)) (h3 : t 3 = (.one x3)) (h4 : t 4 = (.one x4)) (h5 : t 5 = (.one x5)) (h21 : t 21 = (.one (.bool x21))) (h : Z38.p5 Q x0 x1 x2 x3 x4 x5 x21 H) : wpC Try.prog Z38.c5 t H (Z38.k3 Q) := by
  have g := Z38.p5_okE Q t h
  rw [upd_self h0] at g
  rw [upd_self h1] at g
  rw [upd_self h2] at g
  rw [upd_self h3] at g
  rw [upd_self h4] at g
  rw [upd_self h5] at g
  rw [upd_self h21] at g
  exact g
theorem Z38.ok {a0 : Int} {a1 : AC} {a2 : AC} {a3 : AC} {a4 : AC} {a5 : AC} {H : AHeap} (Q : AHeap → Int → Prop) : Z38.W a0 a1 a2 a3 a4 a5 H Q → wpF Try.prog Z38.c [.tm 7] (envOf [(.one (.int .i64 a0)), (.one a1), (.one a2), (.one a3), (.one a4), (.one a5)]) H (Z38.KQ Q) := cO (sP (o_mov rfl (sK (c_seq (c_seq (c_held (t_cons (w_put (o_mov rfl (t_cons (w_put (o_lt rfl rfl (t_cons (w_put (o_mov rfl (t_cons (w_gputF rfl (t_cons (w_gputN rfl (t_cons (w_gputN rfl (t_cons (w_gputN rfl (t_cons (w_gputN rfl (t_cons (w_put (o_pickT rfl rfl (t_nil (p_skip trivial (p_nil (k_seq (Z38.p5_ok Q rfl rfl rfl rfl rfl rfl rfl)))))))))))))))) (o_ld1 rfl (fun (v_1 : AC) => t_cons (w_gputY rfl (o_mov rfl (t_cons (w_gputY rfl (o_call rfl (cv_1 (fun H_2 (v_3 : Int) => t_cons (w_gputY rfl (o_ld1 rfl (fun (v_4 : Int) => t_cons (w_gputY rfl (o_gt rfl rfl (t_cons (w_put (o_pickF rfl rfl (t_nil (p_two rfl rfl rfl rfl rfl rfl rfl rfl (p_nil (k_seq (Z38.p5_ok Q rfl rfl rfl rfl rfl rfl rfl)))))))))))))))))))))))))))))))))))))))
theorem Z38.run {a0 : Int} {a1 : AC} {a2 : AC} {a3 : AC} {a4 : AC} {a5 : AC} {H : AHeap} {Q : AHeap → Int → Prop} (h : Z38.W a0 a1 a2 a3 a4 a5 H Q) : Fn.Z38 a0 a1 a2 a3 a4 a5 H Q := by
  unfold Fn.Z38 RunT
  exact runK aggs_ok [(1, [(6, 5)]), (10, [(0, 7), (2, 7)])] Try.func89 rfl (by kernel_rfl) (by kernel_rfl) (by kernel_rfl) (by kernel_rfl) (by kernel_rfl) (Z38.ok Q h)
def Z45.c : RC := (.seq (.ops [.put 4 (.mov (cI 0))]) (.seq (.seq (.ops [pM 5 1, .put 6 (.cm .lt (.tm 5) (cI 0))]) (.cond 6 (.seq (.ops [.put 4 (.mov (cI 16))]) .ret) .skip)) (.seq (.ops [pM 7 0, .put 8 (.nn (.tm 7)), .put 9 (.fa 0 (.tm 8)), .put 10 (.ld false [.ac] (.tm 9)), pM 11 1, .put 12 (.ia 3 (.tm 10) (.tm 11)), .put 13 (.fa 0 (.tm 12)), .put 14 (.ld false [.int .i64] (.tm 13)), pM 4 14]) .ret)))
abbrev Z45.KQ (Q : AHeap → Int → Prop) : AV → AHeap → Prop := KQT [(false, [.int .i64])] Q
abbrev Z45.K (Q : AHeap → Int → Prop) : Ex → Env → AHeap → Prop := kTop [.tm 4] (Z45.KQ Q)
def Z45.W (a0 : AC) (a1 : Int) (H : AHeap) (Q : AHeap → Int → Prop) : Prop := CondB (decide (a1 < 0)) (Q H 16) (NN a0 <| FA 0 a0 fun q_1 => Ld [.ac] H q_1 fun (v_2 : AC) => IA 3 v_2 a1 fun q_3 => FA 0 q_3 fun q_4 => Ld [.int .i64] H q_4 fun (v_5 : Int) => Q H v_5)
theorem Z45.ok {a0 : AC} {a1 : Int} {H : AHeap} (Q : AHeap → Int → Prop) : Z45.W a0 a1 H Q → wpF Try.prog Z45.c [.tm 4] (envOf [(.one a0), (.one (.int .i64 a1))]) H (Z45.KQ Q) := cO (sP (o_mov rfl (sK (c_seq (cO (sP (o_mov rfl (sP (o_lt rfl rfl (sK (c_if rfl (cO (sP (o_mov rfl (sK (c_ret (k_seqR (k_topR (r_one rfl (r_nil (fun h => ⟨((16 : Int), ()), rfl, h⟩)))))))))) (c_skip (k_seq (cO (sP (o_mov rfl (sP (o_nn rfl (sP (o_fa rfl (fun q_1 => sP (o_ld1 rfl (fun (v_2 : AC) => sP (o_mov rfl (sP (o_ia rfl rfl (fun q_3 => sP (o_fa rfl (fun q_4 => sP (o_ld1 rfl (fun (v_5 : Int) => sP (o_mov rfl (sK (c_ret (k_topR (r_one rfl (r_nil (fun h => ⟨((v_5 : Int), ()), rfl, h⟩))))))))))))))))))))))))))))))))))))))
theorem Z45.run {a0 : AC} {a1 : Int} {H : AHeap} {Q : AHeap → Int → Prop} (h : Z45.W a0 a1 H Q) : Fn.Z45 a0 a1 H Q := by
  unfold Fn.Z45 RunT
  exact runK aggs_ok [] Try.func90 rfl (by kernel_rfl) (by kernel_rfl) (by kernel_rfl) (by kernel_rfl) (by kernel_rfl) (Z45.ok Q h)
def Z17.c7 : RC := (.seq (.ops [.put 9 (.cm .lt (.tm 8) (.tm 7))]) (.seq (.cond 9 .skip (.exit 0)) (.seq (.block 1 (.seq (.ops [pM 10 8, pM 5 10]) (.seq (.ops [pM 11 1, pM 12 0, pM 13 5, .put 14 (.ia 1 (.tm 12) (.tm 13)), .put 15 (.ld false [.int .i64] (.tm 14)), .put 16 (.callv (.tm 11) [(.tm 15)])]) (.cond 16 (.seq (.ops [pM 17 5, pM 4 17]) .ret) .skip)))) (.ops [.put 18 (.ar .add (.tm 8) (cI 1)), pM 8 18]))))
def Z17.c : RC := (.seq (.ops [.put 4 (.mov (cI 0))]) (.seq (.seq (.ops [pM 6 0, .put 7 (.lens (.tm 6)), .put 8 (.mov (cI 0))]) (.block 0 (.loop Z17.c7))) (.seq (.ops [.put 4 (.mov (.ct (.one (.int .i64 (-1)))))]) .ret)))
abbrev Z17.KQ (Q : AHeap → Int → Prop) : AV → AHeap → Prop := KQT [(false, [.int .i64])] Q
abbrev Z17.K (Q : AHeap → Int → Prop) : Ex → Env → AHeap → Prop := kTop [.tm 4] (Z17.KQ Q)
abbrev Z17.k3 (Q : AHeap → Int → Prop) : Ex → Env → AHeap → Prop := kSeq (fun t H => wpC Try.prog (.seq (.ops [.put 4 (.mov (.ct (.one (.int .i64 (-1)))))]) .ret) t H (Z17.K Q)) (Z17.K Q)
def Z17.R6 (s : Tup [.ac, .ac, .int .i64, .int .i64]) (t : Env) : Prop := t 0 = (.one (s.1)) ∧ t 1 = (.one (s.2.1)) ∧ t 7 = (.one (.int .i64 (s.2.2.1))) ∧ t 8 = (.one (.int .i64 (s.2.2.2.1))) ∧ True
def Z17.b6 (Q : AHeap → Int → Prop) (Y6 : Tup [.ac, .ac, .int .i64, .int .i64] → AHeap → Prop) (x0 : AC) (x1 : AC) (x7 : Int) (x8 : Int) (H : AHeap) : Prop := CondB (decide (x8 < x7)) (IA 1 x0 x8 fun q_1 => Ld [.int .i64] H q_1 fun (v_2 : Int) => CVT Try.prog [(false, [.bool])] x1 [(.one (.int .i64 v_2))] H fun H_3 (v_4 : Bool) => CondB v_4 (Q H_3 x8) (Y6 (x0, x1, (x7 : Int), ((IntKind.wrap .i64 (x8 + 1)) : Int), ()) H_3)) (Q H (-1))
def Z17.l6 (Q : AHeap → Int → Prop) (x0 : AC) (x1 : AC) (x7 : Int) (x8 : Int) (H : AHeap) : Prop := LoopT (Tup [.ac, .ac, .int .i64, .int .i64]) (fun Y s H => Z17.b6 Q Y (s.1) (s.2.1) (s.2.2.1) (s.2.2.2.1) H) (x0, x1, x7, x8, ()) H
def Z17.W (a0 : AC) (a1 : AC) (H : AHeap) (Q : AHeap → Int → Prop) : Prop := LenS a0 fun n_1 => Z17.l6 Q a0 a1 n_1 0 H
theorem Z17.b6_ok (Q : AHeap → Int → Prop) (Y6 : Tup [.ac, .ac, .int .i64, .int .i64] → AHeap → Prop) (X6 : Env → AHeap → Prop) (hX6 : ∀ s t H, Z17.R6 s t → Y6 s H → X6 t H) {x0 : AC} {x1 : AC} {x7 : Int} {x8 : Int} {H : AHeap} (j : Env) : Z17.b6 Q Y6 x0 x1 x7 x8 H → wpC Try.prog Z17.c7 (upd (upd (upd (upd j 0 (.one x0)) 1 (.one x1)) 7 (.one (.int .i64 x7))) 8 (.one (.int .i64 x8))) H (kSeq X6 (kBlk 0 (Z17.k3 Q))) := cO (sP (o_lt rfl rfl (sK (c_seq (c_if rfl (c_skip (k_seq (c_seq (c_blk (cO (sP (o_mov rfl (sP (o_mov rfl (sK (cO (sP (o_mov rfl (sP (o_mov rfl (sP (o_mov rfl (sP (o_ia rfl rfl (fun q_1 => sP (o_ld1 rfl (fun (v_2 : Int) => sP (o_callv rfl rfl (cu_1 (fun H_3 (v_4 : Bool) => sK (c_if rfl (cO (sP (o_mov rfl (sP (o_mov rfl (sK (c_ret (k_blkR (k_seqR (k_seqR (k_blkR (k_seqR (k_topR (r_one rfl (r_nil (fun h => ⟨((x8 : Int), ()), rfl, h⟩)))))))))))))))) (c_skip (k_blk (k_seq (c_ops (sP (o_add rfl rfl (sP (o_mov rfl (sK (hX6 _ _ _ ⟨rfl, rfl, rfl, rfl, trivial⟩)))))))))))))))))))))))))))))))))))) (c_exit (k_seqE (k_seqE (k_blkH (k_seq (cO (sP (o_mov rfl (sK (c_ret (k_topR (r_one rfl (r_nil (fun h => ⟨(((-1) : Int), ()), rfl, h⟩)))))))))))))))))))
theorem Z17.l6_ok (Q : AHeap → Int → Prop) {x0 : AC} {x1 : AC} {x7 : Int} {x8 : Int} {H : AHeap} {t : Env} (h0 : t 0 = (.one x0)) (h1 : t 1 = (.one x1)) (h7 : t 7 = (.one (.int .i64 x7))) (h8 : t 8 = (.one (.int .i64 x8))) : Z17.l6 Q x0 x1 x7 x8 H → wpC Try.prog (.loop Z17.c7) t H (kBlk 0 (Z17.k3 Q)) :=
  m_loop Z17.R6 ⟨h0, h1, h7, h8, trivial⟩ fun X Y hX s t H hR hB => by
    have g := Z17.b6_ok Q Y X hX t hB
    rw [upd_self hR.1] at g
    rw [upd_self hR.2.1] at g
    rw [upd_self hR.2.2.1] at g
    rw [upd_self hR.2.2.2.1] at g
    exact g
theorem Z17.ok {a0 : AC} {a1 : AC} {H : AHeap} (Q : AHeap → Int → Prop) : Z17.W a0 a1 H Q → wpF Try.prog Z17.c [.tm 4] (envOf [(.one a0), (.one a1)]) H (Z17.KQ Q) := cO (sP (o_mov rfl (sK (c_seq (cO (sP (o_mov rfl (sP (o_lens rfl (fun n_1 => sP (o_mov rfl (sK (c_blk (Z17.l6_ok Q rfl rfl rfl rfl))))))))))))))
theorem Z17.run {a0 : AC} {a1 : AC} {H : AHeap} {Q : AHeap → Int → Prop} (h : Z17.W a0 a1 H Q) : Fn.Z17 a0 a1 H Q := by
  unfold Fn.Z17 RunT
  exact runK aggs_ok [] Try.func91 rfl (by kernel_rfl) (by kernel_rfl) (by kernel_rfl) (by kernel_rfl) (by kernel_rfl) (Z17.ok Q h)
def Z12.c : RC := (.seq (.ops [.put 2 (.mov (.ct (.one (.sl none 0 0 (some 0)))))]) (.seq (.ops [pM 3 0, .put 4 (.call 101 [(.ct (.one (.sl none 0 0 (some 0)))), (.tm 3)]), pM 2 4]) .ret))
abbrev Z12.KQ (Q : AHeap → AC → Prop) : AV → AHeap → Prop := KQT [(false, [.ac])] Q
abbrev Z12.K (Q : AHeap → AC → Prop) : Ex → Env → AHeap → Prop := kTop [.tm 2] (Z12.KQ Q)
def Z12.W (a0 : AC) (H : AHeap) (Q : AHeap → AC → Prop) : Prop := RunT Try.prog [(false, [.ac])] 101 [(.one (.sl none 0 0 (some 0))), (.one a0)] H fun H_1 (v_2 : AC) => Q H_1 v_2
theorem Z12.ok {a0 : AC} {H : AHeap} (Q : AHeap → AC → Prop) : Z12.W a0 H Q → wpF Try.prog Z12.c [.tm 2] (envOf [(.one a0)]) H (Z12.KQ Q) := cO (sP (o_mov rfl (sK (cO (sP (o_mov rfl (sP (o_call rfl (cv_1 (fun H_1 (v_2 : AC) => sP (o_mov rfl (sK (c_ret (k_topR (r_one rfl (r_nil (fun h => ⟨(v_2, ()), rfl, h⟩)))))))))))))))))
theorem Z12.run {a0 : AC} {H : AHeap} {Q : AHeap → AC → Prop} (h : Z12.W a0 H Q) : Fn.Z12 a0 H Q := by
  unfold Fn.Z12 RunT
  exact runK aggs_ok [] Try.func92 rfl (by kernel_rfl) (by kernel_rfl) (by kernel_rfl) (by kernel_rfl) (by kernel_rfl) (Z12.ok Q h)
def Z20.c4 : RC := (.seq (.ops [.put 8 (.cm .lt (.tm 7) (.tm 6))]) (.seq (.cond 8 .skip (.exit 0)) (.seq (.block 1 (.seq (.ops [.put 9 (.ia 1 (.tm 5) (.tm 7)), .put 10 (.ld false [.int .i64] (.tm 9)), pM 4 10]) (.seq (.ops [pM 11 0, pM 12 4, .put 13 (.callv (.tm 11) [(.tm 12)]), .put 14 (.not (.tm 13))]) (.cond 14 .ret .skip)))) (.ops [.put 15 (.ar .add (.tm 7) (cI 1)), pM 7 15]))))
def Z20.c : RC := (.seq (.ops [.put 5 (.ld false [.ac] (.tm 1)), .put 6 (.lens (.tm 5)), .put 7 (.mov (cI 0))]) (.block 0 (.loop Z20.c4)))
abbrev Z20.KQ (Q : AHeap → Prop) : AV → AHeap → Prop := KQT [] Q
abbrev Z20.K (Q : AHeap → Prop) : Ex → Env → AHeap → Prop := kTop [] (Z20.KQ Q)
def Z20.R3 (s : Tup [.ac, .ac, .int .i64, .int .i64]) (t : Env) : Prop := t 0 = (.one (s.1)) ∧ t 5 = (.one (s.2.1)) ∧ t 6 = (.one (.int .i64 (s.2.2.1))) ∧ t 7 = (.one (.int .i64 (s.2.2.2.1))) ∧ True
def Z20.b3 (Q : AHeap → Prop) (Y3 : Tup [.ac, .ac, .int .i64, .int .i64] → AHeap → Prop) (x0 : AC) (x5 : AC) (x6 : Int) (x7 : Int) (H : AHeap) : Prop := CondB (decide (x7 < x6)) (IA 1 x5 x7 fun q_1 => Ld [.int .i64] H q_1 fun (v_2 : Int) => CVT Try.prog [(false, [.bool])] x0 [(.one (.int .i64 v_2))] H fun H_3 (v_4 : Bool) => CondB (!v_4) (Q H_3 ) (Y3 (x0, x5, (x6 : Int), ((IntKind.wrap .i64 (x7 + 1)) : Int), ()) H_3)) (Q H )
def Z20.l3 (Q : AHeap → Prop) (x0 : AC) (x5 : AC) (x6 : Int) (x7 : Int) (H : AHeap) : Prop := LoopT (Tup [.ac, .ac, .int .i64, .int .i64]) (fun Y s H => Z20.b3 Q Y (s.1) (s.2.1) (s.2.2.1) (s.2.2.2.1) H) (x0, x5, x6, x7, ()) H
def Z20.W (a0 : AC) (a1 : AC) (H : AHeap) (Q : AHeap → Prop) : Prop := Ld [.ac] H a1 fun (v_1 : AC) => LenS v_1 fun n_2 => Z20.l3 Q a0 v_1 n_2 0 H
theorem Z20.b3_ok (Q : AHeap → Prop) (Y3 : Tup [.ac, .ac, .int .i64, .int .i64] → AHeap → Prop) (X3 : Env → AHeap → Prop) (hX3 : ∀ s t H, Z20.R3 s t → Y3 s H → X3 t H) {x0 : AC} {x5 : AC} {x6 : Int} {x7 : Int} {H : AHeap} (j : Env) : Z20.b3 Q Y3 x0 x5 x6 x7 H → wpC Try.prog Z20.c4 (upd (upd (upd (upd j 0 (.one x0)) 5 (.one x5)) 6 (.one (.int .i64 x6))) 7 (.one (.int .i64 x7))) H (kSeq X3 (kBlk 0 (Z20.K Q))) := cO (sP (o_lt rfl rfl (sK (c_seq (c_if rfl (c_skip (k_seq (c_seq (c_blk (cO (sP (o_ia rfl rfl (fun q_1 => sP (o_ld1 rfl (fun (v_2 : Int) => sP (o_mov rfl (sK (cO (sP (o_mov rfl (sP (o_mov rfl (sP (o_callv rfl rfl (cu_1 (fun H_3 (v_4 : Bool) => sP (o_not rfl (sK (c_if rfl (c_ret (k_blkR (k_seqR (k_seqR (k_blkR (k_topR (r_nil (fun h => ⟨(()), rfl, h⟩)))))))) (c_skip (k_blk (k_seq (c_ops (sP (o_add rfl rfl (sP (o_mov rfl (sK (hX3 _ _ _ ⟨rfl, rfl, rfl, rfl, trivial⟩)))))))))))))))))))))))))))))))))) (c_exit (k_seqE (k_seqE (k_blkH (k_top (r_nil (fun h => ⟨(()), rfl, h⟩))))))))))))
theorem Z20.l3_ok (Q : AHeap → Prop) {x0 : AC} {x5 : AC} {x6 : Int} {x7 : Int} {H : AHeap} {t : Env} (h0 : t 0 = (.one x0)) (h5 : t 5 = (.one x5)) (h6 : t 6 = (.one (.int .i64 x6))) (h7 : t 7 = (.one (.int .i64 x7))) : Z20.l3 Q x0 x5 x6 x7 H → wpC Try.prog (.loop Z20.c4) t H (kBlk 0 (Z20.K Q)) :=
  m_loop Z20.R3 ⟨h0, h5, h6, h7, trivial⟩ fun X Y hX s t H hR hB => by
    have g := Z20.b3_ok Q Y X hX t hB
    rw [upd_self hR.1] at g
    rw [upd_self hR.2.1] at g
    rw [upd_self hR.2.2.1] at g
    rw [upd_self hR.2.2.2.1] at g
    exact g
theorem Z20.ok {a0 : AC} {a1 : AC} {H : AHeap} (Q : AHeap → Prop) : Z20.W a0 a1 H Q → wpF Try.prog Z20.c [] (envOf [(.one a0), (.one a1)]) H (Z20.KQ Q) := cO (sP (o_ld1 rfl (fun (v_1 : AC) => sP (o_lens rfl (fun n_2 => sP (o_mov rfl (sK (c_blk (Z20.l3_ok Q rfl rfl rfl rfl)))))))))
theorem Z20.run {a0 : AC} {a1 : AC} {H : AHeap} {Q : AHeap → Prop} (h : Z20.W a0 a1 H Q) : Fn.Z20 a0 a1 H Q := by
  unfold Fn.Z20 RunT
  exact runK aggs_ok [] Try.func93 rfl (by kernel_rfl) (by kernel_rfl) (by kernel_rfl) (by kernel_rfl) (by kernel_rfl) (Z20.ok Q h)
end Go.Proofs.Ytanaaabejeeakaa
end
section
namespace Go.Proofs.Ytanaaabejeeakaa
open Go.AI
set_option maxRecDepth 100000
set_option maxHeartbeats 2000000
set_option linter.unusedVariables false
attribute [local irreducible] Ld Sto New NewS NewM NN NZ GE0 FA IA IAP LenS Slc App Cpy Clr MkS Fnc NilQ IxS Look MSet Run CV RunT CVT LoopT Same1 Same2 wpC wpOs wpT wpO wpOp
def Z44.c : RC := (.seq (.ops [.put 6 (.mov (cI 0)), .put 7 (.mov (cI 0))]) (.seq (.seq (.ops [pM 8 0, pM 9 1, .put 10 (.call 90 [(.tm 8), (.tm 9)]), pM 11 2, .put 12 (.cm .ne (.tm 10) (.tm 11))]) (.cond 12 (.seq (.ops [pM 13 1, pM 14 1, pM 6 13, pM 7 14]) .ret) .skip)) (.seq (.ops [pM 15 0, .put 16 (.nn (.tm 15)), .put 17 (.fa 0 (.tm 16)), .put 18 (.ld false [.ac] (.tm 17)), pM 19 1, .put 20 (.ia 3 (.tm 18) (.tm 19)), .put 21 (.fa 1 (.tm 20)), .put 22 (.ld false [.int .i64] (.tm 21)), pM 23 0, .put 24 (.nn (.tm 23)), .put 25 (.fa 0 (.tm 24)), .put 26 (.ld false [.ac] (.tm 25)), pM 27 1, .put 28 (.ia 3 (.tm 26) (.tm 27)), .put 29 (.fa 2 (.tm 28)), .put 30 (.ld false [.int .i64] (.tm 29)), pM 6 22, pM 7 30]) .ret)))
abbrev Z44.KQ (Q : AHeap → Int → Int → Prop) : AV → AHeap → Prop := KQT [(false, [.int .i64]), (false, [.int .i64])] Q
abbrev Z44.K (Q : AHeap → Int → Int → Prop) : Ex → Env → AHeap → Prop := kTop [.tm 6, .tm 7] (Z44.KQ Q)
def Z44.W (a0 : AC) (a1 : Int) (a2 : Int) (H : AHeap) (Q : AHeap → Int → Int → Prop) : Prop := Fn.Z45 a0 a1 H fun H_1 (v_2 : Int) => CondB (v_2 != a2) (Q H_1 a1 a1) (NN a0 <| FA 0 a0 fun q_3 => Ld [.ac] H_1 q_3 fun (v_4 : AC) => IA 3 v_4 a1 fun q_5 => FA 1 q_5 fun q_6 => Ld [.int .i64] H_1 q_6 fun (v_7 : Int) => NN a0 <| FA 0 a0 fun q_8 => Ld [.ac] H_1 q_8 fun (v_9 : AC) => IA 3 v_9 a1 fun q_10 => FA 2 q_10 fun q_11 => Ld [.int .i64] H_1 q_11 fun (v_12 : Int) => Q H_1 v_7 v_12)
theorem Z44.ok {a0 : AC} {a1 : Int} {a2 : Int} {H : AHeap} (Q : AHeap → Int → Int → Prop) : Z44.W a0 a1 a2 H Q → wpF Try.prog Z44.c [.tm 6, .tm 7] (envOf [(.one a0), (.one (.int .i64 a1)), (.one (.int .i64 a2))]) H (Z44.KQ Q) := cO (sP (o_mov rfl (sP (o_mov rfl (sK (c_seq (cO (sP (o_mov rfl (sP (o_mov rfl (sP (o_call rfl (cv_1 (fun H_1 (v_2 : Int) => sP (o_mov rfl (sP (o_ne rfl rfl (sK (c_if rfl (cO (sP (o_mov rfl (sP (o_mov rfl (sP (o_mov rfl (sP (o_mov rfl (sK (c_ret (k_seqR (k_topR (r_one rfl (r_one rfl (r_nil (fun h => ⟨((a1 : Int), (a1 : Int), ()), rfl, h⟩))))))))))))))))) (c_skip (k_seq (cO (sP (o_mov rfl (sP (o_nn rfl (sP (o_fa rfl (fun q_3 => sP (o_ld1 rfl (fun (v_4 : AC) => sP (o_mov rfl (sP (o_ia rfl rfl (fun q_5 => sP (o_fa rfl (fun q_6 => sP (o_ld1 rfl (fun (v_7 : Int) => sP (o_mov rfl (sP (o_nn rfl (sP (o_fa rfl (fun q_8 => sP (o_ld1 rfl (fun (v_9 : AC) => sP (o_mov rfl (sP (o_ia rfl rfl (fun q_10 => sP (o_fa rfl (fun q_11 => sP (o_ld1 rfl (fun (v_12 : Int) => sP (o_mov rfl (sP (o_mov rfl (sK (c_ret (k_topR (r_one rfl (r_one rfl (r_nil (fun h => ⟨((v_7 : Int), (v_12 : Int), ()), rfl, h⟩))))))))))))))))))))))))))))))))))))))))))))))))))))))))))))))))))
theorem Z44.run {a0 : AC} {a1 : Int} {a2 : Int} {H : AHeap} {Q : AHeap → Int → Int → Prop} (h : Z44.W a0 a1 a2 H Q) : Fn.Z44 a0 a1 a2 H Q := by
  unfold Fn.Z44 RunT
  exact runK aggs_ok [(3, [])] Try.func98 rfl (by kernel_rfl) (by kernel_rfl) (by kernel_rfl) (by kernel_rfl) (by kernel_rfl) (Z44.ok Q h)
def Z16.c7 : RC := (.seq (.ops [.put 9 (.cm .lt (.tm 8) (.tm 7))]) (.seq (.cond 9 .skip (.exit 0)) (.seq (.block 1 (.seq (.ops [pM 10 8, pM 5 10]) (.seq (.ops [pM 11 1, pM 12 0, pM 13 5, .put 14 (.ia 3 (.tm 12) (.tm 13)), .put 15 (.ld true [.int .i64, .int .i64, .int .i64] (.tm 14)), .put 16 (.callv (.tm 11) [(.tm 15)])]) (.cond 16 (.seq (.ops [pM 17 5, pM 4 17]) .ret) .skip)))) (.ops [.put 18 (.ar .add (.tm 8) (cI 1)), pM 8 18]))))
def Z16.c : RC := (.seq (.ops [.put 4 (.mov (cI 0))]) (.seq (.seq (.ops [pM 6 0, .put 7 (.lens (.tm 6)), .put 8 (.mov (cI 0))]) (.block 0 (.loop Z16.c7))) (.seq (.ops [.put 4 (.mov (.ct (.one (.int .i64 (-1)))))]) .ret)))
abbrev Z16.KQ (Q : AHeap → Int → Prop) : AV → AHeap → Prop := KQT [(false, [.int .i64])] Q
abbrev Z16.K (Q : AHeap → Int → Prop) : Ex → Env → AHeap → Prop := kTop [.tm 4] (Z16.KQ Q)
abbrev Z16.k3 (Q : AHeap → Int → Prop) : Ex → Env → AHeap → Prop := kSeq (fun t H => wpC Try.prog (.seq (.ops [.put 4 (.mov (.ct (.one (.int .i64 (-1)))))]) .ret) t H (Z16.K Q)) (Z16.K Q)
def Z16.R6 (s : Tup [.ac, .ac, .int .i64, .int .i64]) (t : Env) : Prop := t 0 = (.one (s.1)) ∧ t 1 = (.one (s.2.1)) ∧ t 7 = (.one (.int .i64 (s.2.2.1))) ∧ t 8 = (.one (.int .i64 (s.2.2.2.1))) ∧ True
def Z16.b6 (Q : AHeap → Int → Prop) (Y6 : Tup [.ac, .ac, .int .i64, .int .i64] → AHeap → Prop) (x0 : AC) (x1 : AC) (x7 : Int) (x8 : Int) (H : AHeap) : Prop := CondB (decide (x8 < x7)) (IA 3 x0 x8 fun q_1 => Ld [.int .i64, .int .i64, .int .i64] H q_1 fun (v_2 : Int) (v_3 : Int) (v_4 : Int) => CVT Try.prog [(false, [.bool])] x1 [(.agg [(.int .i64 v_2), (.int .i64 v_3), (.int .i64 v_4)])] H fun H_5 (v_6 : Bool) => CondB v_6 (Q H_5 x8) (Y6 (x0, x1, (x7 : Int), ((IntKind.wrap .i64 (x8 + 1)) : Int), ()) H_5)) (Q H (-1))
def Z16.l6 (Q : AHeap → Int → Prop) (x0 : AC) (x1 : AC) (x7 : Int) (x8 : Int) (H : AHeap) : Prop := LoopT (Tup [.ac, .ac, .int .i64, .int .i64]) (fun Y s H => Z16.b6 Q Y (s.1) (s.2.1) (s.2.2.1) (s.2.2.2.1) H) (x0, x1, x7, x8, ()) H
def Z16.W (a0 : AC) (a1 : AC) (H : AHeap) (Q : AHeap → Int → Prop) : Prop := LenS a0 fun n_1 => Z16.l6 Q a0 a1 n_1 0 H
theorem Z16.b6_ok (Q : AHeap → Int → Prop) (Y6 : Tup [.ac, .ac, .int .i64, .int .i64] → AHeap → Prop) (X6 : Env → AHeap → Prop) (hX6 : ∀ s t H, Z16.R6 s t → Y6 s H → X6 t H) {x0 : AC} {x1 : AC} {x7 : Int} {x8 : Int} {H : AHeap} (j : Env) : Z16.b6 Q Y6 x0 x1 x7 x8 H → wpC Try.prog Z16.c7 (upd (upd (upd (upd j 0 (.one x0)) 1 (.one x1)) 7 (.one (.int .i64 x7))) 8 (.one (.int .i64 x8))) H (kSeq X6 (kBlk 0 (Z16.k3 Q))) := cO (sP (o_lt rfl rfl (sK (c_seq (c_if rfl (c_skip (k_seq (c_seq (c_blk (cO (sP (o_mov rfl (sP (o_mov rfl (sK (cO (sP (o_mov rfl (sP (o_mov rfl (sP (o_mov rfl (sP (o_ia rfl rfl (fun q_1 => sP (o_ld3 rfl (fun (v_2 : Int) (v_3 : Int) (v_4 : Int) => sP (o_callv rfl rfl (cu_1 (fun H_5 (v_6 : Bool) => sK (c_if rfl (cO (sP (o_mov rfl (sP (o_mov rfl (sK (c_ret (k_blkR (k_seqR (k_seqR (k_blkR (k_seqR (k_topR (r_one rfl (r_nil (fun h => ⟨((x8 : Int), ()), rfl, h⟩)))))))))))))))) (c_skip (k_blk (k_seq (c_ops (sP (o_add rfl rfl (sP (o_mov rfl (sK (hX6 _ _ _ ⟨rfl, rfl, rfl, rfl, trivial⟩)))))))))))))))))))))))))))))))))))) (c_exit (k_seqE (k_seqE (k_blkH (k_seq (cO (sP (o_mov rfl (sK (c_ret (k_topR (r_one rfl (r_nil (fun h => ⟨(((-1) : Int), ()), rfl, h⟩)))))))))))))))))))
theorem Z16.l6_ok (Q : AHeap → Int → Prop) {x0 : AC} {x1 : AC} {x7 : Int} {x8 : Int} {H : AHeap} {t : Env} (h0 : t 0 = (.one x0)) (h1 : t 1 = (.one x1)) (h7 : t 7 = (.one (.int .i64 x7))) (h8 : t 8 = (.one (.int .i64 x8))) : Z16.l6 Q x0 x1 x7 x8 H → wpC Try.prog (.loop Z16.c7) t H (kBlk 0 (Z16.k3 Q)) :=
  m_loop Z16.R6 ⟨h0, h1, h7, h8, trivial⟩ fun X Y hX s t H hR hB => by
    have g := Z16.b6_ok Q Y X hX t hB
    rw [upd_self hR.1] at g
    rw [upd_self hR.2.1] at g
    rw [upd_self hR.2.2.1] at g
    rw [upd_self hR.2.2.2.1] at g
    exact g
theorem Z16.ok {a0 : AC} {a1 : AC} {H : AHeap} (Q : AHeap → Int → Prop) : Z16.W a0 a1 H Q → wpF Try.prog Z16.c [.tm 4] (envOf [(.one a0), (.one a1)]) H (Z16.KQ Q) := cO (sP (o_mov rfl (sK (c_seq (cO (sP (o_mov rfl (sP (o_lens rfl (fun n_1 => sP (o_mov rfl (sK (c_blk (Z16.l6_ok Q rfl rfl rfl rfl))))))))))))))
theorem Z16.run {a0 : AC} {a1 : AC} {H : AHeap} {Q : AHeap → Int → Prop} (h : Z16.W a0 a1 H Q) : Fn.Z16 a0 a1 H Q := by
  unfold Fn.Z16 RunT
  exact runK aggs_ok [] Try.func99 rfl (by kernel_rfl) (by kernel_rfl) (by kernel_rfl) (by kernel_rfl) (by kernel_rfl) (Z16.ok Q h)
end Go.Proofs.Ytanaaabejeeakaa
end
section

end
section
namespace Go.Proofs.Ytanaaabejeeakaa
open Go.AI
end Go.Proofs.Ytanaaabejeeakaa
end
section
namespace Go.Proofs.Ytanaaabejeeakaa
open Go.AI
theorem kid_at {rows : List (Int × Int × AC)} {kids : List Fm} (hl : rows.length = kids.length) {i : Nat} (hi : i < kids.length) : ∃ r k, rows[i]? = some r ∧ kids[i]? = some k ∧ (rows.map fun r : Int × Int × AC => ([.int .i64 r.1, .int .i64 r.2.1, r.2.2] : List AC))[i]? = some [.int .i64 r.1, .int .i64 r.2.1, r.2.2] := by
  refine ⟨rows[i], kids[i], List.getElem?_eq_getElem (by omega), List.getElem?_eq_getElem hi, ?_⟩
  rw [List.getElem?_map, List.getElem?_eq_getElem (by omega)]; rfl
theorem pnodes_c : ∀ (n : Nat) {op var : Int} {s : AC} {f : Fm} {H : AHeap} {most : Int}, f.size ≤ n → f.size < 4611686018427387904 → 0 ≤ most → most < 4611686018427387904 → FmAt H op var s f →
    Fn.Z48 op var s most H fun H' r => r = min (f.size : Int) (most + 1) ∧ Kp H H' := by
  intro n
  induction n with
  | zero => intro op var s f H most hn; have := f.size_pos; omega
  | succ n ih =>
    intro op var s f H most hn hmax hm0 hm1 hf
    obtain ⟨kids, rows, rfl, hl, hs, hk⟩ := hf.inv
    have hsz : Fm.size (.mk op var kids) = Fm.sizes kids + 1 := by rw [Fm.size]
    have hlen := Fm.sizes_len kids
    refine Z48.run ?_
    unfold Z48.W
    refine New.own fun b H1 hb hs1 ho hkp => ?_
    refine FA.mk (Ld.oc ho rfl (LenS.of (hs.kp hkp) ?_))
    rw [List.length_map, hl]
    unfold Z48.l8
    have fin : ∀ (i : Nat) (x : Int) (H2 : AHeap), Kp H H2 → (x ≤ most ∧ x = ((Fm.sizes (kids.take i) + 1 : Nat) : Int)) ∨ (x = most + 1 ∧ most < ((Fm.sizes (kids.take i) + 1 : Nat) : Int)) → (most < x ∨ kids.length ≤ i) →
        Z48.p27 (fun H' r => r = min ((Fm.size (.mk op var kids) : Nat) : Int) (most + 1) ∧ Kp H H') most x H2 := by
      intro i x H2 hkp2 hx hor
      unfold Z48.p27
      refine ⟨?_, hkp2⟩
      have hle := Fm.sizes_le kids i
      have hw : IntKind.wrap .i64 (most + 1) = most + 1 := wrap64 (by omega) (by omega)
      rw [hw, hsz]
      have hall : kids.length ≤ i → Fm.sizes (kids.take i) = Fm.sizes kids := fun h => by rw [List.take_of_length_le h]
      split <;> rcases hx with ⟨h1, h2⟩ | ⟨h1, h2⟩ <;> rcases hor with h3 | h3 <;> (try have := hall h3) <;> omega
    refine LoopT.rule (fun m s0 H2 => ∃ (i : Nat) (x : Int), i ≤ kids.length ∧ m = kids.length - i ∧ s0 = (most, x, s, (kids.length : Int), (i : Int), ()) ∧ Kp H H2 ∧
      ((x ≤ most ∧ x = ((Fm.sizes (kids.take i) + 1 : Nat) : Int)) ∨ (x = most + 1 ∧ most < ((Fm.sizes (kids.take i) + 1 : Nat) : Int)))) kids.length ⟨0, 1, by omega, by omega, rfl, hkp, ?_⟩ ?_
    · simp only [List.take_zero, Fm.sizes]; omega
    rintro m s0 H2 back ⟨i, x, hi, rfl, rfl, hkp2, hx⟩ hback
    simp only [Z48.b8]
    refine CondB.dec (fun hlt => ?_) fun hge => fin i x H2 hkp2 hx (.inr (by omega))
    have hlt' : i < kids.length := by omega
    obtain ⟨r, k, hri, hki, hro⟩ := kid_at hl hlt'
    refine IA.of (hs.kp hkp2) (by omega) (by rw [Int.toNat_natCast]; exact hro) fun b' o' hld => ?_
    refine Ld.a3 hld r.1 r.2.1 r.2.2 rfl rfl ?_
    refine NewSto.own rfl fun p H3 hp hs3 hbox hk3 => ?_
    have hle := Fm.size_mem kids i k hki
    have htk := Fm.sizes_take kids i k hki
    have htl := Fm.sizes_le kids (i + 1)
    refine CondB.dec (fun hgt => fin i x H3 (hkp2.trans hk3) hx (.inl hgt)) fun hng => ?_
    refine Ld.o3 hbox r.1 r.2.1 r.2.2 rfl ?_
    have hw : IntKind.wrap .i64 (most - x) = most - x := wrap64 (by omega) (by omega)
    rw [hw]
    refine RunT.imp ?_ (ih (by omega) (by omega) (by omega) (by omega) ((hk i r k hri hki).kp (hkp2.trans hk3)))
    rintro H4 v ⟨rfl, hkp4⟩
    refine hback (kids.length - (i + 1)) _ _ (by omega) ⟨i + 1, x + min (k.size : Int) (most - x + 1), by omega, rfl, ?_, (hkp2.trans hk3).trans hkp4, ?_⟩
    · exact tc rfl (tc (wrap64 (by omega) (by omega)) (tc rfl (tc rfl (tc ((wrap64 (by omega) (by omega)).trans (by omega)) rfl))))
    · rw [htk]; omega
theorem boolFault_c : ∀ (n : Nat) {op var : Int} {s : AC} {f : Fm} {H : AHeap}, f.size ≤ n → f.size < 4611686018427387904 → FmAt H op var s f →
    Fn.Z29 op var s H fun H' r => r = f.fault ∧ Kp H H' := by
  intro n
  induction n with
  | zero => intro op var s f H hn; have := f.size_pos; omega
  | succ n ih =>
    intro op var s f H hn hmax hf
    obtain ⟨kids, rows, rfl, hl, hs, hk⟩ := hf.inv
    have hsz : Fm.size (.mk op var kids) = Fm.sizes kids + 1 := by rw [Fm.size]
    have hlen := Fm.sizes_len kids
    refine Z29.run ?_
    unfold Z29.W
    refine New.own fun b H1 hb hs1 ho hkp => ?_
    refine FA.mk (Ld.oi ho rfl ?_)
    have hf0 := Fm.fault.eq_1 op var kids
    -- the kids
    have kidsOk : ∀ g : Int, g = Fm.faults kids → Z29.l58 (fun H' r => r = g ∧ Kp H H') s kids.length 0 H1 := by
      rintro g rfl
      unfold Z29.l58
      refine LoopT.rule (fun m s0 H2 => ∃ (i : Nat), i ≤ kids.length ∧ m = kids.length - i ∧ s0 = (s, (kids.length : Int), (i : Int), ()) ∧ Kp H H2 ∧ Fm.faults kids = Fm.faults (kids.drop i)) kids.length ⟨0, by omega, by omega, rfl, hkp, by simp⟩ ?_
      rintro m s0 H2 back ⟨i, hi, rfl, rfl, hkp2, hx⟩ hback
      simp only [Z29.b58]
      refine CondB.dec (fun hlt => ?_) fun hge => ?_
      · have hlt' : i < kids.length := by omega
        obtain ⟨r, k, hri, hki, hro⟩ := kid_at hl hlt'
        refine IA.of (hs.kp hkp2) (by omega) (by rw [Int.toNat_natCast]; exact hro) fun b' o' hld => ?_
        refine Ld.a3 hld r.1 r.2.1 r.2.2 rfl rfl ?_
        refine NewSto.own rfl fun p H3 hp hs3 hbox hk3 => ?_
        refine Ld.o3 hbox r.1 r.2.1 r.2.2 rfl ?_
        have hle := Fm.size_mem kids i k hki
        refine RunT.imp ?_ (ih (by omega) (by omega) ((hk i r k hri hki).kp (hkp2.trans hk3)))
        rintro H4 v ⟨rfl, hkp4⟩
        have hdr := Fm.faults_drop kids i k hki
        refine CondB.ne (fun hne => ⟨?_, (hkp2.trans hk3).trans hkp4⟩) fun he => ?_
        · rw [hx, hdr, if_pos hne]
        · refine hback (kids.length - (i + 1)) _ _ (by omega) ⟨i + 1, by omega, rfl, ?_, (hkp2.trans hk3).trans hkp4, by rw [hx, hdr, if_neg (by omega)]⟩
          exact tc rfl (tc rfl (tc ((wrap64 (by omega) (by omega)).trans (by omega)) rfl))
      · refine ⟨?_, hkp2⟩
        rw [hx, List.drop_eq_nil_of_le (by omega)]; rfl
    have p49 : ∀ (x : Bool), 1 ≤ op → op ≤ 7 → (kids.length : Int) = Fm.want op kids.length → x = decide (var < 0 ∨ Fm.most op < var) → Z29.p49 (fun H' r => r = Fm.fault (.mk op var kids) ∧ Kp H H') (.ptr (some (b, 0))) x H1 := by
      intro x h1 h2 h3 hx
      unfold Z29.p49
      refine CondB.mk (fun e => ⟨?_, hkp⟩) fun e => ?_
      · rw [e] at hx
        rw [hf0, if_neg (by omega), if_neg (by omega), if_pos (of_decide_eq_true hx.symm)]
      · rw [e] at hx
        refine FA.mk (Ld.oc ho rfl (LenS.of (hs.kp hkp) ?_))
        rw [List.length_map, hl]
        exact kidsOk _ (by rw [hf0, if_neg (by omega), if_neg (by omega), if_neg (of_decide_eq_false hx.symm)])
    have p43 : ∀ (x : Bool), 1 ≤ op → op ≤ 7 → x = decide ((kids.length : Int) ≠ Fm.want op kids.length) → Z29.p43 (fun H' r => r = Fm.fault (.mk op var kids) ∧ Kp H H') (.ptr (some (b, 0))) (Fm.most op) x H1 := by
      intro x h1 h2 hx
      unfold Z29.p43
      refine CondB.mk (fun e => ⟨?_, hkp⟩) fun e => ?_
      · rw [e] at hx
        rw [hf0, if_neg (by omega), if_pos (of_decide_eq_true hx.symm)]
      · rw [e] at hx
        have h3 := of_decide_eq_false hx.symm
        refine FA.mk (Ld.oi ho rfl (CondB.dec (fun hlt => p49 _ h1 h2 (by omega) ?_) fun hge => FA.mk (Ld.oi ho rfl (p49 _ h1 h2 (by omega) ?_))))
        · simp [hlt]
        · rw [Bool.eq_iff_iff]; simp; omega
    have p39 : ∀ (y : Int), 1 ≤ op → op ≤ 7 → (y = Fm.want op kids.length ∧ 0 ≤ y ∨ y < 0 ∧ Fm.want op kids.length = kids.length) → Z29.p39 (fun H' r => r = Fm.fault (.mk op var kids) ∧ Kp H H') (.ptr (some (b, 0))) y (Fm.most op) H1 := by
      intro y h1 h2 hy
      unfold Z29.p39
      refine CondB.dec (fun hge => ?_) fun hlt => p43 _ h1 h2 ?_
      · refine FA.mk (Ld.oc ho rfl (LenS.of (hs.kp hkp) (p43 _ h1 h2 ?_)))
        rw [List.length_map, hl, Bool.eq_iff_iff]
        simp only [bne_iff_ne, ne_eq, decide_eq_true_eq]
        rcases hy with ⟨h, _⟩ | ⟨h, _⟩
        · rw [h]
        · omega
      · rcases hy with ⟨_, h⟩ | ⟨_, h⟩
        · omega
        · simp [h]
    have hop : ∀ (y z : Int), op = z → z = 1 ∨ z = 2 ∨ z = 3 ∨ z = 6 ∨ z = 7 → y = Fm.want z kids.length → 0 ≤ y → ∀ mo, mo = Fm.most z → Z29.p39 (fun H' r => r = Fm.fault (.mk op var kids) ∧ Kp H H') (.ptr (some (b, 0))) y mo H1 := by
      rintro y z rfl hz hy h0 mo rfl
      exact p39 y (by omega) (by omega) (.inl ⟨hy, h0⟩)
    refine CondB.eq (fun e => hop 0 1 e (by omega) (by simp [Fm.want]) (by omega) _ (by simp [Fm.most])) fun e1 => ?_
    refine CondB.eq (fun e => hop 0 2 e (by omega) (by simp [Fm.want]) (by omega) _ (by simp [Fm.most])) fun e2 => ?_
    refine CondB.eq (fun e => hop 1 3 e (by omega) (by simp [Fm.want]) (by omega) _ (by simp [Fm.most])) fun e3 => ?_
    refine CondB.eq (fun e => hop 2 6 e (by omega) (by simp [Fm.want]) (by omega) _ (by simp [Fm.most])) fun e6 => ?_
    refine CondB.eq (fun e => hop 3 7 e (by omega) (by simp [Fm.want]) (by omega) _ (by simp [Fm.most])) fun e7 => ?_
    have hw : Fm.want op kids.length = kids.length := by simp [Fm.want, e1, e2, e3, e6, e7]
    have hmo : Fm.most op = 0 := by simp [Fm.most, e1, e2]
    refine CondB.eq (fun e => ?_) fun e4 => ?_
    · unfold Z29.p34
      have := p39 (-1) (by omega) (by omega) (.inr ⟨by omega, hw⟩)
      rw [hmo] at this
      exact CondB.pos rfl this
    · unfold Z29.p34
      refine CondB.eq (fun e => ?_) fun e5 => ⟨?_, hkp⟩
      · have := p39 (-1) (by omega) (by omega) (.inr ⟨by omega, hw⟩)
        rw [hmo] at this
        exact this
      · rw [hf0, if_pos (by omega)]
def boolFaultOf (f : Fm) : Int := if 300 < f.size then 3 else f.fault
theorem CheckBool_c {op var : Int} {s : AC} {f : Fm} {H : AHeap} (hmax : f.size < 4611686018427387904) (hf : FmAt H op var s f) :
    Fn.Z22 op var s H fun H' r => r = boolFaultOf f ∧ Kp H H' := by
  refine Z22.run ?_
  unfold Z22.W
  refine New.own fun b H1 hb hs1 ho hkp => ?_
  refine Ld.o3 ho op var s rfl ?_
  refine RunT.imp ?_ (pnodes_c f.size (Nat.le_refl _) hmax (by omega) (by omega) (hf.kp hkp))
  rintro H2 r ⟨rfl, hkp2⟩
  unfold boolFaultOf
  refine CondB.dec (fun h => ⟨by rw [if_pos (by omega)], hkp.trans hkp2⟩) fun h => ?_
  refine Ld.o3 (ho.kp hkp2) op var s rfl ?_
  refine RunT.imp ?_ (boolFault_c f.size (Nat.le_refl _) hmax (hf.kp (hkp.trans hkp2)))
  rintro H3 r ⟨rfl, hkp3⟩
  exact ⟨by rw [if_neg (by omega)], (hkp.trans hkp2).trans hkp3⟩
end Go.Proofs.Ytanaaabejeeakaa
end
section
namespace Go.Proofs.Ytanaaabejeeakaa
open Go.AI
def rho (i : Nat) : Nat → Bool := fun v => i.testBit (15 - v)
def boolRows (t : List Bool) : List (List AC) := t.map fun b => [.bool b]
end Go.Proofs.Ytanaaabejeeakaa
end
section
namespace Go.Proofs.Ytanaaabejeeakaa
open Go.AI
theorem boolRow_at {t : List Bool} {i : Nat} {b : Bool} (h : t[i]? = some b) : (boolRows t)[i]? = some [.bool b] := by
  unfold boolRows; rw [List.getElem?_map, h]; rfl
theorem boolRows_len (t : List Bool) : (boolRows t).length = t.length := by unfold boolRows; rw [List.length_map]
theorem uniform_c {s : AC} {t : List Bool} {H : AHeap} (hs : SlR H s 1 (boolRows t)) (hlen : t.length < 4611686018427387904) :
    Fn.Z10 s H fun H' r => H' = H ∧ r = t.all (· == t.headD false) := by
  refine Z10.run ?_
  unfold Z10.W Z10.l6
  refine LoopT.rule (fun m s0 H2 => ∃ i : Nat, 1 ≤ i ∧ m = t.length - i ∧ s0 = (s, (i : Int), ()) ∧ H2 = H ∧ ∀ j b, j < i → t[j]? = some b → b = t.headD false) (t.length - 1) ⟨1, by omega, rfl, rfl, rfl, fun j b hj hb => ?_⟩ ?_
  · have : j = 0 := by omega
    subst this
    cases t with
    | nil => simp at hb
    | cons x l => simp at hb; simp [hb]
  rintro m s0 H2 back ⟨i, hi, rfl, rfl, rfl, hall⟩ hback
  simp only [Z10.b6]
  refine LenS.of hs ?_
  rw [boolRows_len]
  refine CondB.dec (fun hlt => ?_) fun hge => ?_
  · have hi' : i < t.length := by omega
    obtain ⟨b, hb⟩ : ∃ b, t[i]? = some b := ⟨_, List.getElem?_eq_getElem hi'⟩
    obtain ⟨b0, hb0⟩ : ∃ b, t[0]? = some b := ⟨_, List.getElem?_eq_getElem (by omega)⟩
    have hd : t.headD false = b0 := by cases t with
      | nil => simp at hb0
      | cons x l => simp at hb0; simp [hb0]
    refine IA.of hs (by omega) (by rw [Int.toNat_natCast]; exact boolRow_at hb) fun b1 o1 hld => Ld.a1 hld b rfl rfl ?_
    refine IA.of hs (by omega) (by exact boolRow_at hb0) fun b1 o1 hld => Ld.a1 hld b0 rfl rfl ?_
    refine CondB.mk (fun hc => ⟨by trivial, ?_⟩) fun hc => ?_
    · symm
      rw [List.all_eq_false]
      refine ⟨b, List.mem_of_getElem? hb, ?_⟩
      rw [hd]
      simpa using hc
    · refine hback (t.length - (i + 1)) _ _ (by omega) ⟨i + 1, by omega, rfl, ?_, rfl, fun j b' hj hbj => ?_⟩
      · exact tc rfl (tc ((wrap64 (by omega) (by omega)).trans (by omega)) rfl)
      · by_cases hji : j = i
        · subst hji
          rw [hb] at hbj
          cases hbj
          rw [hd]
          simpa using hc
        · exact hall j b' (by omega) hbj
  · refine ⟨by trivial, ?_⟩
    symm
    rw [List.all_eq_true]
    intro b hb
    obtain ⟨j, hj⟩ := List.getElem?_of_mem hb
    have := (List.getElem?_eq_some_iff.1 hj).1
    rw [hall j b (by omega) hj]; simp
theorem alike_c {s s' : AC} {t t' : List Bool} {H : AHeap} (hs : SlR H s 1 (boolRows t)) (hs' : SlR H s' 1 (boolRows t')) (hlen : t.length < 4611686018427387904) :
    Fn.Z8 s s' H fun H' r => H' = H ∧ r = decide (t = t') := by
  refine Z8.run ?_
  unfold Z8.W
  refine LenS.of hs (LenS.of hs' ?_)
  rw [boolRows_len, boolRows_len]
  refine CondB.ne (fun hne => ⟨rfl, ?_⟩) fun he => ?_
  · symm; rw [decide_eq_false_iff_not]; rintro rfl; exact hne rfl
  have hl : t.length = t'.length := by omega
  unfold Z8.l14
  refine LoopT.rule (fun m s0 H2 => ∃ i : Nat, i ≤ t.length ∧ m = t.length - i ∧ s0 = (s, s', (i : Int), ()) ∧ H2 = H ∧ ∀ j, j < i → t[j]? = t'[j]?) t.length ⟨0, by omega, by omega, rfl, rfl, fun j h => by omega⟩ ?_
  rintro m s0 H2 back ⟨i, hi, rfl, rfl, rfl, hall⟩ hback
  simp only [Z8.b14]
  refine LenS.of hs ?_
  rw [boolRows_len]
  refine CondB.dec (fun hlt => ?_) fun hge => ?_
  · have hi' : i < t.length := by omega
    obtain ⟨b, hb⟩ : ∃ b, t[i]? = some b := ⟨_, List.getElem?_eq_getElem hi'⟩
    obtain ⟨b', hb'⟩ : ∃ b, t'[i]? = some b := ⟨_, List.getElem?_eq_getElem (by omega)⟩
    refine IA.of hs (by omega) (by rw [Int.toNat_natCast]; exact boolRow_at hb) fun b1 o1 hld => Ld.a1 hld b rfl rfl ?_
    refine IA.of hs' (by omega) (by rw [Int.toNat_natCast]; exact boolRow_at hb') fun b1 o1 hld => Ld.a1 hld b' rfl rfl ?_
    refine CondB.mk (fun hc => ⟨by trivial, ?_⟩) fun hc => ?_
    · symm
      rw [decide_eq_false_iff_not]
      rintro rfl
      rw [hb] at hb'
      cases hb'
      simp at hc
    · refine hback (t.length - (i + 1)) _ _ (by omega) ⟨i + 1, by omega, rfl, ?_, rfl, fun j hj => ?_⟩
      · exact tc rfl (tc rfl (tc ((wrap64 (by omega) (by omega)).trans (by omega)) rfl))
      · by_cases hji : j = i
        · subst hji
          rw [hb, hb']
          have : b = b' := by simpa using hc
          rw [this]
        · exact hall j (by omega)
  · refine ⟨by trivial, ?_⟩
    symm
    rw [decide_eq_true_iff]
    apply List.ext_getElem?
    intro j
    by_cases hj : j < i
    · exact hall j hj
    · rw [List.getElem?_eq_none (by omega), List.getElem?_eq_none (by omega)]
def nodeRows (l : List (Int × Int × Int)) : List (List AC) := l.map nodeCells
theorem nodeRow_at {l : List (Int × Int × Int)} {i : Nat} {p : Int × Int × Int} (h : l[i]? = some p) : (nodeRows l)[i]? = some (nodeCells p) := by
  unfold nodeRows; rw [List.getElem?_map, h]; rfl
theorem nodeRows_len (l : List (Int × Int × Int)) : (nodeRows l).length = l.length := by unfold nodeRows; rw [List.length_map]
theorem SameDiagram_c {s s' : AC} {l l' : List (Int × Int × Int)} {r r' : Int} {H : AHeap} (hs : SlR H s 3 (nodeRows l)) (hs' : SlR H s' 3 (nodeRows l')) (hlen : l.length < 4611686018427387904) :
    Fn.Z7 s r s' r' H fun H' q => q = decide (l = l' ∧ r = r') ∧ Kp H H' := by
  refine Z7.run ?_
  unfold Z7.W
  refine New.own fun b H1 hb hs1 ho hkp => New.own fun b' H2 hb' hs2 ho' hkp2 => ?_
  have ho1 := ho.kp hkp2
  have hk := hkp.trans hkp2
  refine FA.mk (Ld.oc ho1 rfl (LenS.of (hs.kp hk) (FA.mk (Ld.oc ho' rfl (LenS.of (hs'.kp hk) ?_)))))
  rw [nodeRows_len, nodeRows_len]
  unfold Z7.p5
  refine CondB.ne (fun hne => CondB.pos rfl ⟨?_, hk⟩) fun he => ?_
  · symm; rw [decide_eq_false_iff_not]; rintro ⟨rfl, _⟩; exact hne rfl
  have hl : l.length = l'.length := by omega
  refine FA.mk (Ld.oi ho1 rfl (FA.mk (Ld.oi ho' rfl (CondB.ne (fun hne => ⟨?_, hk⟩) fun hr => ?_))))
  · symm; rw [decide_eq_false_iff_not]; rintro ⟨_, h⟩; exact hne h
  subst hr
  unfold Z7.l14
  refine LoopT.rule (fun m s0 H3 => ∃ i : Nat, i ≤ l.length ∧ m = l.length - i ∧ s0 = (.ptr (some (b, 0)), .ptr (some (b', 0)), (i : Int), ()) ∧ H3 = H2 ∧ ∀ j, j < i → l[j]? = l'[j]?) l.length ⟨0, by omega, by omega, rfl, rfl, fun j h => by omega⟩ ?_
  rintro m s0 H3 back ⟨i, hi, rfl, rfl, rfl, hall⟩ hback
  simp only [Z7.b14]
  refine FA.mk (Ld.oc ho1 rfl (LenS.of (hs.kp hk) ?_))
  rw [nodeRows_len]
  refine CondB.dec (fun hlt => ?_) fun hge => ?_
  · have hi' : i < l.length := by omega
    obtain ⟨p, hp⟩ : ∃ b, l[i]? = some b := ⟨_, List.getElem?_eq_getElem hi'⟩
    obtain ⟨p', hp'⟩ : ∃ b, l'[i]? = some b := ⟨_, List.getElem?_eq_getElem (by omega)⟩
    refine FA.mk (Ld.oc ho1 rfl (IA.of (hs.kp hk) (by omega) (by rw [Int.toNat_natCast]; exact nodeRow_at hp) fun b1 o1 hld => Ld.a3 hld p.1 p.2.1 p.2.2 rfl rfl ?_))
    refine FA.mk (Ld.oc ho' rfl (IA.of (hs'.kp hk) (by omega) (by rw [Int.toNat_natCast]; exact nodeRow_at hp') fun b1 o1 hld => Ld.a3 hld p'.1 p'.2.1 p'.2.2 rfl rfl ?_))
    refine CondB.mk (fun hc => ⟨?_, hk⟩) fun hc => ?_
    · symm
      rw [decide_eq_false_iff_not]
      rintro ⟨rfl, _⟩
      rw [hp] at hp'
      cases hp'
      simp at hc
    · refine hback (l.length - (i + 1)) _ _ (by omega) ⟨i + 1, by omega, rfl, ?_, rfl, fun j hj => ?_⟩
      · exact tc rfl (tc rfl (tc ((wrap64 (by omega) (by omega)).trans (by omega)) rfl))
      · by_cases hji : j = i
        · subst hji
          rw [hp, hp']
          have : p = p' := by
            simp only [Bool.not_eq_false', decide_eq_true_eq, List.cons.injEq, and_true] at hc
            exact Prod.ext hc.1 (Prod.ext hc.2.1 hc.2.2)
          rw [this]
        · exact hall j (by omega)
  · refine ⟨?_, hk⟩
    symm
    rw [decide_eq_true_iff]
    refine ⟨?_, by trivial⟩
    apply List.ext_getElem?
    intro j
    by_cases hj : j < i
    · exact hall j hj
    · rw [List.getElem?_eq_none (by omega), List.getElem?_eq_none (by omega)]
end Go.Proofs.Ytanaaabejeeakaa
end
section
namespace Go.Proofs.Ytanaaabejeeakaa
open Go.AI Go.AI.DT
def TabAt (H : AHeap) (tb : Nat) (s : AC) (t : List Bool) : Prop := SlR H s 1 (boolRows t) ∧ ∀ b o z n cap, s = .sl (some (b, o)) z n cap → b = tb
theorem TabAt.keep {S : Nat → Prop} {H H' : AHeap} {tb : Nat} {s : AC} {t : List Bool} (h : TabAt H tb s t) (k : Keep S H H') (hn : ¬ S tb) : TabAt H' tb s t :=
  ⟨h.1.keep k fun b o n cap z e => by rw [h.2 b o z n cap e]; exact hn, h.2⟩
theorem TabAt.slice {H : AHeap} {tb : Nat} {s : AC} {t : List Bool} (h : TabAt H tb s t) (hne : t ≠ []) {lo hi : Option Int} {l u : Nat} (hl : lo.getD 0 = (l : Int)) (hu : hi.getD (t.length : Int) = (u : Int)) (h1 : l ≤ u) (h2 : u ≤ t.length) {k : AC → Prop}
    (q : ∀ r, TabAt H tb r ((t.drop l).take (u - l)) → k r) : Slc 1 s lo hi k := by
  obtain ⟨⟨a, z, cap, e, hr⟩, hb⟩ := h
  subst e
  obtain ⟨b0, l0, rfl⟩ : ∃ x l, t = x :: l := by cases t with
    | nil => exact absurd rfl hne
    | cons x l => exact ⟨x, l, rfl⟩
  obtain ⟨rfl, b, o, rfl, _⟩ := hr 0 [.bool b0] rfl
  have hlen : (boolRows (b0 :: l0)).length = (b0 :: l0).length := boolRows_len _
  refine Slc.mk (r := .sl (some (b, o + l * 1)) 1 (u - l) (cap.map (· - l))) ?_ (q _ ⟨⟨some (b, o + l * 1), 1, cap.map (· - l), ?_, fun i r hi => ?_⟩, fun b' o' z' n' cap' e => ?_⟩)
  · simp only [sliceA, hlen, hl, hu]
    rw [if_pos (by refine ⟨by simp, by omega, by omega, by omega⟩)]
    simp
  · rw [boolRows_len, List.length_take, List.length_drop, Nat.min_eq_left (by omega)]
  · unfold boolRows at hi
    rw [List.getElem?_map, List.getElem?_take] at hi
    split at hi
    · rw [List.getElem?_drop, ← List.getElem?_map] at hi
      obtain ⟨_, b', o', e, hld⟩ := hr _ _ hi
      cases e
      refine ⟨rfl, b, o + l * 1, rfl, ?_⟩
      rw [show o + l * 1 + i * 1 = o + (l + i) * 1 from by omega]
      exact hld
    · cases hi
  · cases e; exact hb _ _ _ _ _ rfl
structure WSx (H : AHeap) (tb : Nat) (ns ts : AC) (F Fn Ft : Nat → Prop) (st : List DT) (tabs : List (AC × List Bool)) : Prop where
  nodes : OwnS H ns 3 Fn (st.map fun x => nodeCells (row st x))
  tables : OwnS H ts 1 Ft (tabs.map fun e => [e.1])
  dis : ∀ x, Fn x → ¬ Ft x
  fF : ∀ x, F x ↔ Fn x ∨ Ft x
  len : tabs.length = st.length
  max : st.length ≤ 2000
  tab : ∀ e ∈ tabs, TabAt H tb e.1 e.2
  tr : ∀ (i : Nat) (e : AC × List Bool) (x : DT), tabs[i]? = some e → st[i]? = some x → ∃ k, k ≤ 16 ∧ e.2.length = 2 ^ k ∧ x = tree k e.2 ∧ x.top = 16 - k
  fin : Fin st
  ntb : ¬ F tb
  tlt : tb < H.size
def WS (H : AHeap) (tb : Nat) (ns ts : AC) (F : Nat → Prop) (st : List DT) (tabs : List (AC × List Bool)) : Prop := ∃ Fn Ft, WSx H tb ns ts F Fn Ft st tabs
theorem WSx.keep {S : Nat → Prop} {H H' : AHeap} {tb : Nat} {ns ts : AC} {F Fn Ft : Nat → Prop} {st : List DT} {tabs : List (AC × List Bool)} (h : WSx H tb ns ts F Fn Ft st tabs) (k : Keep S H H') (hs : ∀ x, S x → ¬ F x) (hn : ¬ S tb) : WSx H' tb ns ts F Fn Ft st tabs :=
  ⟨h.nodes.keep k fun x hx hf => hs x hx ((h.fF x).2 (.inl hf)), h.tables.keep k fun x hx hf => hs x hx ((h.fF x).2 (.inr hf)), h.dis, h.fF, h.len, h.max, fun e he => (h.tab e he).keep k hn, h.tr, h.fin, h.ntb, Nat.lt_of_lt_of_le h.tlt k.size⟩
theorem WS.keep {S : Nat → Prop} {H H' : AHeap} {tb : Nat} {ns ts : AC} {F : Nat → Prop} {st : List DT} {tabs : List (AC × List Bool)} (h : WS H tb ns ts F st tabs) (k : Keep S H H') (hs : ∀ x, S x → ¬ F x) (hn : ¬ S tb) : WS H' tb ns ts F st tabs := by
  obtain ⟨Fn, Ft, h⟩ := h
  exact ⟨Fn, Ft, h.keep k hs hn⟩
theorem WS.kp {H H' : AHeap} {tb : Nat} {ns ts : AC} {F : Nat → Prop} {st : List DT} {tabs : List (AC × List Bool)} (h : WS H tb ns ts F st tabs) (k : Kp H H') : WS H' tb ns ts F st tabs := h.keep k (fun _ hx => hx.elim) id
theorem WS.lt {H : AHeap} {tb : Nat} {ns ts : AC} {F : Nat → Prop} {st : List DT} {tabs : List (AC × List Bool)} (h : WS H tb ns ts F st tabs) : ∀ x, F x → x < H.size := by
  obtain ⟨Fn, Ft, h⟩ := h
  intro x hx
  rcases (h.fF x).1 hx with hx | hx
  · exact h.nodes.lt x hx
  · exact h.tables.lt x hx
def WPost (H : AHeap) (tb : Nat) (F : Nat → Prop) (st : List DT) (x : DT) (large : Bool) (H' : AHeap) (ns' ts' : AC) (l' : Bool) (i : Int) : Prop :=
  ∃ F' st' tabs', WS H' tb ns' ts' F' st' tabs' ∧ Keep F H H' ∧ (∀ y, F' y → F y ∨ H.size ≤ y) ∧ st <+: st' ∧ (l' = false → large = false ∧ st' = ser x st ∧ i = ref st' x) ∧ (l' = true → large = true ∨ 2000 < (ser x st).length)
theorem WSx.snoc {H H1 H2 : AHeap} {tb : Nat} {ns ts ns' ts' s : AC} {F Fn Ft Fn' Ft' : Nat → Prop} {st : List DT} {tabs : List (AC × List Bool)} {t : List Bool} {k : Nat} {l h : DT} (w : WSx H tb ns ts F Fn Ft st tabs)
    (hn : OwnS H2 ns' 3 Fn' ((st.map fun x => nodeCells (row st x)) ++ [nodeCells ((15 - k : Nat), ref st l, ref st h)])) (ht : OwnS H2 ts' 1 Ft' ((tabs.map fun e => [e.1]) ++ [[s]]))
    (hd : ∀ x, Fn' x → ¬ Ft' x) (hk : k < 16) (htl : t.length = 2 ^ (k + 1)) (htr : tree (k + 1) t = nd (15 - k) l h) (hnin : nd (15 - k) l h ∉ st) (hl : In st l) (hh : In st h) (hs : TabAt H2 tb s t) (hmax : st.length < 2000)
    (hall : ∀ e ∈ tabs, TabAt H2 tb e.1 e.2) (hntb : ¬ (Fn' tb ∨ Ft' tb)) (htlt : tb < H2.size) :
    WSx H2 tb ns' ts' (fun x => Fn' x ∨ Ft' x) Fn' Ft' (st ++ [nd (15 - k) l h]) (tabs ++ [(s, t)]) := by
  have hp : st <+: st ++ [nd (15 - k) l h] := List.prefix_append _ _
  have hro := (tree_ok (k + 1) t (by omega) htl).1
  rw [htr] at hro
  refine ⟨?_, by rw [List.map_append]; exact ht, hd, fun x => Iff.rfl, by simp [w.len], by simp; omega, ?_, ?_, w.fin.snoc hnin hl hh hro, hntb, htlt⟩
  · have e1 := congrArg (List.map nodeCells) (w.fin.row_mono hp)
    have e2 : st.map (fun x => nodeCells (row (st ++ [nd (15 - k) l h]) x)) = st.map fun x => nodeCells (row st x) := by
      simpa [List.map_map, Function.comp_def] using e1
    rw [List.map_append, e2]
    simpa only [List.map_cons, List.map_nil, row, ref_mono hl hp, ref_mono hh hp] using hn
  · intro e he
    rcases List.mem_append.1 he with he | he
    · exact hall e he
    · simp at he; subst he; exact hs
  · intro i e x he hx
    by_cases hi : i < st.length
    · rw [List.getElem?_append_left (by rw [w.len]; exact hi)] at he
      rw [List.getElem?_append_left hi] at hx
      exact w.tr i e x he hx
    · rw [List.getElem?_append_right (by rw [w.len]; omega), w.len] at he
      rw [List.getElem?_append_right (by omega)] at hx
      have hi0 : i - st.length = 0 := by
        rcases Nat.eq_zero_or_pos (i - st.length) with h0 | h0
        · exact h0
        · rw [List.getElem?_eq_none (by simp; omega)] at hx; cases hx
      rw [hi0] at he hx
      simp at he hx
      subst he hx
      exact ⟨k + 1, by omega, htl, htr.symm, by simp only [top]; omega⟩
end Go.Proofs.Ytanaaabejeeakaa
end
section
namespace Go.Proofs.Ytanaaabejeeakaa
open Go.AI Go.AI.DT
theorem walk_c : ∀ (k : Nat) {H : AHeap} {tb : Nat} {ns ts s : AC} {large : Bool} {F : Nat → Prop} {st : List DT} {tabs : List (AC × List Bool)} {t : List Bool}, k ≤ 16 → WS H tb ns ts F st tabs → TabAt H tb s t → t.length = 2 ^ k →
    Fn.Z11 ns ts large s ((16 - k : Nat) : Int) H fun H' ns' ts' l' i => WPost H tb F st (tree k t) large H' ns' ts' l' i := by
  intro k
  induction k using Nat.strongRecOn with
  | _ k ih =>
  intro H tb ns ts s large F st tabs t hk hw hs ht
  have hpk : 2 ^ k ≤ 2 ^ 16 := Nat.pow_le_pow_right (by omega) hk
  have hpos : 0 < 2 ^ k := Nat.pow_pos (by omega)
  refine Z11.run ?_
  unfold Z11.W
  refine New.own fun mb H1 hmb hs1 hom1 hk1 => New.own fun rb H2 hrb hs2 hor hk2 => ?_
  have hom := hom1.kp hk2
  have hk12 := hk1.trans hk2
  have hw2 := hw.kp hk12
  have hs2' := hs.keep hk12 id
  have hlt := hw.lt
  have hmbF : ¬ F mb := fun h => by have := hlt _ h; omega
  have hrbF : ¬ F rb := fun h => by have := hlt _ h; omega
  have hmr : mb ≠ rb := by omega
  refine RunT.imp ?_ (uniform_c hs2'.1 (by omega))
  rintro H3 u ⟨he3, rfl⟩
  obtain rfl : H2 = H3 := he3.symm
  -- the end of every easy way: what is in the first box goes out by the second one
  have out : ∀ (H3 : AHeap) (F' : Nat → Prop) (st' : List DT) (tabs' : List (AC × List Bool)) (ns' ts' : AC) (l' : Bool) (i : Int), Own H3 mb [ns', ts', .bool l'] → (∃ cs, Own H3 rb cs ∧ cs.length = 3) → WS H3 tb ns' ts' F' st' tabs' → Keep F H H3 → (∀ y, F' y → F y ∨ H.size ≤ y) → ¬ F' rb →
      st <+: st' → (l' = false → large = false ∧ st' = ser (tree k t) st ∧ i = ref st' (tree k t)) → (l' = true → large = true ∨ 2000 < (ser (tree k t) st).length) →
      Ld [.ac, .ac, .bool] H3 (.ptr (some (mb, 0))) fun (v1 : AC) (v2 : AC) (v3 : Bool) => Sto H3 (.ptr (some (rb, 0))) [v1, v2, .bool v3] fun H4 => Ld [.ac, .ac, .bool] H4 (.ptr (some (rb, 0))) fun (r0 : AC) (r1 : AC) (r2 : Bool) => WPost H tb F st (tree k t) large H4 r0 r1 r2 i := by
    rintro H3 F' st' tabs' ns' ts' l' i ho ⟨cs, hor3, hcl⟩ hw3 hkp hfr hrbF' hpre hf ht'
    refine Ld.o3 ho ns' ts' l' rfl (Sto.own hor3 (by simp [hcl]) fun H4 hor4 hk4 hs4 => ?_)
    have e : cs.take 0 ++ [ns', ts', .bool l'] ++ cs.drop (0 + [ns', ts', AC.bool l'].length) = [ns', ts', .bool l'] := by simp [hcl]
    rw [e] at hor4
    refine Ld.o3 hor4 ns' ts' l' rfl ⟨F', st', tabs', hw3.keep hk4 (fun x hx hf => hrbF' (hx ▸ hf)) (fun hx => ?_), ?_, hfr, hpre, hf, ht'⟩
    · obtain ⟨_, _, hx3⟩ := hw
      have := hx3.tlt; omega
    · refine Keep.trans hkp hk4 fun x hx e => ?_
      omega
  refine CondB.mk (fun hu => ?_) fun hu => ?_
  · -- a constant
    obtain ⟨b0, l0, rfl⟩ : ∃ x l, t = x :: l := by cases t with
      | nil => simp at ht; omega
      | cons x l => exact ⟨x, l, rfl⟩
    have htr : tree k (b0 :: l0) = leaf b0 := (tree_leaf k _ b0 ht).2 fun x hx => by
      rw [List.all_eq_true] at hu
      simpa using hu x hx
    refine IA.of hs2'.1 (by omega) (by exact boolRow_at (i := 0) rfl) fun b1 o1 hld => Ld.a1 hld b0 rfl rfl ?_
    refine CondB.mk (fun hb => ?_) fun hb => ?_
    · exact out _ F st tabs ns ts large _ hom ⟨_, hor, rfl⟩ hw2 (hk12.mono fun _ _ h => h.elim) (fun y h => .inl h) hrbF List.prefix_rfl (fun e => ⟨e, by rw [htr]; rfl, by rw [htr, hb]; rfl⟩) fun e => .inl e
    · exact out _ F st tabs ns ts large _ hom ⟨_, hor, rfl⟩ hw2 (hk12.mono fun _ _ h => h.elim) (fun y h => .inl h) hrbF List.prefix_rfl (fun e => ⟨e, by rw [htr]; rfl, by rw [htr, hb]; rfl⟩) fun e => .inl e
  -- not a constant
  have hnl : ∀ b, tree k t ≠ leaf b := by
    intro b e
    have hall := (tree_leaf k t b ht).1 e
    rw [List.all_eq_false] at hu
    obtain ⟨x, hx, hxn⟩ := hu
    have h0 : t.headD false = b := by cases t with
      | nil => cases hx
      | cons a l => exact hall a (List.mem_cons_self ..)
    rw [h0, hall x hx] at hxn
    simp at hxn
  refine LenS.of hs2'.1 (NZ.mk (by omega) ?_)
  rw [boolRows_len, tdiv_nat]
  have hw1 : IntKind.wrap .i64 (((t.length / 2 : Nat) : Int)) = ((t.length / 2 : Nat) : Int) := wrap_nat (by omega)
  rw [hw1]
  unfold Z11.l22
  refine LoopT.rule (fun m s0 H3 => ∃ (j : Nat) (s' : AC) (t' : List Bool), j < k ∧ m = j ∧ s0 = (s', ((15 - j : Nat) : Int), .ptr (some (mb, 0)), .ptr (some (rb, 0)), ((2 ^ j : Nat) : Int), ()) ∧ H3 = H2 ∧ TabAt H2 tb s' t' ∧ t'.length = 2 ^ (j + 1) ∧ tree (j + 1) t' = tree k t) (k - 1) ?_ ?_
  · obtain ⟨j, rfl⟩ : ∃ j, k = j + 1 := by
      cases k with
      | zero => obtain ⟨b, hb⟩ : ∃ b, tree 0 t = leaf b := ⟨_, rfl⟩; exact absurd hb (hnl b)
      | succ j => exact ⟨j, rfl⟩
    refine ⟨j, s, t, by omega, by omega, ?_, rfl, hs2', ht, rfl⟩
    have hp2 : t.length / 2 = 2 ^ j := by rw [ht, Nat.pow_succ]; omega
    rw [hp2]
    exact tc rfl (tc (show ((16 - (j + 1) : Nat) : Int) = ((15 - j : Nat) : Int) by omega) rfl)
  rintro m s0 H3 back ⟨j, s', t', hj, rfl, rfl, he3, hs', ht', htr⟩ hback
  obtain rfl : H2 = H3 := he3.symm
  simp only [Z11.b22]
  have hpj : 2 ^ (m + 1) = 2 ^ m + 2 ^ m := by rw [Nat.pow_succ]; omega
  have hpj0 : 0 < 2 ^ m := Nat.pow_pos (by omega)
  have hpj16 : 2 ^ m ≤ 2 ^ 15 := Nat.pow_le_pow_right (by omega) (by omega)
  have hne : t' ≠ [] := by intro e; rw [e] at ht'; simp at ht'; omega
  refine hs'.slice hne (l := 0) (u := 2 ^ m) rfl rfl (by omega) (by omega) fun s1 hs1' => hs'.slice hne (l := 2 ^ m) (u := t'.length) rfl rfl (by omega) (by omega) fun s2 hs2'' => ?_
  rw [List.drop_zero, Nat.sub_zero] at hs1'
  rw [show (t'.drop (2 ^ m)).take (t'.length - 2 ^ m) = t'.drop (2 ^ m) from List.take_of_length_le (by rw [List.length_drop]; omega)] at hs2''
  refine RunT.imp ?_ (alike_c hs1'.1 hs2''.1 (by rw [List.length_take]; omega))
  rintro H3 q ⟨he3, rfl⟩
  obtain rfl : H2 = H3 := he3.symm
  have hl1 : (t'.take (2 ^ m)).length = 2 ^ m := by rw [List.length_take]; omega
  have hl2 : (t'.drop (2 ^ m)).length = 2 ^ m := by rw [List.length_drop]; omega
  refine CondB.dec (fun he => ?_) fun hne2 => ?_
  · -- both halves are alike
    have hmk : tree (m + 1) t' = tree m (t'.take (2 ^ m)) := by simp only [tree, DT.mk]; rw [← he, if_pos rfl]
    cases m with
    | zero => exact absurd (htr.symm.trans hmk) (hnl _)
    | succ j =>
      refine hs'.slice hne (l := 0) (u := 2 ^ (j + 1)) rfl rfl (by omega) (by omega) fun s3 hs3 => ?_
      rw [List.drop_zero, Nat.sub_zero] at hs3
      refine LenS.of hs3.1 (NZ.mk (by omega) ?_)
      rw [boolRows_len, tdiv_nat, hl1]
      have hp2 : 2 ^ (j + 1) / 2 = 2 ^ j := by rw [Nat.pow_succ]; omega
      rw [hp2]
      refine hback j _ _ (by omega) ⟨j, s3, t'.take (2 ^ (j + 1)), by omega, rfl, ?_, rfl, hs3, hl1, hmk.symm.trans htr⟩
      exact tc rfl (tc ((wrap64 (by omega) (by omega)).trans (by omega)) (tc rfl (tc rfl (tc (wrap_nat (by have : 2 ^ j ≤ 2 ^ 15 := Nat.pow_le_pow_right (by omega) (by omega); omega)) rfl))))
  -- a node
  obtain ⟨xl, hxl⟩ : ∃ x, tree m (t'.take (2 ^ m)) = x := ⟨_, rfl⟩
  obtain ⟨xh, hxh⟩ : ∃ x, tree m (t'.drop (2 ^ m)) = x := ⟨_, rfl⟩
  have hxne : xl ≠ xh := fun e => hne2 (tree_inj m _ _ (by omega) hl1 hl2 (by rw [hxl, hxh, e]))
  have htn : tree (m + 1) t' = nd (15 - m) xl xh := by simp only [tree, DT.mk]; rw [hxl, hxh, if_neg hxne]
  have hxn : tree k t = nd (15 - m) xl xh := htr.symm.trans htn
  rw [hxn]
  have out' := out
  rw [hxn] at out'
  have hro : (nd (15 - m) xl xh).RO := by rw [← htn]; exact (tree_ok (m + 1) t' (by omega) ht').1
  obtain ⟨Fn, Ft, wx⟩ := hw2
  unfold Z11.l39
  refine LoopT.rule (fun mm s0 H3 => ∃ i : Nat, i ≤ st.length ∧ mm = st.length - i ∧ s0 = (s', ((15 - m : Nat) : Int), .ptr (some (mb, 0)), .ptr (some (rb, 0)), ((2 ^ m : Nat) : Int), (i : Int), ()) ∧ H3 = H2 ∧ ∀ j, j < i → st[j]? ≠ some (nd (15 - m) xl xh)) st.length ⟨0, by omega, by omega, rfl, rfl, fun j h => by omega⟩ ?_
  rintro mm s0 H3 back2 ⟨i, hi, rfl, rfl, he3, hno⟩ hback2
  obtain rfl : H2 = H3 := he3.symm
  simp only [Z11.b39]
  refine FA.mk (Ld.oc hom rfl (LenS.of wx.nodes.slr ?_))
  rw [List.length_map]
  have hmax := wx.max
  refine CondB.dec (fun hlt2 => ?_) fun hge2 => ?_
  · -- the search
    have hi' : i < st.length := by omega
    obtain ⟨y, hy⟩ : ∃ y, st[i]? = some y := ⟨_, List.getElem?_eq_getElem hi'⟩
    obtain ⟨e, he⟩ : ∃ e, tabs[i]? = some e := ⟨_, List.getElem?_eq_getElem (by rw [wx.len]; exact hi')⟩
    obtain ⟨kk, hkk, hel, hye, hyt⟩ := wx.tr i e y he hy
    obtain ⟨v, l, h, rfl, _, _, hyro⟩ := wx.fin.parts y (List.mem_of_getElem? hy)
    simp only [top] at hyt
    have next : st[i]? ≠ some (nd (15 - m) xl xh) → Z11.p50 (fun H' ns' ts' l' i => WPost H tb F st (nd (15 - m) xl xh) large H' ns' ts' l' i) back2 s' ((15 - m : Nat) : Int) (.ptr (some (mb, 0))) (.ptr (some (rb, 0))) ((2 ^ m : Nat) : Int) (i : Int) false H2 := by
      intro hn
      unfold Z11.p50
      refine CondB.neg rfl (hback2 (st.length - (i + 1)) _ _ (by omega) ⟨i + 1, by omega, rfl, ?_, rfl, fun j hj => ?_⟩)
      · exact tc rfl (tc rfl (tc rfl (tc rfl (tc rfl (tc ((wrap64 (by omega) (by omega)).trans (by omega)) rfl)))))
      · by_cases hji : j = i
        · rw [hji]; exact hn
        · exact hno j (by omega)
    refine FA.mk (Ld.oc hom rfl (IA.of wx.nodes.slr (by omega) (r := nodeCells (row st (nd v l h))) (by simp [hy]) fun b1 o1 hld => FA.mk (Ld.ei hld rfl ?_)))
    refine CondB.eq (fun hv => ?_) fun hv => next ?_
    · have hve : v = 15 - m := by simp only [row] at hv; omega
      have hkm : kk = m + 1 := by have := hyro.1; omega
      subst hkm
      refine FA.mk (Ld.oc hom rfl (IA.of wx.tables.slr (by omega) (r := [e.1]) (by simp [he]) fun b2 o2 hld2 => Ld.a1 hld2 e.1 rfl rfl ?_))
      refine RunT.imp ?_ (alike_c (wx.tab e (List.mem_of_getElem? he)).1 hs'.1 (by rw [hel]; omega))
      rintro H3 q ⟨he3, rfl⟩
      obtain rfl : H2 = H3 := he3.symm
      by_cases hee : e.2 = t'
      · have hyx : nd v l h = nd (15 - m) xl xh := by rw [hye, hee, htn]
        rw [show decide (e.2 = t') = true from by simpa using hee]
        unfold Z11.p50
        refine CondB.pos rfl ?_
        have hmem : nd (15 - m) xl xh ∈ st := by rw [← hyx]; exact List.mem_of_getElem? hy
        have hser : ser (nd (15 - m) xl xh) st = st := by simp only [ser]; rw [if_pos hmem]
        refine out' _ F st tabs ns ts large _ hom ⟨_, hor, rfl⟩ ⟨Fn, Ft, wx⟩ (hk12.mono fun _ _ h => h.elim) (fun y h => .inl h) hrbF List.prefix_rfl (fun e => ⟨e, hser.symm, ?_⟩) fun e => .inl e
        rw [ref_ge, ← hyx]
        have hidx : st.idxOf (nd v l h) = i := by
          have hg : st[i] = nd v l h := by rw [List.getElem?_eq_getElem hi'] at hy; simpa using hy
          rw [← hg]
          exact wx.fin.nodup.idxOf_getElem i hi'
        rw [hidx]
      · rw [show decide (e.2 = t') = false from by simpa using hee]
        refine next fun h => ?_
        rw [hy] at h
        simp only [Option.some.injEq] at h
        rw [hye, ← htn] at h
        exact hee (tree_inj (m + 1) _ _ (by omega) hel ht' h)
    · intro h
      rw [hy] at h
      simp only [Option.some.injEq, nd.injEq] at h
      simp only [row] at hv
      exact hv (by rw [h.1])
  · -- it is new
    have hnin : nd (15 - m) xl xh ∉ st := by
      intro h
      obtain ⟨j, hj⟩ := List.getElem?_of_mem h
      have := (List.getElem?_eq_some_iff.1 hj).1
      exact hno j (by omega) hj
    have hsz2 : H2.size = H.size + 2 := by omega
    refine Ld.o3 hom ns ts large rfl ?_
    refine hs'.slice hne (l := 0) (u := 2 ^ m) rfl rfl (by omega) (by omega) fun sl hsl => ?_
    rw [List.drop_zero, Nat.sub_zero] at hsl
    have hv1 : IntKind.wrap .i64 (((15 - m : Nat) : Int) + 1) = ((16 - m : Nat) : Int) := (wrap64 (by omega) (by omega)).trans (by omega)
    rw [hv1]
    refine RunT.imp ?_ (ih m (by omega) (by omega) ⟨Fn, Ft, wx⟩ hsl hl1)
    rintro H4 ns4 ts4 l4 i4 ⟨F4, st4, tabs4, w4, kp4, fr4, pre4, f4, t4⟩
    rw [hxl] at f4 t4
    have hF4mb : ¬ F4 mb := fun h => by rcases fr4 _ h with h | h; exact hmbF h; omega
    have hF4rb : ¬ F4 rb := fun h => by rcases fr4 _ h with h | h; exact hrbF h; omega
    have htb2 : tb < H2.size := wx.tlt
    have hFtb : ¬ F tb := wx.ntb
    have hF4tb : ¬ F4 tb := by obtain ⟨_, _, h⟩ := w4; exact h.ntb
    have htbmb : tb ≠ mb := by obtain ⟨_, _, h⟩ := hw; have := h.tlt; omega
    have htbrb : tb ≠ rb := by obtain ⟨_, _, h⟩ := hw; have := h.tlt; omega
    refine Sto.own (hom.keep kp4 hmbF) (Nat.le_refl 3) fun H5 hom5 hk5 hs5 => ?_
    simp only [List.take_zero, List.nil_append, List.cons_append, List.length_cons, List.length_nil, Nat.zero_add, List.drop_succ_cons, List.drop_zero, List.drop_nil, List.append_nil] at hom5
    have hor5 := (hor.keep kp4 hrbF).keep hk5 (fun e => hmr e.symm)
    have w5 := w4.keep hk5 (fun x e h => hF4mb (e ▸ h)) htbmb
    refine Ld.o3 hom5 ns4 ts4 l4 rfl ?_
    have hs5' : TabAt H5 tb s' t' := (hs'.keep kp4 hFtb).keep hk5 htbmb
    refine hs5'.slice hne (l := 2 ^ m) (u := t'.length) rfl rfl (by omega) (by omega) fun sh hsh => ?_
    rw [show (t'.drop (2 ^ m)).take (t'.length - 2 ^ m) = t'.drop (2 ^ m) from List.take_of_length_le (by rw [List.length_drop]; omega)] at hsh
    refine RunT.imp ?_ (ih m (by omega) (by omega) w5 hsh hl2)
    rintro H6 ns6 ts6 l6 i6 ⟨F6, st6, tabs6, w6, kp6, fr6, pre6, f6, t6⟩
    rw [hxh] at f6 t6
    have hsz4 : H4.size ≤ H5.size := by omega
    have hsz24 := kp4.size
    have hF6mb : ¬ F6 mb := fun h => by rcases fr6 _ h with h | h; exact hF4mb h; omega
    have hF6rb : ¬ F6 rb := fun h => by rcases fr6 _ h with h | h; exact hF4rb h; omega
    have hF6tb : ¬ F6 tb := by obtain ⟨_, _, h⟩ := w6; exact h.ntb
    refine Sto.own (hom5.keep kp6 hF4mb) (Nat.le_refl 3) fun H7 hom7 hk7 hs7 => ?_
    simp only [List.take_zero, List.nil_append, List.cons_append, List.length_cons, List.length_nil, Nat.zero_add, List.drop_succ_cons, List.drop_zero, List.drop_nil, List.append_nil] at hom7
    have hor7 := (hor5.keep kp6 hF4rb).keep hk7 (fun e => hmr e.symm)
    have w7 := w6.keep hk7 (fun x e h => hF6mb (e ▸ h)) htbmb
    have hs7' : TabAt H7 tb s' t' := (hs5'.keep kp6 hF4tb).keep hk7 htbmb
    have hsz56 := kp6.size
    -- all that was there ahead of the call, but F, is asx it was
    have kpAll : Keep F H H7 := by
      have hFl : ∀ x, F4 x → x < H.size → F x := fun x h hx => by
        rcases fr4 x h with h | h
        · exact h
        · omega
      exact Keep.trans (Keep.trans (Keep.trans (Kp.andThen hk12 kp4) hk5 fun x hx e => by have e' : x = mb := e; omega) kp6 fun x hx h => hFl x h hx) hk7 fun x hx e => by have e' : x = mb := e; omega
    have frAll : ∀ y, F6 y → F y ∨ H.size ≤ y := fun y h => by
      rcases fr6 y h with h | h
      · rcases fr4 y h with h | h
        · exact .inl h
        · exact .inr (by omega)
      · exact .inr (by omega)
    have preAll : st <+: st6 := pre4.trans pre6
    have hser : ser (nd (15 - m) xl xh) st = ser xh (ser xl st) ++ [nd (15 - m) xl xh] := by simp only [ser]; rw [if_neg hnin]
    have hserl : (ser xl st).length ≤ (ser xh (ser xl st)).length := (ser_prefix xh _).length_le
    have hlarge6 : l6 = true → large = true ∨ 2000 < (ser (nd (15 - m) xl xh) st).length := by
      intro h
      rw [hser, List.length_append]
      cases h4 : l4 with
      | true => rcases t4 h4 with h | h
                · exact .inl h
                · exact .inr (by omega)
      | false =>
        obtain ⟨_, e4, _⟩ := f4 h4
        rcases t6 h with h | h
        · rw [h4] at h; cases h
        · rw [e4] at h; exact .inr (by omega)
    have w7c := w7
    obtain ⟨Fn7, Ft7, wx7⟩ := w7
    -- too large
    have big : (l6 = true ∨ st6.length = 2000) → Z11.p67 (fun H' ns' ts' l' i => WPost H tb F st (nd (15 - m) xl xh) large H' ns' ts' l' i) s' ((15 - m : Nat) : Int) (.ptr (some (mb, 0))) (.ptr (some (rb, 0))) i4 i6 true H7 := by
      intro hb
      unfold Z11.p67
      refine CondB.pos rfl (FA.mk (Sto.own hom7 (Nat.le_refl 3) fun H8 hom8 hk8 hs8 => ?_))
      simp only [List.length_cons, List.length_nil] at hom8
      refine out' H8 F6 st6 tabs6 ns6 ts6 true 0 hom8 ⟨_, hor7.keep hk8 (fun e => hmr e.symm), rfl⟩ (w7c.keep hk8 (fun x e h => hF6mb (e ▸ h)) htbmb) (Keep.trans kpAll hk8 fun x hx e => by omega) frAll hF6rb preAll (fun e => by cases e) fun _ => ?_
      rcases hb with h | h
      · exact hlarge6 h
      · by_cases h6 : l6 = true
        · exact hlarge6 h6
        · have h6' : l6 = false := Bool.eq_false_iff.2 h6
          obtain ⟨h4', e6, _⟩ := f6 h6'
          obtain ⟨_, e4, _⟩ := f4 h4'
          rw [e4] at e6
          refine .inr ?_
          rw [hser, List.length_append, ← e6, h]; simp
    refine FA.mk (Ld.ob hom7 rfl (CondB.mk (fun h6 => big (.inl h6)) fun h6 => ?_))
    obtain ⟨h4, e6, hi6⟩ := f6 h6
    obtain ⟨hlg, e4, hi4⟩ := f4 h4
    refine FA.mk (Ld.oc hom7 rfl (LenS.of wx7.nodes.slr ?_))
    rw [List.length_map]
    have hmax6 := wx7.max
    by_cases hfull : st6.length = 2000
    · rw [show (((st6.length : Nat) : Int) == 2000) = true from by simp [hfull]]
      exact big (.inr hfull)
    rw [show (((st6.length : Nat) : Int) == 2000) = false from by simp; omega]
    unfold Z11.p67
    refine CondB.neg rfl (FA.mk (Ld.oc hom7 rfl ?_))
    refine NewS.own fun p H8 hp hs8 hbox8 hk8 => ?_
    have hin4 : In st4 xl := by rw [e4]; exact ser_in _ _
    have hinl : In st6 xl := hin4.mono pre6
    have hinh : In st6 xh := by rw [e6]; exact ser_in _ _
    have hrl : i4 = ref st6 xl := by rw [hi4, ref_mono hin4 pre6]
    have hrh : i6 = ref st6 xh := hi6
    have hnin6 : nd (15 - m) xl xh ∉ st6 := by rw [e6, e4]; exact ser_new hnin
    refine App.own (wx7.nodes.kp hk8) (r := nodeCells (((15 - m : Nat) : Int), i4, i6)) ⟨p, _, rfl, hbox8.all⟩ rfl (by simp; omega) (by simp; omega) fun ns9 H9 hns9 hk9 hs9 => ?_
    have hFn : ∀ x, Fn7 x → F6 x := fun x h => (wx7.fF x).2 (.inl h)
    have hFt : ∀ x, Ft7 x → F6 x := fun x h => (wx7.fF x).2 (.inr h)
    have hltF : ∀ x, F6 x → x < H7.size := w7c.lt
    have hom9 := (hom7.kp hk8).keep hk9 (fun h => hF6mb (hFn _ h))
    have hor9 := (hor7.kp hk8).keep hk9 (fun h => hF6rb (hFn _ h))
    have hts9 := (wx7.tables.kp hk8).keep hk9 (fun x h h' => wx7.dis x h h')
    have hs9' : TabAt H9 tb s' t' := (hs7'.keep hk8 id).keep hk9 (fun h => hF6tb (hFn _ h))
    have htab9 : ∀ e ∈ tabs6, TabAt H9 tb e.1 e.2 := fun e he => ((wx7.tab e he).keep hk8 id).keep hk9 (fun h => hF6tb (hFn _ h))
    refine FA.mk (Sto.own hom9 (show 0 + 0 + 1 ≤ 3 by omega) fun H10 hom10 hk10 hs10 => ?_)
    simp only [List.take_zero, List.nil_append, List.cons_append, List.length_cons, List.length_nil, Nat.zero_add, Nat.add_zero, List.drop_succ_cons, List.drop_zero] at hom10
    have hmbl : mb < H7.size := hom7.lt
    have hrbl : rb < H7.size := hor7.lt
    refine FA.mk (Ld.oc hom10 rfl ?_)
    refine NewS.own fun p2 H11 hp2 hs11 hbox11 hk11 => ?_
    have hts11 : OwnS H11 ts6 1 Ft7 (tabs6.map fun e => [e.1]) := (hts9.keep hk10 (fun x e h => hF6mb (hFt _ (e ▸ h)))).kp hk11
    refine App.own hts11 (r := [s']) ⟨p2, _, rfl, hbox11.all⟩ rfl (by rw [List.length_map, wx7.len]; omega) (by rw [List.length_map, wx7.len]; omega) fun ts12 H12 hts12 hk12' hs12 => ?_
    have hom12 := (hom10.kp hk11).keep hk12' (fun h => hF6mb (hFt _ h))
    have hor12 := ((hor9.keep hk10 (fun e => hmr e.symm)).kp hk11).keep hk12' (fun h => hF6rb (hFt _ h))
    have hns12 : OwnS H12 ns9 3 (fun y => Fn7 y ∨ y = H8.size) _ := ((hns9.keep hk10 (fun x e h => by subst e; rcases h with h | h; exact hF6mb (hFn _ h); omega)).kp hk11).keep hk12' (fun x h h' => by
      rcases h' with h' | h'
      · exact wx7.dis x h' h
      · have := hltF _ (hFt _ h); omega)
    refine FA.mk (Sto.own hom12 (show 0 + 1 + 1 ≤ 3 by omega) fun H13 hom13 hk13 hs13 => ?_)
    simp only [List.length_cons, List.length_nil] at hom13
    have hns13 := hns12.keep hk13 (fun x e h => by subst e; rcases h with h | h; exact hF6mb (hFn _ h); omega)
    have hts13 := hts12.keep hk13 (fun x e h => by subst e; rcases h with h | h; exact hF6mb (hFt _ h); omega)
    have hor13 := hor12.keep hk13 (fun e => hmr e.symm)
    have hs13' : TabAt H13 tb s' t' := (((hs9'.keep hk10 htbmb).keep hk11 id).keep hk12' (fun h => hF6tb (hFt _ h))).keep hk13 htbmb
    have htab13 : ∀ e ∈ tabs6, TabAt H13 tb e.1 e.2 := fun e he => (((((htab9 e he).keep hk10 htbmb).keep hk11 id).keep hk12' (fun h => hF6tb (hFt _ h))).keep hk13 htbmb)
    have htbl : tb < H7.size := wx7.tlt
    rw [hrl, hrh] at hns13
    have wx13 := wx7.snoc (H1 := H7) (s := s') (t := t') (k := m) hns13 hts13 (fun x h h' => by
      rcases h with h | h
      · rcases h' with h' | h'
        · exact wx7.dis x h h'
        · have := hltF _ (hFn _ h); omega
      · rcases h' with h' | h'
        · have := hltF _ (hFt _ h'); omega
        · omega) (by omega) ht' htn hnin6 hinl hinh hs13' (by omega) htab13 (by
      rintro ((h | h) | (h | h))
      · exact hF6tb (hFn _ h)
      · omega
      · exact hF6tb (hFt _ h)
      · omega) (by omega)
    refine Ld.o3 hom13 ns9 ts12 l6 rfl (FA.mk (Ld.oc hom13 rfl (LenS.of hns13.slr ?_)))
    refine Sto.own hor13 (Nat.le_refl 3) fun H14 hor14 hk14 hs14 => ?_
    refine ⟨Same1.mk (((hom13.keep hk14 hmr).cell rfl).trans (hom13.cell rfl).symm), Ld.o3 hor14 ns9 ts12 l6 rfl ?_⟩
    have hrbF' : ¬ ((Fn7 rb ∨ rb = H8.size) ∨ (Ft7 rb ∨ rb = H11.size)) := by
      rintro ((h | h) | (h | h))
      · exact hF6rb (hFn _ h)
      · omega
      · exact hF6rb (hFt _ h)
      · omega
    have hws13 : WS H13 tb ns9 ts12 (fun x => (Fn7 x ∨ x = H8.size) ∨ (Ft7 x ∨ x = H11.size)) (st6 ++ [nd (15 - m) xl xh]) (tabs6 ++ [(s', t')]) := ⟨_, _, wx13⟩
    refine ⟨_, _, _, hws13.keep hk14 (fun x e h => hrbF' (by subst e; exact h)) htbrb, ?_, ?_, preAll.trans (List.prefix_append _ _), fun _ => ⟨hlg, ?_, ?_⟩, fun e => ?_⟩
    · have hFl : ∀ x, F x → x < H.size := hlt
      have h1 : ∀ x, x < H.size → F6 x → F x := fun x hx h => by
        rcases frAll x h with h | h
        · exact h
        · omega
      refine Keep.trans (Keep.trans (Keep.trans (Keep.trans (Keep.trans (Keep.trans (Keep.trans kpAll hk8 fun x _ e => e.elim) hk9 fun x hx h => h1 x hx (hFn _ h)) hk10 fun x hx e => ?_) hk11 fun x _ e => e.elim) hk12' fun x hx h => h1 x hx (hFt _ h)) hk13 fun x hx e => ?_) hk14 fun x hx e => ?_
      · have e' : x = mb := e
        omega
      · have e' : x = mb := e
        omega
      · have e' : x = rb := e
        omega
    · rintro y ((h | h) | (h | h))
      · exact frAll y (hFn _ h)
      · exact .inr (by omega)
      · exact frAll y (hFt _ h)
      · exact .inr (by omega)
    · rw [hser, ← e4, ← e6]
    · rw [ref_new hnin6]
      simp only [List.length_append, List.length_map, List.length_cons, List.length_nil]
      exact (wrap64 (by omega) (by omega)).trans (by omega)
    · rw [h6] at e; cases e
end Go.Proofs.Ytanaaabejeeakaa
end
section
namespace Go.Proofs.Ytanaaabejeeakaa
open Go.AI Go.AI.DT
structure After (H : AHeap) (m : AC) (F : Nat → Prop) (ts : List DT) (n : Nat) (H' : AHeap) (F' : Nat → Prop) (ts' : List DT) : Prop where
  mgr : Mgr H' m F' ts'
  pre : ts <+: ts'
  len : ts'.length ≤ ts.length + n
  keep : Keep F H H'
  fresh : ∀ x, F' x → F x ∨ H.size ≤ x
theorem After.refl {H : AHeap} {m : AC} {F : Nat → Prop} {ts : List DT} (h : Mgr H m F ts) (n : Nat) : After H m F ts n H F ts := ⟨h, List.prefix_rfl, by omega, Keep.refl _ _, fun _ h => .inl h⟩
theorem After.trans {H H1 H2 : AHeap} {m : AC} {F F1 F2 : Nat → Prop} {ts ts1 ts2 : List DT} {n k : Nat} (h : After H m F ts n H1 F1 ts1) (h' : After H1 m F1 ts1 k H2 F2 ts2) : After H m F ts (n + k) H2 F2 ts2 := by
  refine ⟨h'.mgr, h.pre.trans h'.pre, by have := h.len; have := h'.len; omega, Keep.trans h.keep h'.keep fun b hb hx => ?_, fun x hx => ?_⟩
  · rcases h.fresh b hx with h1 | h1
    · exact h1
    · omega
  · rcases h'.fresh x hx with h1 | h1
    · exact h.fresh x h1
    · exact .inr (Nat.le_trans h.keep.size h1)
theorem After.kp {H H0 H1 : AHeap} {m : AC} {F F1 : Nat → Prop} {ts ts1 : List DT} {n : Nat} (k : Kp H H0) (h : After H0 m F ts n H1 F1 ts1) : After H m F ts n H1 F1 ts1 :=
  ⟨h.mgr, h.pre, h.len, Kp.andThen k h.keep, fun x hx => (h.fresh x hx).imp id fun h => Nat.le_trans k.size h⟩
theorem node_c {m : AC} {F : Nat → Prop} {ts : List DT} {H : AHeap} (hm : Mgr H m F ts) {v : Nat} {l h : DT} (hl : In ts l) (hh : In ts h) (hv : v < 16) (hvl : v < l.top) (hvh : v < h.top) (hsz : ts.length < 4294967296) :
    Fn.Z40 m (v : Int) (ref ts l) (ref ts h) H fun H' r => ∃ F' ts', After H m F ts 1 H' F' ts' ∧ In ts' (mk v l h) ∧ r = ref ts' (mk v l h) := by
  refine Z40.run ?_
  unfold Z40.W
  refine CondB.eq (fun e => ?_) fun hne => ?_
  · have := ref_inj hl hh e
    subst this
    exact ⟨F, ts, .refl hm _, by simpa [mk] using hl, by simp [mk]⟩
  have hlh : l ≠ h := fun e => hne (by rw [e])
  have hmk : mk v l h = nd v l h := by simp [mk, hlh]
  obtain ⟨mb, ib, db, Fs, slc, idx, done, hx⟩ := hm
  have hlt := hx.lt
  have hF := hx.fF
  have hro : (nd v l h).RO := ⟨hv, hlh, hvl, hvh, hx.fin.ro hl, hx.fin.ro hh⟩
  refine NewSto.own rfl fun b H2 hb hs2 hbox hk2 => ?_
  have hx2 := hx.keep hk2 fun _ h => h.elim
  obtain rfl := hx.m_eq
  refine NN.ptr (FA.mk (Ld.oc hx2.own rfl (Ld.o3 hbox (v : Int) (ref ts l) (ref ts h) rfl (Look.i hx2.im rfl (fun n hf => ?_) fun hf => ?_))))
  · refine CondB.neg rfl ?_
    obtain ⟨x, hxm, e⟩ := hx.iok.only _ _ hf
    obtain ⟨w, a, c, rfl, h1, h2, _⟩ := hx.fin.parts x hxm
    simp only [rowL, row, List.cons.injEq, and_true] at e
    have e1 := ref_inj hl h1 e.2.1
    have e2 := ref_inj hh h2 e.2.2
    have e3 : v = w := by omega
    subst e1 e2 e3
    rw [hmk]
    have hfa := hx.iok.all _ hxm
    rw [show rowL ts (nd v l h) = [(v : Int), ref ts l, ref ts h] from rfl, hf] at hfa
    refine ⟨F, ts, (After.refl ⟨mb, ib, db, Fs, slc, idx, done, hx2⟩ 1).kp hk2, .inr hxm, ?_⟩
    simpa using hfa
  · refine CondB.pos rfl ?_
    have hnin : nd v l h ∉ ts := by
      intro hin
      have hfa := hx.iok.all _ hin
      rw [show rowL ts (nd v l h) = [(v : Int), ref ts l, ref ts h] from rfl, hf] at hfa
      cases hfa
    refine NN.ptr (FA.mk (Ld.oc hx2.own rfl (LenS.of hx2.sl.slr (NN.ptr (FA.mk (Ld.oc hx2.own rfl (Ld.o3 hbox (v : Int) (ref ts l) (ref ts h) rfl ?_)))))))
    refine NewS.own fun p H3 hp hs3 hbox3 hk3 => ?_
    refine App.own (hx2.sl.kp hk3) (r := nodeCells ((v : Int), ref ts l, ref ts h)) ⟨p, _, rfl, hbox3.all⟩ rfl (by simp; omega) (by simp; omega) fun s' H4 hsl4 hk4 hs4 => ?_
    have own4 : Own H4 mb [slc, .map (some ib), .map (some db)] := (hx2.own.kp hk3).keep hk4 hx.d1
    refine NN.ptr (FA.mk (Sto.own own4 (by simp) fun H5 own5 hk5 hs5 => ?_))
    simp only [List.take_zero, List.nil_append, List.cons_append, List.length_cons, List.length_nil, Nat.zero_add, Nat.add_zero, List.drop_succ_cons, List.drop_zero] at own5
    have im5 : MapI H5 ib (some 3) idx := ((hx2.im.kp hk3).keep hk4 hx.d2).keep hk5 (fun e => hx.ne1 e.symm)
    have dm5 : MapI H5 db (some 3) done := ((hx2.dm.kp hk3).keep hk4 hx.d3).keep hk5 (fun e => hx.ne2 e.symm)
    have hFlt : ∀ x, Fs x → x < H.size := fun x h => hlt x ((hF x).2 (.inr (.inr (.inr h))))
    have hmbl := hx.own.lt
    have hibl := hx.im.lt
    have hdbl := hx.dm.lt
    have hs3' : H3.size = H.size + 2 := by omega
    have box5 : Own H5 b (nodeCells ((v : Int), ref ts l, ref ts h)) := ((hbox.kp hk3).keep hk4 (fun h => by have := hFlt _ h; omega)).keep hk5 (fun e => by omega)
    have sl5 := hsl4.keep hk5 (fun x e h => by
      subst e
      rcases h with h | h
      · exact hx.d1 h
      · omega)
    refine NN.ptr (FA.mk (Ld.oc own5 rfl (Ld.o3 box5 (v : Int) (ref ts l) (ref ts h) rfl (MSet.i im5 rfl fun H6 im6 hk6 hs6 => ?_))))
    have hp : ts <+: ts ++ [nd v l h] := List.prefix_append _ _
    have hrows : (ts ++ [nd v l h]).map (fun x => nodeCells (row (ts ++ [nd v l h]) x)) = (ts.map fun x => nodeCells (row ts x)) ++ [nodeCells ((v : Int), ref ts l, ref ts h)] := by
      have e1 := hx.fin.row_mono hp
      have e2 : ts.map (fun x => nodeCells (row (ts ++ [nd v l h]) x)) = ts.map fun x => nodeCells (row ts x) := by
        have := congrArg (List.map nodeCells) e1
        simpa [List.map_map, Function.comp_def] using this
      rw [List.map_append, e2]
      simp only [List.map_cons, List.map_nil, row, ref_mono hl hp, ref_mono hh hp]
    refine ⟨fun x => F x ∨ x = H3.size, ts ++ [nd v l h], ⟨⟨mb, ib, db, fun y => Fs y ∨ y = H3.size, s', setI [(v : Int), ref ts l, ref ts h] (((ts.map fun x => nodeCells (row ts x)).length : Nat) : Int) idx, done, ?_⟩, hp, by simp, ?_, ?_⟩, ?_, ?_⟩
    · refine ⟨rfl, own5.keep hk6 hx.ne1, ?_, im6, dm5.keep hk6 (fun e => hx.ne3 e.symm), hx.ne1, hx.ne2, hx.ne3, ?_, ?_, ?_, hx.fin.snoc hnin hl hh hro, ?_, hx.dok.mono hp, ?_⟩
      · rw [hrows]
        refine sl5.keep hk6 (fun x e h => ?_)
        subst e
        rcases h with h | h
        · exact hx.d2 h
        · omega
      · rintro (h | h)
        · exact hx.d1 h
        · omega
      · rintro (h | h)
        · exact hx.d2 h
        · omega
      · rintro (h | h)
        · exact hx.d3 h
        · omega
      · have := hx.iok.snoc hx.fin hnin hl hh hro
        simpa using this
      · intro x
        rw [hF x]
        constructor
        · rintro ((h | h | h | h) | h)
          · exact .inl h
          · exact .inr (.inl h)
          · exact .inr (.inr (.inl h))
          · exact .inr (.inr (.inr (.inl h)))
          · exact .inr (.inr (.inr (.inr h)))
        · rintro (h | h | h | h | h)
          · exact .inl (.inl h)
          · exact .inl (.inr (.inl h))
          · exact .inl (.inr (.inr (.inl h)))
          · exact .inl (.inr (.inr (.inr h)))
          · exact .inr h
    · have k1 : Kp H H3 := hk2.trans hk3
      refine (Kp.andThen k1 ?_ : Keep F H H6)
      refine Keep.trans (Keep.trans (hk4.mono fun x _ h => (hF x).2 (.inr (.inr (.inr h)))) hk5 fun x _ e => ?_) hk6 fun x _ e => ?_
      · rw [hF x]; exact .inl e
      · rw [hF x]; exact .inr (.inl e)
    · rintro x (h | h)
      · exact .inl h
      · exact .inr (by omega)
    · rw [hmk]; exact .inr (by simp)
    · rw [hmk, ref_new hnin]; simp
end Go.Proofs.Ytanaaabejeeakaa
end
section
namespace Go.Proofs.Ytanaaabejeeakaa
open Go.AI Go.AI.DT
theorem top_c {m : AC} {F : Nat → Prop} {ts : List DT} {H : AHeap} (hm : Mgr H m F ts) {a : DT} (ha : In ts a) :
    Fn.Z45 m (ref ts a) H fun H' r => r = (a.top : Int) ∧ H' = H := by
  refine Z45.run ?_
  unfold Z45.W
  obtain ⟨mb, ib, db, Fs, slc, idx, done, hx⟩ := hm
  obtain rfl := hx.m_eq
  refine CondB.dec (fun hlt => ?_) fun hge => ?_
  · obtain ⟨b, rfl⟩ := ref_leaf.1 hlt
    exact ⟨rfl, rfl⟩
  · have h0 : 0 ≤ ref ts a := by omega
    have hg := ref_get ha h0
    cases a with
    | leaf b => cases b <;> simp [ref] at h0
    | nd v l h =>
      refine NN.ptr (FA.mk (Ld.oc hx.own rfl (IA.of hx.sl.slr h0 (r := nodeCells (row ts (nd v l h))) (by simp [hg]) fun b o hld => FA.mk (Ld.ei hld rfl ?_))))
      exact ⟨rfl, rfl⟩
theorem split_c {m : AC} {F : Nat → Prop} {ts : List DT} {H : AHeap} (hm : Mgr H m F ts) {a : DT} (ha : In ts a) (v : Nat) (hv : v < 16) :
    Fn.Z44 m (ref ts a) (v : Int) H fun H' r s => r = ref ts (a.lo v) ∧ s = ref ts (a.hi v) ∧ H' = H := by
  refine Z44.run ?_
  unfold Z44.W
  refine RunT.imp ?_ (top_c hm ha)
  rintro H1 t ⟨rfl, rfl⟩
  refine CondB.ne (fun hne => ?_) fun he => ?_
  · have : a.lo v = a ∧ a.hi v = a := by
      cases a with
      | leaf b => exact ⟨rfl, rfl⟩
      | nd w l h =>
        simp only [top] at hne
        have : w ≠ v := fun e => hne (by rw [e])
        simp [lo, hi, this]
    rw [this.1, this.2]
    exact ⟨rfl, rfl, rfl⟩
  · cases a with
    | leaf b => simp only [top] at he; omega
    | nd w l h =>
      simp only [top] at he
      have hw : w = v := by omega
      subst hw
      have h0 : 0 ≤ ref ts (nd w l h) := by rw [ref_ge]; omega
      have hg := ref_get ha h0
      obtain ⟨mb, ib, db, Fs, slc, idx, done, hx⟩ := hm
      obtain rfl := hx.m_eq
      refine NN.ptr (FA.mk (Ld.oc hx.own rfl (IA.of hx.sl.slr h0 (r := nodeCells (row ts (nd w l h))) (by simp [hg]) fun b o hld => FA.mk (Ld.ei hld rfl ?_))))
      refine NN.ptr (FA.mk (Ld.oc hx.own rfl (IA.of hx.sl.slr h0 (r := nodeCells (row ts (nd w l h))) (by simp [hg]) fun b o hld => FA.mk (Ld.ei hld rfl ?_))))
      refine ⟨?_, ?_, rfl⟩ <;> simp [lo, hi, row]
theorem in_lo {ts : List DT} (f : Fin ts) {a : DT} (h : In ts a) (v : Nat) : In ts (a.lo v) := by
  cases a with
  | leaf b => exact h
  | nd w l r =>
    simp only [DT.lo]
    split
    · rcases h with ⟨b, hb⟩ | h
      · cases hb
      · obtain ⟨_, _, _, e, h1, _, _⟩ := f.parts _ h; cases e; exact h1
    · exact h
theorem in_hi {ts : List DT} (f : Fin ts) {a : DT} (h : In ts a) (v : Nat) : In ts (a.hi v) := by
  cases a with
  | leaf b => exact h
  | nd w l r =>
    simp only [DT.hi]
    split
    · rcases h with ⟨b, hb⟩ | h
      · cases hb
      · obtain ⟨_, _, _, e, _, h1, _⟩ := f.parts _ h; cases e; exact h1
    · exact h
def IteRes (a b c r : DT) : Prop := (∀ ρ, r.eval ρ = if a.eval ρ then b.eval ρ else c.eval ρ) ∧ ∀ v, v ≤ a.top → v ≤ b.top → v ≤ c.top → v ≤ r.top
theorem min_cast (a b c : Nat) : (if (c : Int) < (if (b : Int) < (a : Int) then (b : Int) else a) then (c : Int) else (if (b : Int) < (a : Int) then (b : Int) else a)) = ((min (min a b) c : Nat) : Int) := by
  split <;> split at * <;> omega
theorem ite_c : ∀ (n : Nat) {m : AC} {F : Nat → Prop} {ts : List DT} {H : AHeap} {a b c : DT}, Mgr H m F ts → In ts a → In ts b → In ts c → 16 ≤ n + min (min a.top b.top) c.top → ts.length + 2 ^ n ≤ 4294967296 →
    Fn.Z39 m (ref ts a) (ref ts b) (ref ts c) H fun H' q => ∃ F' ts' r, After H m F ts (2 ^ n - 1) H' F' ts' ∧ In ts' r ∧ q = ref ts' r ∧ IteRes a b c r := by
  intro n
  induction n with
  | zero =>
    intro m F ts H a b c hm ha hb hc hn hsz
    have fin := hm.fin
    have ta := top_le a (fin.ro ha)
    cases a with
    | nd w l h => have := (fin.ro ha).1; simp only [top] at hn; omega
    | leaf x =>
      refine Z39.run ?_
      unfold Z39.W
      cases x with
      | true => exact CondB.pos rfl (by unfold Z39.p6; exact CondB.pos rfl ⟨F, ts, b, .refl hm _, hb, rfl, fun ρ => by simp [eval], fun _ _ h _ => h⟩)
      | false =>
        refine CondB.neg rfl ?_
        unfold Z39.p6
        refine CondB.eq (fun e => ?_) fun _ => ?_
        · have := ref_inj hb hc e; subst this
          exact ⟨F, ts, b, .refl hm _, hb, rfl, fun ρ => by simp, fun _ _ h _ => h⟩
        · exact CondB.pos rfl ⟨F, ts, c, .refl hm _, hc, rfl, fun ρ => by simp [eval], fun _ _ _ h => h⟩
  | succ n ih =>
    intro m F ts H a b c hm ha hb hc hn hsz
    have fin := hm.fin
    have ra := fin.ro ha
    have rb := fin.ro hb
    have rc := fin.ro hc
    refine Z39.run ?_
    unfold Z39.W
    have hb1 : ∀ H' : AHeap, After H m F ts (2 ^ (n + 1) - 1) H' F ts → (a = leaf true ∨ b = c) → ∃ F' ts' r, After H m F ts (2 ^ (n + 1) - 1) H' F' ts' ∧ In ts' r ∧ ref ts b = ref ts' r ∧ IteRes a b c r := by
      intro H' haf hor
      refine ⟨F, ts, b, haf, hb, rfl, fun ρ => ?_, fun _ _ h _ => h⟩
      rcases hor with rfl | rfl
      · simp [eval]
      · simp
    -- the rest, once the easy ways are gone
    have rest : (¬ a = leaf true) → b ≠ c → a ≠ leaf false → (¬ (b = leaf true ∧ c = leaf false)) →
        Z39.p18 (fun H' q => ∃ F' ts' r, After H m F ts (2 ^ (n + 1) - 1) H' F' ts' ∧ In ts' r ∧ q = ref ts' r ∧ IteRes a b c r) m (ref ts a) (ref ts b) (ref ts c) false H := by
      intro n1 n2 n3 n4
      unfold Z39.p18
      refine CondB.neg rfl ?_
      refine NewSto.own rfl fun bx H2 hbx hs2 hbox hk2 => ?_
      obtain ⟨mb, ib, db, Fs, slc, idx, done, hx⟩ := hm
      have hx2 := hx.keep hk2 fun _ h => h.elim
      have hlt := hx.lt
      have hm2 : Mgr H2 m F ts := ⟨mb, ib, db, Fs, slc, idx, done, hx2⟩
      obtain rfl := hx.m_eq
      refine NN.ptr (FA.mk (Ld.oc hx2.own rfl (Ld.o3 hbox (ref ts a) (ref ts b) (ref ts c) rfl (Look.i hx2.dm rfl (fun q hf => ?_) fun hf => ?_))))
      · refine CondB.pos rfl ?_
        obtain ⟨a', b', c', r, h1, h2, h3, h4, h5, h6, h7, h8⟩ := hx.dok.ok _ _ hf
        simp only [List.cons.injEq, and_true] at h5
        have e1 := ref_inj ha h1 h5.1
        have e2 := ref_inj hb h2 h5.2.1
        have e3 := ref_inj hc h3 h5.2.2
        subst e1 e2 e3
        exact ⟨F, ts, r, (After.refl hm2 _).kp hk2, h4, h6, h7, h8⟩
      · refine CondB.neg rfl ?_
        refine RunT.imp ?_ (top_c hm2 ha)
        rintro H3 t1 ⟨rfl, rfl⟩
        refine RunT.imp ?_ (top_c hm2 hb)
        rintro H3 t2 ⟨rfl, rfl⟩
        refine RunT.imp ?_ (top_c hm2 hc)
        rintro H3 t3 ⟨rfl, rfl⟩
        rw [min_cast]
        obtain ⟨v, hv⟩ : ∃ v, v = min (min a.top b.top) c.top := ⟨_, rfl⟩
        rw [← hv]
        have hva : v ≤ a.top := by omega
        have hvb : v ≤ b.top := by omega
        have hvc : v ≤ c.top := by omega
        have hv16 : v < 16 := by
          cases a with
          | leaf x => cases x <;> simp at n1 n3
          | nd w l h => have := ra.1; simp only [top] at hva; omega
        refine RunT.imp ?_ (split_c hm2 ha v hv16)
        rintro H3 a0 a1 ⟨rfl, rfl, rfl⟩
        refine RunT.imp ?_ (split_c hm2 hb v hv16)
        rintro H3 b0 b1 ⟨rfl, rfl, rfl⟩
        refine RunT.imp ?_ (split_c hm2 hc v hv16)
        rintro H3 c0 c1 ⟨rfl, rfl, rfl⟩
        have la := lo_spec ra hva hv16
        have lb := lo_spec rb hvb hv16
        have lc := lo_spec rc hvc hv16
        have ga := hi_spec ra hva hv16
        have gb := hi_spec rb hvb hv16
        have gc := hi_spec rc hvc hv16
        have hpow : 2 ^ (n + 1) = 2 ^ n + 2 ^ n := by rw [Nat.pow_succ]; omega
        have hpos : 0 < 2 ^ n := Nat.pow_pos (by omega)
        refine RunT.imp ?_ (ih hm2 (in_lo fin ha v) (in_lo fin hb v) (in_lo fin hc v) (by omega) (by omega))
        rintro H4 q0 ⟨F4, ts4, r0, af4, in4, rfl, res4⟩
        have p4 := af4.pre
        have l4 := af4.len
        rw [← ref_mono (in_hi fin ha v) p4, ← ref_mono (in_hi fin hb v) p4, ← ref_mono (in_hi fin hc v) p4]
        refine RunT.imp ?_ (ih af4.mgr ((in_hi fin ha v).mono p4) ((in_hi fin hb v).mono p4) ((in_hi fin hc v).mono p4) (by omega) (by omega))
        rintro H5 q1 ⟨F5, ts5, r1, af5, in5, rfl, res5⟩
        have p5 := af5.pre
        have l5 := af5.len
        rw [← ref_mono in4 p5]
        have f5 := af5.mgr.fin
        have t0 : v < r0.top := by have := res4.2 (v + 1) la.2.1 lb.2.1 lc.2.1; omega
        have t1 : v < r1.top := by have := res5.2 (v + 1) ga.2.1 gb.2.1 gc.2.1; omega
        refine RunT.imp ?_ (node_c af5.mgr (in4.mono p5) in5 hv16 t0 t1 (by omega))
        rintro H6 q2 ⟨F6, ts6, af6, in6, rfl⟩
        have af := (af4.trans af5).trans af6
        have hb6 : Own H6 bx [.int .i64 (ref ts a), .int .i64 (ref ts b), .int .i64 (ref ts c)] := hbox.keep af.keep (fun h => by have := hlt _ h; omega)
        have hm6 := af6.mgr
        obtain ⟨mb6, ib6, db6, Fs6, slc6, idx6, done6, hx6⟩ := hm6
        have hme := hx6.m_eq
        simp only [AC.ptr.injEq, Option.some.injEq, Prod.mk.injEq, and_true] at hme
        subst hme
        refine NN.ptr (FA.mk (Ld.oc hx6.own rfl (Ld.o3 hb6 (ref ts a) (ref ts b) (ref ts c) rfl (MSet.i hx6.dm rfl fun H7 dm7 hk7 hs7 => ?_))))
        have hres : IteRes a b c (mk v r0 r1) := by
          refine ⟨fun ρ => ?_, fun w h1 h2 h3 => ?_⟩
          · rw [mk_eval]
            cases hρ : ρ v with
            | true => simp only [if_true]; rw [res5.1, ga.2.2 ρ hρ, gb.2.2 ρ hρ, gc.2.2 ρ hρ]
            | false => simp only [Bool.false_eq_true, if_false]; rw [res4.1, la.2.2 ρ hρ, lb.2.2 ρ hρ, lc.2.2 ρ hρ]
          · have := mk_top (v := v) (h := r1) t0; omega
        have p6 := af.pre
        have hlt6 := hx6.lt
        refine ⟨F6, ts6, mk v r0 r1, After.kp hk2 ⟨⟨mb, ib6, db6, Fs6, slc6, idx6, setI [ref ts a, ref ts b, ref ts c] (ref ts6 (mk v r0 r1)) done6, ?_⟩, p6, ?_, ?_, af.fresh⟩, in6, rfl, hres⟩
        · refine ⟨rfl, hx6.own.keep hk7 hx6.ne2, hx6.sl.keep hk7 (fun x e h => hx6.d3 (e ▸ h)), hx6.im.keep hk7 hx6.ne3, dm7, hx6.ne1, hx6.ne2, hx6.ne3, hx6.d1, hx6.d2, hx6.d3, hx6.fin, hx6.iok, ?_, hx6.fF⟩
          have := hx6.dok.set (ha.mono p6) (hb.mono p6) (hc.mono p6) in6 hres.1 hres.2
          rwa [ref_mono ha p6, ref_mono hb p6, ref_mono hc p6] at this
        · have := af.len; omega
        · refine Keep.trans af.keep hk7 fun x hxl e => ?_
          subst e
          rcases af.fresh _ ((hx6.fF _).2 (.inr (.inr (.inl rfl)))) with h | h
          · exact h
          · omega
    refine CondB.eq (fun e => ?_) fun hne1 => ?_
    · have := ref_true.1 e; subst this
      unfold Z39.p6
      exact CondB.pos rfl (hb1 H (.refl hm _) (.inl rfl))
    have m1 : ¬ a = leaf true := fun e => hne1 (ref_true.2 e)
    unfold Z39.p6
    refine CondB.eq (fun e => ?_) fun hne2 => ?_
    · exact hb1 H (.refl hm _) (.inr (ref_inj hb hc e))
    have m2 : b ≠ c := fun e => hne2 (by rw [e])
    refine CondB.eq (fun e => ?_) fun hne3 => ?_
    · have := ref_false.1 e; subst this
      exact ⟨F, ts, c, .refl hm _, hc, rfl, fun ρ => by simp [eval], fun _ _ _ h => h⟩
    have m3 : a ≠ leaf false := fun e => hne3 (ref_false.2 e)
    refine CondB.eq (fun e => ?_) fun hne4 => ?_
    · have hbt := ref_true.1 e
      subst hbt
      by_cases hcf : ref ts c = -1
      · have := ref_false.1 hcf; subst this
        unfold Z39.p18
        refine CondB.pos rfl ⟨F, ts, a, .refl hm _, ha, rfl, fun ρ => ?_, fun _ h _ _ => h⟩
        simp only [eval]
        cases a.eval ρ <;> rfl
      · rw [show (ref ts c == -1) = false from by simpa using hcf]
        exact rest m1 m2 m3 fun h => hcf (ref_false.2 h.2)
    · exact rest m1 m2 m3 fun h => hne4 (ref_true.2 h.1)
end Go.Proofs.Ytanaaabejeeakaa
end
section
namespace Go.Proofs.Ytanaaabejeeakaa
open Go.AI Go.AI.DT
def DRes (H : AHeap) (x : DT) (ns : AC) (root err : Int) : Prop :=
  (2000 < (ser x []).length ∧ err = 3 ∧ root = 0 ∧ SlR H ns 3 (nodeRows [])) ∨
  ((ser x []).length ≤ 2000 ∧ err = 0 ∧ root = ref (ser x []) x ∧ SlR H ns 3 (nodeRows ((ser x []).map (row (ser x [])))))
theorem DRes.kp {H H' : AHeap} {x : DT} {ns : AC} {root err : Int} (h : DRes H x ns root err) (k : Kp H H') : DRes H' x ns root err := by
  rcases h with ⟨a, b, c, d⟩ | ⟨a, b, c, d⟩
  · exact .inl ⟨a, b, c, d.kp k⟩
  · exact .inr ⟨a, b, c, d.kp k⟩
def DResN (H0 H : AHeap) (x : DT) (ns : AC) (root err : Int) : Prop :=
  ∃ Fo : Nat → Prop, (∀ y, Fo y → H0.size ≤ y) ∧ ((2000 < (ser x []).length ∧ err = 3 ∧ root = 0 ∧ OwnS H ns 3 Fo (nodeRows [])) ∨
  ((ser x []).length ≤ 2000 ∧ err = 0 ∧ root = ref (ser x []) x ∧ OwnS H ns 3 Fo (nodeRows ((ser x []).map (row (ser x []))))))
theorem DResN.keep {S : Nat → Prop} {H0 H H' : AHeap} {x : DT} {ns : AC} {root err : Int} (h : DResN H0 H x ns root err) (k : Keep S H H') (hS : ∀ y, S y → y < H0.size) : DResN H0 H' x ns root err := by
  obtain ⟨Fo, hf, h⟩ := h
  have hd : ∀ y, S y → ¬ Fo y := fun y h1 h2 => by have := hS y h1; have := hf y h2; omega
  exact ⟨Fo, hf, h.imp (fun ⟨a, b, c, d⟩ => ⟨a, b, c, d.keep k hd⟩) fun ⟨a, b, c, d⟩ => ⟨a, b, c, d.keep k hd⟩⟩
theorem DResN.res {H0 H : AHeap} {x : DT} {ns : AC} {root err : Int} (h : DResN H0 H x ns root err) : DRes H x ns root err := by
  obtain ⟨Fo, hf, h⟩ := h
  exact h.imp (fun ⟨a, b, c, d⟩ => ⟨a, b, c, d.slr⟩) fun ⟨a, b, c, d⟩ => ⟨a, b, c, d.slr⟩
theorem DResN.from {H0 H1 H : AHeap} {x : DT} {ns : AC} {root err : Int} (h : DResN H1 H x ns root err) (hs : H0.size ≤ H1.size) : DResN H0 H x ns root err := by
  obtain ⟨Fo, hf, h⟩ := h
  exact ⟨Fo, fun y hy => Nat.le_trans hs (hf y hy), h⟩
theorem SlR.nil (H : AHeap) (sz : Nat) : SlR H (.sl none 0 0 (some 0)) sz [] := ⟨none, 0, some 0, rfl, fun i r h => by simp at h⟩
theorem tabAt_of {H : AHeap} {s : AC} {t : List Bool} (h : SlR H s 1 (boolRows t)) (hne : t ≠ []) : ∃ tb, TabAt H tb s t ∧ tb < H.size := by
  have h' := h
  obtain ⟨a, z, cap, e, hr⟩ := h'.ex
  obtain ⟨b0, l0, rfl⟩ : ∃ x l, t = x :: l := by cases t with
    | nil => exact absurd rfl hne
    | cons x l => exact ⟨x, l, rfl⟩
  obtain ⟨_, b, o, rfl, hld⟩ := hr 0 [.bool b0] rfl
  refine ⟨b, ⟨h, fun b' o' z' n' cap' e' => ?_⟩, ?_⟩
  · rw [e] at e'; cases e'; rfl
  · unfold AHeap.load at hld
    split at hld
    · next hg => exact AHeap.get_lt hg
    · cases hld
theorem OfTable_c {s : AC} {t : List Bool} {H : AHeap} (hs : SlR H s 1 (boolRows t)) (ht : t.length = 2 ^ 16) :
    Fn.Z5 s H fun H' ns root err => DResN H H' (tree 16 t) ns root err ∧ Kp H H' := by
  refine Z5.run ?_
  unfold Z5.W
  refine New.own fun b H1 hb hs1 ho hkp => ?_
  obtain ⟨tb, htab, htlt⟩ := tabAt_of (hs.kp hkp) (by intro e; rw [e] at ht; simp at ht)
  have hws : WS H1 tb (.sl none 0 0 (some 0)) (.sl none 0 0 (some 0)) (fun _ => False) [] [] :=
    ⟨fun _ => False, fun _ => False, ⟨OwnS.nil _ _, OwnS.nil _ _, fun _ h => h.elim, fun _ => by simp, rfl, by simp, fun _ h => (by cases h), fun i e x h => (by simp at h), Fin.nil, id, htlt⟩⟩
  refine RunT.imp ?_ (walk_c 16 (Nat.le_refl _) hws htab ht)
  rintro H2 ns ts l i ⟨F', st', tabs', w', kp', fr', pre', hf, htr⟩
  have hk2 : Kp H1 H2 := kp'.mono fun _ _ h => h
  have hF'b : ∀ y, F' y → H1.size ≤ y := fun y h => (fr' y h).elim False.elim id
  refine NewSto.own rfl fun p H3 hp hs3 hbox hk3 => ?_
  have hob := (ho.kp hk2).kp hk3
  have hbl := ho.lt
  obtain ⟨Fn, Ft, wx⟩ := w'
  refine FA.mk (Ld.ob hbox rfl (CondB.mk (fun hl => ?_) fun hl => ?_))
  · refine Sto.own hob (Nat.le_refl 2) fun H4 hob4 hk4 hs4 => ?_
    refine Ld.o2 hob4 (.sl none 0 0 (some 0)) (0 : Int) rfl ⟨⟨fun _ => False, fun _ h => h.elim, .inl ⟨?_, rfl, rfl, OwnS.nil _ _⟩⟩, ?_⟩
    · rcases htr hl with h | h
      · cases h
      · exact h
    · exact ((hkp.trans hk2).trans hk3).fresh hk4 fun x e => by have e' : x = b := e; omega
  · obtain ⟨_, e1, e2⟩ := hf hl
    refine FA.mk (Ld.oc hbox rfl (Sto.own hob (Nat.le_refl 2) fun H4 hob4 hk4 hs4 => ?_))
    refine Ld.o2 hob4 ns i rfl ⟨⟨Fn, fun y h => by have := hF'b y ((wx.fF y).2 (.inl h)); have := hkp.size; omega, .inr ⟨by rw [← e1]; exact wx.max, rfl, by rw [e2, ← e1], ?_⟩⟩, ?_⟩
    · have hsl := (wx.nodes.kp hk3).keep hk4 (fun x e h => by have := hF'b x ((wx.fF x).2 (.inl h)); omega)
      rw [← e1]
      unfold nodeRows
      rw [List.map_map]
      exact hsl
    · exact ((hkp.trans hk2).trans hk3).fresh hk4 fun x e => by have e' : x = b := e; omega
theorem newManager_c {H : AHeap} : Fn.Z47 H fun H' m => (∃ F, Mgr H' m F [] ∧ ∀ x, F x → H.size ≤ x) ∧ Kp H H' := by
  refine Z47.run ?_
  unfold Z47.W
  refine NewM.i (some 3) fun ib H1 hib hs1 him hk1 => NewM.i (some 3) fun db H2 hdb hs2 hdm hk2 => New.own fun mb H3 hmb hs3 hom hk3 => ?_
  refine ⟨⟨fun x => x = mb ∨ x = ib ∨ x = db ∨ False, ⟨mb, ib, db, fun _ => False, .sl none 0 0 (some 0), [], [], ?_⟩, ?_⟩, (hk1.trans hk2).trans hk3⟩
  · exact ⟨rfl, hom, OwnS.nil _ _, (him.kp hk2).kp hk3, hdm.kp hk3, by omega, by omega, by omega, id, id, id, Fin.nil, ⟨fun _ h => (by cases h), fun _ _ h => (by cases h)⟩, ⟨fun _ _ h => (by cases h)⟩, fun _ => Iff.rfl⟩
  · rintro x (h | h | h | h)
    · omega
    · omega
    · omega
    · exact h.elim
def OpRes (H : AHeap) (m : AC) (F : Nat → Prop) (ts : List DT) (n : Nat) (val : (Nat → Bool) → Bool) (H' : AHeap) (q : Int) : Prop :=
  ∃ F' ts' r, After H m F ts n H' F' ts' ∧ In ts' r ∧ q = ref ts' r ∧ ∀ ρ, r.eval ρ = val ρ
theorem ite_op {m : AC} {F : Nat → Prop} {ts : List DT} {H : AHeap} {a b c : DT} (hm : Mgr H m F ts) (ha : In ts a) (hb : In ts b) (hc : In ts c) (hsz : ts.length + 65536 ≤ 4294967296) :
    Fn.Z39 m (ref ts a) (ref ts b) (ref ts c) H fun H' q => OpRes H m F ts 65535 (fun ρ => if a.eval ρ then b.eval ρ else c.eval ρ) H' q := by
  refine RunT.imp ?_ (ite_c 16 hm ha hb hc (by omega) hsz)
  rintro H' q ⟨F', ts', r, af, h1, h2, h3⟩
  exact ⟨F', ts', r, af, h1, h2, h3.1⟩
theorem not_c {m : AC} {F : Nat → Prop} {ts : List DT} {H : AHeap} {a : DT} (hm : Mgr H m F ts) (ha : In ts a) (hsz : ts.length + 65536 ≤ 4294967296) :
    Fn.Z41 m (ref ts a) H fun H' q => OpRes H m F ts 65535 (fun ρ => !a.eval ρ) H' q := by
  refine Z41.run ?_
  unfold Z41.W
  refine RunT.imp ?_ (ite_op hm ha (In.leaf ts false) (In.leaf ts true) hsz)
  rintro H' q ⟨F', ts', r, af, h1, h2, h3⟩
  exact ⟨F', ts', r, af, h1, h2, fun ρ => by rw [h3 ρ]; simp only [eval]; cases a.eval ρ <;> rfl⟩
theorem and_c {m : AC} {F : Nat → Prop} {ts : List DT} {H : AHeap} {a b : DT} (hm : Mgr H m F ts) (ha : In ts a) (hb : In ts b) (hsz : ts.length + 65536 ≤ 4294967296) :
    Fn.Z33 m (ref ts a) (ref ts b) H fun H' q => OpRes H m F ts 65535 (fun ρ => a.eval ρ && b.eval ρ) H' q := by
  refine Z33.run ?_
  unfold Z33.W
  refine RunT.imp ?_ (ite_op hm ha hb (In.leaf ts false) hsz)
  rintro H' q ⟨F', ts', r, af, h1, h2, h3⟩
  exact ⟨F', ts', r, af, h1, h2, fun ρ => by rw [h3 ρ]; simp only [eval]; cases a.eval ρ <;> rfl⟩
theorem or_c {m : AC} {F : Nat → Prop} {ts : List DT} {H : AHeap} {a b : DT} (hm : Mgr H m F ts) (ha : In ts a) (hb : In ts b) (hsz : ts.length + 65536 ≤ 4294967296) :
    Fn.Z42 m (ref ts a) (ref ts b) H fun H' q => OpRes H m F ts 65535 (fun ρ => a.eval ρ || b.eval ρ) H' q := by
  refine Z42.run ?_
  unfold Z42.W
  refine RunT.imp ?_ (ite_op hm ha (In.leaf ts true) hb hsz)
  rintro H' q ⟨F', ts', r, af, h1, h2, h3⟩
  exact ⟨F', ts', r, af, h1, h2, fun ρ => by rw [h3 ρ]; simp only [eval]; cases a.eval ρ <;> rfl⟩
theorem xor_c {m : AC} {F : Nat → Prop} {ts : List DT} {H : AHeap} {a b : DT} (hm : Mgr H m F ts) (ha : In ts a) (hb : In ts b) (hsz : ts.length + 131072 ≤ 4294967296) :
    Fn.Z46 m (ref ts a) (ref ts b) H fun H' q => OpRes H m F ts 131070 (fun ρ => a.eval ρ != b.eval ρ) H' q := by
  refine Z46.run ?_
  unfold Z46.W
  refine RunT.imp ?_ (not_c hm hb (by omega))
  rintro H1 q ⟨F1, ts1, r1, af1, in1, rfl, hv1⟩
  have hl := af1.len
  rw [← ref_mono ha af1.pre, ← ref_mono hb af1.pre]
  refine RunT.imp ?_ (ite_op af1.mgr (ha.mono af1.pre) in1 (hb.mono af1.pre) (by omega))
  rintro H' q ⟨F', ts', r, af, h1, h2, h3⟩
  exact ⟨F', ts', r, af1.trans af, h1, h2, fun ρ => by
    rw [h3 ρ]
    show (if a.eval ρ then r1.eval ρ else b.eval ρ) = _
    rw [hv1 ρ]
    show (if a.eval ρ then !b.eval ρ else b.eval ρ) = (a.eval ρ != b.eval ρ)
    cases a.eval ρ <;> cases b.eval ρ <;> rfl⟩
end Go.Proofs.Ytanaaabejeeakaa
end
