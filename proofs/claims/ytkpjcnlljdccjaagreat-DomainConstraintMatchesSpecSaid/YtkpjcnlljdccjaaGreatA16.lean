/- Joined by a program: what the proof of the law leans on, part 16. -/
import Derived.Test.YtkpjcnlljdccjaaGreatA15
import Derived.Lib.SlicesCompact
set_option linter.unusedVariables false
set_option linter.unusedSimpArgs false
section
namespace Go.Proofs.YtkpjcnlljdccjaaGreat
open Go.AI
set_option maxRecDepth 100000
set_option maxHeartbeats 2000000
set_option linter.unusedVariables false
attribute [local irreducible] Ld Sto New NewS NewM NN NZ GE0 FA IA IAP LenS Slc App Cpy Clr MkS Fnc NilQ IxS Look MSet Run CV RunT CVT LoopT Same1 Same2 wpC wpOs wpT wpO wpOp
def Z22.c119 : RC := (.cond 112 (.ops [pM 113 1, pM 114 12, .put 115 (.ia 1 (.tm 113) (.tm 114)), .put 116 (.ld false [.int .i64] (.tm 115)), pM 11 116]) .skip)
def Z22.c117 : RC := (.seq (.ops [.put 84 (.fa 0 (.tm 2)), .put 85 (.ld false [.int .i64] (.tm 84)), .put 86 (.cm .eq (.tm 85) (cI 7)), pM 87 86, .gput 88 87 true (.fa 5 (.tm 2)), .gput 89 87 true (.ld false [.int .i64] (.tm 88)), .gput 90 87 true (.cm .eq (.tm 89) (cI 0)), .gput 91 87 true (.mov (.tm 90)), .gput 92 91 true (.mov (.tm 1)), .gput 93 91 true (.mov (.tm 12)), .gput 94 91 true (.ia 1 (.tm 92) (.tm 93)), .gput 95 91 true (.ld false [.int .i64] (.tm 94)), .gput 96 91 true (.mov (.tm 11)), .gput 97 91 true (.cm .lt (.tm 95) (.tm 96)), .gput 98 87 true (.pick (.tm 91) (.tm 97) (.ct (.one (.bool false)))), .gput 99 87 true (.mov (.tm 98)), .gput 100 99 false (.fa 5 (.tm 2)), .gput 101 99 false (.ld false [.int .i64] (.tm 100)), .gput 102 99 false (.cm .eq (.tm 101) (cI 1)), .gput 103 99 false (.mov (.tm 102)), .gput 104 103 true (.mov (.tm 1)), .gput 105 103 true (.mov (.tm 12)), .gput 106 103 true (.ia 1 (.tm 104) (.tm 105)), .gput 107 103 true (.ld false [.int .i64] (.tm 106)), .gput 108 103 true (.mov (.tm 11)), .gput 109 103 true (.cm .gt (.tm 107) (.tm 108)), .gput 110 99 false (.pick (.tm 103) (.tm 109) (.ct (.one (.bool false)))), .gput 111 87 true (.pick (.tm 99) (.ct (.one (.bool true))) (.tm 110)), .put 112 (.pick (.tm 87) (.tm 111) (.ct (.one (.bool false))))]) Z22.c119)
def Z22.c103 : RC := (.seq (.seq (.ops [pM 69 12, pM 70 1, .put 71 (.lens (.tm 70)), .put 72 (.cm .lt (.tm 69) (.tm 71))]) (.cond 72 .skip (.exit 8))) (.seq (.block 9 (.seq (.seq (.ops [pM 75 1, pM 76 12, .put 77 (.ia 1 (.tm 75) (.tm 76)), .put 78 (.ld false [.int .i64] (.tm 77)), .put 79 (.fa 5 (.tm 2)), .put 80 (.ld false [.int .i64] (.tm 79)), .put 81 (.cm .eq (.tm 78) (.tm 80))]) (.cond 81 (.ops [pM 82 10, .put 83 (.ar .add (.tm 82) (cI 1)), pM 10 83]) .skip)) Z22.c117)) (.ops [pM 73 12, .put 74 (.ar .add (.tm 73) (cI 1)), pM 12 74])))
def Z22.c68 : RC := (.seq (.seq (.ops [pM 46 9, pM 47 1, .put 48 (.lens (.tm 47)), .put 49 (.cm .lt (.tm 46) (.tm 48))]) (.cond 49 .skip (.exit 6))) (.seq (.block 7 (.seq (.ops [.put 52 (.fa 6 (.tm 2)), .put 53 (.ld false [.ac] (.tm 52)), pM 54 7, .put 55 (.ia 1 (.tm 53) (.tm 54)), .put 56 (.ld false [.ac] (.tm 55)), pM 57 9, .put 58 (.ia 1 (.tm 56) (.tm 57)), .put 59 (.ld false [.int .i64] (.tm 58)), pM 60 1, pM 61 9, .put 62 (.ia 1 (.tm 60) (.tm 61)), .put 63 (.ld false [.int .i64] (.tm 62)), .put 64 (.cm .ne (.tm 59) (.tm 63))]) (.cond 64 (.ops [.put 8 (.mov (.ct (.one (.bool false))))]) .skip))) (.ops [pM 50 9, .put 51 (.ar .add (.tm 50) (cI 1)), pM 9 51])))
def Z22.c53 : RC := (.seq (.seq (.ops [pM 39 7, .put 40 (.fa 6 (.tm 2)), .put 41 (.ld false [.ac] (.tm 40)), .put 42 (.lens (.tm 41)), .put 43 (.cm .lt (.tm 39) (.tm 42))]) (.cond 43 .skip (.exit 4))) (.seq (.block 5 (.seq (.ops [.put 8 (.mov (.ct (.one (.bool true))))]) (.seq (.seq (.ops [.put 9 (.mov (cI 0))]) (.block 6 (.loop Z22.c68))) (.seq (.ops [pM 65 8]) (.cond 65 (.seq (.ops [.put 4 (.mov (.ct (.one (.bool true))))]) .ret) .skip))))) (.ops [pM 44 7, .put 45 (.ar .add (.tm 44) (cI 1)), pM 7 45])))
def Z22.c23 : RC := (.seq (.seq (.ops [pM 22 6, pM 23 5, .put 24 (.cm .lt (.tm 22) (.tm 23))]) (.cond 24 .skip (.exit 2))) (.seq (.block 3 (.seq (.ops [pM 27 1, pM 28 5, .put 29 (.ia 1 (.tm 27) (.tm 28)), .put 30 (.ld false [.int .i64] (.tm 29)), pM 31 1, pM 32 6, .put 33 (.ia 1 (.tm 31) (.tm 32)), .put 34 (.ld false [.int .i64] (.tm 33)), .put 35 (.cm .eq (.tm 30) (.tm 34))]) (.cond 35 (.seq (.ops [.put 4 (.mov (.ct (.one (.bool false))))]) .ret) .skip))) (.ops [pM 25 6, .put 26 (.ar .add (.tm 25) (cI 1)), pM 6 26])))
def Z22.c11 : RC := (.seq (.seq (.ops [pM 16 5, pM 17 1, .put 18 (.lens (.tm 17)), .put 19 (.cm .lt (.tm 16) (.tm 18))]) (.cond 19 .skip (.exit 0))) (.seq (.block 1 (.seq (.ops [.put 6 (.mov (cI 0))]) (.block 2 (.loop Z22.c23)))) (.ops [pM 20 5, .put 21 (.ar .add (.tm 20) (cI 1)), pM 5 21])))
def Z22.c : RC := (.seq (.ops [.put 2 (.box 44 (.tm 0)), .put 4 (.mov (.ct (.one (.bool false))))]) (.seq (.seq (.ops [.put 13 (.fa 0 (.tm 2)), .put 14 (.ld false [.int .i64] (.tm 13)), .put 15 (.cm .eq (.tm 14) (cI 3))]) (.cond 15 (.seq (.seq (.ops [.put 5 (.mov (cI 0))]) (.block 0 (.loop Z22.c11))) (.seq (.ops [.put 4 (.mov (.ct (.one (.bool true))))]) .ret)) .skip)) (.seq (.seq (.ops [.put 36 (.fa 0 (.tm 2)), .put 37 (.ld false [.int .i64] (.tm 36)), .put 38 (.cm .eq (.tm 37) (cI 5))]) (.cond 38 (.seq (.seq (.ops [.put 7 (.mov (cI 0))]) (.block 4 (.loop Z22.c53))) (.seq (.ops [.put 4 (.mov (.ct (.one (.bool false))))]) .ret)) .skip)) (.seq (.ops [.put 10 (.mov (cI 0))]) (.seq (.ops [pM 66 1, .put 67 (.ia 1 (.tm 66) (cI 1)), .put 68 (.ld false [.int .i64] (.tm 67)), pM 11 68]) (.seq (.seq (.ops [.put 12 (.mov (cI 1))]) (.block 8 (.loop Z22.c103))) (.seq (.seq (.ops [.put 117 (.fa 0 (.tm 2)), .put 118 (.ld false [.int .i64] (.tm 117)), .put 119 (.cm .eq (.tm 118) (cI 8))]) (.cond 119 (.seq (.ops [pM 120 1, .put 121 (.ia 1 (.tm 120) (cI 0)), .put 122 (.ld false [.int .i64] (.tm 121)), pM 123 10, .put 124 (.cm .eq (.tm 122) (.tm 123)), pM 4 124]) .ret) .skip)) (.seq (.ops [pM 125 1, .put 126 (.ia 1 (.tm 125) (cI 0)), .put 127 (.ld false [.int .i64] (.tm 126)), pM 128 11, .put 129 (.cm .eq (.tm 127) (.tm 128)), pM 4 129]) .ret))))))))
abbrev Z22.KQ (Q : AHeap → Bool → Prop) : AV → AHeap → Prop := KQT [(false, [.bool])] Q
abbrev Z22.K (Q : AHeap → Bool → Prop) : Ex → Env → AHeap → Prop := kTop [.tm 4] (Z22.KQ Q)
abbrev Z22.k3 (Q : AHeap → Bool → Prop) : Ex → Env → AHeap → Prop := kSeq (fun t H => wpC Tryz.prog (.seq (.seq (.ops [.put 36 (.fa 0 (.tm 2)), .put 37 (.ld false [.int .i64] (.tm 36)), .put 38 (.cm .eq (.tm 37) (cI 5))]) (.cond 38 (.seq (.seq (.ops [.put 7 (.mov (cI 0))]) (.block 4 (.loop Z22.c53))) (.seq (.ops [.put 4 (.mov (.ct (.one (.bool false))))]) .ret)) .skip)) (.seq (.ops [.put 10 (.mov (cI 0))]) (.seq (.ops [pM 66 1, .put 67 (.ia 1 (.tm 66) (cI 1)), .put 68 (.ld false [.int .i64] (.tm 67)), pM 11 68]) (.seq (.seq (.ops [.put 12 (.mov (cI 1))]) (.block 8 (.loop Z22.c103))) (.seq (.seq (.ops [.put 117 (.fa 0 (.tm 2)), .put 118 (.ld false [.int .i64] (.tm 117)), .put 119 (.cm .eq (.tm 118) (cI 8))]) (.cond 119 (.seq (.ops [pM 120 1, .put 121 (.ia 1 (.tm 120) (cI 0)), .put 122 (.ld false [.int .i64] (.tm 121)), pM 123 10, .put 124 (.cm .eq (.tm 122) (.tm 123)), pM 4 124]) .ret) .skip)) (.seq (.ops [pM 125 1, .put 126 (.ia 1 (.tm 125) (cI 0)), .put 127 (.ld false [.int .i64] (.tm 126)), pM 128 11, .put 129 (.cm .eq (.tm 127) (.tm 128)), pM 4 129]) .ret)))))) t H (Z22.K Q)) (Z22.K Q)
abbrev Z22.k7 (Q : AHeap → Bool → Prop) : Ex → Env → AHeap → Prop := kSeq (fun t H => wpC Tryz.prog (.seq (.ops [.put 4 (.mov (.ct (.one (.bool true))))]) .ret) t H (Z22.k3 Q)) (Z22.k3 Q)
abbrev Z22.k18 (Q : AHeap → Bool → Prop) (X10 : Env → AHeap → Prop) : Ex → Env → AHeap → Prop := kSeq (fun t H => wpC Tryz.prog (.ops [pM 20 5, .put 21 (.ar .add (.tm 20) (cI 1)), pM 5 21]) t H (kSeq X10 (kBlk 0 (Z22.k7 Q)))) (kSeq X10 (kBlk 0 (Z22.k7 Q)))
abbrev Z22.k45 (Q : AHeap → Bool → Prop) : Ex → Env → AHeap → Prop := kSeq (fun t H => wpC Tryz.prog (.seq (.ops [.put 10 (.mov (cI 0))]) (.seq (.ops [pM 66 1, .put 67 (.ia 1 (.tm 66) (cI 1)), .put 68 (.ld false [.int .i64] (.tm 67)), pM 11 68]) (.seq (.seq (.ops [.put 12 (.mov (cI 1))]) (.block 8 (.loop Z22.c103))) (.seq (.seq (.ops [.put 117 (.fa 0 (.tm 2)), .put 118 (.ld false [.int .i64] (.tm 117)), .put 119 (.cm .eq (.tm 118) (cI 8))]) (.cond 119 (.seq (.ops [pM 120 1, .put 121 (.ia 1 (.tm 120) (cI 0)), .put 122 (.ld false [.int .i64] (.tm 121)), pM 123 10, .put 124 (.cm .eq (.tm 122) (.tm 123)), pM 4 124]) .ret) .skip)) (.seq (.ops [pM 125 1, .put 126 (.ia 1 (.tm 125) (cI 0)), .put 127 (.ld false [.int .i64] (.tm 126)), pM 128 11, .put 129 (.cm .eq (.tm 127) (.tm 128)), pM 4 129]) .ret))))) t H (Z22.K Q)) (Z22.K Q)
abbrev Z22.k49 (Q : AHeap → Bool → Prop) : Ex → Env → AHeap → Prop := kSeq (fun t H => wpC Tryz.prog (.seq (.ops [.put 4 (.mov (.ct (.one (.bool false))))]) .ret) t H (Z22.k45 Q)) (Z22.k45 Q)
abbrev Z22.k60 (Q : AHeap → Bool → Prop) (X52 : Env → AHeap → Prop) : Ex → Env → AHeap → Prop := kSeq (fun t H => wpC Tryz.prog (.ops [pM 44 7, .put 45 (.ar .add (.tm 44) (cI 1)), pM 7 45]) t H (kSeq X52 (kBlk 4 (Z22.k49 Q)))) (kSeq X52 (kBlk 4 (Z22.k49 Q)))
abbrev Z22.k64 (Q : AHeap → Bool → Prop) (X52 : Env → AHeap → Prop) : Ex → Env → AHeap → Prop := kSeq (fun t H => wpC Tryz.prog (.seq (.ops [pM 65 8]) (.cond 65 (.seq (.ops [.put 4 (.mov (.ct (.one (.bool true))))]) .ret) .skip)) t H (kBlk 5 (Z22.k60 Q X52))) (kBlk 5 (Z22.k60 Q X52))
abbrev Z22.k99 (Q : AHeap → Bool → Prop) : Ex → Env → AHeap → Prop := kSeq (fun t H => wpC Tryz.prog (.seq (.seq (.ops [.put 117 (.fa 0 (.tm 2)), .put 118 (.ld false [.int .i64] (.tm 117)), .put 119 (.cm .eq (.tm 118) (cI 8))]) (.cond 119 (.seq (.ops [pM 120 1, .put 121 (.ia 1 (.tm 120) (cI 0)), .put 122 (.ld false [.int .i64] (.tm 121)), pM 123 10, .put 124 (.cm .eq (.tm 122) (.tm 123)), pM 4 124]) .ret) .skip)) (.seq (.ops [pM 125 1, .put 126 (.ia 1 (.tm 125) (cI 0)), .put 127 (.ld false [.int .i64] (.tm 126)), pM 128 11, .put 129 (.cm .eq (.tm 127) (.tm 128)), pM 4 129]) .ret)) t H (Z22.K Q)) (Z22.K Q)
abbrev Z22.k110 (Q : AHeap → Bool → Prop) (X102 : Env → AHeap → Prop) : Ex → Env → AHeap → Prop := kSeq (fun t H => wpC Tryz.prog (.ops [pM 73 12, .put 74 (.ar .add (.tm 73) (cI 1)), pM 12 74]) t H (kSeq X102 (kBlk 8 (Z22.k99 Q)))) (kSeq X102 (kBlk 8 (Z22.k99 Q)))
def Z22.R102 (s : Tup [.ac, .ac, .int .i64, .int .i64, .int .i64]) (t : Env) : Prop := t 1 = (.one (s.1)) ∧ t 2 = (.one (s.2.1)) ∧ t 10 = (.one (.int .i64 (s.2.2.1))) ∧ t 11 = (.one (.int .i64 (s.2.2.2.1))) ∧ t 12 = (.one (.int .i64 (s.2.2.2.2.1))) ∧ True
def Z22.R67 (s : Tup [.ac, .ac, .int .i64, .bool, .int .i64]) (t : Env) : Prop := t 1 = (.one (s.1)) ∧ t 2 = (.one (s.2.1)) ∧ t 7 = (.one (.int .i64 (s.2.2.1))) ∧ t 8 = (.one (.bool (s.2.2.2.1))) ∧ t 9 = (.one (.int .i64 (s.2.2.2.2.1))) ∧ True
def Z22.R52 (s : Tup [.ac, .ac, .int .i64]) (t : Env) : Prop := t 1 = (.one (s.1)) ∧ t 2 = (.one (s.2.1)) ∧ t 7 = (.one (.int .i64 (s.2.2.1))) ∧ True
def Z22.R22 (s : Tup [.ac, .int .i64, .int .i64]) (t : Env) : Prop := t 1 = (.one (s.1)) ∧ t 5 = (.one (.int .i64 (s.2.1))) ∧ t 6 = (.one (.int .i64 (s.2.2.1))) ∧ True
def Z22.R10 (s : Tup [.ac, .int .i64]) (t : Env) : Prop := t 1 = (.one (s.1)) ∧ t 5 = (.one (.int .i64 (s.2.1))) ∧ True
def Z22.p119 (Q : AHeap → Bool → Prop) (Y102 : Tup [.ac, .ac, .int .i64, .int .i64, .int .i64] → AHeap → Prop) (x1 : AC) (x2 : AC) (x10 : Int) (x11 : Int) (x12 : Int) (x112 : Bool) (H : AHeap) : Prop := CondB x112 (IA 1 x1 x12 fun q_1 => Ld [.int .i64] H q_1 fun (v_2 : Int) => Y102 (x1, x2, (x10 : Int), (v_2 : Int), ((IntKind.wrap .i64 (x12 + 1)) : Int), ()) H) (Y102 (x1, x2, (x10 : Int), (x11 : Int), ((IntKind.wrap .i64 (x12 + 1)) : Int), ()) H)
def Z22.p117 (Q : AHeap → Bool → Prop) (Y102 : Tup [.ac, .ac, .int .i64, .int .i64, .int .i64] → AHeap → Prop) (x1 : AC) (x2 : AC) (x10 : Int) (x11 : Int) (x12 : Int) (H : AHeap) : Prop := FA 0 x2 fun q_1 => Ld [.int .i64] H q_1 fun (v_2 : Int) => CondB (v_2 == 7) (FA 5 x2 fun q_3 => Ld [.int .i64] H q_3 fun (v_4 : Int) => CondB (v_4 == 0) (IA 1 x1 x12 fun q_5 => Ld [.int .i64] H q_5 fun (v_6 : Int) => CondB (decide (v_6 < x11)) (Z22.p119 Q Y102 x1 x2 x10 x11 x12 true H) (FA 5 x2 fun q_7 => Ld [.int .i64] H q_7 fun (v_8 : Int) => CondB (v_8 == 1) (IA 1 x1 x12 fun q_9 => Ld [.int .i64] H q_9 fun (v_10 : Int) => Z22.p119 Q Y102 x1 x2 x10 x11 x12 (decide (v_10 > x11)) H) (Z22.p119 Q Y102 x1 x2 x10 x11 x12 false H))) (FA 5 x2 fun q_11 => Ld [.int .i64] H q_11 fun (v_12 : Int) => CondB (v_12 == 1) (IA 1 x1 x12 fun q_13 => Ld [.int .i64] H q_13 fun (v_14 : Int) => Z22.p119 Q Y102 x1 x2 x10 x11 x12 (decide (v_14 > x11)) H) (Z22.p119 Q Y102 x1 x2 x10 x11 x12 false H))) (Z22.p119 Q Y102 x1 x2 x10 x11 x12 false H)
def Z22.b102 (Q : AHeap → Bool → Prop) (Y102 : Tup [.ac, .ac, .int .i64, .int .i64, .int .i64] → AHeap → Prop) (x1 : AC) (x2 : AC) (x10 : Int) (x11 : Int) (x12 : Int) (H : AHeap) : Prop := LenS x1 fun n_1 => CondB (decide (x12 < n_1)) (IA 1 x1 x12 fun q_2 => Ld [.int .i64] H q_2 fun (v_3 : Int) => FA 5 x2 fun q_4 => Ld [.int .i64] H q_4 fun (v_5 : Int) => CondB (v_3 == v_5) (Z22.p117 Q Y102 x1 x2 (IntKind.wrap .i64 (x10 + 1)) x11 x12 H) (Z22.p117 Q Y102 x1 x2 x10 x11 x12 H)) (FA 0 x2 fun q_6 => Ld [.int .i64] H q_6 fun (v_7 : Int) => CondB (v_7 == 8) (IA 1 x1 0 fun q_8 => Ld [.int .i64] H q_8 fun (v_9 : Int) => Q H (v_9 == x10)) (IA 1 x1 0 fun q_10 => Ld [.int .i64] H q_10 fun (v_11 : Int) => Q H (v_11 == x11)))
def Z22.l102 (Q : AHeap → Bool → Prop) (x1 : AC) (x2 : AC) (x10 : Int) (x11 : Int) (x12 : Int) (H : AHeap) : Prop := LoopT (Tup [.ac, .ac, .int .i64, .int .i64, .int .i64]) (fun Y s H => Z22.b102 Q Y (s.1) (s.2.1) (s.2.2.1) (s.2.2.2.1) (s.2.2.2.2.1) H) (x1, x2, x10, x11, x12, ()) H
def Z22.b67 (Q : AHeap → Bool → Prop) (Y52 : Tup [.ac, .ac, .int .i64] → AHeap → Prop) (Y67 : Tup [.ac, .ac, .int .i64, .bool, .int .i64] → AHeap → Prop) (x1 : AC) (x2 : AC) (x7 : Int) (x8 : Bool) (x9 : Int) (H : AHeap) : Prop := LenS x1 fun n_1 => CondB (decide (x9 < n_1)) (FA 6 x2 fun q_2 => Ld [.ac] H q_2 fun (v_3 : AC) => IA 1 v_3 x7 fun q_4 => Ld [.ac] H q_4 fun (v_5 : AC) => IA 1 v_5 x9 fun q_6 => Ld [.int .i64] H q_6 fun (v_7 : Int) => IA 1 x1 x9 fun q_8 => Ld [.int .i64] H q_8 fun (v_9 : Int) => CondB (v_7 != v_9) (Y67 (x1, x2, (x7 : Int), (false : Bool), ((IntKind.wrap .i64 (x9 + 1)) : Int), ()) H) (Y67 (x1, x2, (x7 : Int), (x8 : Bool), ((IntKind.wrap .i64 (x9 + 1)) : Int), ()) H)) (CondB x8 (Q H true) (Y52 (x1, x2, ((IntKind.wrap .i64 (x7 + 1)) : Int), ()) H))
def Z22.l67 (Q : AHeap → Bool → Prop) (Y52 : Tup [.ac, .ac, .int .i64] → AHeap → Prop) (x1 : AC) (x2 : AC) (x7 : Int) (x8 : Bool) (x9 : Int) (H : AHeap) : Prop := LoopT (Tup [.ac, .ac, .int .i64, .bool, .int .i64]) (fun Y s H => Z22.b67 Q Y52 Y (s.1) (s.2.1) (s.2.2.1) (s.2.2.2.1) (s.2.2.2.2.1) H) (x1, x2, x7, x8, x9, ()) H
def Z22.b52 (Q : AHeap → Bool → Prop) (Y52 : Tup [.ac, .ac, .int .i64] → AHeap → Prop) (x1 : AC) (x2 : AC) (x7 : Int) (H : AHeap) : Prop := FA 6 x2 fun q_1 => Ld [.ac] H q_1 fun (v_2 : AC) => LenS v_2 fun n_3 => CondB (decide (x7 < n_3)) (Z22.l67 Q Y52 x1 x2 x7 true 0 H) (Q H false)
def Z22.l52 (Q : AHeap → Bool → Prop) (x1 : AC) (x2 : AC) (x7 : Int) (H : AHeap) : Prop := LoopT (Tup [.ac, .ac, .int .i64]) (fun Y s H => Z22.b52 Q Y (s.1) (s.2.1) (s.2.2.1) H) (x1, x2, x7, ()) H
def Z22.b22 (Q : AHeap → Bool → Prop) (Y10 : Tup [.ac, .int .i64] → AHeap → Prop) (Y22 : Tup [.ac, .int .i64, .int .i64] → AHeap → Prop) (x1 : AC) (x5 : Int) (x6 : Int) (H : AHeap) : Prop := CondB (decide (x6 < x5)) (IA 1 x1 x5 fun q_1 => Ld [.int .i64] H q_1 fun (v_2 : Int) => IA 1 x1 x6 fun q_3 => Ld [.int .i64] H q_3 fun (v_4 : Int) => CondB (v_2 == v_4) (Q H false) (Y22 (x1, (x5 : Int), ((IntKind.wrap .i64 (x6 + 1)) : Int), ()) H)) (Y10 (x1, ((IntKind.wrap .i64 (x5 + 1)) : Int), ()) H)
def Z22.l22 (Q : AHeap → Bool → Prop) (Y10 : Tup [.ac, .int .i64] → AHeap → Prop) (x1 : AC) (x5 : Int) (x6 : Int) (H : AHeap) : Prop := LoopT (Tup [.ac, .int .i64, .int .i64]) (fun Y s H => Z22.b22 Q Y10 Y (s.1) (s.2.1) (s.2.2.1) H) (x1, x5, x6, ()) H
def Z22.b10 (Q : AHeap → Bool → Prop) (Y10 : Tup [.ac, .int .i64] → AHeap → Prop) (x1 : AC) (x5 : Int) (H : AHeap) : Prop := LenS x1 fun n_1 => CondB (decide (x5 < n_1)) (Z22.l22 Q Y10 x1 x5 0 H) (Q H true)
def Z22.l10 (Q : AHeap → Bool → Prop) (x1 : AC) (x5 : Int) (H : AHeap) : Prop := LoopT (Tup [.ac, .int .i64]) (fun Y s H => Z22.b10 Q Y (s.1) (s.2.1) H) (x1, x5, ()) H
def Z22.W (a0_0 : Int) (a0_1 : AC) (a0_2 : AC) (a0_3 : AC) (a0_4 : Int) (a0_5 : Int) (a0_6 : AC) (a1 : AC) (H : AHeap) (Q : AHeap → Bool → Prop) : Prop := New 44 [(.int .i64 a0_0), a0_1, a0_2, a0_3, (.int .i64 a0_4), (.int .i64 a0_5), a0_6] H fun p_1 H_2 => FA 0 p_1 fun q_3 => Ld [.int .i64] H_2 q_3 fun (v_4 : Int) => CondB (v_4 == 3) (Z22.l10 Q a1 0 H_2) (FA 0 p_1 fun q_5 => Ld [.int .i64] H_2 q_5 fun (v_6 : Int) => CondB (v_6 == 5) (Z22.l52 Q a1 p_1 0 H_2) (IA 1 a1 1 fun q_7 => Ld [.int .i64] H_2 q_7 fun (v_8 : Int) => Z22.l102 Q a1 p_1 0 v_8 1 H_2))
theorem Z22.p119_okE (Q : AHeap → Bool → Prop) (Y102 : Tup [.ac, .ac, .int .i64, .int .i64, .int .i64] → AHeap → Prop) (X102 : Env → AHeap → Prop) (hX102 : ∀ s t H, Z22.R102 s t → Y102 s H → X102 t H) {x1 : AC} {x2 : AC} {x10 : Int} {x11 : Int} {x12 : Int} {x112 : Bool} {H : AHeap} (j : Env) : Z22.p119 Q Y102 x1 x2 x10 x11 x12 x112 H → wpC Tryz.prog Z22.c119 (upd (upd (upd (upd (upd (upd j 1 (.one x1)) 2 (.one x2)) 10 (.one (.int .i64 x10))) 11 (.one (.int .i64 x11))) 12 (.one (.int .i64 x12))) 112 (.one (.bool x112))) H (kBlk 9 (Z22.k110 Q X102)) := c_if rfl (c_ops (sP (o_mov rfl (sP (o_mov rfl (sP (o_ia rfl rfl (fun q_1 => sP (o_ld1 rfl (fun (v_2 : Int) => sP (o_mov rfl (s_nil (k_blk (k_seq (c_ops (sP (o_mov rfl (sP (o_add rfl rfl (sP (o_mov rfl (sK (hX102 _ _ _ ⟨rfl, rfl, rfl, rfl, rfl, trivial⟩))))))))))))))))))))))) (c_skip (k_blk (k_seq (c_ops (sP (o_mov rfl (sP (o_add rfl rfl (sP (o_mov rfl (sK (hX102 _ _ _ ⟨rfl, rfl, rfl, rfl, rfl, trivial⟩))))))))))))
theorem Z22.p119_ok (Q : AHeap → Bool → Prop) (Y102 : Tup [.ac, .ac, .int .i64, .int .i64, .int .i64] → AHeap → Prop) (X102 : Env → AHeap → Prop) (hX102 : ∀ s t H, Z22.R102 s t → Y102 s H → X102 t H) {x1 : AC} {x2 : AC} {x10 : Int} {x11 : Int} {x12 : Int} {x112 : Bool} {H : AHeap} {t : Env} (h1 : t 1 = (.one x1)) (h2 : t 2 = (.one x2)) (h10 : t 10 = (.one (.int .i64 x10))) (h11 : t 11 = (.one (.int .i64 x11))) (h12 : t 12 = (.one (.int .i64 x12))) (h112 : t 112 = (.one (.bool x112))) (h : Z22.p119 Q Y102 x1 x2 x10 x11 x12 x112 H) : wpC Tryz.prog Z22.c119 t H (kBlk 9 (Z22.k110 Q X102)) := by
  have g := Z22.p119_okE Q Y102 X102 hX102 t h
  rw [upd_self h1] at g
  rw [upd_self h2] at g
  rw [upd_self h10] at g
  rw [upd_self h11] at g
  rw [upd_self h12] at g
  rw [upd_self h112] at g
  exact g
theorem Z22.p117_okE (Q : AHeap → Bool → Prop) (Y102 : Tup [.ac, .ac, .int .i64, .int .i64, .int .i64] → AHeap → Prop) (X102 : Env → AHeap → Prop) (hX102 : ∀ s t H, Z22.R102 s t → Y102 s H → X102 t H) {x1 : AC} {x2 : AC} {x10 : Int} {x11 : Int} {x12 : Int} {H : AHeap} (j : Env) : Z22.p117 Q Y102 x1 x2 x10 x11 x12 H → wpC Tryz.prog Z22.c117 (upd (upd (upd (upd (upd j 1 (.one x1)) 2 (.one x2)) 10 (.one (.int .i64 x10))) 11 (.one (.int .i64 x11))) 12 (.one (.int .i64 x12))) H (kBlk 9 (Z22.k110 Q X102)) := cO (sP (o_fa rfl (fun q_1 => sP (o_ld1 rfl (fun (v_2 : Int) => sP (o_eq rfl rfl (sP (o_mov rfl (s_cons (w_gputT rfl (o_fa rfl (fun q_3 => s_cons (w_gputY rfl (o_ld1 rfl (fun (v_4 : Int) => s_cons (w_gputY rfl (o_eq rfl rfl (s_cons (w_gputY rfl (o_mov rfl (s_cons (w_gputT rfl (o_mov rfl (s_cons (w_gputY rfl (o_mov rfl (s_cons (w_gputY rfl (o_ia rfl rfl (fun q_5 => s_cons (w_gputY rfl (o_ld1 rfl (fun (v_6 : Int) => s_cons (w_gputY rfl (o_mov rfl (s_cons (w_gputY rfl (o_lt rfl rfl (s_cons (w_gputY rfl (o_pickT rfl rfl (s_cons (w_gputY rfl (o_mov rfl (s_cons (w_gputF rfl (s_cons (w_gputN rfl (s_cons (w_gputN rfl (s_cons (w_gputN rfl (s_cons (w_gputJ rfl (s_cons (w_gputJ rfl (s_cons (w_gputJ rfl (s_cons (w_gputJ rfl (s_cons (w_gputJ rfl (s_cons (w_gputJ rfl (s_cons (w_gputN rfl (s_cons (w_gputY rfl (o_pickT rfl rfl (sP (o_pickT rfl rfl (sK (Z22.p119_ok Q Y102 X102 hX102 rfl rfl rfl rfl rfl rfl))))))))))))))))))))))))))) (o_fa rfl (fun q_7 => s_cons (w_gputY rfl (o_ld1 rfl (fun (v_8 : Int) => s_cons (w_gputY rfl (o_eq rfl rfl (s_cons (w_gputY rfl (o_mov rfl (s_cons (w_gputT rfl (o_mov rfl (s_cons (w_gputY rfl (o_mov rfl (s_cons (w_gputY rfl (o_ia rfl rfl (fun q_9 => s_cons (w_gputY rfl (o_ld1 rfl (fun (v_10 : Int) => s_cons (w_gputY rfl (o_mov rfl (s_cons (w_gputY rfl (o_gt rfl rfl (s_cons (w_gputY rfl (o_pickT rfl rfl (s_cons (w_gputY rfl (o_pickF rfl rfl (sP (o_pickT rfl rfl (sK (Z22.p119_ok Q Y102 X102 hX102 rfl rfl rfl rfl rfl rfl)))))))))))))))))))))))))) (s_cons (w_gputN rfl (s_cons (w_gputN rfl (s_cons (w_gputN rfl (s_cons (w_gputN rfl (s_cons (w_gputN rfl (s_cons (w_gputY rfl (o_pickF rfl rfl (s_cons (w_gputY rfl (o_pickF rfl rfl (sP (o_pickT rfl rfl (sK (Z22.p119_ok Q Y102 X102 hX102 rfl rfl rfl rfl rfl rfl)))))))))))))))))))))))))))))))))))))))))))))))))))))))) (s_cons (w_gputN rfl (s_cons (w_gputN rfl (s_cons (w_gputN rfl (s_cons (w_gputN rfl (s_cons (w_gputN rfl (s_cons (w_gputY rfl (o_pickF rfl rfl (s_cons (w_gputY rfl (o_mov rfl (s_cons (w_gputY rfl (o_fa rfl (fun q_11 => s_cons (w_gputY rfl (o_ld1 rfl (fun (v_12 : Int) => s_cons (w_gputY rfl (o_eq rfl rfl (s_cons (w_gputY rfl (o_mov rfl (s_cons (w_gputT rfl (o_mov rfl (s_cons (w_gputY rfl (o_mov rfl (s_cons (w_gputY rfl (o_ia rfl rfl (fun q_13 => s_cons (w_gputY rfl (o_ld1 rfl (fun (v_14 : Int) => s_cons (w_gputY rfl (o_mov rfl (s_cons (w_gputY rfl (o_gt rfl rfl (s_cons (w_gputY rfl (o_pickT rfl rfl (s_cons (w_gputY rfl (o_pickF rfl rfl (sP (o_pickT rfl rfl (sK (Z22.p119_ok Q Y102 X102 hX102 rfl rfl rfl rfl rfl rfl)))))))))))))))))))))))))) (s_cons (w_gputN rfl (s_cons (w_gputN rfl (s_cons (w_gputN rfl (s_cons (w_gputN rfl (s_cons (w_gputN rfl (s_cons (w_gputY rfl (o_pickF rfl rfl (s_cons (w_gputY rfl (o_pickF rfl rfl (sP (o_pickT rfl rfl (sK (Z22.p119_ok Q Y102 X102 hX102 rfl rfl rfl rfl rfl rfl)))))))))))))))))))))))))))))))))))))))))))))))))))))))))))))) (s_cons (w_gputN rfl (s_cons (w_gputN rfl (s_cons (w_gputN rfl (s_cons (w_gputJ rfl (s_cons (w_gputJ rfl (s_cons (w_gputJ rfl (s_cons (w_gputJ rfl (s_cons (w_gputJ rfl (s_cons (w_gputJ rfl (s_cons (w_gputN rfl (s_cons (w_gputN rfl (s_cons (w_gputJ rfl (s_cons (w_gputJ rfl (s_cons (w_gputJ rfl (s_cons (w_gputJ rfl (s_cons (w_gputJ rfl (s_cons (w_gputJ rfl (s_cons (w_gputJ rfl (s_cons (w_gputJ rfl (s_cons (w_gputJ rfl (s_cons (w_gputJ rfl (s_cons (w_gputJ rfl (s_cons (w_gputN rfl (sP (o_pickF rfl rfl (sK (Z22.p119_ok Q Y102 X102 hX102 rfl rfl rfl rfl rfl rfl))))))))))))))))))))))))))))))))))))))))))))))))))))))))))))
theorem Z22.p117_ok (Q : AHeap → Bool → Prop) (Y102 : Tup [.ac, .ac, .int .i64, .int .i64, .int .i64] → AHeap → Prop) (X102 : Env → AHeap → Prop) (hX102 : ∀ s t H, Z22.R102 s t → Y102 s H → X102 t H) {x1 : AC} {x2 : AC} {x10 : Int} {x11 : Int} {x12 : Int} {H : AHeap} {t : Env} (h1 : t 1 = (.one x1)) (h2 : t 2 = (.one x2)) (h10 : t 10 = (.one (.int .i64 x10))) (h11 : t 11 = (.one (.int .i64 x11))) (h12 : t 12 = (.one (.int .i64 x12))) (h : Z22.p117 Q Y102 x1 x2 x10 x11 x12 H) : wpC Tryz.prog Z22.c117 t H (kBlk 9 (Z22.k110 Q X102)) := by
  have g := Z22.p117_okE Q Y102 X102 hX102 t h
  rw [upd_self h1] at g
  rw [upd_self h2] at g
  rw [upd_self h10] at g
  rw [upd_self h11] at g
  rw [upd_self h12] at g
  exact g
theorem Z22.b102_ok (Q : AHeap → Bool → Prop) (Y102 : Tup [.ac, .ac, .int .i64, .int .i64, .int .i64] → AHeap → Prop) (X102 : Env → AHeap → Prop) (hX102 : ∀ s t H, Z22.R102 s t → Y102 s H → X102 t H) {x1 : AC} {x2 : AC} {x10 : Int} {x11 : Int} {x12 : Int} {H : AHeap} (j : Env) : Z22.b102 Q Y102 x1 x2 x10 x11 x12 H → wpC Tryz.prog Z22.c103 (upd (upd (upd (upd (upd j 1 (.one x1)) 2 (.one x2)) 10 (.one (.int .i64 x10))) 11 (.one (.int .i64 x11))) 12 (.one (.int .i64 x12))) H (kSeq X102 (kBlk 8 (Z22.k99 Q))) := c_seq (cO (sP (o_mov rfl (sP (o_mov rfl (sP (o_lens rfl (fun n_1 => sP (o_lt rfl rfl (sK (c_if rfl (c_skip (k_seq (c_seq (c_blk (c_seq (cO (sP (o_mov rfl (sP (o_mov rfl (sP (o_ia rfl rfl (fun q_2 => sP (o_ld1 rfl (fun (v_3 : Int) => sP (o_fa rfl (fun q_4 => sP (o_ld1 rfl (fun (v_5 : Int) => sP (o_eq rfl rfl (sK (c_if rfl (c_ops (sP (o_mov rfl (sP (o_add rfl rfl (sP (o_mov rfl (sK (Z22.p117_ok Q Y102 X102 hX102 rfl rfl rfl rfl rfl))))))))) (c_skip (k_seq (Z22.p117_ok Q Y102 X102 hX102 rfl rfl rfl rfl rfl))))))))))))))))))))))))) (c_exit (k_seqE (k_seqE (k_blkH (k_seq (c_seq (cO (sP (o_fa rfl (fun q_6 => sP (o_ld1 rfl (fun (v_7 : Int) => sP (o_eq rfl rfl (sK (c_if rfl (cO (sP (o_mov rfl (sP (o_ia rfl rfl (fun q_8 => sP (o_ld1 rfl (fun (v_9 : Int) => sP (o_mov rfl (sP (o_eq rfl rfl (sP (o_mov rfl (sK (c_ret (k_seqR (k_topR (r_one rfl (r_nil (fun h => ⟨(((v_9 == x10) : Bool), ()), rfl, h⟩)))))))))))))))))))) (c_skip (k_seq (cO (sP (o_mov rfl (sP (o_ia rfl rfl (fun q_10 => sP (o_ld1 rfl (fun (v_11 : Int) => sP (o_mov rfl (sP (o_eq rfl rfl (sP (o_mov rfl (sK (c_ret (k_topR (r_one rfl (r_nil (fun h => ⟨(((v_11 == x11) : Bool), ()), rfl, h⟩)))))))))))))))))))))))))))))))))))))))))))))))
theorem Z22.l102_ok (Q : AHeap → Bool → Prop) {x1 : AC} {x2 : AC} {x10 : Int} {x11 : Int} {x12 : Int} {H : AHeap} {t : Env} (h1 : t 1 = (.one x1)) (h2 : t 2 = (.one x2)) (h10 : t 10 = (.one (.int .i64 x10))) (h11 : t 11 = (.one (.int .i64 x11))) (h12 : t 12 = (.one (.int .i64 x12))) : Z22.l102 Q x1 x2 x10 x11 x12 H → wpC Tryz.prog (.loop Z22.c103) t H (kBlk 8 (Z22.k99 Q)) :=
  m_loop Z22.R102 ⟨h1, h2, h10, h11, h12, trivial⟩ fun X Y hX s t H hR hB => by
    have g := Z22.b102_ok Q Y X hX t hB
    rw [upd_self hR.1] at g
    rw [upd_self hR.2.1] at g
    rw [upd_self hR.2.2.1] at g
    rw [upd_self hR.2.2.2.1] at g
    rw [upd_self hR.2.2.2.2.1] at g
    exact g
theorem Z22.b67_ok (Q : AHeap → Bool → Prop) (Y52 : Tup [.ac, .ac, .int .i64] → AHeap → Prop) (X52 : Env → AHeap → Prop) (hX52 : ∀ s t H, Z22.R52 s t → Y52 s H → X52 t H) (Y67 : Tup [.ac, .ac, .int .i64, .bool, .int .i64] → AHeap → Prop) (X67 : Env → AHeap → Prop) (hX67 : ∀ s t H, Z22.R67 s t → Y67 s H → X67 t H) {x1 : AC} {x2 : AC} {x7 : Int} {x8 : Bool} {x9 : Int} {H : AHeap} (j : Env) : Z22.b67 Q Y52 Y67 x1 x2 x7 x8 x9 H → wpC Tryz.prog Z22.c68 (upd (upd (upd (upd (upd j 1 (.one x1)) 2 (.one x2)) 7 (.one (.int .i64 x7))) 8 (.one (.bool x8))) 9 (.one (.int .i64 x9))) H (kSeq X67 (kBlk 6 (Z22.k64 Q X52))) := c_seq (cO (sP (o_mov rfl (sP (o_mov rfl (sP (o_lens rfl (fun n_1 => sP (o_lt rfl rfl (sK (c_if rfl (c_skip (k_seq (c_seq (c_blk (cO (sP (o_fa rfl (fun q_2 => sP (o_ld1 rfl (fun (v_3 : AC) => sP (o_mov rfl (sP (o_ia rfl rfl (fun q_4 => sP (o_ld1 rfl (fun (v_5 : AC) => sP (o_mov rfl (sP (o_ia rfl rfl (fun q_6 => sP (o_ld1 rfl (fun (v_7 : Int) => sP (o_mov rfl (sP (o_mov rfl (sP (o_ia rfl rfl (fun q_8 => sP (o_ld1 rfl (fun (v_9 : Int) => sP (o_ne rfl rfl (sK (c_if rfl (c_ops (sP (o_mov rfl (s_nil (k_blk (k_seq (c_ops (sP (o_mov rfl (sP (o_add rfl rfl (sP (o_mov rfl (sK (hX67 _ _ _ ⟨rfl, rfl, rfl, rfl, rfl, trivial⟩))))))))))))))) (c_skip (k_blk (k_seq (c_ops (sP (o_mov rfl (sP (o_add rfl rfl (sP (o_mov rfl (sK (hX67 _ _ _ ⟨rfl, rfl, rfl, rfl, rfl, trivial⟩))))))))))))))))))))))))))))))))))))))))))))) (c_exit (k_seqE (k_seqE (k_blkH (k_seq (cO (sP (o_mov rfl (sK (c_if rfl (cO (sP (o_mov rfl (sK (c_ret (k_blkR (k_seqR (k_seqR (k_blkR (k_seqR (k_seqR (k_topR (r_one rfl (r_nil (fun h => ⟨((true : Bool), ()), rfl, h⟩))))))))))))))) (c_skip (k_blk (k_seq (c_ops (sP (o_mov rfl (sP (o_add rfl rfl (sP (o_mov rfl (sK (hX52 _ _ _ ⟨rfl, rfl, rfl, trivial⟩)))))))))))))))))))))))))))))))))
theorem Z22.l67_ok (Q : AHeap → Bool → Prop) (Y52 : Tup [.ac, .ac, .int .i64] → AHeap → Prop) (X52 : Env → AHeap → Prop) (hX52 : ∀ s t H, Z22.R52 s t → Y52 s H → X52 t H) {x1 : AC} {x2 : AC} {x7 : Int} {x8 : Bool} {x9 : Int} {H : AHeap} {t : Env} (h1 : t 1 = (.one x1)) (h2 : t 2 = (.one x2)) (h7 : t 7 = (.one (.int .i64 x7))) (h8 : t 8 = (.one (.bool x8))) (h9 : t 9 = (.one (.int .i64 x9))) : Z22.l67 Q Y52 x1 x2 x7 x8 x9 H → wpC Tryz.prog (.loop Z22.c68) t H (kBlk 6 (Z22.k64 Q X52)) :=
  m_loop Z22.R67 ⟨h1, h2, h7, h8, h9, trivial⟩ fun X Y hX s t H hR hB => by
    have g := Z22.b67_ok Q Y52 X52 hX52 Y X hX t hB
    rw [upd_self hR.1] at g
    rw [upd_self hR.2.1] at g
    rw [upd_self hR.2.2.1] at g
    rw [upd_self hR.2.2.2.1] at g
    rw [upd_self hR.2.2.2.2.1] at g
    exact g
theorem Z22.b52_ok (Q : AHeap → Bool → Prop) (Y52 : Tup [.ac, .ac, .int .i64] → AHeap → Prop) (X52 : Env → AHeap → Prop) (hX52 : ∀ s t H, Z22.R52 s t → Y52 s H → X52 t H) {x1 : AC} {x2 : AC} {x7 : Int} {H : AHeap} (j : Env) : Z22.b52 Q Y52 x1 x2 x7 H → wpC Tryz.prog Z22.c53 (upd (upd (upd j 1 (.one x1)) 2 (.one x2)) 7 (.one (.int .i64 x7))) H (kSeq X52 (kBlk 4 (Z22.k49 Q))) := c_seq (cO (sP (o_mov rfl (sP (o_fa rfl (fun q_1 => sP (o_ld1 rfl (fun (v_2 : AC) => sP (o_lens rfl (fun n_3 => sP (o_lt rfl rfl (sK (c_if rfl (c_skip (k_seq (c_seq (c_blk (cO (sP (o_mov rfl (sK (c_seq (cO (sP (o_mov rfl (sK (c_blk (Z22.l67_ok Q Y52 X52 hX52 rfl rfl rfl rfl rfl))))))))))))))) (c_exit (k_seqE (k_seqE (k_blkH (k_seq (cO (sP (o_mov rfl (sK (c_ret (k_seqR (k_topR (r_one rfl (r_nil (fun h => ⟨((false : Bool), ()), rfl, h⟩))))))))))))))))))))))))))))
theorem Z22.l52_ok (Q : AHeap → Bool → Prop) {x1 : AC} {x2 : AC} {x7 : Int} {H : AHeap} {t : Env} (h1 : t 1 = (.one x1)) (h2 : t 2 = (.one x2)) (h7 : t 7 = (.one (.int .i64 x7))) : Z22.l52 Q x1 x2 x7 H → wpC Tryz.prog (.loop Z22.c53) t H (kBlk 4 (Z22.k49 Q)) :=
  m_loop Z22.R52 ⟨h1, h2, h7, trivial⟩ fun X Y hX s t H hR hB => by
    have g := Z22.b52_ok Q Y X hX t hB
    rw [upd_self hR.1] at g
    rw [upd_self hR.2.1] at g
    rw [upd_self hR.2.2.1] at g
    exact g
theorem Z22.b22_ok (Q : AHeap → Bool → Prop) (Y10 : Tup [.ac, .int .i64] → AHeap → Prop) (X10 : Env → AHeap → Prop) (hX10 : ∀ s t H, Z22.R10 s t → Y10 s H → X10 t H) (Y22 : Tup [.ac, .int .i64, .int .i64] → AHeap → Prop) (X22 : Env → AHeap → Prop) (hX22 : ∀ s t H, Z22.R22 s t → Y22 s H → X22 t H) {x1 : AC} {x5 : Int} {x6 : Int} {H : AHeap} (j : Env) : Z22.b22 Q Y10 Y22 x1 x5 x6 H → wpC Tryz.prog Z22.c23 (upd (upd (upd j 1 (.one x1)) 5 (.one (.int .i64 x5))) 6 (.one (.int .i64 x6))) H (kSeq X22 (kBlk 2 (kBlk 1 (Z22.k18 Q X10)))) := c_seq (cO (sP (o_mov rfl (sP (o_mov rfl (sP (o_lt rfl rfl (sK (c_if rfl (c_skip (k_seq (c_seq (c_blk (cO (sP (o_mov rfl (sP (o_mov rfl (sP (o_ia rfl rfl (fun q_1 => sP (o_ld1 rfl (fun (v_2 : Int) => sP (o_mov rfl (sP (o_mov rfl (sP (o_ia rfl rfl (fun q_3 => sP (o_ld1 rfl (fun (v_4 : Int) => sP (o_eq rfl rfl (sK (c_if rfl (cO (sP (o_mov rfl (sK (c_ret (k_blkR (k_seqR (k_seqR (k_blkR (k_blkR (k_seqR (k_seqR (k_blkR (k_seqR (k_seqR (k_topR (r_one rfl (r_nil (fun h => ⟨((false : Bool), ()), rfl, h⟩))))))))))))))))))) (c_skip (k_blk (k_seq (c_ops (sP (o_mov rfl (sP (o_add rfl rfl (sP (o_mov rfl (sK (hX22 _ _ _ ⟨rfl, rfl, rfl, trivial⟩))))))))))))))))))))))))))))))))))))) (c_exit (k_seqE (k_seqE (k_blkH (k_blk (k_seq (c_ops (sP (o_mov rfl (sP (o_add rfl rfl (sP (o_mov rfl (sK (hX10 _ _ _ ⟨rfl, rfl, trivial⟩))))))))))))))))))))))))
theorem Z22.l22_ok (Q : AHeap → Bool → Prop) (Y10 : Tup [.ac, .int .i64] → AHeap → Prop) (X10 : Env → AHeap → Prop) (hX10 : ∀ s t H, Z22.R10 s t → Y10 s H → X10 t H) {x1 : AC} {x5 : Int} {x6 : Int} {H : AHeap} {t : Env} (h1 : t 1 = (.one x1)) (h5 : t 5 = (.one (.int .i64 x5))) (h6 : t 6 = (.one (.int .i64 x6))) : Z22.l22 Q Y10 x1 x5 x6 H → wpC Tryz.prog (.loop Z22.c23) t H (kBlk 2 (kBlk 1 (Z22.k18 Q X10))) :=
  m_loop Z22.R22 ⟨h1, h5, h6, trivial⟩ fun X Y hX s t H hR hB => by
    have g := Z22.b22_ok Q Y10 X10 hX10 Y X hX t hB
    rw [upd_self hR.1] at g
    rw [upd_self hR.2.1] at g
    rw [upd_self hR.2.2.1] at g
    exact g
theorem Z22.b10_ok (Q : AHeap → Bool → Prop) (Y10 : Tup [.ac, .int .i64] → AHeap → Prop) (X10 : Env → AHeap → Prop) (hX10 : ∀ s t H, Z22.R10 s t → Y10 s H → X10 t H) {x1 : AC} {x5 : Int} {H : AHeap} (j : Env) : Z22.b10 Q Y10 x1 x5 H → wpC Tryz.prog Z22.c11 (upd (upd j 1 (.one x1)) 5 (.one (.int .i64 x5))) H (kSeq X10 (kBlk 0 (Z22.k7 Q))) := c_seq (cO (sP (o_mov rfl (sP (o_mov rfl (sP (o_lens rfl (fun n_1 => sP (o_lt rfl rfl (sK (c_if rfl (c_skip (k_seq (c_seq (c_blk (cO (sP (o_mov rfl (sK (c_blk (Z22.l22_ok Q Y10 X10 hX10 rfl rfl rfl)))))))))) (c_exit (k_seqE (k_seqE (k_blkH (k_seq (cO (sP (o_mov rfl (sK (c_ret (k_seqR (k_topR (r_one rfl (r_nil (fun h => ⟨((true : Bool), ()), rfl, h⟩))))))))))))))))))))))))))
theorem Z22.l10_ok (Q : AHeap → Bool → Prop) {x1 : AC} {x5 : Int} {H : AHeap} {t : Env} (h1 : t 1 = (.one x1)) (h5 : t 5 = (.one (.int .i64 x5))) : Z22.l10 Q x1 x5 H → wpC Tryz.prog (.loop Z22.c11) t H (kBlk 0 (Z22.k7 Q)) :=
  m_loop Z22.R10 ⟨h1, h5, trivial⟩ fun X Y hX s t H hR hB => by
    have g := Z22.b10_ok Q Y X hX t hB
    rw [upd_self hR.1] at g
    rw [upd_self hR.2.1] at g
    exact g
theorem Z22.ok {a0_0 : Int} {a0_1 : AC} {a0_2 : AC} {a0_3 : AC} {a0_4 : Int} {a0_5 : Int} {a0_6 : AC} {a1 : AC} {H : AHeap} (Q : AHeap → Bool → Prop) : Z22.W a0_0 a0_1 a0_2 a0_3 a0_4 a0_5 a0_6 a1 H Q → wpF Tryz.prog Z22.c [.tm 4] (envOf [(.agg [(.int .i64 a0_0), a0_1, a0_2, a0_3, (.int .i64 a0_4), (.int .i64 a0_5), a0_6]), (.one a1)]) H (Z22.KQ Q) := cO (sP (o_box rfl (fun p_1 H_2 => sP (o_mov rfl (sK (c_seq (cO (sP (o_fa rfl (fun q_3 => sP (o_ld1 rfl (fun (v_4 : Int) => sP (o_eq rfl rfl (sK (c_if rfl (c_seq (cO (sP (o_mov rfl (sK (c_blk (Z22.l10_ok Q rfl rfl))))))) (c_skip (k_seq (c_seq (cO (sP (o_fa rfl (fun q_5 => sP (o_ld1 rfl (fun (v_6 : Int) => sP (o_eq rfl rfl (sK (c_if rfl (c_seq (cO (sP (o_mov rfl (sK (c_blk (Z22.l52_ok Q rfl rfl rfl))))))) (c_skip (k_seq (cO (sP (o_mov rfl (sK (cO (sP (o_mov rfl (sP (o_ia rfl rfl (fun q_7 => sP (o_ld1 rfl (fun (v_8 : Int) => sP (o_mov rfl (sK (c_seq (cO (sP (o_mov rfl (sK (c_blk (Z22.l102_ok Q rfl rfl rfl rfl rfl))))))))))))))))))))))))))))))))))))))))))))))))))
theorem Z22.run {a0_0 : Int} {a0_1 : AC} {a0_2 : AC} {a0_3 : AC} {a0_4 : Int} {a0_5 : Int} {a0_6 : AC} {a1 : AC} {H : AHeap} {Q : AHeap → Bool → Prop} (h : Z22.W a0_0 a0_1 a0_2 a0_3 a0_4 a0_5 a0_6 a1 H Q) : Fn.Z22 a0_0 a0_1 a0_2 a0_3 a0_4 a0_5 a0_6 a1 H Q := by
  unfold Fn.Z22 RunT
  exact runK aggs_ok [(8, []), (19, []), (29, [])] Tryz.func78 rfl (by kernel_rfl) (by kernel_rfl) (by kernel_rfl) (by kernel_rfl) (by kernel_rfl) (Z22.ok Q h)
def Z33.c7 : RC := (.seq (.ops [.put 9 (.cm .lt (.tm 8) (.tm 7))]) (.seq (.cond 9 .skip (.exit 0)) (.seq (.block 1 (.seq (.ops [pM 10 8, pM 5 10]) (.seq (.ops [pM 11 1, pM 12 0, pM 13 5, .put 14 (.ia 1 (.tm 12) (.tm 13)), .put 15 (.ld false [.int .i64] (.tm 14)), .put 16 (.cm .eq (.tm 11) (.tm 15))]) (.cond 16 (.seq (.ops [pM 17 5, pM 4 17]) .ret) .skip)))) (.ops [.put 18 (.ar .add (.tm 8) (cI 1)), pM 8 18]))))
def Z33.c : RC := (.seq (.ops [.put 4 (.mov (cI 0))]) (.seq (.seq (.ops [pM 6 0, .put 7 (.lens (.tm 6)), .put 8 (.mov (cI 0))]) (.block 0 (.loop Z33.c7))) (.seq (.ops [.put 4 (.mov (.ct (.one (.int .i64 (-1)))))]) .ret)))
abbrev Z33.KQ (Q : AHeap → Int → Prop) : AV → AHeap → Prop := KQT [(false, [.int .i64])] Q
abbrev Z33.K (Q : AHeap → Int → Prop) : Ex → Env → AHeap → Prop := kTop [.tm 4] (Z33.KQ Q)
abbrev Z33.k3 (Q : AHeap → Int → Prop) : Ex → Env → AHeap → Prop := kSeq (fun t H => wpC Tryz.prog (.seq (.ops [.put 4 (.mov (.ct (.one (.int .i64 (-1)))))]) .ret) t H (Z33.K Q)) (Z33.K Q)
def Z33.R6 (s : Tup [.ac, .int .i64, .int .i64, .int .i64]) (t : Env) : Prop := t 0 = (.one (s.1)) ∧ t 1 = (.one (.int .i64 (s.2.1))) ∧ t 7 = (.one (.int .i64 (s.2.2.1))) ∧ t 8 = (.one (.int .i64 (s.2.2.2.1))) ∧ True
def Z33.b6 (Q : AHeap → Int → Prop) (Y6 : Tup [.ac, .int .i64, .int .i64, .int .i64] → AHeap → Prop) (x0 : AC) (x1 : Int) (x7 : Int) (x8 : Int) (H : AHeap) : Prop := CondB (decide (x8 < x7)) (IA 1 x0 x8 fun q_1 => Ld [.int .i64] H q_1 fun (v_2 : Int) => CondB (x1 == v_2) (Q H x8) (Y6 (x0, (x1 : Int), (x7 : Int), ((IntKind.wrap .i64 (x8 + 1)) : Int), ()) H)) (Q H (-1))
def Z33.l6 (Q : AHeap → Int → Prop) (x0 : AC) (x1 : Int) (x7 : Int) (x8 : Int) (H : AHeap) : Prop := LoopT (Tup [.ac, .int .i64, .int .i64, .int .i64]) (fun Y s H => Z33.b6 Q Y (s.1) (s.2.1) (s.2.2.1) (s.2.2.2.1) H) (x0, x1, x7, x8, ()) H
def Z33.W (a0 : AC) (a1 : Int) (H : AHeap) (Q : AHeap → Int → Prop) : Prop := LenS a0 fun n_1 => Z33.l6 Q a0 a1 n_1 0 H
theorem Z33.b6_ok (Q : AHeap → Int → Prop) (Y6 : Tup [.ac, .int .i64, .int .i64, .int .i64] → AHeap → Prop) (X6 : Env → AHeap → Prop) (hX6 : ∀ s t H, Z33.R6 s t → Y6 s H → X6 t H) {x0 : AC} {x1 : Int} {x7 : Int} {x8 : Int} {H : AHeap} (j : Env) : Z33.b6 Q Y6 x0 x1 x7 x8 H → wpC Tryz.prog Z33.c7 (upd (upd (upd (upd j 0 (.one x0)) 1 (.one (.int .i64 x1))) 7 (.one (.int .i64 x7))) 8 (.one (.int .i64 x8))) H (kSeq X6 (kBlk 0 (Z33.k3 Q))) := cO (sP (o_lt rfl rfl (sK (c_seq (c_if rfl (c_skip (k_seq (c_seq (c_blk (cO (sP (o_mov rfl (sP (o_mov rfl (sK (cO (sP (o_mov rfl (sP (o_mov rfl (sP (o_mov rfl (sP (o_ia rfl rfl (fun q_1 => sP (o_ld1 rfl (fun (v_2 : Int) => sP (o_eq rfl rfl (sK (c_if rfl (cO (sP (o_mov rfl (sP (o_mov rfl (sK (c_ret (k_blkR (k_seqR (k_seqR (k_blkR (k_seqR (k_topR (r_one rfl (r_nil (fun h => ⟨((x8 : Int), ()), rfl, h⟩)))))))))))))))) (c_skip (k_blk (k_seq (c_ops (sP (o_add rfl rfl (sP (o_mov rfl (sK (hX6 _ _ _ ⟨rfl, rfl, rfl, rfl, trivial⟩))))))))))))))))))))))))))))))))))) (c_exit (k_seqE (k_seqE (k_blkH (k_seq (cO (sP (o_mov rfl (sK (c_ret (k_topR (r_one rfl (r_nil (fun h => ⟨(((-1) : Int), ()), rfl, h⟩)))))))))))))))))))
theorem Z33.l6_ok (Q : AHeap → Int → Prop) {x0 : AC} {x1 : Int} {x7 : Int} {x8 : Int} {H : AHeap} {t : Env} (h0 : t 0 = (.one x0)) (h1 : t 1 = (.one (.int .i64 x1))) (h7 : t 7 = (.one (.int .i64 x7))) (h8 : t 8 = (.one (.int .i64 x8))) : Z33.l6 Q x0 x1 x7 x8 H → wpC Tryz.prog (.loop Z33.c7) t H (kBlk 0 (Z33.k3 Q)) :=
  m_loop Z33.R6 ⟨h0, h1, h7, h8, trivial⟩ fun X Y hX s t H hR hB => by
    have g := Z33.b6_ok Q Y X hX t hB
    rw [upd_self hR.1] at g
    rw [upd_self hR.2.1] at g
    rw [upd_self hR.2.2.1] at g
    rw [upd_self hR.2.2.2.1] at g
    exact g
theorem Z33.ok {a0 : AC} {a1 : Int} {H : AHeap} (Q : AHeap → Int → Prop) : Z33.W a0 a1 H Q → wpF Tryz.prog Z33.c [.tm 4] (envOf [(.one a0), (.one (.int .i64 a1))]) H (Z33.KQ Q) := cO (sP (o_mov rfl (sK (c_seq (cO (sP (o_mov rfl (sP (o_lens rfl (fun n_1 => sP (o_mov rfl (sK (c_blk (Z33.l6_ok Q rfl rfl rfl rfl))))))))))))))
theorem Z33.run {a0 : AC} {a1 : Int} {H : AHeap} {Q : AHeap → Int → Prop} (h : Z33.W a0 a1 H Q) : Fn.Z33 a0 a1 H Q := by
  unfold Fn.Z33 RunT
  exact runK aggs_ok [] Tryz.func79 rfl (by kernel_rfl) (by kernel_rfl) (by kernel_rfl) (by kernel_rfl) (by kernel_rfl) (Z33.ok Q h)
def Z5.c : RC := (.seq (.ops [.put 3 (.mov (.ct (.one (.bool false))))]) (.seq (.ops [pM 4 0, .put 5 (.lens (.tm 4)), .put 6 (.fa 1 (.tm 1)), .put 7 (.ld false [.ac] (.tm 6)), .put 8 (.lens (.tm 7)), .put 9 (.cm .ne (.tm 5) (.tm 8)), pM 3 9]) .ret))
abbrev Z5.KQ (Q : AHeap → Bool → Prop) : AV → AHeap → Prop := KQT [(false, [.bool])] Q
abbrev Z5.K (Q : AHeap → Bool → Prop) : Ex → Env → AHeap → Prop := kTop [.tm 3] (Z5.KQ Q)
def Z5.W (a0 : AC) (a1 : AC) (H : AHeap) (Q : AHeap → Bool → Prop) : Prop := LenS a0 fun n_1 => FA 1 a1 fun q_2 => Ld [.ac] H q_2 fun (v_3 : AC) => LenS v_3 fun n_4 => Q H (n_1 != n_4)
theorem Z5.ok {a0 : AC} {a1 : AC} {H : AHeap} (Q : AHeap → Bool → Prop) : Z5.W a0 a1 H Q → wpF Tryz.prog Z5.c [.tm 3] (envOf [(.one a0), (.one a1)]) H (Z5.KQ Q) := cO (sP (o_mov rfl (sK (cO (sP (o_mov rfl (sP (o_lens rfl (fun n_1 => sP (o_fa rfl (fun q_2 => sP (o_ld1 rfl (fun (v_3 : AC) => sP (o_lens rfl (fun n_4 => sP (o_ne rfl rfl (sP (o_mov rfl (sK (c_ret (k_topR (r_one rfl (r_nil (fun h => ⟨(((n_1 != n_4) : Bool), ()), rfl, h⟩))))))))))))))))))))))))
theorem Z5.run {a0 : AC} {a1 : AC} {H : AHeap} {Q : AHeap → Bool → Prop} (h : Z5.W a0 a1 H Q) : Fn.Z5 a0 a1 H Q := by
  unfold Fn.Z5 RunT
  exact runK aggs_ok [] Tryz.func80 rfl (by kernel_rfl) (by kernel_rfl) (by kernel_rfl) (by kernel_rfl) (by kernel_rfl) (Z5.ok Q h)
def Z10.c : RC := (.seq (.ops [.put 2 (.mov (.ct (.one (.bool false))))]) (.seq (.ops [pM 3 0, .put 4 (.call 30 [(.tm 3)]), .put 5 (.not (.tm 4)), pM 2 5]) .ret))
abbrev Z10.KQ (Q : AHeap → Bool → Prop) : AV → AHeap → Prop := KQT [(false, [.bool])] Q
abbrev Z10.K (Q : AHeap → Bool → Prop) : Ex → Env → AHeap → Prop := kTop [.tm 2] (Z10.KQ Q)
def Z10.W (a0 : Int) (H : AHeap) (Q : AHeap → Bool → Prop) : Prop := Fn.Z13 a0 H fun H_1 (v_2 : Bool) => Q H_1 (!v_2)
theorem Z10.ok {a0 : Int} {H : AHeap} (Q : AHeap → Bool → Prop) : Z10.W a0 H Q → wpF Tryz.prog Z10.c [.tm 2] (envOf [(.one (.int .i64 a0))]) H (Z10.KQ Q) := cO (sP (o_mov rfl (sK (cO (sP (o_mov rfl (sP (o_call rfl (cv_1 (fun H_1 (v_2 : Bool) => sP (o_not rfl (sP (o_mov rfl (sK (c_ret (k_topR (r_one rfl (r_nil (fun h => ⟨(((!v_2) : Bool), ()), rfl, h⟩)))))))))))))))))))
theorem Z10.run {a0 : Int} {H : AHeap} {Q : AHeap → Bool → Prop} (h : Z10.W a0 H Q) : Fn.Z10 a0 H Q := by
  unfold Fn.Z10 RunT
  exact runK aggs_ok [] Tryz.func81 rfl (by kernel_rfl) (by kernel_rfl) (by kernel_rfl) (by kernel_rfl) (by kernel_rfl) (Z10.ok Q h)
end Go.Proofs.YtkpjcnlljdccjaaGreat
end
section
namespace Go.Proofs.YtkpjcnlljdccjaaGreat
open Go.AI
set_option maxRecDepth 100000
set_option maxHeartbeats 2000000
set_option linter.unusedVariables false
attribute [local irreducible] Ld Sto New NewS NewM NN NZ GE0 FA IA IAP LenS Slc App Cpy Clr MkS Fnc NilQ IxS Look MSet Run CV RunT CVT LoopT Same1 Same2 wpC wpOs wpT wpO wpOp
def Z19.c5 : RC := (.cond 10 (.seq (.ops [.put 11 (.fa 1 (.tm 1)), .put 12 (.ld false [.ac] (.tm 11)), .put 13 (.lens (.tm 12)), pM 2 13]) .ret) .skip)
def Z19.c : RC := (.seq (.ops [.put 1 (.box 44 (.tm 0)), .put 2 (.mov (cI 0))]) (.seq (.seq (.ops [.put 3 (.fa 0 (.tm 1)), .put 4 (.ld false [.int .i64] (.tm 3)), .put 5 (.cm .eq (.tm 4) (cI 1)), pM 6 5, .gput 7 6 false (.fa 0 (.tm 1)), .gput 8 6 false (.ld false [.int .i64] (.tm 7)), .gput 9 6 false (.cm .eq (.tm 8) (cI 9)), .put 10 (.pick (.tm 6) (.ct (.one (.bool true))) (.tm 9))]) Z19.c5) (.seq (.seq (.ops [.put 14 (.fa 0 (.tm 1)), .put 15 (.ld false [.int .i64] (.tm 14)), .put 16 (.cm .eq (.tm 15) (cI 10))]) (.cond 16 (.seq (.ops [.put 17 (.fa 1 (.tm 1)), .put 18 (.ld false [.ac] (.tm 17)), .put 19 (.lens (.tm 18)), .put 20 (.ar .sub (.tm 19) (cI 1)), pM 2 20]) .ret) .skip)) (.seq (.ops [.put 2 (.mov (cI 0))]) .ret))))
abbrev Z19.KQ (Q : AHeap → Int → Prop) : AV → AHeap → Prop := KQT [(false, [.int .i64])] Q
abbrev Z19.K (Q : AHeap → Int → Prop) : Ex → Env → AHeap → Prop := kTop [.tm 2] (Z19.KQ Q)
abbrev Z19.k3 (Q : AHeap → Int → Prop) : Ex → Env → AHeap → Prop := kSeq (fun t H => wpC Tryz.prog (.seq (.seq (.ops [.put 14 (.fa 0 (.tm 1)), .put 15 (.ld false [.int .i64] (.tm 14)), .put 16 (.cm .eq (.tm 15) (cI 10))]) (.cond 16 (.seq (.ops [.put 17 (.fa 1 (.tm 1)), .put 18 (.ld false [.ac] (.tm 17)), .put 19 (.lens (.tm 18)), .put 20 (.ar .sub (.tm 19) (cI 1)), pM 2 20]) .ret) .skip)) (.seq (.ops [.put 2 (.mov (cI 0))]) .ret)) t H (Z19.K Q)) (Z19.K Q)
def Z19.p5 (Q : AHeap → Int → Prop) (x1 : AC) (x10 : Bool) (H : AHeap) : Prop := CondB x10 (FA 1 x1 fun q_1 => Ld [.ac] H q_1 fun (v_2 : AC) => LenS v_2 fun n_3 => Q H n_3) (FA 0 x1 fun q_4 => Ld [.int .i64] H q_4 fun (v_5 : Int) => CondB (v_5 == 10) (FA 1 x1 fun q_6 => Ld [.ac] H q_6 fun (v_7 : AC) => LenS v_7 fun n_8 => Q H (IntKind.wrap .i64 (n_8 - 1))) (Q H 0))
def Z19.W (a0_0 : Int) (a0_1 : AC) (a0_2 : AC) (a0_3 : AC) (a0_4 : Int) (a0_5 : Int) (a0_6 : AC) (H : AHeap) (Q : AHeap → Int → Prop) : Prop := New 44 [(.int .i64 a0_0), a0_1, a0_2, a0_3, (.int .i64 a0_4), (.int .i64 a0_5), a0_6] H fun p_1 H_2 => FA 0 p_1 fun q_3 => Ld [.int .i64] H_2 q_3 fun (v_4 : Int) => CondB (v_4 == 1) (Z19.p5 Q p_1 true H_2) (FA 0 p_1 fun q_5 => Ld [.int .i64] H_2 q_5 fun (v_6 : Int) => Z19.p5 Q p_1 (v_6 == 9) H_2)
theorem Z19.p5_okE (Q : AHeap → Int → Prop) {x1 : AC} {x10 : Bool} {H : AHeap} (j : Env) : Z19.p5 Q x1 x10 H → wpC Tryz.prog Z19.c5 (upd (upd j 1 (.one x1)) 10 (.one (.bool x10))) H (Z19.k3 Q) := c_if rfl (cO (sP (o_fa rfl (fun q_1 => sP (o_ld1 rfl (fun (v_2 : AC) => sP (o_lens rfl (fun n_3 => sP (o_mov rfl (sK (c_ret (k_seqR (k_topR (r_one rfl (r_nil (fun h => ⟨((n_3 : Int), ()), rfl, h⟩)))))))))))))))) (c_skip (k_seq (c_seq (cO (sP (o_fa rfl (fun q_4 => sP (o_ld1 rfl (fun (v_5 : Int) => sP (o_eq rfl rfl (sK (c_if rfl (cO (sP (o_fa rfl (fun q_6 => sP (o_ld1 rfl (fun (v_7 : AC) => sP (o_lens rfl (fun n_8 => sP (o_sub rfl rfl (sP (o_mov rfl (sK (c_ret (k_seqR (k_topR (r_one rfl (r_nil (fun h => ⟨(((IntKind.wrap .i64 (n_8 - 1)) : Int), ()), rfl, h⟩)))))))))))))))))) (c_skip (k_seq (cO (sP (o_mov rfl (sK (c_ret (k_topR (r_one rfl (r_nil (fun h => ⟨((0 : Int), ()), rfl, h⟩)))))))))))))))))))))))
theorem Z19.p5_ok (Q : AHeap → Int → Prop) {x1 : AC} {x10 : Bool} {H : AHeap} {t : Env} (h1 : t 1 = (.one x1)) (h10 : t 10 = (.one (.bool x10))) (h : Z19.p5 Q x1 x10 H) : wpC Tryz.prog Z19.c5 t H (Z19.k3 Q) := by
  have g := Z19.p5_okE Q t h
  rw [upd_self h1] at g
  rw [upd_self h10] at g
  exact g
theorem Z19.ok {a0_0 : Int} {a0_1 : AC} {a0_2 : AC} {a0_3 : AC} {a0_4 : Int} {a0_5 : Int} {a0_6 : AC} {H : AHeap} (Q : AHeap → Int → Prop) : Z19.W a0_0 a0_1 a0_2 a0_3 a0_4 a0_5 a0_6 H Q → wpF Tryz.prog Z19.c [.tm 2] (envOf [(.agg [(.int .i64 a0_0), a0_1, a0_2, a0_3, (.int .i64 a0_4), (.int .i64 a0_5), a0_6])]) H (Z19.KQ Q) := cO (sP (o_box rfl (fun p_1 H_2 => sP (o_mov rfl (sK (c_seq (cO (sP (o_fa rfl (fun q_3 => sP (o_ld1 rfl (fun (v_4 : Int) => sP (o_eq rfl rfl (sP (o_mov rfl (s_cons (w_gputF rfl (s_cons (w_gputN rfl (s_cons (w_gputN rfl (sP (o_pickT rfl rfl (sK (Z19.p5_ok Q rfl rfl)))))))) (o_fa rfl (fun q_5 => s_cons (w_gputY rfl (o_ld1 rfl (fun (v_6 : Int) => s_cons (w_gputY rfl (o_eq rfl rfl (sP (o_pickF rfl rfl (sK (Z19.p5_ok Q rfl rfl))))))))))))))))))))))))))))
theorem Z19.run {a0_0 : Int} {a0_1 : AC} {a0_2 : AC} {a0_3 : AC} {a0_4 : Int} {a0_5 : Int} {a0_6 : AC} {H : AHeap} {Q : AHeap → Int → Prop} (h : Z19.W a0_0 a0_1 a0_2 a0_3 a0_4 a0_5 a0_6 H Q) : Fn.Z19 a0_0 a0_1 a0_2 a0_3 a0_4 a0_5 a0_6 H Q := by
  unfold Fn.Z19 RunT
  exact runK aggs_ok [] Tryz.func82 rfl (by kernel_rfl) (by kernel_rfl) (by kernel_rfl) (by kernel_rfl) (by kernel_rfl) (Z19.ok Q h)
end Go.Proofs.YtkpjcnlljdccjaaGreat
end
section
namespace Go.Proofs.YtkpjcnlljdccjaaGreat
open Go.AI
set_option maxRecDepth 100000
set_option maxHeartbeats 2000000
set_option linter.unusedVariables false
attribute [local irreducible] Ld Sto New NewS NewM NN NZ GE0 FA IA IAP LenS Slc App Cpy Clr MkS Fnc NilQ IxS Look MSet Run CV RunT CVT LoopT Same1 Same2 wpC wpOs wpT wpO wpOp
def Z26.c : RC := (.seq (.ops [.put 2 (.mov (.ct (.one (.sl none 0 0 (some 0)))))]) (.seq (.ops [pM 3 0, .put 4 (.call 105 [(.ct (.one (.sl none 0 0 (some 0)))), (.tm 3)]), pM 2 4]) .ret))
abbrev Z26.KQ (Q : AHeap → AC → Prop) : AV → AHeap → Prop := KQT [(false, [.ac])] Q
abbrev Z26.K (Q : AHeap → AC → Prop) : Ex → Env → AHeap → Prop := kTop [.tm 2] (Z26.KQ Q)
def Z26.W (a0 : AC) (H : AHeap) (Q : AHeap → AC → Prop) : Prop := RunT Tryz.prog [(false, [.ac])] 105 [(.one (.sl none 0 0 (some 0))), (.one a0)] H fun H_1 (v_2 : AC) => Q H_1 v_2
theorem Z26.ok {a0 : AC} {H : AHeap} (Q : AHeap → AC → Prop) : Z26.W a0 H Q → wpF Tryz.prog Z26.c [.tm 2] (envOf [(.one a0)]) H (Z26.KQ Q) := cO (sP (o_mov rfl (sK (cO (sP (o_mov rfl (sP (o_call rfl (cv_1 (fun H_1 (v_2 : AC) => sP (o_mov rfl (sK (c_ret (k_topR (r_one rfl (r_nil (fun h => ⟨(v_2, ()), rfl, h⟩)))))))))))))))))
theorem Z26.run {a0 : AC} {H : AHeap} {Q : AHeap → AC → Prop} (h : Z26.W a0 H Q) : Fn.Z26 a0 H Q := by
  unfold Fn.Z26 RunT
  exact runK aggs_ok [] Tryz.func92 rfl (by kernel_rfl) (by kernel_rfl) (by kernel_rfl) (by kernel_rfl) (by kernel_rfl) (Z26.ok Q h)
def Z36.c4 : RC := (.seq (.ops [.put 8 (.cm .lt (.tm 7) (.tm 6))]) (.seq (.cond 8 .skip (.exit 0)) (.seq (.block 1 (.seq (.ops [.put 9 (.ia 1 (.tm 5) (.tm 7)), .put 10 (.ld false [.int .i64] (.tm 9)), pM 4 10]) (.seq (.ops [pM 11 0, pM 12 4, .put 13 (.callv (.tm 11) [(.tm 12)]), .put 14 (.not (.tm 13))]) (.cond 14 .ret .skip)))) (.ops [.put 15 (.ar .add (.tm 7) (cI 1)), pM 7 15]))))
def Z36.c : RC := (.seq (.ops [.put 5 (.ld false [.ac] (.tm 1)), .put 6 (.lens (.tm 5)), .put 7 (.mov (cI 0))]) (.block 0 (.loop Z36.c4)))
abbrev Z36.KQ (Q : AHeap → Prop) : AV → AHeap → Prop := KQT [] Q
abbrev Z36.K (Q : AHeap → Prop) : Ex → Env → AHeap → Prop := kTop [] (Z36.KQ Q)
def Z36.R3 (s : Tup [.ac, .ac, .int .i64, .int .i64]) (t : Env) : Prop := t 0 = (.one (s.1)) ∧ t 5 = (.one (s.2.1)) ∧ t 6 = (.one (.int .i64 (s.2.2.1))) ∧ t 7 = (.one (.int .i64 (s.2.2.2.1))) ∧ True
def Z36.b3 (Q : AHeap → Prop) (Y3 : Tup [.ac, .ac, .int .i64, .int .i64] → AHeap → Prop) (x0 : AC) (x5 : AC) (x6 : Int) (x7 : Int) (H : AHeap) : Prop := CondB (decide (x7 < x6)) (IA 1 x5 x7 fun q_1 => Ld [.int .i64] H q_1 fun (v_2 : Int) => CVT Tryz.prog [(false, [.bool])] x0 [(.one (.int .i64 v_2))] H fun H_3 (v_4 : Bool) => CondB (!v_4) (Q H_3 ) (Y3 (x0, x5, (x6 : Int), ((IntKind.wrap .i64 (x7 + 1)) : Int), ()) H_3)) (Q H )
def Z36.l3 (Q : AHeap → Prop) (x0 : AC) (x5 : AC) (x6 : Int) (x7 : Int) (H : AHeap) : Prop := LoopT (Tup [.ac, .ac, .int .i64, .int .i64]) (fun Y s H => Z36.b3 Q Y (s.1) (s.2.1) (s.2.2.1) (s.2.2.2.1) H) (x0, x5, x6, x7, ()) H
def Z36.W (a0 : AC) (a1 : AC) (H : AHeap) (Q : AHeap → Prop) : Prop := Ld [.ac] H a1 fun (v_1 : AC) => LenS v_1 fun n_2 => Z36.l3 Q a0 v_1 n_2 0 H
theorem Z36.b3_ok (Q : AHeap → Prop) (Y3 : Tup [.ac, .ac, .int .i64, .int .i64] → AHeap → Prop) (X3 : Env → AHeap → Prop) (hX3 : ∀ s t H, Z36.R3 s t → Y3 s H → X3 t H) {x0 : AC} {x5 : AC} {x6 : Int} {x7 : Int} {H : AHeap} (j : Env) : Z36.b3 Q Y3 x0 x5 x6 x7 H → wpC Tryz.prog Z36.c4 (upd (upd (upd (upd j 0 (.one x0)) 5 (.one x5)) 6 (.one (.int .i64 x6))) 7 (.one (.int .i64 x7))) H (kSeq X3 (kBlk 0 (Z36.K Q))) := cO (sP (o_lt rfl rfl (sK (c_seq (c_if rfl (c_skip (k_seq (c_seq (c_blk (cO (sP (o_ia rfl rfl (fun q_1 => sP (o_ld1 rfl (fun (v_2 : Int) => sP (o_mov rfl (sK (cO (sP (o_mov rfl (sP (o_mov rfl (sP (o_callv rfl rfl (cu_1 (fun H_3 (v_4 : Bool) => sP (o_not rfl (sK (c_if rfl (c_ret (k_blkR (k_seqR (k_seqR (k_blkR (k_topR (r_nil (fun h => ⟨(()), rfl, h⟩)))))))) (c_skip (k_blk (k_seq (c_ops (sP (o_add rfl rfl (sP (o_mov rfl (sK (hX3 _ _ _ ⟨rfl, rfl, rfl, rfl, trivial⟩)))))))))))))))))))))))))))))))))) (c_exit (k_seqE (k_seqE (k_blkH (k_top (r_nil (fun h => ⟨(()), rfl, h⟩))))))))))))
theorem Z36.l3_ok (Q : AHeap → Prop) {x0 : AC} {x5 : AC} {x6 : Int} {x7 : Int} {H : AHeap} {t : Env} (h0 : t 0 = (.one x0)) (h5 : t 5 = (.one x5)) (h6 : t 6 = (.one (.int .i64 x6))) (h7 : t 7 = (.one (.int .i64 x7))) : Z36.l3 Q x0 x5 x6 x7 H → wpC Tryz.prog (.loop Z36.c4) t H (kBlk 0 (Z36.K Q)) :=
  m_loop Z36.R3 ⟨h0, h5, h6, h7, trivial⟩ fun X Y hX s t H hR hB => by
    have g := Z36.b3_ok Q Y X hX t hB
    rw [upd_self hR.1] at g
    rw [upd_self hR.2.1] at g
    rw [upd_self hR.2.2.1] at g
    rw [upd_self hR.2.2.2.1] at g
    exact g
theorem Z36.ok {a0 : AC} {a1 : AC} {H : AHeap} (Q : AHeap → Prop) : Z36.W a0 a1 H Q → wpF Tryz.prog Z36.c [] (envOf [(.one a0), (.one a1)]) H (Z36.KQ Q) := cO (sP (o_ld1 rfl (fun (v_1 : AC) => sP (o_lens rfl (fun n_2 => sP (o_mov rfl (sK (c_blk (Z36.l3_ok Q rfl rfl rfl rfl)))))))))
theorem Z36.run {a0 : AC} {a1 : AC} {H : AHeap} {Q : AHeap → Prop} (h : Z36.W a0 a1 H Q) : Fn.Z36 a0 a1 H Q := by
  unfold Fn.Z36 RunT
  exact runK aggs_ok [] Tryz.func94 rfl (by kernel_rfl) (by kernel_rfl) (by kernel_rfl) (by kernel_rfl) (by kernel_rfl) (Z36.ok Q h)
def Z32.c7 : RC := (.seq (.ops [.put 9 (.cm .lt (.tm 8) (.tm 7))]) (.seq (.cond 9 .skip (.exit 0)) (.seq (.block 1 (.seq (.ops [pM 10 8, pM 5 10]) (.seq (.ops [pM 11 1, pM 12 0, pM 13 5, .put 14 (.ia 1 (.tm 12) (.tm 13)), .put 15 (.ld false [.ac] (.tm 14)), .put 16 (.callv (.tm 11) [(.tm 15)])]) (.cond 16 (.seq (.ops [pM 17 5, pM 4 17]) .ret) .skip)))) (.ops [.put 18 (.ar .add (.tm 8) (cI 1)), pM 8 18]))))
def Z32.c : RC := (.seq (.ops [.put 4 (.mov (cI 0))]) (.seq (.seq (.ops [pM 6 0, .put 7 (.lens (.tm 6)), .put 8 (.mov (cI 0))]) (.block 0 (.loop Z32.c7))) (.seq (.ops [.put 4 (.mov (.ct (.one (.int .i64 (-1)))))]) .ret)))
abbrev Z32.KQ (Q : AHeap → Int → Prop) : AV → AHeap → Prop := KQT [(false, [.int .i64])] Q
abbrev Z32.K (Q : AHeap → Int → Prop) : Ex → Env → AHeap → Prop := kTop [.tm 4] (Z32.KQ Q)
abbrev Z32.k3 (Q : AHeap → Int → Prop) : Ex → Env → AHeap → Prop := kSeq (fun t H => wpC Tryz.prog (.seq (.ops [.put 4 (.mov (.ct (.one (.int .i64 (-1)))))]) .ret) t H (Z32.K Q)) (Z32.K Q)
def Z32.R6 (s : Tup [.ac, .ac, .int .i64, .int .i64]) (t : Env) : Prop := t 0 = (.one (s.1)) ∧ t 1 = (.one (s.2.1)) ∧ t 7 = (.one (.int .i64 (s.2.2.1))) ∧ t 8 = (.one (.int .i64 (s.2.2.2.1))) ∧ True
def Z32.b6 (Q : AHeap → Int → Prop) (Y6 : Tup [.ac, .ac, .int .i64, .int .i64] → AHeap → Prop) (x0 : AC) (x1 : AC) (x7 : Int) (x8 : Int) (H : AHeap) : Prop := CondB (decide (x8 < x7)) (IA 1 x0 x8 fun q_1 => Ld [.ac] H q_1 fun (v_2 : AC) => CVT Tryz.prog [(false, [.bool])] x1 [(.one v_2)] H fun H_3 (v_4 : Bool) => CondB v_4 (Q H_3 x8) (Y6 (x0, x1, (x7 : Int), ((IntKind.wrap .i64 (x8 + 1)) : Int), ()) H_3)) (Q H (-1))
def Z32.l6 (Q : AHeap → Int → Prop) (x0 : AC) (x1 : AC) (x7 : Int) (x8 : Int) (H : AHeap) : Prop := LoopT (Tup [.ac, .ac, .int .i64, .int .i64]) (fun Y s H => Z32.b6 Q Y (s.1) (s.2.1) (s.2.2.1) (s.2.2.2.1) H) (x0, x1, x7, x8, ()) H
def Z32.W (a0 : AC) (a1 : AC) (H : AHeap) (Q : AHeap → Int → Prop) : Prop := LenS a0 fun n_1 => Z32.l6 Q a0 a1 n_1 0 H
theorem Z32.b6_ok (Q : AHeap → Int → Prop) (Y6 : Tup [.ac, .ac, .int .i64, .int .i64] → AHeap → Prop) (X6 : Env → AHeap → Prop) (hX6 : ∀ s t H, Z32.R6 s t → Y6 s H → X6 t H) {x0 : AC} {x1 : AC} {x7 : Int} {x8 : Int} {H : AHeap} (j : Env) : Z32.b6 Q Y6 x0 x1 x7 x8 H → wpC Tryz.prog Z32.c7 (upd (upd (upd (upd j 0 (.one x0)) 1 (.one x1)) 7 (.one (.int .i64 x7))) 8 (.one (.int .i64 x8))) H (kSeq X6 (kBlk 0 (Z32.k3 Q))) := cO (sP (o_lt rfl rfl (sK (c_seq (c_if rfl (c_skip (k_seq (c_seq (c_blk (cO (sP (o_mov rfl (sP (o_mov rfl (sK (cO (sP (o_mov rfl (sP (o_mov rfl (sP (o_mov rfl (sP (o_ia rfl rfl (fun q_1 => sP (o_ld1 rfl (fun (v_2 : AC) => sP (o_callv rfl rfl (cu_1 (fun H_3 (v_4 : Bool) => sK (c_if rfl (cO (sP (o_mov rfl (sP (o_mov rfl (sK (c_ret (k_blkR (k_seqR (k_seqR (k_blkR (k_seqR (k_topR (r_one rfl (r_nil (fun h => ⟨((x8 : Int), ()), rfl, h⟩)))))))))))))))) (c_skip (k_blk (k_seq (c_ops (sP (o_add rfl rfl (sP (o_mov rfl (sK (hX6 _ _ _ ⟨rfl, rfl, rfl, rfl, trivial⟩)))))))))))))))))))))))))))))))))))) (c_exit (k_seqE (k_seqE (k_blkH (k_seq (cO (sP (o_mov rfl (sK (c_ret (k_topR (r_one rfl (r_nil (fun h => ⟨(((-1) : Int), ()), rfl, h⟩)))))))))))))))))))
theorem Z32.l6_ok (Q : AHeap → Int → Prop) {x0 : AC} {x1 : AC} {x7 : Int} {x8 : Int} {H : AHeap} {t : Env} (h0 : t 0 = (.one x0)) (h1 : t 1 = (.one x1)) (h7 : t 7 = (.one (.int .i64 x7))) (h8 : t 8 = (.one (.int .i64 x8))) : Z32.l6 Q x0 x1 x7 x8 H → wpC Tryz.prog (.loop Z32.c7) t H (kBlk 0 (Z32.k3 Q)) :=
  m_loop Z32.R6 ⟨h0, h1, h7, h8, trivial⟩ fun X Y hX s t H hR hB => by
    have g := Z32.b6_ok Q Y X hX t hB
    rw [upd_self hR.1] at g
    rw [upd_self hR.2.1] at g
    rw [upd_self hR.2.2.1] at g
    rw [upd_self hR.2.2.2.1] at g
    exact g
theorem Z32.ok {a0 : AC} {a1 : AC} {H : AHeap} (Q : AHeap → Int → Prop) : Z32.W a0 a1 H Q → wpF Tryz.prog Z32.c [.tm 4] (envOf [(.one a0), (.one a1)]) H (Z32.KQ Q) := cO (sP (o_mov rfl (sK (c_seq (cO (sP (o_mov rfl (sP (o_lens rfl (fun n_1 => sP (o_mov rfl (sK (c_blk (Z32.l6_ok Q rfl rfl rfl rfl))))))))))))))
theorem Z32.run {a0 : AC} {a1 : AC} {H : AHeap} {Q : AHeap → Int → Prop} (h : Z32.W a0 a1 H Q) : Fn.Z32 a0 a1 H Q := by
  unfold Fn.Z32 RunT
  exact runK aggs_ok [] Tryz.func97 rfl (by kernel_rfl) (by kernel_rfl) (by kernel_rfl) (by kernel_rfl) (by kernel_rfl) (Z32.ok Q h)
end Go.Proofs.YtkpjcnlljdccjaaGreat
end
section
namespace Go.Proofs.YtkpjcnlljdccjaaGreat
open Go.AI
set_option maxRecDepth 100000
set_option maxHeartbeats 2000000
set_option linter.unusedVariables false
attribute [local irreducible] Ld Sto New NewS NewM NN NZ GE0 FA IA IAP LenS Slc App Cpy Clr MkS Fnc NilQ IxS Look MSet Run CV RunT CVT LoopT Same1 Same2 wpC wpOs wpT wpO wpOp
def Z1.c27 : RC := (.seq (.ops [.put 27 (.cm .lt (.tm 26) (.tm 25))]) (.seq (.cond 27 .skip (.exit 0)) (.seq (.block 1 (.seq (.ops [pM 28 26, .put 29 (.ia 1 (.tm 24) (.tm 26)), .put 30 (.ld false [.int .i64] (.tm 29)), pM 8 28, pM 9 30]) (.ops [pM 31 7, pM 32 8, pM 33 1, pM 34 9, .put 35 (.ia 1 (.tm 33) (.tm 34)), .put 36 (.ld false [.int .i64] (.tm 35)), .put 37 (.ia 1 (.tm 31) (.tm 32)), .run (.st 1 (.tm 37) (.tm 36))]))) (.ops [.put 38 (.ar .add (.tm 26) (cI 1)), pM 26 38]))))
def Z1.c : RC := (.seq (.ops [.put 2 (.box 44 (.tm 0)), .put 4 (.mov (.ct (.one (.bool false)))), .put 5 (.mov (cI 0))]) (.seq (.seq (.ops [.put 10 (.ld true [.int .i64, .ac, .ac, .ac, .int .i64, .int .i64, .ac] (.tm 2)), pM 11 1, .put 12 (.lens (.tm 11)), .put 13 (.call 24 [(.tm 10), (.tm 12)]), pM 6 13]) (.seq (.ops [pM 14 6, .put 15 (.cm .ne (.tm 14) (cI 0))]) (.cond 15 (.seq (.ops [pM 16 6, .put 4 (.mov (.ct (.one (.bool false)))), pM 5 16]) .ret) .skip))) (.seq (.seq (.ops [pM 17 1, .put 18 (.call 40 [(.tm 17), (.ct (.one (.fn 41 [] [])))])]) (.cond 18 (.seq (.ops [.put 4 (.mov (.ct (.one (.bool false)))), .put 5 (.mov (cI 1))]) .ret) .skip)) (.seq (.ops [.put 19 (.fa 1 (.tm 2)), .put 20 (.ld false [.ac] (.tm 19)), .put 21 (.lens (.tm 20)), .put 22 (.mks 3 1 8 [(.int .i64 0)] (.tm 21) (.tm 21)), pM 7 22]) (.seq (.seq (.ops [.put 23 (.fa 1 (.tm 2)), .put 24 (.ld false [.ac] (.tm 23)), .put 25 (.lens (.tm 24)), .put 26 (.mov (cI 0))]) (.block 0 (.loop Z1.c27))) (.seq (.ops [.put 39 (.ld true [.int .i64, .ac, .ac, .ac, .int .i64, .int .i64, .ac] (.tm 2)), pM 40 7, .put 41 (.call 42 [(.tm 39), (.tm 40)]), pM 4 41, .put 5 (.mov (cI 0))]) .ret))))))
abbrev Z1.KQ (Q : AHeap → Bool → Int → Prop) : AV → AHeap → Prop := KQT [(false, [.bool]), (false, [.int .i64])] Q
abbrev Z1.K (Q : AHeap → Bool → Int → Prop) : Ex → Env → AHeap → Prop := kTop [.tm 4, .tm 5] (Z1.KQ Q)
abbrev Z1.k23 (Q : AHeap → Bool → Int → Prop) : Ex → Env → AHeap → Prop := kSeq (fun t H => wpC Tryz.prog (.seq (.ops [.put 39 (.ld true [.int .i64, .ac, .ac, .ac, .int .i64, .int .i64, .ac] (.tm 2)), pM 40 7, .put 41 (.call 42 [(.tm 39), (.tm 40)]), pM 4 41, .put 5 (.mov (cI 0))]) .ret) t H (Z1.K Q)) (Z1.K Q)
def Z1.R26 (s : Tup [.ac, .ac, .ac, .ac, .int .i64, .int .i64]) (t : Env) : Prop := t 1 = (.one (s.1)) ∧ t 2 = (.one (s.2.1)) ∧ t 7 = (.one (s.2.2.1)) ∧ t 24 = (.one (s.2.2.2.1)) ∧ t 25 = (.one (.int .i64 (s.2.2.2.2.1))) ∧ t 26 = (.one (.int .i64 (s.2.2.2.2.2.1))) ∧ True
def Z1.b26 (Q : AHeap → Bool → Int → Prop) (Y26 : Tup [.ac, .ac, .ac, .ac, .int .i64, .int .i64] → AHeap → Prop) (x1 : AC) (x2 : AC) (x7 : AC) (x24 : AC) (x25 : Int) (x26 : Int) (H : AHeap) : Prop := CondB (decide (x26 < x25)) (IA 1 x24 x26 fun q_1 => Ld [.int .i64] H q_1 fun (v_2 : Int) => IA 1 x1 v_2 fun q_3 => Ld [.int .i64] H q_3 fun (v_4 : Int) => IA 1 x7 x26 fun q_5 => Sto H q_5 [(.int .i64 v_4)] fun H_6 => Y26 (x1, x2, x7, x24, (x25 : Int), ((IntKind.wrap .i64 (x26 + 1)) : Int), ()) H_6) (Ld [.int .i64, .ac, .ac, .ac, .int .i64, .int .i64, .ac] H x2 fun (v_7 : Int) (v_8 : AC) (v_9 : AC) (v_10 : AC) (v_11 : Int) (v_12 : Int) (v_13 : AC) => Fn.Z6 v_7 v_8 v_9 v_10 v_11 v_12 v_13 x7 H fun H_14 (v_15 : Bool) => Q H_14 v_15 0)
def Z1.l26 (Q : AHeap → Bool → Int → Prop) (x1 : AC) (x2 : AC) (x7 : AC) (x24 : AC) (x25 : Int) (x26 : Int) (H : AHeap) : Prop := LoopT (Tup [.ac, .ac, .ac, .ac, .int .i64, .int .i64]) (fun Y s H => Z1.b26 Q Y (s.1) (s.2.1) (s.2.2.1) (s.2.2.2.1) (s.2.2.2.2.1) (s.2.2.2.2.2.1) H) (x1, x2, x7, x24, x25, x26, ()) H
def Z1.W (a0_0 : Int) (a0_1 : AC) (a0_2 : AC) (a0_3 : AC) (a0_4 : Int) (a0_5 : Int) (a0_6 : AC) (a1 : AC) (H : AHeap) (Q : AHeap → Bool → Int → Prop) : Prop := New 44 [(.int .i64 a0_0), a0_1, a0_2, a0_3, (.int .i64 a0_4), (.int .i64 a0_5), a0_6] H fun p_1 H_2 => Ld [.int .i64, .ac, .ac, .ac, .int .i64, .int .i64, .ac] H_2 p_1 fun (v_3 : Int) (v_4 : AC) (v_5 : AC) (v_6 : AC) (v_7 : Int) (v_8 : Int) (v_9 : AC) => LenS a1 fun n_10 => Fn.Z0 v_3 v_4 v_5 v_6 v_7 v_8 v_9 n_10 H_2 fun H_11 (v_12 : Int) => CondB (v_12 != 0) (Q H_11 false v_12) (Fn.Z27 a1 (.fn 41 [] []) H_11 fun H_13 (v_14 : Bool) => CondB v_14 (Q H_13 false 1) (FA 1 p_1 fun q_15 => Ld [.ac] H_13 q_15 fun (v_16 : AC) => LenS v_16 fun n_17 => MkS 3 1 8 [(.int .i64 0)] n_17 n_17 H_13 fun p_18 H_19 => FA 1 p_1 fun q_20 => Ld [.ac] H_19 q_20 fun (v_21 : AC) => LenS v_21 fun n_22 => Z1.l26 Q a1 p_1 p_18 v_21 n_22 0 H_19))
theorem Z1.b26_ok (Q : AHeap → Bool → Int → Prop) (Y26 : Tup [.ac, .ac, .ac, .ac, .int .i64, .int .i64] → AHeap → Prop) (X26 : Env → AHeap → Prop) (hX26 : ∀ s t H, Z1.R26 s t → Y26 s H → X26 t H) {x1 : AC} {x2 : AC} {x7 : AC} {x24 : AC} {x25 : Int} {x26 : Int} {H : AHeap} (j : Env) : Z1.b26 Q Y26 x1 x2 x7 x24 x25 x26 H → wpC Tryz.prog Z1.c27 (upd (upd (upd (upd (upd (upd j 1 (.one x1)) 2 (.one x2)) 7 (.one x7)) 24 (.one x24)) 25 (.one (.int .i64 x25))) 26 (.one (.int .i64 x26))) H (kSeq X26 (kBlk 0 (Z1.k23 Q))) := cO (sP (o_lt rfl rfl (sK (c_seq (c_if rfl (c_skip (k_seq (c_seq (c_blk (cO (sP (o_mov rfl (sP (o_ia rfl rfl (fun q_1 => sP (o_ld1 rfl (fun (v_2 : Int) => sP (o_mov rfl (sP (o_mov rfl (sK (c_ops (sP (o_mov rfl (sP (o_mov rfl (sP (o_mov rfl (sP (o_mov rfl (sP (o_ia rfl rfl (fun q_3 => sP (o_ld1 rfl (fun (v_4 : Int) => sP (o_ia rfl rfl (fun q_5 => s_cons (w_run (o_st rfl rfl rfl (fun H_6 => s_nil (k_blk (k_seq (c_ops (sP (o_add rfl rfl (sP (o_mov rfl (sK (hX26 _ _ _ ⟨rfl, rfl, rfl, rfl, rfl, rfl, trivial⟩)))))))))))))))))))))))))))))))))))))))))))) (c_exit (k_seqE (k_seqE (k_blkH (k_seq (cO (sP (o_ld7 rfl (fun (v_7 : Int) (v_8 : AC) (v_9 : AC) (v_10 : AC) (v_11 : Int) (v_12 : Int) (v_13 : AC) => sP (o_mov rfl (sP (o_call rfl (cv_1 (fun H_14 (v_15 : Bool) => sP (o_mov rfl (sP (o_mov rfl (sK (c_ret (k_topR (r_one rfl (r_one rfl (r_nil (fun h => ⟨((v_15 : Bool), (0 : Int), ()), rfl, h⟩)))))))))))))))))))))))))))))
theorem Z1.l26_ok (Q : AHeap → Bool → Int → Prop) {x1 : AC} {x2 : AC} {x7 : AC} {x24 : AC} {x25 : Int} {x26 : Int} {H : AHeap} {t : Env} (h1 : t 1 = (.one x1)) (h2 : t 2 = (.one x2)) (h7 : t 7 = (.one x7)) (h24 : t 24 = (.one x24)) (h25 : t 25 = (.one (.int .i64 x25))) (h26 : t 26 = (.one (.int .i64 x26))) : Z1.l26 Q x1 x2 x7 x24 x25 x26 H → wpC Tryz.prog (.loop Z1.c27) t H (kBlk 0 (Z1.k23 Q)) :=
  m_loop Z1.R26 ⟨h1, h2, h7, h24, h25, h26, trivial⟩ fun X Y hX s t H hR hB => by
    have g := Z1.b26_ok Q Y X hX t hB
    rw [upd_self hR.1] at g
    rw [upd_self hR.2.1] at g
    rw [upd_self hR.2.2.1] at g
    rw [upd_self hR.2.2.2.1] at g
    rw [upd_self hR.2.2.2.2.1] at g
    rw [upd_self hR.2.2.2.2.2.1] at g
    exact g
theorem Z1.ok {a0_0 : Int} {a0_1 : AC} {a0_2 : AC} {a0_3 : AC} {a0_4 : Int} {a0_5 : Int} {a0_6 : AC} {a1 : AC} {H : AHeap} (Q : AHeap → Bool → Int → Prop) : Z1.W a0_0 a0_1 a0_2 a0_3 a0_4 a0_5 a0_6 a1 H Q → wpF Tryz.prog Z1.c [.tm 4, .tm 5] (envOf [(.agg [(.int .i64 a0_0), a0_1, a0_2, a0_3, (.int .i64 a0_4), (.int .i64 a0_5), a0_6]), (.one a1)]) H (Z1.KQ Q) := cO (sP (o_box rfl (fun p_1 H_2 => sP (o_mov rfl (sP (o_mov rfl (sK (c_seq (cO (sP (o_ld7 rfl (fun (v_3 : Int) (v_4 : AC) (v_5 : AC) (v_6 : AC) (v_7 : Int) (v_8 : Int) (v_9 : AC) => sP (o_mov rfl (sP (o_lens rfl (fun n_10 => sP (o_call rfl (cv_1 (fun H_11 (v_12 : Int) => sP (o_mov rfl (sK (cO (sP (o_mov rfl (sP (o_ne rfl rfl (sK (c_if rfl (cO (sP (o_mov rfl (sP (o_mov rfl (sP (o_mov rfl (sK (c_ret (k_seqR (k_topR (r_one rfl (r_one rfl (r_nil (fun h => ⟨((false : Bool), (v_12 : Int), ()), rfl, h⟩))))))))))))))) (c_skip (k_seq (c_seq (cO (sP (o_mov rfl (sP (o_call rfl (cv_1 (fun H_13 (v_14 : Bool) => sK (c_if rfl (cO (sP (o_mov rfl (sP (o_mov rfl (sK (c_ret (k_seqR (k_topR (r_one rfl (r_one rfl (r_nil (fun h => ⟨((false : Bool), (1 : Int), ()), rfl, h⟩))))))))))))) (c_skip (k_seq (cO (sP (o_fa rfl (fun q_15 => sP (o_ld1 rfl (fun (v_16 : AC) => sP (o_lens rfl (fun n_17 => sP (o_mks rfl rfl (fun p_18 H_19 => sP (o_mov rfl (sK (c_seq (cO (sP (o_fa rfl (fun q_20 => sP (o_ld1 rfl (fun (v_21 : AC) => sP (o_lens rfl (fun n_22 => sP (o_mov rfl (sK (c_blk (Z1.l26_ok Q rfl rfl rfl rfl rfl rfl))))))))))))))))))))))))))))))))))))))))))))))))))))))))))))))))))
theorem Z1.run {a0_0 : Int} {a0_1 : AC} {a0_2 : AC} {a0_3 : AC} {a0_4 : Int} {a0_5 : Int} {a0_6 : AC} {a1 : AC} {H : AHeap} {Q : AHeap → Bool → Int → Prop} (h : Z1.W a0_0 a0_1 a0_2 a0_3 a0_4 a0_5 a0_6 a1 H Q) : Fn.Z1 a0_0 a0_1 a0_2 a0_3 a0_4 a0_5 a0_6 a1 H Q := by
  unfold Fn.Z1 RunT
  exact runK aggs_ok [] Tryz.func22 rfl (by kernel_rfl) (by kernel_rfl) (by kernel_rfl) (by kernel_rfl) (by kernel_rfl) (Z1.ok Q h)
def Z17.c40 : RC := (.seq (.seq (.ops [pM 29 9, .put 30 (.fa 1 (.tm 2)), .put 31 (.ld false [.ac] (.tm 30)), .put 32 (.lens (.tm 31)), .put 33 (.cm .lt (.tm 29) (.tm 32))]) (.cond 33 .skip (.exit 2))) (.seq (.block 3 (.ops [pM 36 8, pM 37 1, .put 38 (.fa 1 (.tm 2)), .put 39 (.ld false [.ac] (.tm 38)), pM 40 9, .put 41 (.ia 1 (.tm 39) (.tm 40)), .put 42 (.ld false [.int .i64] (.tm 41)), .put 43 (.ia 1 (.tm 37) (.tm 42)), .put 44 (.ld false [.int .i64] (.tm 43)), .put 45 (.blds 3 1 1 [(.int .i64 0)] [(0, 1, (.tm 44))]), .put 46 (.app 3 1 8 (.tm 36) (.tm 45)), pM 8 46])) (.ops [pM 34 9, .put 35 (.ar .add (.tm 34) (cI 1)), pM 9 35])))
def Z17.c17 : RC := (.seq (.seq (.ops [pM 17 7, pM 18 1, .put 19 (.lens (.tm 18)), .put 20 (.cm .lt (.tm 17) (.tm 19))]) (.cond 20 .skip (.exit 0))) (.seq (.block 1 (.seq (.ops [pM 23 1, pM 24 7, .put 25 (.ia 1 (.tm 23) (.tm 24)), .put 26 (.ld false [.int .i64] (.tm 25)), .put 27 (.call 43 [(.tm 26), (.ct (.one (.int .i64 (-16384)))), (cI 16384)]), .put 28 (.not (.tm 27))]) (.cond 28 (.seq (.ops [.put 4 (.mov (.ct (.one (.bool false)))), .put 5 (.mov (cI 1))]) .ret) .skip))) (.ops [pM 21 7, .put 22 (.ar .add (.tm 21) (cI 1)), pM 7 22])))
def Z17.c : RC := (.seq (.ops [.put 2 (.box 44 (.tm 0)), .put 4 (.mov (.ct (.one (.bool false)))), .put 5 (.mov (cI 0))]) (.seq (.seq (.ops [.put 10 (.ld true [.int .i64, .ac, .ac, .ac, .int .i64, .int .i64, .ac] (.tm 2)), pM 11 1, .put 12 (.lens (.tm 11)), .put 13 (.call 25 [(.tm 10), (.tm 12)]), pM 6 13]) (.seq (.ops [pM 14 6, .put 15 (.cm .ne (.tm 14) (cI 0))]) (.cond 15 (.seq (.ops [pM 16 6, .put 4 (.mov (.ct (.one (.bool false)))), pM 5 16]) .ret) .skip))) (.seq (.seq (.ops [.put 7 (.mov (cI 0))]) (.block 0 (.loop Z17.c17))) (.seq (.ops [.put 8 (.mov (.ct (.one (.sl none 0 0 (some 0)))))]) (.seq (.seq (.ops [.put 9 (.mov (cI 0))]) (.block 2 (.loop Z17.c40))) (.seq (.ops [.put 47 (.ld true [.int .i64, .ac, .ac, .ac, .int .i64, .int .i64, .ac] (.tm 2)), pM 48 8, .put 49 (.call 44 [(.tm 47), (.tm 48)]), pM 4 49, .put 5 (.mov (cI 0))]) .ret))))))
abbrev Z17.KQ (Q : AHeap → Bool → Int → Prop) : AV → AHeap → Prop := KQT [(false, [.bool]), (false, [.int .i64])] Q
abbrev Z17.K (Q : AHeap → Bool → Int → Prop) : Ex → Env → AHeap → Prop := kTop [.tm 4, .tm 5] (Z17.KQ Q)
abbrev Z17.k13 (Q : AHeap → Bool → Int → Prop) : Ex → Env → AHeap → Prop := kSeq (fun t H => wpC Tryz.prog (.seq (.ops [.put 8 (.mov (.ct (.one (.sl none 0 0 (some 0)))))]) (.seq (.seq (.ops [.put 9 (.mov (cI 0))]) (.block 2 (.loop Z17.c40))) (.seq (.ops [.put 47 (.ld true [.int .i64, .ac, .ac, .ac, .int .i64, .int .i64, .ac] (.tm 2)), pM 48 8, .put 49 (.call 44 [(.tm 47), (.tm 48)]), pM 4 49, .put 5 (.mov (cI 0))]) .ret))) t H (Z17.K Q)) (Z17.K Q)
abbrev Z17.k36 (Q : AHeap → Bool → Int → Prop) : Ex → Env → AHeap → Prop := kSeq (fun t H => wpC Tryz.prog (.seq (.ops [.put 47 (.ld true [.int .i64, .ac, .ac, .ac, .int .i64, .int .i64, .ac] (.tm 2)), pM 48 8, .put 49 (.call 44 [(.tm 47), (.tm 48)]), pM 4 49, .put 5 (.mov (cI 0))]) .ret) t H (Z17.K Q)) (Z17.K Q)
def Z17.R39 (s : Tup [.ac, .ac, .ac, .int .i64]) (t : Env) : Prop := t 1 = (.one (s.1)) ∧ t 2 = (.one (s.2.1)) ∧ t 8 = (.one (s.2.2.1)) ∧ t 9 = (.one (.int .i64 (s.2.2.2.1))) ∧ True
def Z17.R16 (s : Tup [.ac, .ac, .int .i64]) (t : Env) : Prop := t 1 = (.one (s.1)) ∧ t 2 = (.one (s.2.1)) ∧ t 7 = (.one (.int .i64 (s.2.2.1))) ∧ True
def Z17.b39 (Q : AHeap → Bool → Int → Prop) (Y39 : Tup [.ac, .ac, .ac, .int .i64] → AHeap → Prop) (x1 : AC) (x2 : AC) (x8 : AC) (x9 : Int) (H : AHeap) : Prop := FA 1 x2 fun q_1 => Ld [.ac] H q_1 fun (v_2 : AC) => LenS v_2 fun n_3 => CondB (decide (x9 < n_3)) (FA 1 x2 fun q_4 => Ld [.ac] H q_4 fun (v_5 : AC) => IA 1 v_5 x9 fun q_6 => Ld [.int .i64] H q_6 fun (v_7 : Int) => IA 1 x1 v_7 fun q_8 => Ld [.int .i64] H q_8 fun (v_9 : Int) => NewS 3 1 1 [(.int .i64 v_9)] H fun p_10 H_11 => App 3 1 8 x8 p_10 H_11 fun s_12 H_13 => Y39 (x1, x2, s_12, ((IntKind.wrap .i64 (x9 + 1)) : Int), ()) H_13) (Ld [.int .i64, .ac, .ac, .ac, .int .i64, .int .i64, .ac] H x2 fun (v_14 : Int) (v_15 : AC) (v_16 : AC) (v_17 : AC) (v_18 : Int) (v_19 : Int) (v_20 : AC) => Fn.Z16 v_14 v_15 v_16 v_17 v_18 v_19 v_20 x8 H fun H_21 (v_22 : Bool) => Q H_21 v_22 0)
def Z17.l39 (Q : AHeap → Bool → Int → Prop) (x1 : AC) (x2 : AC) (x8 : AC) (x9 : Int) (H : AHeap) : Prop := LoopT (Tup [.ac, .ac, .ac, .int .i64]) (fun Y s H => Z17.b39 Q Y (s.1) (s.2.1) (s.2.2.1) (s.2.2.2.1) H) (x1, x2, x8, x9, ()) H
def Z17.b16 (Q : AHeap → Bool → Int → Prop) (Y16 : Tup [.ac, .ac, .int .i64] → AHeap → Prop) (x1 : AC) (x2 : AC) (x7 : Int) (H : AHeap) : Prop := LenS x1 fun n_1 => CondB (decide (x7 < n_1)) (IA 1 x1 x7 fun q_2 => Ld [.int .i64] H q_2 fun (v_3 : Int) => Fn.Z25 v_3 (-16384) 16384 H fun H_4 (v_5 : Bool) => CondB (!v_5) (Q H_4 false 1) (Y16 (x1, x2, ((IntKind.wrap .i64 (x7 + 1)) : Int), ()) H_4)) (Z17.l39 Q x1 x2 (.sl none 0 0 (some 0)) 0 H)
def Z17.l16 (Q : AHeap → Bool → Int → Prop) (x1 : AC) (x2 : AC) (x7 : Int) (H : AHeap) : Prop := LoopT (Tup [.ac, .ac, .int .i64]) (fun Y s H => Z17.b16 Q Y (s.1) (s.2.1) (s.2.2.1) H) (x1, x2, x7, ()) H
def Z17.W (a0_0 : Int) (a0_1 : AC) (a0_2 : AC) (a0_3 : AC) (a0_4 : Int) (a0_5 : Int) (a0_6 : AC) (a1 : AC) (H : AHeap) (Q : AHeap → Bool → Int → Prop) : Prop := New 44 [(.int .i64 a0_0), a0_1, a0_2, a0_3, (.int .i64 a0_4), (.int .i64 a0_5), a0_6] H fun p_1 H_2 => Ld [.int .i64, .ac, .ac, .ac, .int .i64, .int .i64, .ac] H_2 p_1 fun (v_3 : Int) (v_4 : AC) (v_5 : AC) (v_6 : AC) (v_7 : Int) (v_8 : Int) (v_9 : AC) => LenS a1 fun n_10 => Fn.Z15 v_3 v_4 v_5 v_6 v_7 v_8 v_9 n_10 H_2 fun H_11 (v_12 : Int) => CondB (v_12 != 0) (Q H_11 false v_12) (Z17.l16 Q a1 p_1 0 H_11)
theorem Z17.b39_ok (Q : AHeap → Bool → Int → Prop) (Y39 : Tup [.ac, .ac, .ac, .int .i64] → AHeap → Prop) (X39 : Env → AHeap → Prop) (hX39 : ∀ s t H, Z17.R39 s t → Y39 s H → X39 t H) {x1 : AC} {x2 : AC} {x8 : AC} {x9 : Int} {H : AHeap} (j : Env) : Z17.b39 Q Y39 x1 x2 x8 x9 H → wpC Tryz.prog Z17.c40 (upd (upd (upd (upd j 1 (.one x1)) 2 (.one x2)) 8 (.one x8)) 9 (.one (.int .i64 x9))) H (kSeq X39 (kBlk 2 (Z17.k36 Q))) := c_seq (cO (sP (o_mov rfl (sP (o_fa rfl (fun q_1 => sP (o_ld1 rfl (fun (v_2 : AC) => sP (o_lens rfl (fun n_3 => sP (o_lt rfl rfl (sK (c_if rfl (c_skip (k_seq (c_seq (c_blk (c_ops (sP (o_mov rfl (sP (o_mov rfl (sP (o_fa rfl (fun q_4 => sP (o_ld1 rfl (fun (v_5 : AC) => sP (o_mov rfl (sP (o_ia rfl rfl (fun q_6 => sP (o_ld1 rfl (fun (v_7 : Int) => sP (o_ia rfl rfl (fun q_8 => sP (o_ld1 rfl (fun (v_9 : Int) => sP (o_blds rfl (fun p_10 H_11 => sP (o_app rfl rfl (fun s_12 H_13 => sP (o_mov rfl (s_nil (k_blk (k_seq (c_ops (sP (o_mov rfl (sP (o_add rfl rfl (sP (o_mov rfl (sK (hX39 _ _ _ ⟨rfl, rfl, rfl, rfl, trivial⟩))))))))))))))))))))))))))))))))))))))))) (c_exit (k_seqE (k_seqE (k_blkH (k_seq (cO (sP (o_ld7 rfl (fun (v_14 : Int) (v_15 : AC) (v_16 : AC) (v_17 : AC) (v_18 : Int) (v_19 : Int) (v_20 : AC) => sP (o_mov rfl (sP (o_call rfl (cv_1 (fun H_21 (v_22 : Bool) => sP (o_mov rfl (sP (o_mov rfl (sK (c_ret (k_topR (r_one rfl (r_one rfl (r_nil (fun h => ⟨((v_22 : Bool), (0 : Int), ()), rfl, h⟩)))))))))))))))))))))))))))))))))))))
theorem Z17.l39_ok (Q : AHeap → Bool → Int → Prop) {x1 : AC} {x2 : AC} {x8 : AC} {x9 : Int} {H : AHeap} {t : Env} (h1 : t 1 = (.one x1)) (h2 : t 2 = (.one x2)) (h8 : t 8 = (.one x8)) (h9 : t 9 = (.one (.int .i64 x9))) : Z17.l39 Q x1 x2 x8 x9 H → wpC Tryz.prog (.loop Z17.c40) t H (kBlk 2 (Z17.k36 Q)) :=
  m_loop Z17.R39 ⟨h1, h2, h8, h9, trivial⟩ fun X Y hX s t H hR hB => by
    have g := Z17.b39_ok Q Y X hX t hB
    rw [upd_self hR.1] at g
    rw [upd_self hR.2.1] at g
    rw [upd_self hR.2.2.1] at g
    rw [upd_self hR.2.2.2.1] at g
    exact g
theorem Z17.b16_ok (Q : AHeap → Bool → Int → Prop) (Y16 : Tup [.ac, .ac, .int .i64] → AHeap → Prop) (X16 : Env → AHeap → Prop) (hX16 : ∀ s t H, Z17.R16 s t → Y16 s H → X16 t H) {x1 : AC} {x2 : AC} {x7 : Int} {H : AHeap} (j : Env) : Z17.b16 Q Y16 x1 x2 x7 H → wpC Tryz.prog Z17.c17 (upd (upd (upd j 1 (.one x1)) 2 (.one x2)) 7 (.one (.int .i64 x7))) H (kSeq X16 (kBlk 0 (Z17.k13 Q))) := c_seq (cO (sP (o_mov rfl (sP (o_mov rfl (sP (o_lens rfl (fun n_1 => sP (o_lt rfl rfl (sK (c_if rfl (c_skip (k_seq (c_seq (c_blk (cO (sP (o_mov rfl (sP (o_mov rfl (sP (o_ia rfl rfl (fun q_2 => sP (o_ld1 rfl (fun (v_3 : Int) => sP (o_call rfl (cv_1 (fun H_4 (v_5 : Bool) => sP (o_not rfl (sK (c_if rfl (cO (sP (o_mov rfl (sP (o_mov rfl (sK (c_ret (k_blkR (k_seqR (k_seqR (k_blkR (k_seqR (k_topR (r_one rfl (r_one rfl (r_nil (fun h => ⟨((false : Bool), (1 : Int), ()), rfl, h⟩))))))))))))))))) (c_skip (k_blk (k_seq (c_ops (sP (o_mov rfl (sP (o_add rfl rfl (sP (o_mov rfl (sK (hX16 _ _ _ ⟨rfl, rfl, rfl, trivial⟩)))))))))))))))))))))))))))))))) (c_exit (k_seqE (k_seqE (k_blkH (k_seq (cO (sP (o_mov rfl (sK (c_seq (cO (sP (o_mov rfl (sK (c_blk (Z17.l39_ok Q rfl rfl rfl rfl)))))))))))))))))))))))))))
theorem Z17.l16_ok (Q : AHeap → Bool → Int → Prop) {x1 : AC} {x2 : AC} {x7 : Int} {H : AHeap} {t : Env} (h1 : t 1 = (.one x1)) (h2 : t 2 = (.one x2)) (h7 : t 7 = (.one (.int .i64 x7))) : Z17.l16 Q x1 x2 x7 H → wpC Tryz.prog (.loop Z17.c17) t H (kBlk 0 (Z17.k13 Q)) :=
  m_loop Z17.R16 ⟨h1, h2, h7, trivial⟩ fun X Y hX s t H hR hB => by
    have g := Z17.b16_ok Q Y X hX t hB
    rw [upd_self hR.1] at g
    rw [upd_self hR.2.1] at g
    rw [upd_self hR.2.2.1] at g
    exact g
theorem Z17.ok {a0_0 : Int} {a0_1 : AC} {a0_2 : AC} {a0_3 : AC} {a0_4 : Int} {a0_5 : Int} {a0_6 : AC} {a1 : AC} {H : AHeap} (Q : AHeap → Bool → Int → Prop) : Z17.W a0_0 a0_1 a0_2 a0_3 a0_4 a0_5 a0_6 a1 H Q → wpF Tryz.prog Z17.c [.tm 4, .tm 5] (envOf [(.agg [(.int .i64 a0_0), a0_1, a0_2, a0_3, (.int .i64 a0_4), (.int .i64 a0_5), a0_6]), (.one a1)]) H (Z17.KQ Q) := cO (sP (o_box rfl (fun p_1 H_2 => sP (o_mov rfl (sP (o_mov rfl (sK (c_seq (cO (sP (o_ld7 rfl (fun (v_3 : Int) (v_4 : AC) (v_5 : AC) (v_6 : AC) (v_7 : Int) (v_8 : Int) (v_9 : AC) => sP (o_mov rfl (sP (o_lens rfl (fun n_10 => sP (o_call rfl (cv_1 (fun H_11 (v_12 : Int) => sP (o_mov rfl (sK (cO (sP (o_mov rfl (sP (o_ne rfl rfl (sK (c_if rfl (cO (sP (o_mov rfl (sP (o_mov rfl (sP (o_mov rfl (sK (c_ret (k_seqR (k_topR (r_one rfl (r_one rfl (r_nil (fun h => ⟨((false : Bool), (v_12 : Int), ()), rfl, h⟩))))))))))))))) (c_skip (k_seq (c_seq (cO (sP (o_mov rfl (sK (c_blk (Z17.l16_ok Q rfl rfl rfl)))))))))))))))))))))))))))))))))))))
theorem Z17.run {a0_0 : Int} {a0_1 : AC} {a0_2 : AC} {a0_3 : AC} {a0_4 : Int} {a0_5 : Int} {a0_6 : AC} {a1 : AC} {H : AHeap} {Q : AHeap → Bool → Int → Prop} (h : Z17.W a0_0 a0_1 a0_2 a0_3 a0_4 a0_5 a0_6 a1 H Q) : Fn.Z17 a0_0 a0_1 a0_2 a0_3 a0_4 a0_5 a0_6 a1 H Q := by
  unfold Fn.Z17 RunT
  exact runK aggs_ok [] Tryz.func23 rfl (by kernel_rfl) (by kernel_rfl) (by kernel_rfl) (by kernel_rfl) (by kernel_rfl) (Z17.ok Q h)
end Go.Proofs.YtkpjcnlljdccjaaGreat
end
section
namespace Go.Proofs.YtkpjcnlljdccjaaGreat
open Go.AI
set_option maxRecDepth 100000
set_option maxHeartbeats 2000000
set_option linter.unusedVariables false
attribute [local irreducible] Ld Sto New NewS NewM NN NZ GE0 FA IA IAP LenS Slc App Cpy Clr MkS Fnc NilQ IxS Look MSet Run CV RunT CVT LoopT Same1 Same2 wpC wpOs wpT wpO wpOp
def Z0.c45 : RC := (.cond 61 (.seq (.ops [.put 4 (.mov (cI 5))]) .ret) .skip)
def Z0.c38 : RC := (.cond 45 (.seq (.ops [.put 4 (.mov (cI 1))]) .ret) .skip)
def Z0.c25 : RC := (.seq (.ops [.put 35 (.cm .lt (.tm 34) (.tm 33))]) (.seq (.cond 35 .skip (.exit 0)) (.seq (.block 1 (.seq (.ops [pM 36 34, .put 37 (.ia 1 (.tm 32) (.tm 34)), .put 38 (.ld false [.int .i64] (.tm 37)), pM 7 36, pM 8 38]) (.seq (.seq (.ops [pM 39 8, .put 40 (.cm .lt (.tm 39) (cI 0)), pM 41 40, .gput 42 41 false (.mov (.tm 8)), .gput 43 41 false (.mov (.tm 1)), .gput 44 41 false (.cm .ge (.tm 42) (.tm 43)), .put 45 (.pick (.tm 41) (.ct (.one (.bool true))) (.tm 44))]) Z0.c38) (.seq (.ops [.put 46 (.fa 1 (.tm 2)), .put 47 (.ld false [.ac] (.tm 46)), pM 48 7, .put 49 (.slc 1 (.tm 47) none (some (.tm 48))), pM 50 8, .put 51 (.call 46 [(.tm 49), (.tm 50)]), pM 52 51, .gput 53 52 true (.fa 0 (.tm 2)), .gput 54 52 true (.ld false [.int .i64] (.tm 53)), .gput 55 52 true (.cm .eq (.tm 54) (cI 6)), .gput 56 52 true (.mov (.tm 55)), .gput 57 56 true (.mov (.tm 7)), .gput 58 56 true (.cm .eq (.tm 57) (cI 1)), .gput 59 52 true (.pick (.tm 56) (.tm 58) (.ct (.one (.bool false)))), .gput 60 52 true (.not (.tm 59)), .put 61 (.pick (.tm 52) (.tm 60) (.ct (.one (.bool false))))]) Z0.c45)))) (.ops [.put 62 (.ar .add (.tm 34) (cI 1)), pM 34 62]))))
def Z0.c15 : RC := (.cond 30 (.seq (.ops [.put 4 (.mov (cI 3))]) .ret) .skip)
def Z0.c : RC := (.seq (.ops [.put 2 (.box 44 (.tm 0)), .put 4 (.mov (cI 0))]) (.seq (.ops [.put 10 (.fa 0 (.tm 2)), .put 11 (.ld false [.int .i64] (.tm 10)), .put 12 (.call 45 [(.tm 11)]), pM 9 12, .put 13 (.ex (.tm 9) 0), .put 14 (.ex (.tm 9) 1), .put 5 (.new 67 [(.int .i64 0), (.int .i64 0), (.bool false), (.bool false), (.bool false), (.bool false), (.bool false)]), .run (.st 7 (.tm 5) (.tm 13)), pM 6 14]) (.seq (.seq (.ops [pM 15 6, .put 16 (.not (.tm 15))]) (.cond 16 (.seq (.ops [.put 4 (.mov (cI 7))]) .ret) .skip)) (.seq (.seq (.ops [.put 17 (.fa 1 (.tm 2)), .put 18 (.ld false [.ac] (.tm 17)), .put 19 (.lens (.tm 18)), .put 20 (.fa 0 (.tm 5)), .put 21 (.ld false [.int .i64] (.tm 20)), .put 22 (.cm .lt (.tm 19) (.tm 21)), pM 23 22, .gput 24 23 false (.fa 1 (.tm 2)), .gput 25 23 false (.ld false [.ac] (.tm 24)), .gput 26 23 false (.lens (.tm 25)), .gput 27 23 false (.fa 1 (.tm 5)), .gput 28 23 false (.ld false [.int .i64] (.tm 27)), .gput 29 23 false (.cm .gt (.tm 26) (.tm 28)), .put 30 (.pick (.tm 23) (.ct (.one (.bool true))) (.tm 29))]) Z0.c15) (.seq (.seq (.ops [.put 31 (.fa 1 (.tm 2)), .put 32 (.ld false [.ac] (.tm 31)), .put 33 (.lens (.tm 32)), .put 34 (.mov (cI 0))]) (.block 0 (.loop Z0.c25))) (.seq (.block 2 (.seq (.ops [.put 64 (.ld true [.int .i64, .ac, .ac, .ac, .int .i64, .int .i64, .ac] (.tm 2)), .put 65 (.ld true [.int .i64, .int .i64, .bool, .bool, .bool, .bool, .bool] (.tm 5)), .put 66 (.call 47 [(.tm 64), (.tm 65)]), .put 67 (.not (.tm 66)), pM 63 67]) (.cond 63 (.seq (.ops [.put 4 (.mov (cI 2))]) .ret) (.seq (.ops [.put 69 (.fa 6 (.tm 2)), .put 70 (.ld false [.ac] (.tm 69)), .put 71 (.lens (.tm 70)), .put 72 (.cm .gt (.tm 71) (cI 200)), pM 68 72]) (.cond 68 (.seq (.ops [.put 4 (.mov (cI 3))]) .ret) (.seq (.ops [.put 74 (.ld true [.int .i64, .ac, .ac, .ac, .int .i64, .int .i64, .ac] (.tm 2)), .put 75 (.ld true [.int .i64, .int .i64, .bool, .bool, .bool, .bool, .bool] (.tm 5)), .put 76 (.call 48 [(.tm 74), (.tm 75)]), .put 77 (.not (.tm 76)), pM 73 77]) (.cond 73 (.seq (.ops [.put 4 (.mov (cI 1))]) .ret) .skip))))))) (.seq (.ops [.put 4 (.mov (cI 0))]) .ret)))))))
abbrev Z0.KQ (Q : AHeap → Int → Prop) : AV → AHeap → Prop := KQT [(false, [.int .i64])] Q
abbrev Z0.K (Q : AHeap → Int → Prop) : Ex → Env → AHeap → Prop := kTop [.tm 4] (Z0.KQ Q)
abbrev Z0.k13 (Q : AHeap → Int → Prop) : Ex → Env → AHeap → Prop := kSeq (fun t H => wpC Tryz.prog (.seq (.seq (.ops [.put 31 (.fa 1 (.tm 2)), .put 32 (.ld false [.ac] (.tm 31)), .put 33 (.lens (.tm 32)), .put 34 (.mov (cI 0))]) (.block 0 (.loop Z0.c25))) (.seq (.block 2 (.seq (.ops [.put 64 (.ld true [.int .i64, .ac, .ac, .ac, .int .i64, .int .i64, .ac] (.tm 2)), .put 65 (.ld true [.int .i64, .int .i64, .bool, .bool, .bool, .bool, .bool] (.tm 5)), .put 66 (.call 47 [(.tm 64), (.tm 65)]), .put 67 (.not (.tm 66)), pM 63 67]) (.cond 63 (.seq (.ops [.put 4 (.mov (cI 2))]) .ret) (.seq (.ops [.put 69 (.fa 6 (.tm 2)), .put 70 (.ld false [.ac] (.tm 69)), .put 71 (.lens (.tm 70)), .put 72 (.cm .gt (.tm 71) (cI 200)), pM 68 72]) (.cond 68 (.seq (.ops [.put 4 (.mov (cI 3))]) .ret) (.seq (.ops [.put 74 (.ld true [.int .i64, .ac, .ac, .ac, .int .i64, .int .i64, .ac] (.tm 2)), .put 75 (.ld true [.int .i64, .int .i64, .bool, .bool, .bool, .bool, .bool] (.tm 5)), .put 76 (.call 48 [(.tm 74), (.tm 75)]), .put 77 (.not (.tm 76)), pM 73 77]) (.cond 73 (.seq (.ops [.put 4 (.mov (cI 1))]) .ret) .skip))))))) (.seq (.ops [.put 4 (.mov (cI 0))]) .ret))) t H (Z0.K Q)) (Z0.K Q)
abbrev Z0.k21 (Q : AHeap → Int → Prop) : Ex → Env → AHeap → Prop := kSeq (fun t H => wpC Tryz.prog (.seq (.block 2 (.seq (.ops [.put 64 (.ld true [.int .i64, .ac, .ac, .ac, .int .i64, .int .i64, .ac] (.tm 2)), .put 65 (.ld true [.int .i64, .int .i64, .bool, .bool, .bool, .bool, .bool] (.tm 5)), .put 66 (.call 47 [(.tm 64), (.tm 65)]), .put 67 (.not (.tm 66)), pM 63 67]) (.cond 63 (.seq (.ops [.put 4 (.mov (cI 2))]) .ret) (.seq (.ops [.put 69 (.fa 6 (.tm 2)), .put 70 (.ld false [.ac] (.tm 69)), .put 71 (.lens (.tm 70)), .put 72 (.cm .gt (.tm 71) (cI 200)), pM 68 72]) (.cond 68 (.seq (.ops [.put 4 (.mov (cI 3))]) .ret) (.seq (.ops [.put 74 (.ld true [.int .i64, .ac, .ac, .ac, .int .i64, .int .i64, .ac] (.tm 2)), .put 75 (.ld true [.int .i64, .int .i64, .bool, .bool, .bool, .bool, .bool] (.tm 5)), .put 76 (.call 48 [(.tm 74), (.tm 75)]), .put 77 (.not (.tm 76)), pM 73 77]) (.cond 73 (.seq (.ops [.put 4 (.mov (cI 1))]) .ret) .skip))))))) (.seq (.ops [.put 4 (.mov (cI 0))]) .ret)) t H (Z0.K Q)) (Z0.K Q)
abbrev Z0.k32 (Q : AHeap → Int → Prop) (X24 : Env → AHeap → Prop) : Ex → Env → AHeap → Prop := kSeq (fun t H => wpC Tryz.prog (.ops [.put 62 (.ar .add (.tm 34) (cI 1)), pM 34 62]) t H (kSeq X24 (kBlk 0 (Z0.k21 Q)))) (kSeq X24 (kBlk 0 (Z0.k21 Q)))
abbrev Z0.k36 (Q : AHeap → Int → Prop) (X24 : Env → AHeap → Prop) : Ex → Env → AHeap → Prop := kSeq (fun t H => wpC Tryz.prog (.seq (.ops [.put 46 (.fa 1 (.tm 2)), .put 47 (.ld false [.ac] (.tm 46)), pM 48 7, .put 49 (.slc 1 (.tm 47) none (some (.tm 48))), pM 50 8, .put 51 (.call 46 [(.tm 49), (.tm 50)]), pM 52 51, .gput 53 52 true (.fa 0 (.tm 2)), .gput 54 52 true (.ld false [.int .i64] (.tm 53)), .gput 55 52 true (.cm .eq (.tm 54) (cI 6)), .gput 56 52 true (.mov (.tm 55)), .gput 57 56 true (.mov (.tm 7)), .gput 58 56 true (.cm .eq (.tm 57) (cI 1)), .gput 59 52 true (.pick (.tm 56) (.tm 58) (.ct (.one (.bool false)))), .gput 60 52 true (.not (.tm 59)), .put 61 (.pick (.tm 52) (.tm 60) (.ct (.one (.bool false))))]) Z0.c45) t H (kBlk 1 (Z0.k32 Q X24))) (kBlk 1 (Z0.k32 Q X24))
def Z0.R24 (s : Tup [.int .i64, .ac, .ac, .ac, .int .i64, .int .i64]) (t : Env) : Prop := t 1 = (.one (.int .i64 (s.1))) ∧ t 2 = (.one (s.2.1)) ∧ t 5 = (.one (s.2.2.1)) ∧ t 32 = (.one (s.2.2.2.1)) ∧ t 33 = (.one (.int .i64 (s.2.2.2.2.1))) ∧ t 34 = (.one (.int .i64 (s.2.2.2.2.2.1))) ∧ True
def Z0.p45 (Q : AHeap → Int → Prop) (Y24 : Tup [.int .i64, .ac, .ac, .ac, .int .i64, .int .i64] → AHeap → Prop) (x1 : Int) (x2 : AC) (x5 : AC) (x32 : AC) (x33 : Int) (x34 : Int) (x61 : Bool) (H : AHeap) : Prop := CondB x61 (Q H 5) (Y24 ((x1 : Int), x2, x5, x32, (x33 : Int), ((IntKind.wrap .i64 (x34 + 1)) : Int), ()) H)
def Z0.p38 (Q : AHeap → Int → Prop) (Y24 : Tup [.int .i64, .ac, .ac, .ac, .int .i64, .int .i64] → AHeap → Prop) (x1 : Int) (x2 : AC) (x5 : AC) (x7 : Int) (x8 : Int) (x32 : AC) (x33 : Int) (x34 : Int) (x45 : Bool) (H : AHeap) : Prop := CondB x45 (Q H 1) (FA 1 x2 fun q_1 => Ld [.ac] H q_1 fun (v_2 : AC) => Slc 1 v_2 none (some x7) fun s_3 => Fn.Z29 s_3 x8 H fun H_4 (v_5 : Bool) => CondB v_5 (FA 0 x2 fun q_6 => Ld [.int .i64] H_4 q_6 fun (v_7 : Int) => CondB (v_7 == 6) (Z0.p45 Q Y24 x1 x2 x5 x32 x33 x34 (!(x7 == 1)) H_4) (Z0.p45 Q Y24 x1 x2 x5 x32 x33 x34 true H_4)) (Z0.p45 Q Y24 x1 x2 x5 x32 x33 x34 false H_4))
def Z0.b24 (Q : AHeap → Int → Prop) (Y24 : Tup [.int .i64, .ac, .ac, .ac, .int .i64, .int .i64] → AHeap → Prop) (x1 : Int) (x2 : AC) (x5 : AC) (x32 : AC) (x33 : Int) (x34 : Int) (H : AHeap) : Prop := CondB (decide (x34 < x33)) (IA 1 x32 x34 fun q_1 => Ld [.int .i64] H q_1 fun (v_2 : Int) => CondB (decide (v_2 < 0)) (Z0.p38 Q Y24 x1 x2 x5 x34 v_2 x32 x33 x34 true H) (Z0.p38 Q Y24 x1 x2 x5 x34 v_2 x32 x33 x34 (decide (v_2 ≥ x1)) H)) (Ld [.int .i64, .ac, .ac, .ac, .int .i64, .int .i64, .ac] H x2 fun (v_3 : Int) (v_4 : AC) (v_5 : AC) (v_6 : AC) (v_7 : Int) (v_8 : Int) (v_9 : AC) => Ld [.int .i64, .int .i64, .bool, .bool, .bool, .bool, .bool] H x5 fun (v_10 : Int) (v_11 : Int) (v_12 : Bool) (v_13 : Bool) (v_14 : Bool) (v_15 : Bool) (v_16 : Bool) => Fn.Z4 v_3 v_4 v_5 v_6 v_7 v_8 v_9 v_10 v_11 v_12 v_13 v_14 v_15 v_16 H fun H_17 (v_18 : Bool) => CondB (!v_18) (Q H_17 2) (FA 6 x2 fun q_19 => Ld [.ac] H_17 q_19 fun (v_20 : AC) => LenS v_20 fun n_21 => CondB (decide (n_21 > 200)) (Q H_17 3) (Ld [.int .i64, .ac, .ac, .ac, .int .i64, .int .i64, .ac] H_17 x2 fun (v_22 : Int) (v_23 : AC) (v_24 : AC) (v_25 : AC) (v_26 : Int) (v_27 : Int) (v_28 : AC) => Ld [.int .i64, .int .i64, .bool, .bool, .bool, .bool, .bool] H_17 x5 fun (v_29 : Int) (v_30 : Int) (v_31 : Bool) (v_32 : Bool) (v_33 : Bool) (v_34 : Bool) (v_35 : Bool) => Fn.Z9 v_22 v_23 v_24 v_25 v_26 v_27 v_28 v_29 v_30 v_31 v_32 v_33 v_34 v_35 H_17 fun H_36 (v_37 : Bool) => CondB (!v_37) (Q H_36 1) (Q H_36 0))))
def Z0.l24 (Q : AHeap → Int → Prop) (x1 : Int) (x2 : AC) (x5 : AC) (x32 : AC) (x33 : Int) (x34 : Int) (H : AHeap) : Prop := LoopT (Tup [.int .i64, .ac, .ac, .ac, .int .i64, .int .i64]) (fun Y s H => Z0.b24 Q Y (s.1) (s.2.1) (s.2.2.1) (s.2.2.2.1) (s.2.2.2.2.1) (s.2.2.2.2.2.1) H) (x1, x2, x5, x32, x33, x34, ()) H
def Z0.p15 (Q : AHeap → Int → Prop) (x1 : Int) (x2 : AC) (x5 : AC) (x30 : Bool) (H : AHeap) : Prop := CondB x30 (Q H 3) (FA 1 x2 fun q_1 => Ld [.ac] H q_1 fun (v_2 : AC) => LenS v_2 fun n_3 => Z0.l24 Q x1 x2 x5 v_2 n_3 0 H)
def Z0.W (a0_0 : Int) (a0_1 : AC) (a0_2 : AC) (a0_3 : AC) (a0_4 : Int) (a0_5 : Int) (a0_6 : AC) (a1 : Int) (H : AHeap) (Q : AHeap → Int → Prop) : Prop := New 44 [(.int .i64 a0_0), a0_1, a0_2, a0_3, (.int .i64 a0_4), (.int .i64 a0_5), a0_6] H fun p_1 H_2 => FA 0 p_1 fun q_3 => Ld [.int .i64] H_2 q_3 fun (v_4 : Int) => Fn.Z11 v_4 H_2 fun H_5 (v_6 : Int) (v_7 : Int) (v_8 : Bool) (v_9 : Bool) (v_10 : Bool) (v_11 : Bool) (v_12 : Bool) (v_13 : Bool) => New 67 [(.int .i64 0), (.int .i64 0), (.bool false), (.bool false), (.bool false), (.bool false), (.bool false)] H_5 fun p_14 H_15 => Sto H_15 p_14 [(.int .i64 v_6), (.int .i64 v_7), (.bool v_8), (.bool v_9), (.bool v_10), (.bool v_11), (.bool v_12)] fun H_16 => CondB (!v_13) (Q H_16 7) (FA 1 p_1 fun q_17 => Ld [.ac] H_16 q_17 fun (v_18 : AC) => LenS v_18 fun n_19 => FA 0 p_14 fun q_20 => Ld [.int .i64] H_16 q_20 fun (v_21 : Int) => CondB (decide (n_19 < v_21)) (Z0.p15 Q a1 p_1 p_14 true H_16) (FA 1 p_1 fun q_22 => Ld [.ac] H_16 q_22 fun (v_23 : AC) => LenS v_23 fun n_24 => FA 1 p_14 fun q_25 => Ld [.int .i64] H_16 q_25 fun (v_26 : Int) => Z0.p15 Q a1 p_1 p_14 (decide (n_24 > v_26)) H_16))
theorem Z0.p45_okE (Q : AHeap → Int → Prop) (Y24 : Tup [.int .i64, .ac, .ac, .ac, .int .i64, .int .i64] → AHeap → Prop) (X24 : Env → AHeap → Prop) (hX24 : ∀ s t H, Z0.R24 s t → Y24 s H → X24 t H) {x1 : Int} {x2 : AC} {x5 : AC} {x32 : AC} {x33 : Int} {x34 : Int} {x61 : Bool} {H : AHeap} (j : Env) : Z0.p45 Q Y24 x1 x2 x5 x32 x33 x34 x61 H → wpC Tryz.prog Z0.c45 (upd (upd (upd (upd (upd (upd (upd j 1 (.one (.int .i64 x1))) 2 (.one x2)) 5 (.one x5)) 32 (.one x32)) 33 (.one (.int .i64 x33))) 34 (.one (.int .i64 x34))) 61 (.one (.bool x61))) H (kBlk 1 (Z0.k32 Q X24)) := c_if rfl (cO (sP (o_mov rfl (sK (c_ret (k_blkR (k_seqR (k_seqR (k_blkR (k_seqR (k_topR (r_one rfl (r_nil (fun h => ⟨((5 : Int), ()), rfl, h⟩)))))))))))))) (c_skip (k_blk (k_seq (c_ops (sP (o_add rfl rfl (sP (o_mov rfl (sK (hX24 _ _ _ ⟨rfl, rfl, rfl, rfl, rfl, rfl, trivial⟩))))))))))
theorem Z0.p45_ok (Q : AHeap → Int → Prop) (Y24 : Tup [.int .i64, .ac, .ac, .ac, .int .i64, .int .i64] → AHeap → Prop) (X24 : Env → AHeap → Prop) (hX24 : ∀ s t H, Z0.R24 s t → Y24 s H → X24 t H) {x1 : Int} {x2 : AC} {x5 : AC} {x32 : AC} {x33 : Int} {x34 : Int} {x61 : Bool} {H : AHeap} {t : Env} (h1 : t 1 = (.one (.int .i64 x1))) (h2 : t 2 = (.one x2)) (h5 : t 5 = (.one x5)) (h32 : t 32 = (.one x32)) (h33 : t 33 = (.one (.int .i64 x33))) (h34 : t 34 = (.one (.int .i64 x34))) (h61 : t 61 = (.one (.bool x61))) (h : Z0.p45 Q Y24 x1 x2 x5 x32 x33 x34 x61 H) : wpC Tryz.prog Z0.c45 t H (kBlk 1 (Z0.k32 Q X24)) := by
  have g := Z0.p45_okE Q Y24 X24 hX24 t h
  rw [upd_self h1] at g
  rw [upd_self h2] at g
  rw [upd_self h5] at g
  rw [upd_self h32] at g
  rw [upd_self h33] at g
  rw [upd_self h34] at g
  rw [upd_self h61] at g
  exact g
theorem Z0.p38_okE (Q : AHeap → Int → Prop) (Y24 : Tup [.int .i64, .ac, .ac, .ac, .int .i64, .int .i64] → AHeap → Prop) (X24 : Env → AHeap → Prop) (hX24 : ∀ s t H, Z0.R24 s t → Y24 s H → X24 t H) {x1 : Int} {x2 : AC} {x5 : AC} {x7 : Int} {x8 : Int} {x32 : AC} {x33 : Int} {x34 : Int} {x45 : Bool} {H : AHeap} (j : Env) : Z0.p38 Q Y24 x1 x2 x5 x7 x8 x32 x33 x34 x45 H → wpC Tryz.prog Z0.c38 (upd (upd (upd (upd (upd (upd (upd (upd (upd j 1 (.one (.int .i64 x1))) 2 (.one x2)) 5 (.one x5)) 7 (.one (.int .i64 x7))) 8 (.one (.int .i64 x8))) 32 (.one x32)) 33 (.one (.int .i64 x33))) 34 (.one (.int .i64 x34))) 45 (.one (.bool x45))) H (Z0.k36 Q X24) := c_if rfl (cO (sP (o_mov rfl (sK (c_ret (k_seqR (k_blkR (k_seqR (k_seqR (k_blkR (k_seqR (k_topR (r_one rfl (r_nil (fun h => ⟨((1 : Int), ()), rfl, h⟩))))))))))))))) (c_skip (k_seq (cO (sP (o_fa rfl (fun q_1 => sP (o_ld1 rfl (fun (v_2 : AC) => sP (o_mov rfl (sP (o_slc rfl rfl rfl (fun s_3 => sP (o_mov rfl (sP (o_call rfl (cv_1 (fun H_4 (v_5 : Bool) => sP (o_mov rfl (s_cons (w_gputT rfl (o_fa rfl (fun q_6 => s_cons (w_gputY rfl (o_ld1 rfl (fun (v_7 : Int) => s_cons (w_gputY rfl (o_eq rfl rfl (s_cons (w_gputY rfl (o_mov rfl (s_cons (w_gputT rfl (o_mov rfl (s_cons (w_gputY rfl (o_eq rfl rfl (s_cons (w_gputY rfl (o_pickT rfl rfl (s_cons (w_gputY rfl (o_not rfl (sP (o_pickT rfl rfl (sK (Z0.p45_ok Q Y24 X24 hX24 rfl rfl rfl rfl rfl rfl rfl)))))))))))))) (s_cons (w_gputN rfl (s_cons (w_gputY rfl (o_pickF rfl rfl (s_cons (w_gputY rfl (o_not rfl (sP (o_pickT rfl rfl (sK (Z0.p45_ok Q Y24 X24 hX24 rfl rfl rfl rfl rfl rfl rfl)))))))))))))))))))))))) (s_cons (w_gputN rfl (s_cons (w_gputN rfl (s_cons (w_gputN rfl (s_cons (w_gputJ rfl (s_cons (w_gputJ rfl (s_cons (w_gputN rfl (s_cons (w_gputN rfl (sP (o_pickF rfl rfl (sK (Z0.p45_ok Q Y24 X24 hX24 rfl rfl rfl rfl rfl rfl rfl))))))))))))))))))))))))))))))))))))))
theorem Z0.p38_ok (Q : AHeap → Int → Prop) (Y24 : Tup [.int .i64, .ac, .ac, .ac, .int .i64, .int .i64] → AHeap → Prop) (X24 : Env → AHeap → Prop) (hX24 : ∀ s t H, Z0.R24 s t → Y24 s H → X24 t H) {x1 : Int} {x2 : AC} {x5 : AC} {x7 : Int} {x8 : Int} {x32 : AC} {x33 : Int} {x34 : Int} {x45 : Bool} {H : AHeap} {t : Env} (h1 : t 1 = (.one (.int .i64 x1))) (h2 : t 2 = (.one x2)) (h5 : t 5 = (.one x5)) (h7 : t 7 = (.one (.int .i64 x7))) (h8 : t 8 = (.one (.int .i64 x8))) (h32 : t 32 = (.one x32)) (h33 : t 33 = (.one (.int .i64 x33))) (h34 : t 34 = (.one (.int .i64 x34))) (h45 : t 45 = (.one (.bool x45))) (h : Z0.p38 Q Y24 x1 x2 x5 x7 x8 x32 x33 x34 x45 H) : wpC Tryz.prog Z0.c38 t H (Z0.k36 Q X24) := by
  have g := Z0.p38_okE Q Y24 X24 hX24 t h
  rw [upd_self h1] at g
  rw [upd_self h2] at g
  rw [upd_self h5] at g
  rw [upd_self h7] at g
  rw [upd_self h8] at g
  rw [upd_self h32] at g
  rw [upd_self h33] at g
  rw [upd_self h34] at g
  rw [upd_self h45] at g
  exact g
theorem Z0.b24_ok (Q : AHeap → Int → Prop) (Y24 : Tup [.int .i64, .ac, .ac, .ac, .int .i64, .int .i64] → AHeap → Prop) (X24 : Env → AHeap → Prop) (hX24 : ∀ s t H, Z0.R24 s t → Y24 s H → X24 t H) {x1 : Int} {x2 : AC} {x5 : AC} {x32 : AC} {x33 : Int} {x34 : Int} {H : AHeap} (j : Env) : Z0.b24 Q Y24 x1 x2 x5 x32 x33 x34 H → wpC Tryz.prog Z0.c25 (upd (upd (upd (upd (upd (upd j 1 (.one (.int .i64 x1))) 2 (.one x2)) 5 (.one x5)) 32 (.one x32)) 33 (.one (.int .i64 x33))) 34 (.one (.int .i64 x34))) H (kSeq X24 (kBlk 0 (Z0.k21 Q))) := cO (sP (o_lt rfl rfl (sK (c_seq (c_if rfl (c_skip (k_seq (c_seq (c_blk (cO (sP (o_mov rfl (sP (o_ia rfl rfl (fun q_1 => sP (o_ld1 rfl (fun (v_2 : Int) => sP (o_mov rfl (sP (o_mov rfl (sK (c_seq (cO (sP (o_mov rfl (sP (o_lt rfl rfl (sP (o_mov rfl (s_cons (w_gputF rfl (s_cons (w_gputN rfl (s_cons (w_gputN rfl (sP (o_pickT rfl rfl (sK (Z0.p38_ok Q Y24 X24 hX24 rfl rfl rfl rfl rfl rfl rfl rfl rfl)))))))) (o_mov rfl (s_cons (w_gputY rfl (o_mov rfl (s_cons (w_gputY rfl (o_ge rfl rfl (sP (o_pickF rfl rfl (sK (Z0.p38_ok Q Y24 X24 hX24 rfl rfl rfl rfl rfl rfl rfl rfl rfl))))))))))))))))))))))))))))))))))))) (c_exit (k_seqE (k_seqE (k_blkH (k_seq (c_seq (c_blk (cO (sP (o_ld7 rfl (fun (v_3 : Int) (v_4 : AC) (v_5 : AC) (v_6 : AC) (v_7 : Int) (v_8 : Int) (v_9 : AC) => sP (o_ld7 rfl (fun (v_10 : Int) (v_11 : Int) (v_12 : Bool) (v_13 : Bool) (v_14 : Bool) (v_15 : Bool) (v_16 : Bool) => sP (o_call rfl (cv_1 (fun H_17 (v_18 : Bool) => sP (o_not rfl (sP (o_mov rfl (sK (c_if rfl (cO (sP (o_mov rfl (sK (c_ret (k_blkR (k_seqR (k_topR (r_one rfl (r_nil (fun h => ⟨((2 : Int), ()), rfl, h⟩))))))))))) (cO (sP (o_fa rfl (fun q_19 => sP (o_ld1 rfl (fun (v_20 : AC) => sP (o_lens rfl (fun n_21 => sP (o_gt rfl rfl (sP (o_mov rfl (sK (c_if rfl (cO (sP (o_mov rfl (sK (c_ret (k_blkR (k_seqR (k_topR (r_one rfl (r_nil (fun h => ⟨((3 : Int), ()), rfl, h⟩))))))))))) (cO (sP (o_ld7 rfl (fun (v_22 : Int) (v_23 : AC) (v_24 : AC) (v_25 : AC) (v_26 : Int) (v_27 : Int) (v_28 : AC) => sP (o_ld7 rfl (fun (v_29 : Int) (v_30 : Int) (v_31 : Bool) (v_32 : Bool) (v_33 : Bool) (v_34 : Bool) (v_35 : Bool) => sP (o_call rfl (cv_1 (fun H_36 (v_37 : Bool) => sP (o_not rfl (sP (o_mov rfl (sK (c_if rfl (cO (sP (o_mov rfl (sK (c_ret (k_blkR (k_seqR (k_topR (r_one rfl (r_nil (fun h => ⟨((1 : Int), ()), rfl, h⟩))))))))))) (c_skip (k_blk (k_seq (cO (sP (o_mov rfl (sK (c_ret (k_topR (r_one rfl (r_nil (fun h => ⟨((0 : Int), ()), rfl, h⟩)))))))))))))))))))))))))))))))))))))))))))))))))))))))))))))))))
theorem Z0.l24_ok (Q : AHeap → Int → Prop) {x1 : Int} {x2 : AC} {x5 : AC} {x32 : AC} {x33 : Int} {x34 : Int} {H : AHeap} {t : Env} (h1 : t 1 = (.one (.int .i64 x1))) (h2 : t 2 = (.one x2)) (h5 : t 5 = (.one x5)) (h32 : t 32 = (.one x32)) (h33 : t 33 = (.one (.int .i64 x33))) (h34 : t 34 = (.one (.int .i64 x34))) : Z0.l24 Q x1 x2 x5 x32 x33 x34 H → wpC Tryz.prog (.loop Z0.c25) t H (kBlk 0 (Z0.k21 Q)) :=
  m_loop Z0.R24 ⟨h1, h2, h5, h32, h33, h34, trivial⟩ fun X Y hX s t H hR hB => by
    have g := Z0.b24_ok Q Y X hX t hB
    rw [upd_self hR.1] at g
    rw [upd_self hR.2.1] at g
    rw [upd_self hR.2.2.1] at g
    rw [upd_self hR.2.2.2.1] at g
    rw [upd_self hR.2.2.2.2.1] at g
    rw [upd_self hR.2.2.2.2.2.1] at g
    exact g
theorem Z0.p15_okE (Q : AHeap → Int → Prop) {x1 : Int} {x2 : AC} {x5 : AC} {x30 : Bool} {H : AHeap} (j : Env) : Z0.p15 Q x1 x2 x5 x30 H → wpC Tryz.prog Z0.c15 (upd (upd (upd (upd j 1 (.one (.int .i64 x1))) 2 (.one x2)) 5 (.one x5)) 30 (.one (.bool x30))) H (Z0.k13 Q) := c_if rfl (cO (sP (o_mov rfl (sK (c_ret (k_seqR (k_topR (r_one rfl (r_nil (fun h => ⟨((3 : Int), ()), rfl, h⟩)))))))))) (c_skip (k_seq (c_seq (cO (sP (o_fa rfl (fun q_1 => sP (o_ld1 rfl (fun (v_2 : AC) => sP (o_lens rfl (fun n_3 => sP (o_mov rfl (sK (c_blk (Z0.l24_ok Q rfl rfl rfl rfl rfl rfl)))))))))))))))
theorem Z0.p15_ok (Q : AHeap → Int → Prop) {x1 : Int} {x2 : AC} {x5 : AC} {x30 : Bool} {H : AHeap} {t : Env} (h1 : t 1 = (.one (.int .i64 x1))) (h2 : t 2 = (.one x2)) (h5 : t 5 = (.one x5)) (h30 : t 30 = (.one (.bool x30))) (h : Z0.p15 Q x1 x2 x5 x30 H) : wpC Tryz.prog Z0.c15 t H (Z0.k13 Q) := by
  have g := Z0.p15_okE Q t h
  rw [upd_self h1] at g
  rw [upd_self h2] at g
  rw [upd_self h5] at g
  rw [upd_self h30] at g
  exact g
theorem Z0.ok {a0_0 : Int} {a0_1 : AC} {a0_2 : AC} {a0_3 : AC} {a0_4 : Int} {a0_5 : Int} {a0_6 : AC} {a1 : Int} {H : AHeap} (Q : AHeap → Int → Prop) : Z0.W a0_0 a0_1 a0_2 a0_3 a0_4 a0_5 a0_6 a1 H Q → wpF Tryz.prog Z0.c [.tm 4] (envOf [(.agg [(.int .i64 a0_0), a0_1, a0_2, a0_3, (.int .i64 a0_4), (.int .i64 a0_5), a0_6]), (.one (.int .i64 a1))]) H (Z0.KQ Q) := cO (sP (o_box rfl (fun p_1 H_2 => sP (o_mov rfl (sK (cO (sP (o_fa rfl (fun q_3 => sP (o_ld1 rfl (fun (v_4 : Int) => sP (o_call rfl (cv_a7_o1 (fun H_5 (v_6 : Int) (v_7 : Int) (v_8 : Bool) (v_9 : Bool) (v_10 : Bool) (v_11 : Bool) (v_12 : Bool) (v_13 : Bool) => sP (o_mov rfl (sP (o_ex rfl rfl rfl (sP (o_ex rfl rfl rfl (sP (o_new (fun p_14 H_15 => s_cons (w_run (o_st rfl rfl rfl (fun H_16 => sP (o_mov rfl (sK (c_seq (cO (sP (o_mov rfl (sP (o_not rfl (sK (c_if rfl (cO (sP (o_mov rfl (sK (c_ret (k_seqR (k_topR (r_one rfl (r_nil (fun h => ⟨((7 : Int), ()), rfl, h⟩)))))))))) (c_skip (k_seq (c_seq (cO (sP (o_fa rfl (fun q_17 => sP (o_ld1 rfl (fun (v_18 : AC) => sP (o_lens rfl (fun n_19 => sP (o_fa rfl (fun q_20 => sP (o_ld1 rfl (fun (v_21 : Int) => sP (o_lt rfl rfl (sP (o_mov rfl (s_cons (w_gputF rfl (s_cons (w_gputN rfl (s_cons (w_gputN rfl (s_cons (w_gputN rfl (s_cons (w_gputN rfl (s_cons (w_gputN rfl (sP (o_pickT rfl rfl (sK (Z0.p15_ok Q rfl rfl rfl rfl)))))))))))))) (o_fa rfl (fun q_22 => s_cons (w_gputY rfl (o_ld1 rfl (fun (v_23 : AC) => s_cons (w_gputY rfl (o_lens rfl (fun n_24 => s_cons (w_gputY rfl (o_fa rfl (fun q_25 => s_cons (w_gputY rfl (o_ld1 rfl (fun (v_26 : Int) => s_cons (w_gputY rfl (o_gt rfl rfl (sP (o_pickF rfl rfl (sK (Z0.p15_ok Q rfl rfl rfl rfl)))))))))))))))))))))))))))))))))))))))))))))))))))))))))))))))))))))))))))
theorem Z0.run {a0_0 : Int} {a0_1 : AC} {a0_2 : AC} {a0_3 : AC} {a0_4 : Int} {a0_5 : Int} {a0_6 : AC} {a1 : Int} {H : AHeap} {Q : AHeap → Int → Prop} (h : Z0.W a0_0 a0_1 a0_2 a0_3 a0_4 a0_5 a0_6 a1 H Q) : Fn.Z0 a0_0 a0_1 a0_2 a0_3 a0_4 a0_5 a0_6 a1 H Q := by
  unfold Fn.Z0 RunT
  exact runK aggs_ok [] Tryz.func24 rfl (by kernel_rfl) (by kernel_rfl) (by kernel_rfl) (by kernel_rfl) (by kernel_rfl) (Z0.ok Q h)
def Z15.c53 : RC := (.cond 65 (.seq (.ops [.put 4 (.mov (cI 5))]) .ret) .skip)
def Z15.c43 : RC := (.seq (.seq (.ops [pM 40 6, pM 41 5, .put 42 (.cm .lt (.tm 40) (.tm 41))]) (.cond 42 .skip (.exit 2))) (.seq (.block 3 (.seq (.ops [.put 45 (.fa 1 (.tm 2)), .put 46 (.ld false [.ac] (.tm 45)), pM 47 6, .put 48 (.ia 1 (.tm 46) (.tm 47)), .put 49 (.ld false [.int .i64] (.tm 48)), .put 50 (.fa 1 (.tm 2)), .put 51 (.ld false [.ac] (.tm 50)), pM 52 5, .put 53 (.ia 1 (.tm 51) (.tm 52)), .put 54 (.ld false [.int .i64] (.tm 53)), .put 55 (.cm .eq (.tm 49) (.tm 54)), pM 56 55, .gput 57 56 true (.fa 0 (.tm 2)), .gput 58 56 true (.ld false [.int .i64] (.tm 57)), .gput 59 56 true (.cm .eq (.tm 58) (cI 6)), .gput 60 56 true (.mov (.tm 59)), .gput 61 60 true (.mov (.tm 5)), .gput 62 60 true (.cm .eq (.tm 61) (cI 1)), .gput 63 56 true (.pick (.tm 60) (.tm 62) (.ct (.one (.bool false)))), .gput 64 56 true (.not (.tm 63)), .put 65 (.pick (.tm 56) (.tm 64) (.ct (.one (.bool false))))]) Z15.c53)) (.ops [pM 43 6, .put 44 (.ar .add (.tm 43) (cI 1)), pM 6 44])))
def Z15.c34 : RC := (.cond 39 (.seq (.ops [.put 4 (.mov (cI 1))]) .ret) .skip)
def Z15.c23 : RC := (.seq (.seq (.ops [pM 18 5, .put 19 (.fa 1 (.tm 2)), .put 20 (.ld false [.ac] (.tm 19)), .put 21 (.lens (.tm 20)), .put 22 (.cm .lt (.tm 18) (.tm 21))]) (.cond 22 .skip (.exit 0))) (.seq (.block 1 (.seq (.seq (.ops [.put 25 (.fa 1 (.tm 2)), .put 26 (.ld false [.ac] (.tm 25)), pM 27 5, .put 28 (.ia 1 (.tm 26) (.tm 27)), .put 29 (.ld false [.int .i64] (.tm 28)), .put 30 (.cm .lt (.tm 29) (cI 0)), pM 31 30, .gput 32 31 false (.fa 1 (.tm 2)), .gput 33 31 false (.ld false [.ac] (.tm 32)), .gput 34 31 false (.mov (.tm 5)), .gput 35 31 false (.ia 1 (.tm 33) (.tm 34)), .gput 36 31 false (.ld false [.int .i64] (.tm 35)), .gput 37 31 false (.mov (.tm 1)), .gput 38 31 false (.cm .ge (.tm 36) (.tm 37)), .put 39 (.pick (.tm 31) (.ct (.one (.bool true))) (.tm 38))]) Z15.c34) (.seq (.ops [.put 6 (.mov (cI 0))]) (.block 2 (.loop Z15.c43))))) (.ops [pM 23 5, .put 24 (.ar .add (.tm 23) (cI 1)), pM 5 24])))
def Z15.c : RC := (.seq (.ops [.put 2 (.box 44 (.tm 0)), .put 4 (.mov (cI 0))]) (.seq (.seq (.ops [.put 7 (.fa 0 (.tm 2)), .put 8 (.ld false [.int .i64] (.tm 7)), .put 9 (.call 43 [(.tm 8), (cI 1), (cI 10)]), .put 10 (.not (.tm 9))]) (.cond 10 (.seq (.ops [.put 4 (.mov (cI 7))]) .ret) .skip)) (.seq (.seq (.ops [.put 11 (.fa 0 (.tm 2)), .put 12 (.ld false [.int .i64] (.tm 11)), .put 13 (.fa 1 (.tm 2)), .put 14 (.ld false [.ac] (.tm 13)), .put 15 (.lens (.tm 14)), .put 16 (.call 49 [(.tm 12), (.tm 15)]), .put 17 (.not (.tm 16))]) (.cond 17 (.seq (.ops [.put 4 (.mov (cI 3))]) .ret) .skip)) (.seq (.seq (.ops [.put 5 (.mov (cI 0))]) (.block 0 (.loop Z15.c23))) (.seq (.seq (.ops [.put 66 (.ld true [.int .i64, .ac, .ac, .ac, .int .i64, .int .i64, .ac] (.tm 2)), .put 67 (.call 50 [(.tm 66)]), .put 68 (.not (.tm 67))]) (.cond 68 (.seq (.ops [.put 4 (.mov (cI 2))]) .ret) .skip)) (.seq (.seq (.ops [.put 69 (.fa 6 (.tm 2)), .put 70 (.ld false [.ac] (.tm 69)), .put 71 (.lens (.tm 70)), .put 72 (.cm .gt (.tm 71) (cI 200))]) (.cond 72 (.seq (.ops [.put 4 (.mov (cI 3))]) .ret) .skip)) (.seq (.seq (.ops [.put 73 (.ld true [.int .i64, .ac, .ac, .ac, .int .i64, .int .i64, .ac] (.tm 2)), .put 74 (.call 51 [(.tm 73)]), .put 75 (.not (.tm 74))]) (.cond 75 (.seq (.ops [.put 4 (.mov (cI 1))]) .ret) .skip)) (.seq (.ops [.put 4 (.mov (cI 0))]) .ret))))))))
abbrev Z15.KQ (Q : AHeap → Int → Prop) : AV → AHeap → Prop := KQT [(false, [.int .i64])] Q
abbrev Z15.K (Q : AHeap → Int → Prop) : Ex → Env → AHeap → Prop := kTop [.tm 4] (Z15.KQ Q)
abbrev Z15.k19 (Q : AHeap → Int → Prop) : Ex → Env → AHeap → Prop := kSeq (fun t H => wpC Tryz.prog (.seq (.seq (.ops [.put 66 (.ld true [.int .i64, .ac, .ac, .ac, .int .i64, .int .i64, .ac] (.tm 2)), .put 67 (.call 50 [(.tm 66)]), .put 68 (.not (.tm 67))]) (.cond 68 (.seq (.ops [.put 4 (.mov (cI 2))]) .ret) .skip)) (.seq (.seq (.ops [.put 69 (.fa 6 (.tm 2)), .put 70 (.ld false [.ac] (.tm 69)), .put 71 (.lens (.tm 70)), .put 72 (.cm .gt (.tm 71) (cI 200))]) (.cond 72 (.seq (.ops [.put 4 (.mov (cI 3))]) .ret) .skip)) (.seq (.seq (.ops [.put 73 (.ld true [.int .i64, .ac, .ac, .ac, .int .i64, .int .i64, .ac] (.tm 2)), .put 74 (.call 51 [(.tm 73)]), .put 75 (.not (.tm 74))]) (.cond 75 (.seq (.ops [.put 4 (.mov (cI 1))]) .ret) .skip)) (.seq (.ops [.put 4 (.mov (cI 0))]) .ret)))) t H (Z15.K Q)) (Z15.K Q)
abbrev Z15.k30 (Q : AHeap → Int → Prop) (X22 : Env → AHeap → Prop) : Ex → Env → AHeap → Prop := kSeq (fun t H => wpC Tryz.prog (.ops [pM 23 5, .put 24 (.ar .add (.tm 23) (cI 1)), pM 5 24]) t H (kSeq X22 (kBlk 0 (Z15.k19 Q)))) (kSeq X22 (kBlk 0 (Z15.k19 Q)))
abbrev Z15.k32 (Q : AHeap → Int → Prop) (X22 : Env → AHeap → Prop) : Ex → Env → AHeap → Prop := kSeq (fun t H => wpC Tryz.prog (.seq (.ops [.put 6 (.mov (cI 0))]) (.block 2 (.loop Z15.c43))) t H (kBlk 1 (Z15.k30 Q X22))) (kBlk 1 (Z15.k30 Q X22))
abbrev Z15.k50 (Q : AHeap → Int → Prop) (X22 : Env → AHeap → Prop) (X42 : Env → AHeap → Prop) : Ex → Env → AHeap → Prop := kSeq (fun t H => wpC Tryz.prog (.ops [pM 43 6, .put 44 (.ar .add (.tm 43) (cI 1)), pM 6 44]) t H (kSeq X42 (kBlk 2 (kBlk 1 (Z15.k30 Q X22))))) (kSeq X42 (kBlk 2 (kBlk 1 (Z15.k30 Q X22))))
def Z15.R42 (s : Tup [.int .i64, .ac, .int .i64, .int .i64]) (t : Env) : Prop := t 1 = (.one (.int .i64 (s.1))) ∧ t 2 = (.one (s.2.1)) ∧ t 5 = (.one (.int .i64 (s.2.2.1))) ∧ t 6 = (.one (.int .i64 (s.2.2.2.1))) ∧ True
def Z15.R22 (s : Tup [.int .i64, .ac, .int .i64]) (t : Env) : Prop := t 1 = (.one (.int .i64 (s.1))) ∧ t 2 = (.one (s.2.1)) ∧ t 5 = (.one (.int .i64 (s.2.2.1))) ∧ True
def Z15.p53 (Q : AHeap → Int → Prop) (Y22 : Tup [.int .i64, .ac, .int .i64] → AHeap → Prop) (Y42 : Tup [.int .i64, .ac, .int .i64, .int .i64] → AHeap → Prop) (x1 : Int) (x2 : AC) (x5 : Int) (x6 : Int) (x65 : Bool) (H : AHeap) : Prop := CondB x65 (Q H 5) (Y42 ((x1 : Int), x2, (x5 : Int), ((IntKind.wrap .i64 (x6 + 1)) : Int), ()) H)
def Z15.b42 (Q : AHeap → Int → Prop) (Y22 : Tup [.int .i64, .ac, .int .i64] → AHeap → Prop) (Y42 : Tup [.int .i64, .ac, .int .i64, .int .i64] → AHeap → Prop) (x1 : Int) (x2 : AC) (x5 : Int) (x6 : Int) (H : AHeap) : Prop := CondB (decide (x6 < x5)) (FA 1 x2 fun q_1 => Ld [.ac] H q_1 fun (v_2 : AC) => IA 1 v_2 x6 fun q_3 => Ld [.int .i64] H q_3 fun (v_4 : Int) => FA 1 x2 fun q_5 => Ld [.ac] H q_5 fun (v_6 : AC) => IA 1 v_6 x5 fun q_7 => Ld [.int .i64] H q_7 fun (v_8 : Int) => CondB (v_4 == v_8) (FA 0 x2 fun q_9 => Ld [.int .i64] H q_9 fun (v_10 : Int) => CondB (v_10 == 6) (Z15.p53 Q Y22 Y42 x1 x2 x5 x6 (!(x5 == 1)) H) (Z15.p53 Q Y22 Y42 x1 x2 x5 x6 true H)) (Z15.p53 Q Y22 Y42 x1 x2 x5 x6 false H)) (Y22 ((x1 : Int), x2, ((IntKind.wrap .i64 (x5 + 1)) : Int), ()) H)
def Z15.l42 (Q : AHeap → Int → Prop) (Y22 : Tup [.int .i64, .ac, .int .i64] → AHeap → Prop) (x1 : Int) (x2 : AC) (x5 : Int) (x6 : Int) (H : AHeap) : Prop := LoopT (Tup [.int .i64, .ac, .int .i64, .int .i64]) (fun Y s H => Z15.b42 Q Y22 Y (s.1) (s.2.1) (s.2.2.1) (s.2.2.2.1) H) (x1, x2, x5, x6, ()) H
def Z15.p34 (Q : AHeap → Int → Prop) (Y22 : Tup [.int .i64, .ac, .int .i64] → AHeap → Prop) (x1 : Int) (x2 : AC) (x5 : Int) (x39 : Bool) (H : AHeap) : Prop := CondB x39 (Q H 1) (Z15.l42 Q Y22 x1 x2 x5 0 H)
def Z15.b22 (Q : AHeap → Int → Prop) (Y22 : Tup [.int .i64, .ac, .int .i64] → AHeap → Prop) (x1 : Int) (x2 : AC) (x5 : Int) (H : AHeap) : Prop := FA 1 x2 fun q_1 => Ld [.ac] H q_1 fun (v_2 : AC) => LenS v_2 fun n_3 => CondB (decide (x5 < n_3)) (FA 1 x2 fun q_4 => Ld [.ac] H q_4 fun (v_5 : AC) => IA 1 v_5 x5 fun q_6 => Ld [.int .i64] H q_6 fun (v_7 : Int) => CondB (decide (v_7 < 0)) (Z15.p34 Q Y22 x1 x2 x5 true H) (FA 1 x2 fun q_8 => Ld [.ac] H q_8 fun (v_9 : AC) => IA 1 v_9 x5 fun q_10 => Ld [.int .i64] H q_10 fun (v_11 : Int) => Z15.p34 Q Y22 x1 x2 x5 (decide (v_11 ≥ x1)) H)) (Ld [.int .i64, .ac, .ac, .ac, .int .i64, .int .i64, .ac] H x2 fun (v_12 : Int) (v_13 : AC) (v_14 : AC) (v_15 : AC) (v_16 : Int) (v_17 : Int) (v_18 : AC) => Fn.Z21 v_12 v_13 v_14 v_15 v_16 v_17 v_18 H fun H_19 (v_20 : Bool) => CondB (!v_20) (Q H_19 2) (FA 6 x2 fun q_21 => Ld [.ac] H_19 q_21 fun (v_22 : AC) => LenS v_22 fun n_23 => CondB (decide (n_23 > 200)) (Q H_19 3) (Ld [.int .i64, .ac, .ac, .ac, .int .i64, .int .i64, .ac] H_19 x2 fun (v_24 : Int) (v_25 : AC) (v_26 : AC) (v_27 : AC) (v_28 : Int) (v_29 : Int) (v_30 : AC) => Fn.Z23 v_24 v_25 v_26 v_27 v_28 v_29 v_30 H_19 fun H_31 (v_32 : Bool) => CondB (!v_32) (Q H_31 1) (Q H_31 0))))
def Z15.l22 (Q : AHeap → Int → Prop) (x1 : Int) (x2 : AC) (x5 : Int) (H : AHeap) : Prop := LoopT (Tup [.int .i64, .ac, .int .i64]) (fun Y s H => Z15.b22 Q Y (s.1) (s.2.1) (s.2.2.1) H) (x1, x2, x5, ()) H
def Z15.W (a0_0 : Int) (a0_1 : AC) (a0_2 : AC) (a0_3 : AC) (a0_4 : Int) (a0_5 : Int) (a0_6 : AC) (a1 : Int) (H : AHeap) (Q : AHeap → Int → Prop) : Prop := New 44 [(.int .i64 a0_0), a0_1, a0_2, a0_3, (.int .i64 a0_4), (.int .i64 a0_5), a0_6] H fun p_1 H_2 => FA 0 p_1 fun q_3 => Ld [.int .i64] H_2 q_3 fun (v_4 : Int) => Fn.Z25 v_4 1 10 H_2 fun H_5 (v_6 : Bool) => CondB (!v_6) (Q H_5 7) (FA 0 p_1 fun q_7 => Ld [.int .i64] H_5 q_7 fun (v_8 : Int) => FA 1 p_1 fun q_9 => Ld [.ac] H_5 q_9 fun (v_10 : AC) => LenS v_10 fun n_11 => Fn.Z18 v_8 n_11 H_5 fun H_12 (v_13 : Bool) => CondB (!v_13) (Q H_12 3) (Z15.l22 Q a1 p_1 0 H_12))
theorem Z15.p53_okE (Q : AHeap → Int → Prop) (Y22 : Tup [.int .i64, .ac, .int .i64] → AHeap → Prop) (X22 : Env → AHeap → Prop) (hX22 : ∀ s t H, Z15.R22 s t → Y22 s H → X22 t H) (Y42 : Tup [.int .i64, .ac, .int .i64, .int .i64] → AHeap → Prop) (X42 : Env → AHeap → Prop) (hX42 : ∀ s t H, Z15.R42 s t → Y42 s H → X42 t H) {x1 : Int} {x2 : AC} {x5 : Int} {x6 : Int} {x65 : Bool} {H : AHeap} (j : Env) : Z15.p53 Q Y22 Y42 x1 x2 x5 x6 x65 H → wpC Tryz.prog Z15.c53 (upd (upd (upd (upd (upd j 1 (.one (.int .i64 x1))) 2 (.one x2)) 5 (.one (.int .i64 x5))) 6 (.one (.int .i64 x6))) 65 (.one (.bool x65))) H (kBlk 3 (Z15.k50 Q X22 X42)) := c_if rfl (cO (sP (o_mov rfl (sK (c_ret (k_blkR (k_seqR (k_seqR (k_blkR (k_blkR (k_seqR (k_seqR (k_blkR (k_seqR (k_topR (r_one rfl (r_nil (fun h => ⟨((5 : Int), ()), rfl, h⟩)))))))))))))))))) (c_skip (k_blk (k_seq (c_ops (sP (o_mov rfl (sP (o_add rfl rfl (sP (o_mov rfl (sK (hX42 _ _ _ ⟨rfl, rfl, rfl, rfl, trivial⟩))))))))))))
theorem Z15.p53_ok (Q : AHeap → Int → Prop) (Y22 : Tup [.int .i64, .ac, .int .i64] → AHeap → Prop) (X22 : Env → AHeap → Prop) (hX22 : ∀ s t H, Z15.R22 s t → Y22 s H → X22 t H) (Y42 : Tup [.int .i64, .ac, .int .i64, .int .i64] → AHeap → Prop) (X42 : Env → AHeap → Prop) (hX42 : ∀ s t H, Z15.R42 s t → Y42 s H → X42 t H) {x1 : Int} {x2 : AC} {x5 : Int} {x6 : Int} {x65 : Bool} {H : AHeap} {t : Env} (h1 : t 1 = (.one (.int .i64 x1))) (h2 : t 2 = (.one x2)) (h5 : t 5 = (.one (.int .i64 x5))) (h6 : t 6 = (.one (.int .i64 x6))) (h65 : t 65 = (.one (.bool x65))) (h : Z15.p53 Q Y22 Y42 x1 x2 x5 x6 x65 H) : wpC Tryz.prog Z15.c53 t H (kBlk 3 (Z15.k50 Q X22 X42)) := by
  have g := Z15.p53_okE Q Y22 X22 hX22 Y42 X42 hX42 t h
  rw [upd_self h1] at g
  rw [upd_self h2] at g
  rw [upd_self h5] at g
  rw [upd_self h6] at g
  rw [upd_self h65] at g
  exact g
theorem Z15.b42_ok (Q : AHeap → Int → Prop) (Y22 : Tup [.int .i64, .ac, .int .i64] → AHeap → Prop) (X22 : Env → AHeap → Prop) (hX22 : ∀ s t H, Z15.R22 s t → Y22 s H → X22 t H) (Y42 : Tup [.int .i64, .ac, .int .i64, .int .i64] → AHeap → Prop) (X42 : Env → AHeap → Prop) (hX42 : ∀ s t H, Z15.R42 s t → Y42 s H → X42 t H) {x1 : Int} {x2 : AC} {x5 : Int} {x6 : Int} {H : AHeap} (j : Env) : Z15.b42 Q Y22 Y42 x1 x2 x5 x6 H → wpC Tryz.prog Z15.c43 (upd (upd (upd (upd j 1 (.one (.int .i64 x1))) 2 (.one x2)) 5 (.one (.int .i64 x5))) 6 (.one (.int .i64 x6))) H (kSeq X42 (kBlk 2 (kBlk 1 (Z15.k30 Q X22)))) := c_seq (cO (sP (o_mov rfl (sP (o_mov rfl (sP (o_lt rfl rfl (sK (c_if rfl (c_skip (k_seq (c_seq (c_blk (cO (sP (o_fa rfl (fun q_1 => sP (o_ld1 rfl (fun (v_2 : AC) => sP (o_mov rfl (sP (o_ia rfl rfl (fun q_3 => sP (o_ld1 rfl (fun (v_4 : Int) => sP (o_fa rfl (fun q_5 => sP (o_ld1 rfl (fun (v_6 : AC) => sP (o_mov rfl (sP (o_ia rfl rfl (fun q_7 => sP (o_ld1 rfl (fun (v_8 : Int) => sP (o_eq rfl rfl (sP (o_mov rfl (s_cons (w_gputT rfl (o_fa rfl (fun q_9 => s_cons (w_gputY rfl (o_ld1 rfl (fun (v_10 : Int) => s_cons (w_gputY rfl (o_eq rfl rfl (s_cons (w_gputY rfl (o_mov rfl (s_cons (w_gputT rfl (o_mov rfl (s_cons (w_gputY rfl (o_eq rfl rfl (s_cons (w_gputY rfl (o_pickT rfl rfl (s_cons (w_gputY rfl (o_not rfl (sP (o_pickT rfl rfl (sK (Z15.p53_ok Q Y22 X22 hX22 Y42 X42 hX42 rfl rfl rfl rfl rfl)))))))))))))) (s_cons (w_gputN rfl (s_cons (w_gputY rfl (o_pickF rfl rfl (s_cons (w_gputY rfl (o_not rfl (sP (o_pickT rfl rfl (sK (Z15.p53_ok Q Y22 X22 hX22 Y42 X42 hX42 rfl rfl rfl rfl rfl)))))))))))))))))))))))) (s_cons (w_gputN rfl (s_cons (w_gputN rfl (s_cons (w_gputN rfl (s_cons (w_gputJ rfl (s_cons (w_gputJ rfl (s_cons (w_gputN rfl (s_cons (w_gputN rfl (sP (o_pickF rfl rfl (sK (Z15.p53_ok Q Y22 X22 hX22 Y42 X42 hX42 rfl rfl rfl rfl rfl))))))))))))))))))))))))))))))))))))))))))))))))) (c_exit (k_seqE (k_seqE (k_blkH (k_blk (k_seq (c_ops (sP (o_mov rfl (sP (o_add rfl rfl (sP (o_mov rfl (sK (hX22 _ _ _ ⟨rfl, rfl, rfl, trivial⟩))))))))))))))))))))))))
theorem Z15.l42_ok (Q : AHeap → Int → Prop) (Y22 : Tup [.int .i64, .ac, .int .i64] → AHeap → Prop) (X22 : Env → AHeap → Prop) (hX22 : ∀ s t H, Z15.R22 s t → Y22 s H → X22 t H) {x1 : Int} {x2 : AC} {x5 : Int} {x6 : Int} {H : AHeap} {t : Env} (h1 : t 1 = (.one (.int .i64 x1))) (h2 : t 2 = (.one x2)) (h5 : t 5 = (.one (.int .i64 x5))) (h6 : t 6 = (.one (.int .i64 x6))) : Z15.l42 Q Y22 x1 x2 x5 x6 H → wpC Tryz.prog (.loop Z15.c43) t H (kBlk 2 (kBlk 1 (Z15.k30 Q X22))) :=
  m_loop Z15.R42 ⟨h1, h2, h5, h6, trivial⟩ fun X Y hX s t H hR hB => by
    have g := Z15.b42_ok Q Y22 X22 hX22 Y X hX t hB
    rw [upd_self hR.1] at g
    rw [upd_self hR.2.1] at g
    rw [upd_self hR.2.2.1] at g
    rw [upd_self hR.2.2.2.1] at g
    exact g
theorem Z15.p34_okE (Q : AHeap → Int → Prop) (Y22 : Tup [.int .i64, .ac, .int .i64] → AHeap → Prop) (X22 : Env → AHeap → Prop) (hX22 : ∀ s t H, Z15.R22 s t → Y22 s H → X22 t H) {x1 : Int} {x2 : AC} {x5 : Int} {x39 : Bool} {H : AHeap} (j : Env) : Z15.p34 Q Y22 x1 x2 x5 x39 H → wpC Tryz.prog Z15.c34 (upd (upd (upd (upd j 1 (.one (.int .i64 x1))) 2 (.one x2)) 5 (.one (.int .i64 x5))) 39 (.one (.bool x39))) H (Z15.k32 Q X22) := c_if rfl (cO (sP (o_mov rfl (sK (c_ret (k_seqR (k_blkR (k_seqR (k_seqR (k_blkR (k_seqR (k_topR (r_one rfl (r_nil (fun h => ⟨((1 : Int), ()), rfl, h⟩))))))))))))))) (c_skip (k_seq (cO (sP (o_mov rfl (sK (c_blk (Z15.l42_ok Q Y22 X22 hX22 rfl rfl rfl rfl))))))))
theorem Z15.p34_ok (Q : AHeap → Int → Prop) (Y22 : Tup [.int .i64, .ac, .int .i64] → AHeap → Prop) (X22 : Env → AHeap → Prop) (hX22 : ∀ s t H, Z15.R22 s t → Y22 s H → X22 t H) {x1 : Int} {x2 : AC} {x5 : Int} {x39 : Bool} {H : AHeap} {t : Env} (h1 : t 1 = (.one (.int .i64 x1))) (h2 : t 2 = (.one x2)) (h5 : t 5 = (.one (.int .i64 x5))) (h39 : t 39 = (.one (.bool x39))) (h : Z15.p34 Q Y22 x1 x2 x5 x39 H) : wpC Tryz.prog Z15.c34 t H (Z15.k32 Q X22) := by
  have g := Z15.p34_okE Q Y22 X22 hX22 t h
  rw [upd_self h1] at g
  rw [upd_self h2] at g
  rw [upd_self h5] at g
  rw [upd_self h39] at g
  exact g
theorem Z15.b22_ok (Q : AHeap → Int → Prop) (Y22 : Tup [.int .i64, .ac, .int .i64] → AHeap → Prop) (X22 : Env → AHeap → Prop) (hX22 : ∀ s t H, Z15.R22 s t → Y22 s H → X22 t H) {x1 : Int} {x2 : AC} {x5 : Int} {H : AHeap} (j : Env) : Z15.b22 Q Y22 x1 x2 x5 H → wpC Tryz.prog Z15.c23 (upd (upd (upd j 1 (.one (.int .i64 x1))) 2 (.one x2)) 5 (.one (.int .i64 x5))) H (kSeq X22 (kBlk 0 (Z15.k19 Q))) := c_seq (cO (sP (o_mov rfl (sP (o_fa rfl (fun q_1 => sP (o_ld1 rfl (fun (v_2 : AC) => sP (o_lens rfl (fun n_3 => sP (o_lt rfl rfl (sK (c_if rfl (c_skip (k_seq (c_seq (c_blk (c_seq (cO (sP (o_fa rfl (fun q_4 => sP (o_ld1 rfl (fun (v_5 : AC) => sP (o_mov rfl (sP (o_ia rfl rfl (fun q_6 => sP (o_ld1 rfl (fun (v_7 : Int) => sP (o_lt rfl rfl (sP (o_mov rfl (s_cons (w_gputF rfl (s_cons (w_gputN rfl (s_cons (w_gputN rfl (s_cons (w_gputN rfl (s_cons (w_gputN rfl (s_cons (w_gputN rfl (s_cons (w_gputN rfl (sP (o_pickT rfl rfl (sK (Z15.p34_ok Q Y22 X22 hX22 rfl rfl rfl rfl)))))))))))))))) (o_fa rfl (fun q_8 => s_cons (w_gputY rfl (o_ld1 rfl (fun (v_9 : AC) => s_cons (w_gputY rfl (o_mov rfl (s_cons (w_gputY rfl (o_ia rfl rfl (fun q_10 => s_cons (w_gputY rfl (o_ld1 rfl (fun (v_11 : Int) => s_cons (w_gputY rfl (o_mov rfl (s_cons (w_gputY rfl (o_ge rfl rfl (sP (o_pickF rfl rfl (sK (Z15.p34_ok Q Y22 X22 hX22 rfl rfl rfl rfl))))))))))))))))))))))))))))))))))))))))))))) (c_exit (k_seqE (k_seqE (k_blkH (k_seq (c_seq (cO (sP (o_ld7 rfl (fun (v_12 : Int) (v_13 : AC) (v_14 : AC) (v_15 : AC) (v_16 : Int) (v_17 : Int) (v_18 : AC) => sP (o_call rfl (cv_1 (fun H_19 (v_20 : Bool) => sP (o_not rfl (sK (c_if rfl (cO (sP (o_mov rfl (sK (c_ret (k_seqR (k_topR (r_one rfl (r_nil (fun h => ⟨((2 : Int), ()), rfl, h⟩)))))))))) (c_skip (k_seq (c_seq (cO (sP (o_fa rfl (fun q_21 => sP (o_ld1 rfl (fun (v_22 : AC) => sP (o_lens rfl (fun n_23 => sP (o_gt rfl rfl (sK (c_if rfl (cO (sP (o_mov rfl (sK (c_ret (k_seqR (k_topR (r_one rfl (r_nil (fun h => ⟨((3 : Int), ()), rfl, h⟩)))))))))) (c_skip (k_seq (c_seq (cO (sP (o_ld7 rfl (fun (v_24 : Int) (v_25 : AC) (v_26 : AC) (v_27 : AC) (v_28 : Int) (v_29 : Int) (v_30 : AC) => sP (o_call rfl (cv_1 (fun H_31 (v_32 : Bool) => sP (o_not rfl (sK (c_if rfl (cO (sP (o_mov rfl (sK (c_ret (k_seqR (k_topR (r_one rfl (r_nil (fun h => ⟨((1 : Int), ()), rfl, h⟩)))))))))) (c_skip (k_seq (cO (sP (o_mov rfl (sK (c_ret (k_topR (r_one rfl (r_nil (fun h => ⟨((0 : Int), ()), rfl, h⟩)))))))))))))))))))))))))))))))))))))))))))))))))))))))))))))))))))
theorem Z15.l22_ok (Q : AHeap → Int → Prop) {x1 : Int} {x2 : AC} {x5 : Int} {H : AHeap} {t : Env} (h1 : t 1 = (.one (.int .i64 x1))) (h2 : t 2 = (.one x2)) (h5 : t 5 = (.one (.int .i64 x5))) : Z15.l22 Q x1 x2 x5 H → wpC Tryz.prog (.loop Z15.c23) t H (kBlk 0 (Z15.k19 Q)) :=
  m_loop Z15.R22 ⟨h1, h2, h5, trivial⟩ fun X Y hX s t H hR hB => by
    have g := Z15.b22_ok Q Y X hX t hB
    rw [upd_self hR.1] at g
    rw [upd_self hR.2.1] at g
    rw [upd_self hR.2.2.1] at g
    exact g
theorem Z15.ok {a0_0 : Int} {a0_1 : AC} {a0_2 : AC} {a0_3 : AC} {a0_4 : Int} {a0_5 : Int} {a0_6 : AC} {a1 : Int} {H : AHeap} (Q : AHeap → Int → Prop) : Z15.W a0_0 a0_1 a0_2 a0_3 a0_4 a0_5 a0_6 a1 H Q → wpF Tryz.prog Z15.c [.tm 4] (envOf [(.agg [(.int .i64 a0_0), a0_1, a0_2, a0_3, (.int .i64 a0_4), (.int .i64 a0_5), a0_6]), (.one (.int .i64 a1))]) H (Z15.KQ Q) := cO (sP (o_box rfl (fun p_1 H_2 => sP (o_mov rfl (sK (c_seq (cO (sP (o_fa rfl (fun q_3 => sP (o_ld1 rfl (fun (v_4 : Int) => sP (o_call rfl (cv_1 (fun H_5 (v_6 : Bool) => sP (o_not rfl (sK (c_if rfl (cO (sP (o_mov rfl (sK (c_ret (k_seqR (k_topR (r_one rfl (r_nil (fun h => ⟨((7 : Int), ()), rfl, h⟩)))))))))) (c_skip (k_seq (c_seq (cO (sP (o_fa rfl (fun q_7 => sP (o_ld1 rfl (fun (v_8 : Int) => sP (o_fa rfl (fun q_9 => sP (o_ld1 rfl (fun (v_10 : AC) => sP (o_lens rfl (fun n_11 => sP (o_call rfl (cv_1 (fun H_12 (v_13 : Bool) => sP (o_not rfl (sK (c_if rfl (cO (sP (o_mov rfl (sK (c_ret (k_seqR (k_topR (r_one rfl (r_nil (fun h => ⟨((3 : Int), ()), rfl, h⟩)))))))))) (c_skip (k_seq (c_seq (cO (sP (o_mov rfl (sK (c_blk (Z15.l22_ok Q rfl rfl rfl))))))))))))))))))))))))))))))))))))))))))))))))
theorem Z15.run {a0_0 : Int} {a0_1 : AC} {a0_2 : AC} {a0_3 : AC} {a0_4 : Int} {a0_5 : Int} {a0_6 : AC} {a1 : Int} {H : AHeap} {Q : AHeap → Int → Prop} (h : Z15.W a0_0 a0_1 a0_2 a0_3 a0_4 a0_5 a0_6 a1 H Q) : Fn.Z15 a0_0 a0_1 a0_2 a0_3 a0_4 a0_5 a0_6 a1 H Q := by
  unfold Fn.Z15 RunT
  exact runK aggs_ok [(13, [])] Tryz.func25 rfl (by kernel_rfl) (by kernel_rfl) (by kernel_rfl) (by kernel_rfl) (by kernel_rfl) (Z15.ok Q h)
end Go.Proofs.YtkpjcnlljdccjaaGreat
end
section
namespace Go.Proofs.YtkpjcnlljdccjaaGreat
open Go.AI
set_option maxRecDepth 100000
set_option maxHeartbeats 2000000
set_option linter.unusedVariables false
attribute [local irreducible] Ld Sto New NewS NewM NN NZ GE0 FA IA IAP LenS Slc App Cpy Clr MkS Fnc NilQ IxS Look MSet Run CV RunT CVT LoopT Same1 Same2 wpC wpOs wpT wpO wpOp
def Z13.c : RC := (.seq (.ops [.put 2 (.mov (.ct (.one (.bool false))))]) (.seq (.ops [pM 3 0, .put 4 (.cm .ge (.tm 3) (.ct (.one (.int .i64 (-16384))))), pM 5 4, .gput 6 5 true (.mov (.tm 0)), .gput 7 5 true (.cm .le (.tm 6) (cI 16384)), .put 8 (.pick (.tm 5) (.tm 7) (.ct (.one (.bool false)))), pM 2 8]) .ret))
abbrev Z13.KQ (Q : AHeap → Bool → Prop) : AV → AHeap → Prop := KQT [(false, [.bool])] Q
abbrev Z13.K (Q : AHeap → Bool → Prop) : Ex → Env → AHeap → Prop := kTop [.tm 2] (Z13.KQ Q)
def Z13.W (a0 : Int) (H : AHeap) (Q : AHeap → Bool → Prop) : Prop := CondB (decide (a0 ≥ (-16384))) (Q H (decide (a0 ≤ 16384))) (Q H false)
theorem Z13.ok {a0 : Int} {H : AHeap} (Q : AHeap → Bool → Prop) : Z13.W a0 H Q → wpF Tryz.prog Z13.c [.tm 2] (envOf [(.one (.int .i64 a0))]) H (Z13.KQ Q) := cO (sP (o_mov rfl (sK (cO (sP (o_mov rfl (sP (o_ge rfl rfl (sP (o_mov rfl (s_cons (w_gputT rfl (o_mov rfl (s_cons (w_gputY rfl (o_le rfl rfl (sP (o_pickT rfl rfl (sP (o_mov rfl (sK (c_ret (k_topR (r_one rfl (r_nil (fun h => ⟨(((decide (a0 ≤ 16384)) : Bool), ()), rfl, h⟩)))))))))))))) (s_cons (w_gputN rfl (sP (o_pickF rfl rfl (sP (o_mov rfl (sK (c_ret (k_topR (r_one rfl (r_nil (fun h => ⟨((false : Bool), ()), rfl, h⟩))))))))))))))))))))))))
theorem Z13.run {a0 : Int} {H : AHeap} {Q : AHeap → Bool → Prop} (h : Z13.W a0 H Q) : Fn.Z13 a0 H Q := by
  unfold Fn.Z13 RunT
  exact runK aggs_ok [] Tryz.func30 rfl (by kernel_rfl) (by kernel_rfl) (by kernel_rfl) (by kernel_rfl) (by kernel_rfl) (Z13.ok Q h)
end Go.Proofs.YtkpjcnlljdccjaaGreat
end
section
namespace Go.Proofs.YtkpjcnlljdccjaaGreat
open Go.AI
set_option maxRecDepth 100000
set_option maxHeartbeats 2000000
set_option linter.unusedVariables false
attribute [local irreducible] Ld Sto New NewS NewM NN NZ GE0 FA IA IAP LenS Slc App Cpy Clr MkS Fnc NilQ IxS Look MSet Run CV RunT CVT LoopT Same1 Same2 wpC wpOs wpT wpO wpOp
def Z27.c : RC := (.seq (.ops [.put 4 (.mov (.ct (.one (.bool false))))]) (.seq (.ops [pM 5 0, pM 6 1, .put 7 (.call 67 [(.tm 5), (.tm 6)]), .put 8 (.cm .ge (.tm 7) (cI 0)), pM 4 8]) .ret))
abbrev Z27.KQ (Q : AHeap → Bool → Prop) : AV → AHeap → Prop := KQT [(false, [.bool])] Q
abbrev Z27.K (Q : AHeap → Bool → Prop) : Ex → Env → AHeap → Prop := kTop [.tm 4] (Z27.KQ Q)
def Z27.W (a0 : AC) (a1 : AC) (H : AHeap) (Q : AHeap → Bool → Prop) : Prop := Fn.Z31 a0 a1 H fun H_1 (v_2 : Int) => Q H_1 (decide (v_2 ≥ 0))
theorem Z27.ok {a0 : AC} {a1 : AC} {H : AHeap} (Q : AHeap → Bool → Prop) : Z27.W a0 a1 H Q → wpF Tryz.prog Z27.c [.tm 4] (envOf [(.one a0), (.one a1)]) H (Z27.KQ Q) := cO (sP (o_mov rfl (sK (cO (sP (o_mov rfl (sP (o_mov rfl (sP (o_call rfl (cv_1 (fun H_1 (v_2 : Int) => sP (o_ge rfl rfl (sP (o_mov rfl (sK (c_ret (k_topR (r_one rfl (r_nil (fun h => ⟨(((decide (v_2 ≥ 0)) : Bool), ()), rfl, h⟩)))))))))))))))))))))
theorem Z27.run {a0 : AC} {a1 : AC} {H : AHeap} {Q : AHeap → Bool → Prop} (h : Z27.W a0 a1 H Q) : Fn.Z27 a0 a1 H Q := by
  unfold Fn.Z27 RunT
  exact runK aggs_ok [] Tryz.func40 rfl (by kernel_rfl) (by kernel_rfl) (by kernel_rfl) (by kernel_rfl) (by kernel_rfl) (Z27.ok Q h)
def Z2.c : RC := (.seq (.ops [.put 2 (.mov (.ct (.one (.bool false))))]) (.seq (.ops [pM 3 0, .put 4 (.call 30 [(.tm 3)]), .put 5 (.not (.tm 4)), pM 2 5]) .ret))
abbrev Z2.KQ (Q : AHeap → Bool → Prop) : AV → AHeap → Prop := KQT [(false, [.bool])] Q
abbrev Z2.K (Q : AHeap → Bool → Prop) : Ex → Env → AHeap → Prop := kTop [.tm 2] (Z2.KQ Q)
def Z2.W (a0 : Int) (H : AHeap) (Q : AHeap → Bool → Prop) : Prop := Fn.Z13 a0 H fun H_1 (v_2 : Bool) => Q H_1 (!v_2)
theorem Z2.ok {a0 : Int} {H : AHeap} (Q : AHeap → Bool → Prop) : Z2.W a0 H Q → wpF Tryz.prog Z2.c [.tm 2] (envOf [(.one (.int .i64 a0))]) H (Z2.KQ Q) := cO (sP (o_mov rfl (sK (cO (sP (o_mov rfl (sP (o_call rfl (cv_1 (fun H_1 (v_2 : Bool) => sP (o_not rfl (sP (o_mov rfl (sK (c_ret (k_topR (r_one rfl (r_nil (fun h => ⟨(((!v_2) : Bool), ()), rfl, h⟩)))))))))))))))))))
theorem Z2.run {a0 : Int} {H : AHeap} {Q : AHeap → Bool → Prop} (h : Z2.W a0 H Q) : Fn.Z2 a0 H Q := by
  unfold Fn.Z2 RunT
  exact runK aggs_ok [] Tryz.func41 rfl (by kernel_rfl) (by kernel_rfl) (by kernel_rfl) (by kernel_rfl) (by kernel_rfl) (Z2.ok Q h)
end Go.Proofs.YtkpjcnlljdccjaaGreat
end
section
namespace Go.Proofs.YtkpjcnlljdccjaaGreat
open Go.AI
set_option maxRecDepth 100000
set_option maxHeartbeats 2000000
set_option linter.unusedVariables false
attribute [local irreducible] Ld Sto New NewS NewM NN NZ GE0 FA IA IAP LenS Slc App Cpy Clr MkS Fnc NilQ IxS Look MSet Run CV RunT CVT LoopT Same1 Same2 wpC wpOs wpT wpO wpOp
def Z6.c66 : RC := (.seq (.ops [.put 116 (.cm .lt (.tm 115) (.tm 114))]) (.seq (.cond 116 .skip (.exit 1)) (.seq (.block 2 (.seq (.ops [.put 117 (.ia 1 (.tm 113) (.tm 115)), .put 118 (.ld false [.int .i64] (.tm 117)), pM 7 118]) (.seq (.ops [pM 119 7, .put 120 (.fa 5 (.tm 2)), .put 121 (.ld false [.int .i64] (.tm 120)), .put 122 (.cm .eq (.tm 119) (.tm 121))]) (.cond 122 (.ops [pM 123 5, .put 124 (.ar .add (.tm 123) (cI 1)), pM 5 124]) .skip)))) (.ops [.put 125 (.ar .add (.tm 115) (cI 1)), pM 115 125]))))
def Z6.c : RC := (.seq (.ops [.put 2 (.box 44 (.tm 0)), .put 3 (.box 28 (.tm 1)), .put 4 (.mov (.ct (.one (.bool false))))]) (.seq (.seq (.ops [.put 9 (.fa 0 (.tm 2)), .put 10 (.ld false [.int .i64] (.tm 9))]) (.block 0 (.seq (.ops [.put 12 (.cm .eq (.tm 10) (cI 1)), pM 11 12]) (.cond 11 (.seq (.held [.put 13 (.fa 2 (.tm 2)), .put 14 (.ld false [.ac] (.tm 13)), .put 15 (.ld false [.ac] (.tm 3)), .put 16 (.call 69 [(.tm 14), (.tm 15)]), .put 17 (.fa 4 (.tm 2)), .put 18 (.ld false [.int .i64] (.tm 17)), .put 19 (.fa 5 (.tm 2)), .put 20 (.ld false [.int .i64] (.tm 19)), .put 21 (.call 68 [(.tm 16), (.tm 18), (.tm 20)]), pM 4 21] [(5, 3), (7, 3)]) .ret) (.seq (.ops [.put 23 (.cm .eq (.tm 10) (cI 2)), pM 22 23]) (.cond 22 (.seq (.ops [.put 24 (.ld false [.ac] (.tm 3)), .put 25 (.ia 1 (.tm 24) (cI 0)), .put 26 (.ld false [.int .i64] (.tm 25)), .put 27 (.ld false [.ac] (.tm 3)), .put 28 (.ia 1 (.tm 27) (cI 1)), .put 29 (.ld false [.int .i64] (.tm 28)), .put 30 (.fa 5 (.tm 2)), .put 31 (.ld false [.int .i64] (.tm 30)), .put 32 (.ar .add (.tm 29) (.tm 31)), .put 33 (.cm .eq (.tm 26) (.tm 32)), pM 4 33]) .ret) (.seq (.ops [.put 35 (.cm .eq (.tm 10) (cI 3)), pM 34 35]) (.cond 34 (.seq (.held [.put 36 (.ld false [.ac] (.tm 3)), .put 37 (.call 61 [(.tm 36)]), .put 38 (.call 60 [(.tm 37)]), .put 39 (.call 59 [(.tm 38)]), .put 40 (.lens (.tm 39)), .put 41 (.ld false [.ac] (.tm 3)), .put 42 (.lens (.tm 41)), .put 43 (.cm .eq (.tm 40) (.tm 42)), pM 4 43] [(5, 1), (5, 2), (5, 3), (6, 1), (6, 2), (6, 3)]) .ret) (.seq (.ops [.put 45 (.cm .eq (.tm 10) (cI 4)), pM 44 45]) (.cond 44 (.seq (.ops [.put 46 (.ld false [.ac] (.tm 3)), .put 47 (.ia 1 (.tm 46) (cI 0)), .put 48 (.ld false [.int .i64] (.tm 47)), .put 49 (.cm .ge (.tm 48) (cI 0)), pM 50 49, .gput 51 50 true (.ld false [.ac] (.tm 3)), .gput 52 50 true (.ia 1 (.tm 51) (cI 0)), .gput 53 50 true (.ld false [.int .i64] (.tm 52)), .gput 54 50 true (.ld false [.ac] (.tm 3)), .gput 55 50 true (.lens (.tm 54)), .gput 56 50 true (.ar .sub (.tm 55) (cI 3)), .gput 57 50 true (.cm .le (.tm 53) (.tm 56)), .put 58 (.pick (.tm 50) (.tm 57) (.ct (.one (.bool false)))), pM 59 58, .gput 60 59 true (.ld false [.ac] (.tm 3)), .gput 61 59 true (.ld false [.ac] (.tm 3)), .gput 62 59 true (.ia 1 (.tm 61) (cI 0)), .gput 63 59 true (.ld false [.int .i64] (.tm 62)), .gput 64 59 true (.ar .add (cI 2) (.tm 63)), .gput 65 59 true (.ia 1 (.tm 60) (.tm 64)), .gput 66 59 true (.ld false [.int .i64] (.tm 65)), .gput 67 59 true (.ld false [.ac] (.tm 3)), .gput 68 59 true (.ia 1 (.tm 67) (cI 1)), .gput 69 59 true (.ld false [.int .i64] (.tm 68)), .gput 70 59 true (.cm .eq (.tm 66) (.tm 69)), .put 71 (.pick (.tm 59) (.tm 70) (.ct (.one (.bool false)))), pM 4 71]) .ret) (.seq (.ops [.put 73 (.cm .eq (.tm 10) (cI 5)), pM 72 73]) (.cond 72 (.seq (.ops [.put 74 (.fa 6 (.tm 2)), .put 75 (.ld false [.ac] (.tm 74)), .put 76 (.fn 71 [] [(.tm 3)]), .put 77 (.call 70 [(.tm 75), (.tm 76)]), pM 4 77]) .ret) (.seq (.ops [.put 79 (.cm .eq (.tm 10) (cI 6)), pM 78 79]) (.cond 78 (.seq (.ops [.put 80 (.ld false [.ac] (.tm 3)), .put 81 (.ia 1 (.tm 80) (cI 0)), .put 82 (.ld false [.int .i64] (.tm 81)), .put 83 (.ld false [.ac] (.tm 3)), .put 84 (.ia 1 (.tm 83) (cI 1)), .put 85 (.ld false [.int .i64] (.tm 84)), .put 86 (.ar .mul (.tm 82) (.tm 85)), .put 87 (.ld false [.ac] (.tm 3)), .put 88 (.ia 1 (.tm 87) (cI 2)), .put 89 (.ld false [.int .i64] (.tm 88)), .put 90 (.cm .eq (.tm 86) (.tm 89)), pM 4 90]) .ret) (.seq (.ops [.put 92 (.cm .eq (.tm 10) (cI 7)), pM 91 92]) (.cond 91 (.seq (.seq (.ops [.put 93 (.fa 5 (.tm 2)), .put 94 (.ld false [.int .i64] (.tm 93)), .put 95 (.cm .eq (.tm 94) (cI 0))]) (.cond 95 (.seq (.held [.put 96 (.ld false [.ac] (.tm 3)), .put 97 (.ia 1 (.tm 96) (cI 0)), .put 98 (.ld false [.int .i64] (.tm 97)), .put 99 (.ld false [.ac] (.tm 3)), .put 100 (.slc 1 (.tm 99) (some (cI 1)) none), .put 101 (.call 73 [(.tm 100)]), .put 102 (.cm .eq (.tm 98) (.tm 101)), pM 4 102] [(0, 5), (2, 5)]) .ret) .skip)) (.seq (.held [.put 103 (.ld false [.ac] (.tm 3)), .put 104 (.ia 1 (.tm 103) (cI 0)), .put 105 (.ld false [.int .i64] (.tm 104)), .put 106 (.ld false [.ac] (.tm 3)), .put 107 (.slc 1 (.tm 106) (some (cI 1)) none), .put 108 (.call 74 [(.tm 107)]), .put 109 (.cm .eq (.tm 105) (.tm 108)), pM 4 109] [(0, 5), (2, 5)]) .ret)) (.seq (.ops [.put 111 (.cm .eq (.tm 10) (cI 8)), pM 110 111]) (.cond 110 (.seq (.ops [.put 5 (.mov (cI 0))]) (.seq (.seq (.ops [.put 112 (.ld false [.ac] (.tm 3)), .put 113 (.slc 1 (.tm 112) (some (cI 1)) none), .put 114 (.lens (.tm 113)), .put 115 (.mov (cI 0))]) (.block 1 (.loop Z6.c66))) (.seq (.ops [.put 126 (.ld false [.ac] (.tm 3)), .put 127 (.ia 1 (.tm 126) (cI 0)), .put 128 (.ld false [.int .i64] (.tm 127)), pM 129 5, .put 130 (.cm .eq (.tm 128) (.tm 129)), pM 4 130]) .ret))) (.seq (.ops [.put 132 (.cm .eq (.tm 10) (cI 9)), pM 131 132]) (.cond 131 (.seq (.ops [.put 133 (.ld true [.int .i64, .ac, .ac, .ac, .int .i64, .int .i64, .ac] (.tm 2)), .put 134 (.ld false [.ac] (.tm 3)), .put 135 (.call 75 [(.tm 133), (.tm 134)]), pM 4 135]) .ret) .skip)))))))))))))))))))) (.seq (.held [.put 136 (.fa 2 (.tm 2)), .put 137 (.ld false [.ac] (.tm 136)), .put 138 (.ld false [.ac] (.tm 3)), .put 139 (.slc 1 (.tm 138) (some (cI 1)) none), .put 140 (.call 69 [(.tm 137), (.tm 139)]), .put 141 (.fa 4 (.tm 2)), .put 142 (.ld false [.int .i64] (.tm 141)), .put 143 (.fa 5 (.tm 2)), .put 144 (.ld false [.int .i64] (.tm 143)), .put 145 (.call 68 [(.tm 140), (.tm 142), (.tm 144)]), pM 8 145] [(6, 4), (8, 4)]) (.seq (.ops [.put 146 (.ld false [.ac] (.tm 3)), .put 147 (.ia 1 (.tm 146) (cI 0)), .put 148 (.ld false [.int .i64] (.tm 147)), .put 149 (.cm .eq (.tm 148) (cI 1)), pM 150 149, .gput 151 150 true (.mov (.tm 8)), .put 152 (.pick (.tm 150) (.tm 151) (.ct (.one (.bool false)))), pM 153 152, .gput 154 153 false (.ld false [.ac] (.tm 3)), .gput 155 153 false (.ia 1 (.tm 154) (cI 0)), .gput 156 153 false (.ld false [.int .i64] (.tm 155)), .gput 157 153 false (.cm .eq (.tm 156) (cI 0)), .gput 158 153 false (.mov (.tm 157)), .gput 159 158 true (.mov (.tm 8)), .gput 160 158 true (.not (.tm 159)), .gput 161 153 false (.pick (.tm 158) (.tm 160) (.ct (.one (.bool false)))), .put 162 (.pick (.tm 153) (.ct (.one (.bool true))) (.tm 161)), pM 4 162]) .ret))))
abbrev Z6.KQ (Q : AHeap → Bool → Prop) : AV → AHeap → Prop := KQT [(false, [.bool])] Q
abbrev Z6.K (Q : AHeap → Bool → Prop) : Ex → Env → AHeap → Prop := kTop [.tm 4] (Z6.KQ Q)
abbrev Z6.k3 (Q : AHeap → Bool → Prop) : Ex → Env → AHeap → Prop := kSeq (fun t H => wpC Tryz.prog (.seq (.held [.put 136 (.fa 2 (.tm 2)), .put 137 (.ld false [.ac] (.tm 136)), .put 138 (.ld false [.ac] (.tm 3)), .put 139 (.slc 1 (.tm 138) (some (cI 1)) none), .put 140 (.call 69 [(.tm 137), (.tm 139)]), .put 141 (.fa 4 (.tm 2)), .put 142 (.ld false [.int .i64] (.tm 141)), .put 143 (.fa 5 (.tm 2)), .put 144 (.ld false [.int .i64] (.tm 143)), .put 145 (.call 68 [(.tm 140), (.tm 142), (.tm 144)]), pM 8 145] [(6, 4), (8, 4)]) (.seq (.ops [.put 146 (.ld false [.ac] (.tm 3)), .put 147 (.ia 1 (.tm 146) (cI 0)), .put 148 (.ld false [.int .i64] (.tm 147)), .put 149 (.cm .eq (.tm 148) (cI 1)), pM 150 149, .gput 151 150 true (.mov (.tm 8)), .put 152 (.pick (.tm 150) (.tm 151) (.ct (.one (.bool false)))), pM 153 152, .gput 154 153 false (.ld false [.ac] (.tm 3)), .gput 155 153 false (.ia 1 (.tm 154) (cI 0)), .gput 156 153 false (.ld false [.int .i64] (.tm 155)), .gput 157 153 false (.cm .eq (.tm 156) (cI 0)), .gput 158 153 false (.mov (.tm 157)), .gput 159 158 true (.mov (.tm 8)), .gput 160 158 true (.not (.tm 159)), .gput 161 153 false (.pick (.tm 158) (.tm 160) (.ct (.one (.bool false)))), .put 162 (.pick (.tm 153) (.ct (.one (.bool true))) (.tm 161)), pM 4 162]) .ret)) t H (Z6.K Q)) (Z6.K Q)
abbrev Z6.k62 (Q : AHeap → Bool → Prop) : Ex → Env → AHeap → Prop := kSeq (fun t H => wpC Tryz.prog (.seq (.ops [.put 126 (.ld false [.ac] (.tm 3)), .put 127 (.ia 1 (.tm 126) (cI 0)), .put 128 (.ld false [.int .i64] (.tm 127)), pM 129 5, .put 130 (.cm .eq (.tm 128) (.tm 129)), pM 4 130]) .ret) t H (kBlk 0 (Z6.k3 Q))) (kBlk 0 (Z6.k3 Q))
def Z6.R65 (s : Tup [.ac, .ac, .int .i64, .ac, .int .i64, .int .i64]) (t : Env) : Prop := t 2 = (.one (s.1)) ∧ t 3 = (.one (s.2.1)) ∧ t 5 = (.one (.int .i64 (s.2.2.1))) ∧ t 113 = (.one (s.2.2.2.1)) ∧ t 114 = (.one (.int .i64 (s.2.2.2.2.1))) ∧ t 115 = (.one (.int .i64 (s.2.2.2.2.2.1))) ∧ True
def Z6.b65 (Q : AHeap → Bool → Prop) (Y65 : Tup [.ac, .ac, .int .i64, .ac, .int .i64, .int .i64] → AHeap → Prop) (x2 : AC) (x3 : AC) (x5 : Int) (x113 : AC) (x114 : Int) (x115 : Int) (H : AHeap) : Prop := CondB (decide (x115 < x114)) (IA 1 x113 x115 fun q_1 => Ld [.int .i64] H q_1 fun (v_2 : Int) => FA 5 x2 fun q_3 => Ld [.int .i64] H q_3 fun (v_4 : Int) => CondB (v_2 == v_4) (Y65 (x2, x3, ((IntKind.wrap .i64 (x5 + 1)) : Int), x113, (x114 : Int), ((IntKind.wrap .i64 (x115 + 1)) : Int), ()) H) (Y65 (x2, x3, (x5 : Int), x113, (x114 : Int), ((IntKind.wrap .i64 (x115 + 1)) : Int), ()) H)) (Ld [.ac] H x3 fun (v_5 : AC) => IA 1 v_5 0 fun q_6 => Ld [.int .i64] H q_6 fun (v_7 : Int) => Q H (v_7 == x5))
def Z6.l65 (Q : AHeap → Bool → Prop) (x2 : AC) (x3 : AC) (x5 : Int) (x113 : AC) (x114 : Int) (x115 : Int) (H : AHeap) : Prop := LoopT (Tup [.ac, .ac, .int .i64, .ac, .int .i64, .int .i64]) (fun Y s H => Z6.b65 Q Y (s.1) (s.2.1) (s.2.2.1) (s.2.2.2.1) (s.2.2.2.2.1) (s.2.2.2.2.2.1) H) (x2, x3, x5, x113, x114, x115, ()) H
def Z6.W (a0_0 : Int) (a0_1 : AC) (a0_2 : AC) (a0_3 : AC) (a0_4 : Int) (a0_5 : Int) (a0_6 : AC) (a1 : AC) (H : AHeap) (Q : AHeap → Bool → Prop) : Prop := New 44 [(.int .i64 a0_0), a0_1, a0_2, a0_3, (.int .i64 a0_4), (.int .i64 a0_5), a0_6] H fun p_1 H_2 => New 28 [a1] H_2 fun p_3 H_4 => FA 0 p_1 fun q_5 => Ld [.int .i64] H_4 q_5 fun (v_6 : Int) => CondB (v_6 == 1) (FA 2 p_1 fun q_7 => Ld [.ac] H_4 q_7 fun (v_8 : AC) => Ld [.ac] H_4 p_3 fun (v_9 : AC) => Fn.Z12 v_8 v_9 H_4 fun H_10 (v_11 : Int) => FA 4 p_1 fun q_12 => Ld [.int .i64] H_10 q_12 fun (v_13 : Int) => FA 5 p_1 fun q_14 => Ld [.int .i64] H_10 q_14 fun (v_15 : Int) => Fn.Z3 v_11 v_13 v_15 H_10 fun H_16 (v_17 : Bool) => Same2 H_10 H_4 q_12 1 ∧ Same2 H_10 H_4 q_14 1 ∧ Q H_16 v_17) (CondB (v_6 == 2) (Ld [.ac] H_4 p_3 fun (v_18 : AC) => IA 1 v_18 0 fun q_19 => Ld [.int .i64] H_4 q_19 fun (v_20 : Int) => Ld [.ac] H_4 p_3 fun (v_21 : AC) => IA 1 v_21 1 fun q_22 => Ld [.int .i64] H_4 q_22 fun (v_23 : Int) => FA 5 p_1 fun q_24 => Ld [.int .i64] H_4 q_24 fun (v_25 : Int) => Q H_4 (v_20 == (IntKind.wrap .i64 (v_23 + v_25)))) (CondB (v_6 == 3) (Ld [.ac] H_4 p_3 fun (v_26 : AC) => Fn.Z35 v_26 H_4 fun H_27 (v_28 : AC) => Fn.Z34 v_28 H_27 fun H_29 (v_30 : AC) => Fn.slices_Compact_int_int v_30 H_29 fun H_31 (v_32 : AC) => LenS v_32 fun n_33 => Ld [.ac] H_31 p_3 fun (v_34 : AC) => LenS v_34 fun n_35 => Same2 H_31 H_4 p_3 1 ∧ Same2 H_31 H_27 p_3 1 ∧ Same2 H_31 H_29 p_3 1 ∧ Q H_31 (n_33 == n_35)) (CondB (v_6 == 4) (Ld [.ac] H_4 p_3 fun (v_36 : AC) => IA 1 v_36 0 fun q_37 => Ld [.int .i64] H_4 q_37 fun (v_38 : Int) => CondB (decide (v_38 ≥ 0)) (Ld [.ac] H_4 p_3 fun (v_39 : AC) => IA 1 v_39 0 fun q_40 => Ld [.int .i64] H_4 q_40 fun (v_41 : Int) => Ld [.ac] H_4 p_3 fun (v_42 : AC) => LenS v_42 fun n_43 => CondB (decide (v_41 ≤ (IntKind.wrap .i64 (n_43 - 3)))) (Ld [.ac] H_4 p_3 fun (v_44 : AC) => Ld [.ac] H_4 p_3 fun (v_45 : AC) => IA 1 v_45 0 fun q_46 => Ld [.int .i64] H_4 q_46 fun (v_47 : Int) => IA 1 v_44 (IntKind.wrap .i64 (2 + v_47)) fun q_48 => Ld [.int .i64] H_4 q_48 fun (v_49 : Int) => Ld [.ac] H_4 p_3 fun (v_50 : AC) => IA 1 v_50 1 fun q_51 => Ld [.int .i64] H_4 q_51 fun (v_52 : Int) => Q H_4 (v_49 == v_52)) (Q H_4 false)) (Q H_4 false)) (CondB (v_6 == 5) (FA 6 p_1 fun q_53 => Ld [.ac] H_4 q_53 fun (v_54 : AC) => Fnc 71 [] [p_3] fun f_55 => Fn.Z28 v_54 f_55 H_4 fun H_56 (v_57 : Bool) => Q H_56 v_57) (CondB (v_6 == 6) (Ld [.ac] H_4 p_3 fun (v_58 : AC) => IA 1 v_58 0 fun q_59 => Ld [.int .i64] H_4 q_59 fun (v_60 : Int) => Ld [.ac] H_4 p_3 fun (v_61 : AC) => IA 1 v_61 1 fun q_62 => Ld [.int .i64] H_4 q_62 fun (v_63 : Int) => Ld [.ac] H_4 p_3 fun (v_64 : AC) => IA 1 v_64 2 fun q_65 => Ld [.int .i64] H_4 q_65 fun (v_66 : Int) => Q H_4 ((IntKind.wrap .i64 (v_60 * v_63)) == v_66)) (CondB (v_6 == 7) (FA 5 p_1 fun q_67 => Ld [.int .i64] H_4 q_67 fun (v_68 : Int) => CondB (v_68 == 0) (Ld [.ac] H_4 p_3 fun (v_69 : AC) => IA 1 v_69 0 fun q_70 => Ld [.int .i64] H_4 q_70 fun (v_71 : Int) => Ld [.ac] H_4 p_3 fun (v_72 : AC) => Slc 1 v_72 (some 1) none fun s_73 => Fn.slices_Min_int_int s_73 H_4 fun H_74 (v_75 : Int) => Same1 H_4 H_74 p_3 1 ∧ Same1 H_4 H_74 q_70 1 ∧ Q H_74 (v_71 == v_75)) (Ld [.ac] H_4 p_3 fun (v_76 : AC) => IA 1 v_76 0 fun q_77 => Ld [.int .i64] H_4 q_77 fun (v_78 : Int) => Ld [.ac] H_4 p_3 fun (v_79 : AC) => Slc 1 v_79 (some 1) none fun s_80 => Fn.slices_Max_int_int s_80 H_4 fun H_81 (v_82 : Int) => Same1 H_4 H_81 p_3 1 ∧ Same1 H_4 H_81 q_77 1 ∧ Q H_81 (v_78 == v_82))) (CondB (v_6 == 8) (Ld [.ac] H_4 p_3 fun (v_83 : AC) => Slc 1 v_83 (some 1) none fun s_84 => LenS s_84 fun n_85 => Z6.l65 Q p_1 p_3 0 s_84 n_85 0 H_4) (CondB (v_6 == 9) (Ld [.int .i64, .ac, .ac, .ac, .int .i64, .int .i64, .ac] H_4 p_1 fun (v_86 : Int) (v_87 : AC) (v_88 : AC) (v_89 : AC) (v_90 : Int) (v_91 : Int) (v_92 : AC) => Ld [.ac] H_4 p_3 fun (v_93 : AC) => Fn.Z8 v_86 v_87 v_88 v_89 v_90 v_91 v_92 v_93 H_4 fun H_94 (v_95 : Bool) => Q H_94 v_95) (FA 2 p_1 fun q_96 => Ld [.ac] H_4 q_96 fun (v_97 : AC) => Ld [.ac] H_4 p_3 fun (v_98 : AC) => Slc 1 v_98 (some 1) none fun s_99 => Fn.Z12 v_97 s_99 H_4 fun H_100 (v_101 : Int) => FA 4 p_1 fun q_102 => Ld [.int .i64] H_100 q_102 fun (v_103 : Int) => FA 5 p_1 fun q_104 => Ld [.int .i64] H_100 q_104 fun (v_105 : Int) => Fn.Z3 v_101 v_103 v_105 H_100 fun H_106 (v_107 : Bool) => Same2 H_100 H_4 q_102 1 ∧ Same2 H_100 H_4 q_104 1 ∧ Ld [.ac] H_106 p_3 fun (v_108 : AC) => IA 1 v_108 0 fun q_109 => Ld [.int .i64] H_106 q_109 fun (v_110 : Int) => CondB (v_110 == 1) (CondB v_107 (Q H_106 true) (Ld [.ac] H_106 p_3 fun (v_111 : AC) => IA 1 v_111 0 fun q_112 => Ld [.int .i64] H_106 q_112 fun (v_113 : Int) => CondB (v_113 == 0) (Q H_106 (!v_107)) (Q H_106 false))) (Ld [.ac] H_106 p_3 fun (v_114 : AC) => IA 1 v_114 0 fun q_115 => Ld [.int .i64] H_106 q_115 fun (v_116 : Int) => CondB (v_116 == 0) (Q H_106 (!v_107)) (Q H_106 false)))))))))))
theorem Z6.b65_ok (Q : AHeap → Bool → Prop) (Y65 : Tup [.ac, .ac, .int .i64, .ac, .int .i64, .int .i64] → AHeap → Prop) (X65 : Env → AHeap → Prop) (hX65 : ∀ s t H, Z6.R65 s t → Y65 s H → X65 t H) {x2 : AC} {x3 : AC} {x5 : Int} {x113 : AC} {x114 : Int} {x115 : Int} {H : AHeap} (j : Env) : Z6.b65 Q Y65 x2 x3 x5 x113 x114 x115 H → wpC Tryz.prog Z6.c66 (upd (upd (upd (upd (upd (upd j 2 (.one x2)) 3 (.one x3)) 5 (.one (.int .i64 x5))) 113 (.one x113)) 114 (.one (.int .i64 x114))) 115 (.one (.int .i64 x115))) H (kSeq X65 (kBlk 1 (Z6.k62 Q))) := cO (sP (o_lt rfl rfl (sK (c_seq (c_if rfl (c_skip (k_seq (c_seq (c_blk (cO (sP (o_ia rfl rfl (fun q_1 => sP (o_ld1 rfl (fun (v_2 : Int) => sP (o_mov rfl (sK (cO (sP (o_mov rfl (sP (o_fa rfl (fun q_3 => sP (o_ld1 rfl (fun (v_4 : Int) => sP (o_eq rfl rfl (sK (c_if rfl (c_ops (sP (o_mov rfl (sP (o_add rfl rfl (sP (o_mov rfl (s_nil (k_blk (k_seq (c_ops (sP (o_add rfl rfl (sP (o_mov rfl (sK (hX65 _ _ _ ⟨rfl, rfl, rfl, rfl, rfl, rfl, trivial⟩))))))))))))))))) (c_skip (k_blk (k_seq (c_ops (sP (o_add rfl rfl (sP (o_mov rfl (sK (hX65 _ _ _ ⟨rfl, rfl, rfl, rfl, rfl, rfl, trivial⟩))))))))))))))))))))))))))))))))) (c_exit (k_seqE (k_seqE (k_blkH (k_seq (cO (sP (o_ld1 rfl (fun (v_5 : AC) => sP (o_ia rfl rfl (fun q_6 => sP (o_ld1 rfl (fun (v_7 : Int) => sP (o_mov rfl (sP (o_eq rfl rfl (sP (o_mov rfl (sK (c_ret (k_blkR (k_seqR (k_topR (r_one rfl (r_nil (fun h => ⟨(((v_7 == x5) : Bool), ()), rfl, h⟩)))))))))))))))))))))))))))))))
theorem Z6.l65_ok (Q : AHeap → Bool → Prop) {x2 : AC} {x3 : AC} {x5 : Int} {x113 : AC} {x114 : Int} {x115 : Int} {H : AHeap} {t : Env} (h2 : t 2 = (.one x2)) (h3 : t 3 = (.one x3)) (h5 : t 5 = (.one (.int .i64 x5))) (h113 : t 113 = (.one x113)) (h114 : t 114 = (.one (.int .i64 x114))) (h115 : t 115 = (.one (.int .i64 x115))) : Z6.l65 Q x2 x3 x5 x113 x114 x115 H → wpC Tryz.prog (.loop Z6.c66) t H (kBlk 1 (Z6.k62 Q)) :=
  m_loop Z6.R65 ⟨h2, h3, h5, h113, h114, h115, trivial⟩ fun X Y hX s t H hR hB => by
    have g := Z6.b65_ok Q Y X hX t hB
    rw [upd_self hR.1] at g
    rw [upd_self hR.2.1] at g
    rw [upd_self hR.2.2.1] at g
    rw [upd_self hR.2.2.2.1] at g
    rw [upd_self hR.2.2.2.2.1] at g
    rw [upd_self hR.2.2.2.2.2.1] at g
    exact g
theorem Z6.ok {a0_0 : Int} {a0_1 : AC} {a0_2 : AC} {a0_3 : AC} {a0_4 : Int} {a0_5 : Int} {a0_6 : AC} {a1 : AC} {H : AHeap} (Q : AHeap → Bool → Prop) : Z6.W a0_0 a0_1 a0_2 a0_3 a0_4 a0_5 a0_6 a1 H Q → wpF Tryz.prog Z6.c [.tm 4] (envOf [(.agg [(.int .i64 a0_0), a0_1, a0_2, a0_3, (.int .i64 a0_4), (.int .i64 a0_5), a0_6]), (.one a1)]) H (Z6.KQ Q) := cO (sP (o_box rfl (fun p_1 H_2 => sP (o_box rfl (fun p_3 H_4 => sP (o_mov rfl (sK (c_seq (cO (sP (o_fa rfl (fun q_5 => sP (o_ld1 rfl (fun (v_6 : Int) => sK (c_blk (cO (sP (o_eq rfl rfl (sP (o_mov rfl (sK (c_if rfl (c_seq (c_held (t_cons (w_put (o_fa rfl (fun q_7 => t_cons (w_put (o_ld1 rfl (fun (v_8 : AC) => t_cons (w_put (o_ld1 rfl (fun (v_9 : AC) => t_cons (w_put (o_call rfl (cv_1 (fun H_10 (v_11 : Int) => t_cons (w_put (o_fa rfl (fun q_12 => t_cons (w_put (o_ld1 rfl (fun (v_13 : Int) => t_cons (w_put (o_fa rfl (fun q_14 => t_cons (w_put (o_ld1 rfl (fun (v_15 : Int) => t_cons (w_put (o_call rfl (cv_1 (fun H_16 (v_17 : Bool) => t_cons (w_put (o_mov rfl (t_nil (p_two rfl rfl rfl rfl rfl rfl rfl rfl (p_two rfl rfl rfl rfl rfl rfl rfl rfl (p_nil (k_seq (c_ret (k_blkR (k_seqR (k_topR (r_one rfl (r_nil (fun h => ⟨((v_17 : Bool), ()), rfl, h⟩)))))))))))))))))))))))))))))))))))))))))))))) (cO (sP (o_eq rfl rfl (sP (o_mov rfl (sK (c_if rfl (cO (sP (o_ld1 rfl (fun (v_18 : AC) => sP (o_ia rfl rfl (fun q_19 => sP (o_ld1 rfl (fun (v_20 : Int) => sP (o_ld1 rfl (fun (v_21 : AC) => sP (o_ia rfl rfl (fun q_22 => sP (o_ld1 rfl (fun (v_23 : Int) => sP (o_fa rfl (fun q_24 => sP (o_ld1 rfl (fun (v_25 : Int) => sP (o_add rfl rfl (sP (o_eq rfl rfl (sP (o_mov rfl (sK (c_ret (k_blkR (k_seqR (k_topR (r_one rfl (r_nil (fun h => ⟨(((v_20 == (IntKind.wrap .i64 (v_23 + v_25))) : Bool), ()), rfl, h⟩))))))))))))))))))))))))))))))) (cO (sP (o_eq rfl rfl (sP (o_mov rfl (sK (c_if rfl (c_seq (c_held (t_cons (w_put (o_ld1 rfl (fun (v_26 : AC) => t_cons (w_put (o_call rfl (cv_1 (fun H_27 (v_28 : AC) => t_cons (w_put (o_call rfl (cv_1 (fun H_29 (v_30 : AC) => t_cons (w_put (o_call rfl (cv_1 (fun H_31 (v_32 : AC) => t_cons (w_put (o_lens rfl (fun n_33 => t_cons (w_put (o_ld1 rfl (fun (v_34 : AC) => t_cons (w_put (o_lens rfl (fun n_35 => t_cons (w_put (o_eq rfl rfl (t_cons (w_put (o_mov rfl (t_nil (p_two rfl rfl rfl rfl rfl rfl rfl rfl (p_two rfl rfl rfl rfl rfl rfl rfl rfl (p_two rfl rfl rfl rfl rfl rfl rfl rfl (p_skip trivial (p_skip trivial (p_skip trivial (p_nil (k_seq (c_ret (k_blkR (k_seqR (k_topR (r_one rfl (r_nil (fun h => ⟨(((n_33 == n_35) : Bool), ()), rfl, h⟩)))))))))))))))))))))))))))))))))))))))))))))))) (cO (sP (o_eq rfl rfl (sP (o_mov rfl (sK (c_if rfl (cO (sP (o_ld1 rfl (fun (v_36 : AC) => sP (o_ia rfl rfl (fun q_37 => sP (o_ld1 rfl (fun (v_38 : Int) => sP (o_ge rfl rfl (sP (o_mov rfl (s_cons (w_gputT rfl (o_ld1 rfl (fun (v_39 : AC) => s_cons (w_gputY rfl (o_ia rfl rfl (fun q_40 => s_cons (w_gputY rfl (o_ld1 rfl (fun (v_41 : Int) => s_cons (w_gputY rfl (o_ld1 rfl (fun (v_42 : AC) => s_cons (w_gputY rfl (o_lens rfl (fun n_43 => s_cons (w_gputY rfl (o_sub rfl rfl (s_cons (w_gputY rfl (o_le rfl rfl (sP (o_pickT rfl rfl (sP (o_mov rfl (s_cons (w_gputT rfl (o_ld1 rfl (fun (v_44 : AC) => s_cons (w_gputY rfl (o_ld1 rfl (fun (v_45 : AC) => s_cons (w_gputY rfl (o_ia rfl rfl (fun q_46 => s_cons (w_gputY rfl (o_ld1 rfl (fun (v_47 : Int) => s_cons (w_gputY rfl (o_add rfl rfl (s_cons (w_gputY rfl (o_ia rfl rfl (fun q_48 => s_cons (w_gputY rfl (o_ld1 rfl (fun (v_49 : Int) => s_cons (w_gputY rfl (o_ld1 rfl (fun (v_50 : AC) => s_cons (w_gputY rfl (o_ia rfl rfl (fun q_51 => s_cons (w_gputY rfl (o_ld1 rfl (fun (v_52 : Int) => s_cons (w_gputY rfl (o_eq rfl rfl (sP (o_pickT rfl rfl (sP (o_mov rfl (sK (c_ret (k_blkR (k_seqR (k_topR (r_one rfl (r_nil (fun h => ⟨(((v_49 == v_52) : Bool), ()), rfl, h⟩))))))))))))))))))))))))))))))))))))))))))) (s_cons (w_gputN rfl (s_cons (w_gputN rfl (s_cons (w_gputN rfl (s_cons (w_gputN rfl (s_cons (w_gputN rfl (s_cons (w_gputN rfl (s_cons (w_gputN rfl (s_cons (w_gputN rfl (s_cons (w_gputN rfl (s_cons (w_gputN rfl (sP (o_pickF rfl rfl (sP (o_mov rfl (sK (c_ret (k_blkR (k_seqR (k_topR (r_one rfl (r_nil (fun h => ⟨((false : Bool), ()), rfl, h⟩))))))))))))))))))))))))))))))))))))))))))))))))))))))))) (s_cons (w_gputN rfl (s_cons (w_gputN rfl (s_cons (w_gputN rfl (s_cons (w_gputN rfl (s_cons (w_gputN rfl (s_cons (w_gputN rfl (sP (o_pickF rfl rfl (sP (o_mov rfl (s_cons (w_gputN rfl (s_cons (w_gputN rfl (s_cons (w_gputN rfl (s_cons (w_gputN rfl (s_cons (w_gputN rfl (s_cons (w_gputN rfl (s_cons (w_gputN rfl (s_cons (w_gputN rfl (s_cons (w_gputN rfl (s_cons (w_gputN rfl (s_cons (w_gputN rfl (sP (o_pickF rfl rfl (sP (o_mov rfl (sK (c_ret (k_blkR (k_seqR (k_topR (r_one rfl (r_nil (fun h => ⟨((false : Bool), ()), rfl, h⟩))))))))))))))))))))))))))))))))))))))))))))))))))))))))))))))) (cO (sP (o_eq rfl rfl (sP (o_mov rfl (sK (c_if rfl (cO (sP (o_fa rfl (fun q_53 => sP (o_ld1 rfl (fun (v_54 : AC) => sP (o_fn rfl rfl (fun f_55 => sP (o_call rfl (cv_1 (fun H_56 (v_57 : Bool) => sP (o_mov rfl (sK (c_ret (k_blkR (k_seqR (k_topR (r_one rfl (r_nil (fun h => ⟨((v_57 : Bool), ()), rfl, h⟩)))))))))))))))))))) (cO (sP (o_eq rfl rfl (sP (o_mov rfl (sK (c_if rfl (cO (sP (o_ld1 rfl (fun (v_58 : AC) => sP (o_ia rfl rfl (fun q_59 => sP (o_ld1 rfl (fun (v_60 : Int) => sP (o_ld1 rfl (fun (v_61 : AC) => sP (o_ia rfl rfl (fun q_62 => sP (o_ld1 rfl (fun (v_63 : Int) => sP (o_mul rfl rfl (sP (o_ld1 rfl (fun (v_64 : AC) => sP (o_ia rfl rfl (fun q_65 => sP (o_ld1 rfl (fun (v_66 : Int) => sP (o_eq rfl rfl (sP (o_mov rfl (sK (c_ret (k_blkR (k_seqR (k_topR (r_one rfl (r_nil (fun h => ⟨((((IntKind.wrap .i64 (v_60 * v_63)) == v_66) : Bool), ()), rfl, h⟩))))))))))))))))))))))))))))))))) (cO (sP (o_eq rfl rfl (sP (o_mov rfl (sK (c_if rfl (c_seq (cO (sP (o_fa rfl (fun q_67 => sP (o_ld1 rfl (fun (v_68 : Int) => sP (o_eq rfl rfl (sK (c_if rfl (c_seq (c_held (t_cons (w_put (o_ld1 rfl (fun (v_69 : AC) => t_cons (w_put (o_ia rfl rfl (fun q_70 => t_cons (w_put (o_ld1 rfl (fun (v_71 : Int) => t_cons (w_put (o_ld1 rfl (fun (v_72 : AC) => t_cons (w_put (o_slc rfl rfl rfl (fun s_73 => t_cons (w_put (o_call rfl (cv_1 (fun H_74 (v_75 : Int) => t_cons (w_put (o_eq rfl rfl (t_cons (w_put (o_mov rfl (t_nil (p_one rfl rfl rfl rfl rfl rfl rfl rfl (p_one rfl rfl rfl rfl rfl rfl rfl rfl (p_nil (k_seq (c_ret (k_seqR (k_blkR (k_seqR (k_topR (r_one rfl (r_nil (fun h => ⟨(((v_71 == v_75) : Bool), ()), rfl, h⟩)))))))))))))))))))))))))))))))))))))))) (c_skip (k_seq (c_seq (c_held (t_cons (w_put (o_ld1 rfl (fun (v_76 : AC) => t_cons (w_put (o_ia rfl rfl (fun q_77 => t_cons (w_put (o_ld1 rfl (fun (v_78 : Int) => t_cons (w_put (o_ld1 rfl (fun (v_79 : AC) => t_cons (w_put (o_slc rfl rfl rfl (fun s_80 => t_cons (w_put (o_call rfl (cv_1 (fun H_81 (v_82 : Int) => t_cons (w_put (o_eq rfl rfl (t_cons (w_put (o_mov rfl (t_nil (p_one rfl rfl rfl rfl rfl rfl rfl rfl (p_one rfl rfl rfl rfl rfl rfl rfl rfl (p_nil (k_seq (c_ret (k_blkR (k_seqR (k_topR (r_one rfl (r_nil (fun h => ⟨(((v_78 == v_82) : Bool), ()), rfl, h⟩))))))))))))))))))))))))))))))))))))))))))))))))))) (cO (sP (o_eq rfl rfl (sP (o_mov rfl (sK (c_if rfl (cO (sP (o_mov rfl (sK (c_seq (cO (sP (o_ld1 rfl (fun (v_83 : AC) => sP (o_slc rfl rfl rfl (fun s_84 => sP (o_lens rfl (fun n_85 => sP (o_mov rfl (sK (c_blk (Z6.l65_ok Q rfl rfl rfl rfl rfl rfl))))))))))))))))) (cO (sP (o_eq rfl rfl (sP (o_mov rfl (sK (c_if rfl (cO (sP (o_ld7 rfl (fun (v_86 : Int) (v_87 : AC) (v_88 : AC) (v_89 : AC) (v_90 : Int) (v_91 : Int) (v_92 : AC) => sP (o_ld1 rfl (fun (v_93 : AC) => sP (o_call rfl (cv_1 (fun H_94 (v_95 : Bool) => sP (o_mov rfl (sK (c_ret (k_blkR (k_seqR (k_topR (r_one rfl (r_nil (fun h => ⟨((v_95 : Bool), ()), rfl, h⟩)))))))))))))))))) (c_skip (k_blk (k_seq (c_seq (c_held (t_cons (w_put (o_fa rfl (fun q_96 => t_cons (w_put (o_ld1 rfl (fun (v_97 : AC) => t_cons (w_put (o_ld1 rfl (fun (v_98 : AC) => t_cons (w_put (o_slc rfl rfl rfl (fun s_99 => t_cons (w_put (o_call rfl (cv_1 (fun H_100 (v_101 : Int) => t_cons (w_put (o_fa rfl (fun q_102 => t_cons (w_put (o_ld1 rfl (fun (v_103 : Int) => t_cons (w_put (o_fa rfl (fun q_104 => t_cons (w_put (o_ld1 rfl (fun (v_105 : Int) => t_cons (w_put (o_call rfl (cv_1 (fun H_106 (v_107 : Bool) => t_cons (w_put (o_mov rfl (t_nil (p_two rfl rfl rfl rfl rfl rfl rfl rfl (p_two rfl rfl rfl rfl rfl rfl rfl rfl (p_nil (k_seq (cO (sP (o_ld1 rfl (fun (v_108 : AC) => sP (o_ia rfl rfl (fun q_109 => sP (o_ld1 rfl (fun (v_110 : Int) => sP (o_eq rfl rfl (sP (o_mov rfl (s_cons (w_gputT rfl (o_mov rfl (sP (o_pickT rfl rfl (sP (o_mov rfl (s_cons (w_gputF rfl (s_cons (w_gputN rfl (s_cons (w_gputN rfl (s_cons (w_gputN rfl (s_cons (w_gputN rfl (s_cons (w_gputJ rfl (s_cons (w_gputJ rfl (s_cons (w_gputN rfl (sP (o_pickT rfl rfl (sP (o_mov rfl (sK (c_ret (k_topR (r_one rfl (r_nil (fun h => ⟨((true : Bool), ()), rfl, h⟩)))))))))))))))))))))))) (o_ld1 rfl (fun (v_111 : AC) => s_cons (w_gputY rfl (o_ia rfl rfl (fun q_112 => s_cons (w_gputY rfl (o_ld1 rfl (fun (v_113 : Int) => s_cons (w_gputY rfl (o_eq rfl rfl (s_cons (w_gputY rfl (o_mov rfl (s_cons (w_gputT rfl (o_mov rfl (s_cons (w_gputY rfl (o_not rfl (s_cons (w_gputY rfl (o_pickT rfl rfl (sP (o_pickF rfl rfl (sP (o_mov rfl (sK (c_ret (k_topR (r_one rfl (r_nil (fun h => ⟨(((!v_107) : Bool), ()), rfl, h⟩))))))))))))))))) (s_cons (w_gputN rfl (s_cons (w_gputY rfl (o_pickF rfl rfl (sP (o_pickF rfl rfl (sP (o_mov rfl (sK (c_ret (k_topR (r_one rfl (r_nil (fun h => ⟨((false : Bool), ()), rfl, h⟩))))))))))))))))))))))))))))))))))))) (sP (o_pickF rfl rfl (sP (o_mov rfl (s_cons (w_gputY rfl (o_ld1 rfl (fun (v_114 : AC) => s_cons (w_gputY rfl (o_ia rfl rfl (fun q_115 => s_cons (w_gputY rfl (o_ld1 rfl (fun (v_116 : Int) => s_cons (w_gputY rfl (o_eq rfl rfl (s_cons (w_gputY rfl (o_mov rfl (s_cons (w_gputT rfl (o_mov rfl (s_cons (w_gputY rfl (o_not rfl (s_cons (w_gputY rfl (o_pickT rfl rfl (sP (o_pickF rfl rfl (sP (o_mov rfl (sK (c_ret (k_topR (r_one rfl (r_nil (fun h => ⟨(((!v_107) : Bool), ()), rfl, h⟩))))))))))))))))) (s_cons (w_gputN rfl (s_cons (w_gputY rfl (o_pickF rfl rfl (sP (o_pickF rfl rfl (sP (o_mov rfl (sK (c_ret (k_topR (r_one rfl (r_nil (fun h => ⟨((false : Bool), ()), rfl, h⟩))))))))))))))))))))))))))))))))))))))))))))))))))))))))))))))))))))))))))))))))))))))))))))))))))))))))))))))))))))))))))))))))))))))))))))))))))))))))))))))))))))))))))))
theorem Z6.run {a0_0 : Int} {a0_1 : AC} {a0_2 : AC} {a0_3 : AC} {a0_4 : Int} {a0_5 : Int} {a0_6 : AC} {a1 : AC} {H : AHeap} {Q : AHeap → Bool → Prop} (h : Z6.W a0_0 a0_1 a0_2 a0_3 a0_4 a0_5 a0_6 a1 H Q) : Fn.Z6 a0_0 a0_1 a0_2 a0_3 a0_4 a0_5 a0_6 a1 H Q := by
  unfold Fn.Z6 RunT
  exact runK aggs_ok [(3, [(5, 3), (7, 3)]), (5, []), (7, [(5, 1), (5, 2), (5, 3), (6, 1), (6, 2), (6, 3)]), (9, []), (13, []), (16, [(0, 5), (2, 5)]), (17, [(0, 5), (2, 5)]), (29, [(6, 4), (8, 4)])] Tryz.func42 rfl (by kernel_rfl) (by kernel_rfl) (by kernel_rfl) (by kernel_rfl) (by kernel_rfl) (Z6.ok Q h)
def Z25.c : RC := (.seq (.ops [.put 6 (.mov (.ct (.one (.bool false))))]) (.seq (.ops [pM 7 0, pM 8 1, .put 9 (.cm .ge (.tm 7) (.tm 8)), pM 10 9, .gput 11 10 true (.mov (.tm 0)), .gput 12 10 true (.mov (.tm 2)), .gput 13 10 true (.cm .le (.tm 11) (.tm 12)), .put 14 (.pick (.tm 10) (.tm 13) (.ct (.one (.bool false)))), pM 6 14]) .ret))
abbrev Z25.KQ (Q : AHeap → Bool → Prop) : AV → AHeap → Prop := KQT [(false, [.bool])] Q
abbrev Z25.K (Q : AHeap → Bool → Prop) : Ex → Env → AHeap → Prop := kTop [.tm 6] (Z25.KQ Q)
def Z25.W (a0 : Int) (a1 : Int) (a2 : Int) (H : AHeap) (Q : AHeap → Bool → Prop) : Prop := CondB (decide (a0 ≥ a1)) (Q H (decide (a0 ≤ a2))) (Q H false)
theorem Z25.ok {a0 : Int} {a1 : Int} {a2 : Int} {H : AHeap} (Q : AHeap → Bool → Prop) : Z25.W a0 a1 a2 H Q → wpF Tryz.prog Z25.c [.tm 6] (envOf [(.one (.int .i64 a0)), (.one (.int .i64 a1)), (.one (.int .i64 a2))]) H (Z25.KQ Q) := cO (sP (o_mov rfl (sK (cO (sP (o_mov rfl (sP (o_mov rfl (sP (o_ge rfl rfl (sP (o_mov rfl (s_cons (w_gputT rfl (o_mov rfl (s_cons (w_gputY rfl (o_mov rfl (s_cons (w_gputY rfl (o_le rfl rfl (sP (o_pickT rfl rfl (sP (o_mov rfl (sK (c_ret (k_topR (r_one rfl (r_nil (fun h => ⟨(((decide (a0 ≤ a2)) : Bool), ()), rfl, h⟩))))))))))))))))) (s_cons (w_gputN rfl (s_cons (w_gputN rfl (sP (o_pickF rfl rfl (sP (o_mov rfl (sK (c_ret (k_topR (r_one rfl (r_nil (fun h => ⟨((false : Bool), ()), rfl, h⟩))))))))))))))))))))))))))))
theorem Z25.run {a0 : Int} {a1 : Int} {a2 : Int} {H : AHeap} {Q : AHeap → Bool → Prop} (h : Z25.W a0 a1 a2 H Q) : Fn.Z25 a0 a1 a2 H Q := by
  unfold Fn.Z25 RunT
  exact runK aggs_ok [] Tryz.func43 rfl (by kernel_rfl) (by kernel_rfl) (by kernel_rfl) (by kernel_rfl) (by kernel_rfl) (Z25.ok Q h)
end Go.Proofs.YtkpjcnlljdccjaaGreat
end
section

end
section
namespace Go.Proofs.YtkpjcnlljdccjaaGreat
open Go.AI
def Bef (l : List Sp) (i : Nat) (prev : Option Int) : Prop := dScan none l = dScan prev (l.drop i) ∧ (i = 0 ∧ prev = none ∨ ∃ p, 0 < i ∧ l[i - 1]? = some p ∧ prev = some p.2 ∧ -16384 ≤ p.2 ∧ p.2 ≤ 16384)
theorem Bef.here {l : List Sp} {i : Nat} {prev : Option Int} (h : Bef l i prev) {p : Sp} (hp : l[i]? = some p) : dScan none l = if p.1 < -16384 ∨ 16384 < p.2 ∨ p.2 < p.1 then 1 else if prev.any (fun h => decide (p.1 ≤ h + 1)) then 2 else dScan (some p.2) (l.drop (i + 1)) := by
  rw [h.1, List.drop_eq_getElem_cons (List.getElem?_eq_some_iff.1 hp).1]
  rw [List.getElem?_eq_getElem (List.getElem?_eq_some_iff.1 hp).1, Option.some.injEq] at hp
  rw [hp]
  rfl
theorem Bef.next {l : List Sp} {i : Nat} {prev : Option Int} (h : Bef l i prev) {p : Sp} (hp : l[i]? = some p) (h1 : ¬ (p.1 < -16384 ∨ 16384 < p.2 ∨ p.2 < p.1)) (h2 : ¬ prev.any (fun h => decide (p.1 ≤ h + 1)) = true) : Bef l (i + 1) (some p.2) := by
  refine ⟨?_, .inr ⟨p, by omega, by simpa using hp, rfl, by omega, by omega⟩⟩
  rw [h.here hp, if_neg h1, if_neg h2]
theorem labelled_c {H : AHeap} : Fn.fetterlocklaw5_labelled H fun H' q => q = true ∧ Kp H H' := by
  unfold Fn.fetterlocklaw5_labelled
  exact runT_told (v := .one (.bool true)) (H' := H) rfl rfl (true, ()) rfl ⟨rfl, Kp.refl _⟩
end Go.Proofs.YtkpjcnlljdccjaaGreat
end
section
namespace Go.AI
inductive Fm where
  | mk (op var : Int) (kids : List Fm)
namespace Fm
def op : Fm → Int | mk o _ _ => o
def var : Fm → Int | mk _ v _ => v
def kids : Fm → List Fm | mk _ _ k => k
mutual
def size : Fm → Nat
  | mk _ _ ks => sizes ks + 1
def sizes : List Fm → Nat
  | [] => 0
  | k :: ks => size k + sizes ks
end
end Fm
inductive FmAt (H : AHeap) : Int → Int → AC → Fm → Prop
  | mk {op var : Int} {s : AC} {kids : List Fm} (rows : List (Int × Int × AC)) (hl : rows.length = kids.length) (hs : SlR H s 3 (rows.map fun r : Int × Int × AC => [.int .i64 r.1, .int .i64 r.2.1, r.2.2]))
    (hk : ∀ (i : Nat) (r : Int × Int × AC) (k : Fm), rows[i]? = some r → kids[i]? = some k → FmAt H r.1 r.2.1 r.2.2 k) : FmAt H op var s (.mk op var kids)
theorem FmAt.kp {H H' : AHeap} (k : Kp H H') {op var : Int} {s : AC} {f : Fm} (h : FmAt H op var s f) : FmAt H' op var s f := by
  induction h with
  | mk rows hl hs _ ih => exact .mk rows hl (hs.kp k) ih
end Go.AI
end
section
namespace Go.AI
inductive DT where
  | leaf (b : Bool)
  | nd (v : Nat) (l h : DT)
  deriving DecidableEq
namespace DT
def top : DT → Nat
  | leaf _ => 16
  | nd v _ _ => v
def RO : DT → Prop
  | leaf _ => True
  | nd v l h => v < 16 ∧ l ≠ h ∧ v < l.top ∧ v < h.top ∧ l.RO ∧ h.RO
def eval (ρ : Nat → Bool) : DT → Bool
  | leaf b => b
  | nd v l h => if ρ v then h.eval ρ else l.eval ρ
def set (ρ : Nat → Bool) (v : Nat) (x : Bool) : Nat → Bool := fun n => if n = v then x else ρ n
def sz : DT → Nat
  | leaf _ => 0
  | nd _ l h => l.sz + h.sz + 1
def mk (v : Nat) (l h : DT) : DT := if l = h then l else nd v l h
theorem mk_RO {v : Nat} {l h : DT} (hv : v < 16) (h1 : v < l.top) (h2 : v < h.top) (hl : l.RO) (hh : h.RO) : (mk v l h).RO := by
  unfold mk
  split
  · exact hl
  · next hn => exact ⟨hv, hn, h1, h2, hl, hh⟩
theorem mk_top {v : Nat} {l h : DT} (h1 : v < l.top) : v ≤ (mk v l h).top := by
  unfold mk
  split
  · omega
  · simp [top]
def lo (a : DT) (v : Nat) : DT := match a with
  | nd w l _ => if w = v then l else a
  | _ => a
def hi (a : DT) (v : Nat) : DT := match a with
  | nd w _ h => if w = v then h else a
  | _ => a
def ref (st : List DT) : DT → Int
  | leaf false => -1
  | leaf true => -2
  | x => (st.idxOf x : Nat)
def In (st : List DT) (x : DT) : Prop := (∃ b, x = leaf b) ∨ x ∈ st
theorem In.mono {st st' : List DT} {x : DT} (h : In st x) (hp : st <+: st') : In st' x := h.imp id fun hx => hp.subset hx
theorem ref_ge (st : List DT) (v : Nat) (l h : DT) : ref st (nd v l h) = (st.idxOf (nd v l h) : Nat) := rfl
theorem ref_mono {st st' : List DT} {x : DT} (h : In st x) (hp : st <+: st') : ref st' x = ref st x := by
  cases x with
  | leaf b => cases b <;> rfl
  | nd v l h' =>
    rcases h with ⟨b, hb⟩ | hx
    · cases hb
    · obtain ⟨r, rfl⟩ := hp
      rw [ref_ge, ref_ge, List.idxOf_append, if_pos hx]
theorem ref_inj {st : List DT} {x y : DT} (hx : In st x) (hy : In st y) (h : ref st x = ref st y) : x = y := by
  cases x with
  | leaf b => cases y with
    | leaf c => cases b <;> cases c <;> first | rfl | (exfalso; simp [ref] at h)
    | nd v l h' => rw [ref_ge] at h; cases b <;> simp only [ref] at h <;> omega
  | nd v l h' => cases y with
    | leaf c => rw [ref_ge] at h; cases c <;> simp only [ref] at h <;> omega
    | nd w l2 h2 =>
      rcases hx with ⟨b, hb⟩ | hx
      · cases hb
      rcases hy with ⟨b, hb⟩ | hy
      · cases hb
      rw [ref_ge, ref_ge] at h
      have h' : st.idxOf (nd v l h') = st.idxOf (nd w l2 h2) := by omega
      have e1 := List.getElem_idxOf (List.idxOf_lt_length_of_mem hx)
      have e2 := List.getElem_idxOf (List.idxOf_lt_length_of_mem hy)
      rw [← e1, ← e2]
      simp only [h']
theorem ref_lt {st : List DT} {x : DT} (hx : In st x) : -2 ≤ ref st x ∧ ref st x < st.length := by
  cases x with
  | leaf b => cases b <;> simp only [ref] <;> omega
  | nd v l h =>
    rcases hx with ⟨b, hb⟩ | hx
    · cases hb
    · rw [ref_ge]; have := List.idxOf_lt_length_of_mem hx; omega
theorem ref_true {st : List DT} {x : DT} : ref st x = -2 ↔ x = leaf true := by
  cases x with
  | leaf b => cases b <;> simp [ref]
  | nd v l h => rw [ref_ge]; simp
theorem ref_false {st : List DT} {x : DT} : ref st x = -1 ↔ x = leaf false := by
  cases x with
  | leaf b => cases b <;> simp [ref]
  | nd v l h => rw [ref_ge]; simp
theorem ref_get {st : List DT} {x : DT} (hx : In st x) (h0 : 0 ≤ ref st x) : st[(ref st x).toNat]? = some x := by
  cases x with
  | leaf b => cases b <;> simp [ref] at h0
  | nd v l h =>
    rcases hx with ⟨b, hb⟩ | hx
    · cases hb
    · rw [ref_ge, Int.toNat_natCast, List.getElem?_eq_getElem (List.idxOf_lt_length_of_mem hx), List.getElem_idxOf]
theorem ref_new {st : List DT} {v : Nat} {l h : DT} (hn : nd v l h ∉ st) : ref (st ++ [nd v l h]) (nd v l h) = (st.length : Nat) := by
  rw [ref_ge, List.idxOf_append, if_neg hn]; simp
def row (st : List DT) : DT → Int × Int × Int
  | nd v l h => (v, ref st l, ref st h)
  | leaf _ => (0, 0, 0)
structure Fin (st : List DT) : Prop where
  nodup : st.Nodup
  parts : ∀ x ∈ st, ∃ v l h, x = nd v l h ∧ In st l ∧ In st h ∧ x.RO
theorem Fin.nil : Fin [] := ⟨List.nodup_nil, fun _ h => by cases h⟩
theorem Fin.snoc {st : List DT} {v : Nat} {l h : DT} (f : Fin st) (hn : nd v l h ∉ st) (hl : In st l) (hh : In st h) (hr : (nd v l h).RO) : Fin (st ++ [nd v l h]) := by
  refine ⟨?_, ?_⟩
  · rw [List.nodup_append]
    exact ⟨f.nodup, by simp, fun a ha b hb => by simp at hb; subst hb; rintro rfl; exact hn ha⟩
  · intro x hx
    have hp : st <+: st ++ [nd v l h] := List.prefix_append _ _
    rcases List.mem_append.1 hx with hx | hx
    · obtain ⟨w, a, b, e, h1, h2, h3⟩ := f.parts x hx
      exact ⟨w, a, b, e, h1.mono hp, h2.mono hp, h3⟩
    · simp at hx; subst hx; exact ⟨v, l, h, rfl, hl.mono hp, hh.mono hp, hr⟩
def ser : DT → List DT → List DT
  | leaf _, st => st
  | nd v l h, st => if nd v l h ∈ st then st else ser h (ser l st) ++ [nd v l h]
theorem ser_prefix : ∀ (x : DT) (st : List DT), st <+: ser x st
  | leaf _, st => List.prefix_rfl
  | nd v l h, st => by
    simp only [ser]
    split
    · exact List.prefix_rfl
    · exact ((ser_prefix l st).trans (ser_prefix h _)).trans (List.prefix_append _ _)
theorem ser_in : ∀ (x : DT) (st : List DT), In (ser x st) x
  | leaf b, st => .inl ⟨b, rfl⟩
  | nd v l h, st => by
    simp only [ser]
    split
    · next hx => exact .inr hx
    · exact .inr (by simp)
theorem ser_sz : ∀ (x : DT) (st : List DT) (y : DT), y ∈ ser x st → y ∈ st ∨ y.sz ≤ x.sz
  | leaf _, st, y, h => .inl h
  | nd v l h, st, y, hy => by
    simp only [ser] at hy
    split at hy
    · exact .inl hy
    · rcases List.mem_append.1 hy with hy | hy
      · rcases ser_sz h _ y hy with hy | hy
        · rcases ser_sz l _ y hy with hy | hy
          · exact .inl hy
          · exact .inr (by simp only [sz]; omega)
        · exact .inr (by simp only [sz]; omega)
      · simp at hy; subst hy; exact .inr (Nat.le_refl _)
theorem ser_new {v : Nat} {l h : DT} {st : List DT} (hn : nd v l h ∉ st) : nd v l h ∉ ser h (ser l st) := by
  intro hx
  rcases ser_sz h _ _ hx with hx | hx
  · rcases ser_sz l _ _ hx with hx | hx
    · exact hn hx
    · simp only [sz] at hx; omega
  · simp only [sz] at hx; omega
end DT
end Go.AI
end
section
namespace Go.AI
open DT
def rowL (ts : List DT) (x : DT) : List Int := [(row ts x).1, (row ts x).2.1, (row ts x).2.2]
def nodeCells (p : Int × Int × Int) : List AC := [.int .i64 p.1, .int .i64 p.2.1, .int .i64 p.2.2]
structure IdxOk (ts : List DT) (es : List (List Int × Int)) : Prop where
  all : ∀ x ∈ ts, findI (rowL ts x) es = some (ref ts x)
  only : ∀ k n, findI k es = some n → ∃ x ∈ ts, k = rowL ts x
structure DoneOk (ts : List DT) (es : List (List Int × Int)) : Prop where
  ok : ∀ k n, findI k es = some n → ∃ a b c r, In ts a ∧ In ts b ∧ In ts c ∧ In ts r ∧ k = [ref ts a, ref ts b, ref ts c] ∧ n = ref ts r ∧
    (∀ ρ, r.eval ρ = if a.eval ρ then b.eval ρ else c.eval ρ) ∧ ∀ v, v ≤ a.top → v ≤ b.top → v ≤ c.top → v ≤ r.top
structure MgrX (H : AHeap) (m : AC) (F : Nat → Prop) (ts : List DT) (mb ib db : Nat) (Fs : Nat → Prop) (slc : AC) (idx done : List (List Int × Int)) : Prop where
  m_eq : m = .ptr (some (mb, 0))
  own : Own H mb [slc, .map (some ib), .map (some db)]
  sl : OwnS H slc 3 Fs (ts.map fun x => nodeCells (row ts x))
  im : MapI H ib (some 3) idx
  dm : MapI H db (some 3) done
  ne1 : mb ≠ ib
  ne2 : mb ≠ db
  ne3 : ib ≠ db
  d1 : ¬ Fs mb
  d2 : ¬ Fs ib
  d3 : ¬ Fs db
  fin : Fin ts
  iok : IdxOk ts idx
  dok : DoneOk ts done
  fF : ∀ x, F x ↔ x = mb ∨ x = ib ∨ x = db ∨ Fs x
def Mgr (H : AHeap) (m : AC) (F : Nat → Prop) (ts : List DT) : Prop := ∃ mb ib db Fs slc idx done, MgrX H m F ts mb ib db Fs slc idx done
theorem MgrX.keep {S : Nat → Prop} {H H' : AHeap} {m : AC} {F : Nat → Prop} {ts : List DT} {mb ib db : Nat} {Fs : Nat → Prop} {slc : AC} {idx done : List (List Int × Int)} (h : MgrX H m F ts mb ib db Fs slc idx done) (k : Keep S H H') (hd : ∀ x, S x → ¬ F x) :
    MgrX H' m F ts mb ib db Fs slc idx done :=
  ⟨h.m_eq, h.own.keep k (fun hx => hd _ hx ((h.fF _).2 (.inl rfl))), h.sl.keep k (fun x hx hf => hd x hx ((h.fF _).2 (.inr (.inr (.inr hf))))),
   h.im.keep k (fun hx => hd _ hx ((h.fF _).2 (.inr (.inl rfl)))), h.dm.keep k (fun hx => hd _ hx ((h.fF _).2 (.inr (.inr (.inl rfl))))),
   h.ne1, h.ne2, h.ne3, h.d1, h.d2, h.d3, h.fin, h.iok, h.dok, h.fF⟩
theorem Mgr.keep {S : Nat → Prop} {H H' : AHeap} {m : AC} {F : Nat → Prop} {ts : List DT} (h : Mgr H m F ts) (k : Keep S H H') (hd : ∀ x, S x → ¬ F x) : Mgr H' m F ts := by
  obtain ⟨mb, ib, db, Fs, slc, idx, done, h⟩ := h
  exact ⟨mb, ib, db, Fs, slc, idx, done, h.keep k hd⟩
theorem Mgr.kp {H H' : AHeap} {m : AC} {F : Nat → Prop} {ts : List DT} (h : Mgr H m F ts) (k : Kp H H') : Mgr H' m F ts := h.keep k fun _ hx => hx.elim
theorem MgrX.lt {H : AHeap} {m : AC} {F : Nat → Prop} {ts : List DT} {mb ib db : Nat} {Fs : Nat → Prop} {slc : AC} {idx done : List (List Int × Int)} (h : MgrX H m F ts mb ib db Fs slc idx done) : ∀ x, F x → x < H.size := by
  intro x hx
  rcases (h.fF x).1 hx with rfl | rfl | rfl | hx
  · exact h.own.lt
  · exact h.im.lt
  · exact h.dm.lt
  · exact h.sl.lt x hx
theorem Mgr.lt {H : AHeap} {m : AC} {F : Nat → Prop} {ts : List DT} (h : Mgr H m F ts) : ∀ x, F x → x < H.size := by
  obtain ⟨mb, ib, db, Fs, slc, idx, done, h⟩ := h
  exact h.lt
theorem Mgr.fin {H : AHeap} {m : AC} {F : Nat → Prop} {ts : List DT} (h : Mgr H m F ts) : Fin ts := by
  obtain ⟨mb, ib, db, Fs, slc, idx, done, h⟩ := h
  exact h.fin
theorem DT.Fin.ro {ts : List DT} (f : Fin ts) {x : DT} (h : In ts x) : x.RO := by
  rcases h with ⟨b, rfl⟩ | h
  · trivial
  · obtain ⟨_, _, _, rfl, _, _, hr⟩ := f.parts x h; exact hr
theorem In.leaf (ts : List DT) (b : Bool) : In ts (leaf b) := .inl ⟨b, rfl⟩
theorem IdxOk.snoc {ts : List DT} {es : List (List Int × Int)} (f : Fin ts) (h : IdxOk ts es) {v : Nat} {l r : DT} (hn : nd v l r ∉ ts) (hl : In ts l) (hr : In ts r) (hro : (nd v l r).RO) :
    IdxOk (ts ++ [nd v l r]) (setI [(v : Int), ref ts l, ref ts r] (ts.length : Nat) es) := by
  have hp : ts <+: ts ++ [nd v l r] := List.prefix_append _ _
  have hrow : ∀ x ∈ ts, rowL (ts ++ [nd v l r]) x = rowL ts x := by
    intro x hx
    obtain ⟨w, a, b, rfl, h1, h2, _⟩ := f.parts x hx
    simp only [rowL, row, ref_mono h1 hp, ref_mono h2 hp]
  have hnew : rowL (ts ++ [nd v l r]) (nd v l r) = [(v : Int), ref ts l, ref ts r] := by simp only [rowL, row, ref_mono hl hp, ref_mono hr hp]
  have hdif : ∀ x ∈ ts, rowL ts x ≠ [(v : Int), ref ts l, ref ts r] := by
    intro x hx e
    obtain ⟨w, a, b, rfl, h1, h2, _⟩ := f.parts x hx
    simp only [rowL, row, List.cons.injEq, and_true] at e
    obtain ⟨e1, e2, e3⟩ := e
    have := ref_inj h1 hl e2
    have := ref_inj h2 hr e3
    have : w = v := by omega
    subst_vars
    exact hn hx
  refine ⟨?_, ?_⟩
  · intro x hx
    rw [findI_set]
    rcases List.mem_append.1 hx with hx | hx
    · rw [hrow x hx, if_neg (fun e => hdif x hx e.symm), h.all x hx, ref_mono (.inr hx) hp]
    · simp at hx; subst hx
      rw [hnew, if_pos rfl, ref_new hn]
  · intro k n hk
    rw [findI_set] at hk
    split at hk
    · next e => exact ⟨nd v l r, by simp, by rw [hnew, e]⟩
    · obtain ⟨x, hx, e⟩ := h.only k n hk
      exact ⟨x, List.mem_append_left _ hx, by rw [hrow x hx, e]⟩
theorem DoneOk.mono {ts ts' : List DT} {es : List (List Int × Int)} (h : DoneOk ts es) (hp : ts <+: ts') : DoneOk ts' es := by
  refine ⟨fun k n hk => ?_⟩
  obtain ⟨a, b, c, r, h1, h2, h3, h4, h5, h6, h7⟩ := h.ok k n hk
  exact ⟨a, b, c, r, h1.mono hp, h2.mono hp, h3.mono hp, h4.mono hp, by rw [h5, ref_mono h1 hp, ref_mono h2 hp, ref_mono h3 hp], by rw [h6, ref_mono h4 hp], h7⟩
theorem DoneOk.set {ts : List DT} {es : List (List Int × Int)} (h : DoneOk ts es) {a b c r : DT} (h1 : In ts a) (h2 : In ts b) (h3 : In ts c) (h4 : In ts r) (he : ∀ ρ, r.eval ρ = if a.eval ρ then b.eval ρ else c.eval ρ)
    (ht : ∀ v, v ≤ a.top → v ≤ b.top → v ≤ c.top → v ≤ r.top) : DoneOk ts (setI [ref ts a, ref ts b, ref ts c] (ref ts r) es) := by
  refine ⟨fun k n hk => ?_⟩
  rw [findI_set] at hk
  split at hk
  · next e => simp only [Option.some.injEq] at hk; exact ⟨a, b, c, r, h1, h2, h3, h4, e.symm, hk.symm, he, ht⟩
  · exact h.ok k n hk
end Go.AI
end
section
namespace Go.AI
open DT
abbrev NRow := Int × Int × Int
def atR (ts : List DT) (r : Int) : DT := if r = -1 then leaf false else if r = -2 then leaf true else ts[r.toNat]?.getD (leaf false)
def bldStep (ts : List DT) (p : NRow) : List DT := ts ++ [DT.mk p.1.toNat (atR ts p.2.1) (atR ts p.2.2)]
def bld (l : List NRow) : List DT := l.foldl bldStep []
theorem bld_snoc (l : List NRow) (p : NRow) : bld (l ++ [p]) = bldStep (bld l) p := by simp [bld]
theorem bld_len' : ∀ (l : List NRow) (ts : List DT), (l.foldl bldStep ts).length = ts.length + l.length
  | [], ts => by simp
  | p :: l, ts => by rw [List.foldl_cons, bld_len' l, bldStep]; simp; omega
theorem bld_len (l : List NRow) : (bld l).length = l.length := by rw [bld, bld_len']; simp
theorem bld_pre' : ∀ (l : List NRow) (ts : List DT), ts <+: l.foldl bldStep ts
  | [], ts => List.prefix_rfl
  | p :: l, ts => by rw [List.foldl_cons]; exact (List.prefix_append _ _).trans (bld_pre' l _)
theorem bld_take_pre (l : List NRow) (i : Nat) : bld (l.take i) <+: bld l := by
  have e : bld l = (l.drop i).foldl bldStep (bld (l.take i)) := by
    unfold bld
    rw [← List.foldl_append, List.take_append_drop]
  rw [e]
  exact bld_pre' _ _
theorem bld_take_succ {l : List NRow} {i : Nat} {p : NRow} (h : l[i]? = some p) : bld (l.take (i + 1)) = bldStep (bld (l.take i)) p := by
  rw [List.take_add_one, h]
  exact bld_snoc _ _
theorem atR_mono {ts ts' : List DT} (hp : ts <+: ts') {r : Int} (h0 : -2 ≤ r) (h : r < ts.length) : atR ts' r = atR ts r := by
  unfold atR
  split
  · rfl
  split
  · rfl
  obtain ⟨s, rfl⟩ := hp
  rw [List.getElem?_append_left (by omega)]
theorem atR_ref {st : List DT} {x : DT} (h : In st x) : atR st (ref st x) = x := by
  unfold atR
  split
  · next e => exact (ref_false.1 e).symm
  split
  · next e => exact (ref_true.1 e).symm
  · next h1 h2 =>
    have := (ref_lt h).1
    rw [ref_get h (by omega)]; rfl
def NumOk (i : Nat) (p : NRow) : Prop := 0 ≤ p.1 ∧ p.1 < 16 ∧ -2 ≤ p.2.1 ∧ p.2.1 < i ∧ -2 ≤ p.2.2 ∧ p.2.2 < i
def OrdOk (l : List NRow) (p : NRow) : Prop := (∀ q, 0 ≤ p.2.1 → l[p.2.1.toNat]? = some q → p.1 < q.1) ∧ ∀ q, 0 ≤ p.2.2 → l[p.2.2.toNat]? = some q → p.1 < q.1
def RowsOk (l : List NRow) : Prop := ∀ (i : Nat) (p : NRow), l[i]? = some p → NumOk i p ∧ OrdOk l p
theorem bld_at {l : List NRow} {i : Nat} {p : NRow} (hp : l[i]? = some p) (hn : NumOk i p) : (bld l)[i]? = some (DT.mk p.1.toNat (atR (bld l) p.2.1) (atR (bld l) p.2.2)) := by
  have hlt := (List.getElem?_eq_some_iff.1 hp).1
  have hlen : (bld (l.take i)).length = i := by rw [bld_len, List.length_take]; omega
  have e := bld_take_succ hp
  have hpre := bld_take_pre l (i + 1)
  rw [e] at hpre
  obtain ⟨s, hs⟩ := hpre
  have hpre0 := bld_take_pre l i
  unfold NumOk at hn
  rw [atR_mono hpre0 hn.2.2.1 (by rw [hlen]; omega), atR_mono hpre0 hn.2.2.2.2.1 (by rw [hlen]; omega), ← hs]
  unfold bldStep
  rw [List.getElem?_append_left (by simp; omega), List.getElem?_append_right (by omega), hlen]
  simp
theorem bld_ro {l : List NRow} (h : RowsOk l) : ∀ (n i : Nat) (p : NRow), i < n → l[i]? = some p → ∃ x, (bld l)[i]? = some x ∧ x.RO ∧ p.1.toNat ≤ x.top := by
  intro n
  induction n with
  | zero => intro i p hi; omega
  | succ n ih =>
    intro i p hi hp
    obtain ⟨hn, ho1, ho2⟩ := h i p hp
    have hlt := (List.getElem?_eq_some_iff.1 hp).1
    refine ⟨_, bld_at hp hn, ?_⟩
    have part : ∀ r : Int, -2 ≤ r → r < i → (∀ q, 0 ≤ r → l[r.toNat]? = some q → p.1 < q.1) → (atR (bld l) r).RO ∧ p.1.toNat < (atR (bld l) r).top := by
      intro r h1 h2 h3
      unfold NumOk at hn
      unfold atR
      split
      · exact ⟨trivial, by simp only [top]; omega⟩
      split
      · exact ⟨trivial, by simp only [top]; omega⟩
      · have hr : r.toNat < l.length := by omega
        obtain ⟨x, e1, e2, e3⟩ := ih r.toNat l[r.toNat] (by omega) (List.getElem?_eq_getElem hr)
        rw [e1]
        have := h3 l[r.toNat] (by omega) (List.getElem?_eq_getElem hr)
        have hq := (h _ _ (List.getElem?_eq_getElem hr)).1
        unfold NumOk at hq
        exact ⟨e2, by simp only [Option.getD_some]; omega⟩
    have hn' := hn
    unfold NumOk at hn'
    obtain ⟨a1, a2⟩ := part p.2.1 hn'.2.2.1 hn'.2.2.2.1 ho1
    obtain ⟨b1, b2⟩ := part p.2.2 hn'.2.2.2.2.1 hn'.2.2.2.2.2 ho2
    exact ⟨mk_RO (by omega) a2 b2 a1 b1, mk_top a2⟩
theorem atR_ro {l : List NRow} (h : RowsOk l) {r : Int} : (atR (bld l) r).RO := by
  unfold atR
  split
  · trivial
  split
  · trivial
  · cases e : (bld l)[r.toNat]? with
    | none => trivial
    | some x =>
      have hlt := (List.getElem?_eq_some_iff.1 e).1
      rw [bld_len] at hlt
      obtain ⟨y, e1, e2, _⟩ := bld_ro h _ r.toNat l[r.toNat] (Nat.lt_succ_self _) (List.getElem?_eq_getElem hlt)
      rw [e1] at e
      cases e
      exact e2
def Seq (st : List DT) : Prop := Fin st ∧ ∀ (i v : Nat) (l h : DT), st[i]? = some (nd v l h) → In (st.take i) l ∧ In (st.take i) h
theorem Seq.nil : Seq [] := ⟨Fin.nil, fun i v l h e => by simp at e⟩
theorem Seq.snoc {st : List DT} {v : Nat} {l h : DT} (f : Seq st) (hn : nd v l h ∉ st) (hl : In st l) (hh : In st h) (hr : (nd v l h).RO) : Seq (st ++ [nd v l h]) := by
  refine ⟨f.1.snoc hn hl hh hr, fun i w a b e => ?_⟩
  by_cases hi : i < st.length
  · rw [List.getElem?_append_left hi] at e
    rw [List.take_append_of_le_length (by omega)]
    exact f.2 i w a b e
  · have hi' : i = st.length := by
      have := (List.getElem?_eq_some_iff.1 e).1
      simp at this; omega
    subst hi'
    rw [List.getElem?_append_right (Nat.le_refl _)] at e
    simp at e
    obtain ⟨rfl, rfl, rfl⟩ := e
    rw [List.take_append_of_le_length (Nat.le_refl _), List.take_length]
    exact ⟨hl, hh⟩
theorem ser_seq : ∀ (x : DT) (st : List DT), x.RO → Seq st → Seq (ser x st)
  | leaf _, st, _, f => f
  | nd v l h, st, hr, f => by
    simp only [ser]
    split
    · exact f
    · next hn =>
      have f1 := ser_seq l st hr.2.2.2.2.1 f
      have f2 := ser_seq h (ser l st) hr.2.2.2.2.2 f1
      exact f2.snoc (ser_new hn) ((ser_in l st).mono (ser_prefix h _)) (ser_in h _) hr
theorem in_take {st : List DT} {x : DT} (i : Nat) (h : In (st.take i) x) : In st x ∧ ref st x < i := by
  have hp : st.take i <+: st := List.take_prefix _ _
  refine ⟨h.mono hp, ?_⟩
  rw [ref_mono h hp]
  have := (ref_lt h).2
  rw [List.length_take] at this
  omega
theorem seq_rows {st : List DT} (f : Seq st) : RowsOk (st.map (row st)) := by
  intro i p hp
  rw [List.getElem?_map, Option.map_eq_some_iff] at hp
  obtain ⟨x, hx, rfl⟩ := hp
  obtain ⟨v, l, h, rfl, h1, h2, h3⟩ := f.1.parts x (List.mem_of_getElem? hx)
  obtain ⟨i1, i2⟩ := f.2 i v l h hx
  obtain ⟨_, r1⟩ := in_take i i1
  obtain ⟨_, r2⟩ := in_take i i2
  have b1 := (ref_lt h1).1
  have b2 := (ref_lt h2).1
  have hv := h3.1
  refine ⟨⟨?_, ?_, b1, r1, b2, r2⟩, ?_, ?_⟩
  · show (0 : Int) ≤ (v : Int); omega
  · show (v : Int) < 16; omega
  · intro q h0 hq
    have h0' : 0 ≤ ref st l := h0
    have hq' : (st.map (row st))[(ref st l).toNat]? = some q := hq
    rw [List.getElem?_map, ref_get h1 h0'] at hq'
    simp only [Option.map_some, Option.some.injEq] at hq'
    subst hq'
    show (v : Int) < _
    have ht := h3.2.2.1
    cases l with
    | leaf b => cases b <;> simp [ref] at h0'
    | nd w a b => simp only [top] at ht; show (v : Int) < (w : Int); omega
  · intro q h0 hq
    have h0' : 0 ≤ ref st h := h0
    have hq' : (st.map (row st))[(ref st h).toNat]? = some q := hq
    rw [List.getElem?_map, ref_get h2 h0'] at hq'
    simp only [Option.map_some, Option.some.injEq] at hq'
    subst hq'
    show (v : Int) < _
    have ht := h3.2.2.2.1
    cases h with
    | leaf b => cases b <;> simp [ref] at h0'
    | nd w a b => simp only [top] at ht; show (v : Int) < (w : Int); omega
theorem bld_rows {st : List DT} (f : Seq st) : bld (st.map (row st)) = st := by
  have key : ∀ n, n ≤ st.length → bld ((st.map (row st)).take n) = st.take n := by
    intro n
    induction n with
    | zero => intro _; rfl
    | succ n ih =>
      intro hn
      have hx : st[n]? = some st[n] := List.getElem?_eq_getElem (by omega)
      have hp : (st.map (row st))[n]? = some (row st st[n]) := by rw [List.getElem?_map, hx]; rfl
      rw [bld_take_succ hp, ih (by omega)]
      obtain ⟨y, hy⟩ : ∃ y, y = st[n] := ⟨_, rfl⟩
      rw [← hy] at hx ⊢
      obtain ⟨v, l, h, rfl, _, _, h3⟩ := f.1.parts y (List.mem_of_getElem? hx)
      obtain ⟨i1, i2⟩ := f.2 n v l h hx
      have hpre : st.take n <+: st := List.take_prefix _ _
      unfold bldStep
      simp only [row]
      rw [ref_mono i1 hpre, ref_mono i2 hpre, atR_ref i1, atR_ref i2, Int.toNat_natCast, List.take_add_one, hx, DT.mk, if_neg h3.2.1]
      rfl
  have := key st.length (Nat.le_refl _)
  rwa [List.take_of_length_le (by simp), List.take_length] at this
def CanonD (l : List NRow) (r : Int) : Prop := ∃ x : DT, x.RO ∧ l = (ser x []).map (row (ser x [])) ∧ r = ref (ser x []) x
theorem CanonD.of {l : List NRow} {r : Int} (h : CanonD l r) : RowsOk l ∧ -2 ≤ r ∧ r < l.length ∧ (atR (bld l) r).RO ∧ l = (ser (atR (bld l) r) []).map (row (ser (atR (bld l) r) [])) ∧ r = ref (ser (atR (bld l) r) []) (atR (bld l) r) := by
  obtain ⟨x, h1, rfl, rfl⟩ := h
  have f := ser_seq x [] h1 Seq.nil
  have hin := ser_in x []
  have e : atR (bld ((ser x []).map (row (ser x [])))) (ref (ser x []) x) = x := by rw [bld_rows f, atR_ref hin]
  rw [e]
  exact ⟨seq_rows f, (ref_lt hin).1, by rw [List.length_map]; exact (ref_lt hin).2, h1, rfl, rfl⟩
theorem CanonD.mk {l : List NRow} {r : Int} (h : RowsOk l) (h1 : l = (ser (atR (bld l) r) []).map (row (ser (atR (bld l) r) []))) (h2 : r = ref (ser (atR (bld l) r) []) (atR (bld l) r)) : CanonD l r :=
  ⟨_, atR_ro h, h1, h2⟩
end Go.AI
end
section
namespace Go.AI
open DT
end Go.AI
end
section
namespace Go.AI
open DT
end Go.AI
end
section
namespace Go.AI
open Go.Lib
theorem compact_asc {d : Array Int} (hs : ∀ i j, i ≤ j → j < d.size → d[i]! ≤ d[j]!) : ∀ m, m ≤ d.size → (compactUpTo d m).Pairwise (· < ·) ∧ ∀ x, x ∈ compactUpTo d m ↔ ∃ j, j < m ∧ d[j]! = x
  | 0, _ => by
    have e : compactUpTo d 0 = [] := rfl
    rw [e]
    exact ⟨List.Pairwise.nil, fun x => ⟨fun h => (List.not_mem_nil h).elim, fun ⟨j, h, _⟩ => by omega⟩⟩
  | m + 1, hm => by
    obtain ⟨h1, h2⟩ := compact_asc hs m (by omega)
    rw [compactUpTo_succ]
    by_cases hk : keeps d m = true
    · rw [if_pos hk]
      refine ⟨List.pairwise_append.2 ⟨h1, List.pairwise_singleton _ _, fun a ha b hb => ?_⟩, fun x => ?_⟩
      · obtain rfl := List.mem_singleton.1 hb
        obtain ⟨j, hj, rfl⟩ := (h2 a).1 ha
        have e1 := hs j (m - 1) (by omega) (by omega)
        have e2 := hs (m - 1) m (by omega) (by omega)
        have : d[m]! ≠ d[m - 1]! := fun e => by
          rw [keeps_neg (by omega) e] at hk; cases hk
        omega
      · rw [List.mem_append, h2, List.mem_singleton]
        constructor
        · rintro (⟨j, hj, e⟩ | e)
          · exact ⟨j, by omega, e⟩
          · exact ⟨m, by omega, e.symm⟩
        · rintro ⟨j, hj, e⟩
          by_cases hjm : j = m
          · subst hjm; exact .inr e.symm
          · exact .inl ⟨j, by omega, e⟩
    · rw [if_neg hk, List.append_nil]
      have hm0 : 0 < m := by
        rcases Nat.eq_zero_or_pos m with e | e
        · subst e; exact absurd (keeps_lt_one d 0 (by omega)) hk
        · exact e
      have he : d[m]! = d[m - 1]! := Decidable.by_contra fun h => hk (keeps_pos h)
      refine ⟨h1, fun x => ?_⟩
      rw [h2]
      constructor
      · rintro ⟨j, hj, e⟩
        exact ⟨j, by omega, e⟩
      · rintro ⟨j, hj, e⟩
        by_cases hjm : j = m
        · subst hjm; exact ⟨j - 1, by omega, by rw [← he, e]⟩
        · exact ⟨j, by omega, e⟩
theorem compact_sort (l : List Int) : (compact (l.mergeSort fun x y => decide (x ≤ y))).Pairwise (· < ·) ∧ ∀ x, x ∈ compact (l.mergeSort fun x y => decide (x ≤ y)) ↔ x ∈ l := by
  obtain ⟨z, hz⟩ : ∃ z, z = l.mergeSort fun x y => decide (x ≤ y) := ⟨_, rfl⟩
  have hp : z.Pairwise fun x y => decide (x ≤ y) = true := by
    rw [hz]
    refine List.pairwise_mergeSort (fun a b c h1 h2 => ?_) (fun a b => ?_) l
    · simp only [decide_eq_true_eq] at h1 h2 ⊢; omega
    · simp only [Bool.or_eq_true, decide_eq_true_eq]; omega
  have hmem : ∀ x, x ∈ z ↔ x ∈ l := fun x => by rw [hz]; exact List.mem_mergeSort
  rw [← hz]
  have get : ∀ j, j < z.length → z.toArray[j]! = z[j]! := fun j hj => by simp
  have hs : ∀ i j, i ≤ j → j < z.toArray.size → z.toArray[i]! ≤ z.toArray[j]! := by
    intro i j hij hj
    have hj' : j < z.length := by simpa using hj
    rw [get i (by omega), get j hj']
    by_cases e : i = j
    · subst e; omega
    · have := List.pairwise_iff_getElem.1 hp i j (by omega) hj' (by omega)
      simp only [decide_eq_true_eq] at this
      rw [getElem!_pos z i (by omega), getElem!_pos z j hj']
      exact this
  obtain ⟨h1, h2⟩ := compact_asc hs z.length (by simp)
  refine ⟨h1, fun x => ?_⟩
  rw [← hmem x]
  refine (h2 x).trans ⟨?_, fun h => ?_⟩
  · rintro ⟨j, hj, rfl⟩
    rw [get j hj, getElem!_pos z j hj]
    exact List.getElem_mem _
  · obtain ⟨j, hj, e⟩ := List.getElem_of_mem h
    exact ⟨j, hj, by rw [get j hj, getElem!_pos z j hj, e]⟩
end Go.AI
end
section
namespace Go.AI
def updAll (t : Env) : List (Tmp × AV) → Env
  | [] => t
  | (p, a) :: r => updAll (upd t p a) r
theorem setAll_TR : ∀ {l : List (Tmp × AV)} {T : List AV} {t : Env}, TR T t → (∀ q ∈ l, q.1 < T.length) → TR (setAll T l) (updAll t l)
  | [], T, t, h, _ => h
  | (p, a) :: l, T, t, h, hl => by
    simp only [setAll, updAll]
    exact setAll_TR (h.set (hl _ (List.mem_cons_self ..)) a) fun q hq => by rw [List.length_set]; exact hl q (List.mem_cons_of_mem _ hq)
theorem setAll_len : ∀ (l : List (Tmp × AV)) (T : List AV), (setAll T l).length = T.length
  | [], _ => rfl
  | (p, a) :: l, T => by simp only [setAll]; rw [setAll_len l, List.length_set]
theorem roundE_of {P : Program} [BaseC P] {l : Nat} {args : List AV} {H : AHeap} {st0 : Nat} {pend0 : Ex} {T : List AV} {ps : Array Tmp} {ca cb : Code} {tblA tblB : List (Nat × List (Nat × Nat))} {s1 s3 : St} {e : Ex} {p1 : Ex} {T1 : List AV} {ps1 : Array Tmp} {a1 b1 : Code} {st4 : Nat} {p4 : Ex} {T4 : List AV} {ps4 : Array Tmp} {a4 b4 : Code}
    (hB : BaseC.has P (P.funcs.size + l) = false) (hl : H.get l = some (.loop st0 pend0 T ps ca cb)) (hlen : args.length = ps.size) (h1 : slimOk tblA ca = true) (e1 : execS P (callE P) (slim tblA ca) (setAll T (ps.toList.zip args), H) = some (.normal, s1)) (g1 : s1.2.get l = some (.loop 0 p1 T1 ps1 a1 b1))
    (h2 : slimOk tblB cb = true) (e2 : execS P (callE P) (slim tblB cb) (s1.1, s1.2.set l (.loop 1 p1 T1 ps1 a1 b1)) = some (e, s3)) (g3 : s3.2.get l = some (.loop st4 p4 T4 ps4 a4 b4)) :
    callE P (P.funcs.size + l) args H = some (.one (.bool (decide (e = .normal))), s3.2.set l (.loop (if e = .normal then 0 else 2) e T4 ps4 a4 b4)) := by
  obtain ⟨N1, hN1⟩ := execS_late h1 e1
  obtain ⟨N2, hN2⟩ := execS_late h2 e2
  refine callE_some.2 ⟨max N1 N2 + 1, ?_⟩
  unfold callA
  rw [hB, if_neg (by simp), Array.getElem?_eq_none (by omega)]
  simp only
  rw [if_pos (by omega), show P.funcs.size + l - P.funcs.size = l from by omega]
  unfold roundA
  rw [hl]
  simp only
  rw [if_pos hlen, hN1 (max N1 N2) (by omega)]
  simp only
  rw [g1]
  simp only
  rw [hN2 (max N1 N2) (by omega)]
  simp only
  rw [g3]
theorem round_wp {P : Program} [BaseC P] {eqs : List (TypeId × Nat)} (hf : Facts P eqs) {l N : Nat} {args : List AV} {H : AHeap} {st0 : Nat} {pend0 : Ex} {T : List AV} {t : Env} {ps : Array Tmp} {ca cb : Code} {ra rb : RC} (tblA tblB : List (Nat × List (Nat × Nat))) {K : AV → AHeap → Prop}
    (hB : BaseC.has P (P.funcs.size + l) = false) (hl : H.get l = some (.loop st0 pend0 T ps ca cb)) (hT : TR T t) (hN : T.length = N) (hps : ∀ p ∈ ps.toList, p < N) (hlen : args.length = ps.size) (h1 : slimOk tblA ca = true) (h2 : resC P eqs N (slim tblA ca) = some ra) (h3 : slimOk tblB cb = true) (h4 : resC P eqs N (slim tblB cb) = some rb)
    (k : wpC P ra (updAll t (ps.toList.zip args)) H fun e t1 H1 => e = .normal ∧ ∃ p1 T1 ps1 a1 b1, H1.get l = some (.loop 0 p1 T1 ps1 a1 b1) ∧ wpC P rb t1 (H1.set l (.loop 1 p1 T1 ps1 a1 b1)) fun e2 _ H2 => ∃ st4 p4 T4 ps4 a4 b4, H2.get l = some (.loop st4 p4 T4 ps4 a4 b4) ∧ K (.one (.bool (decide (e2 = .normal)))) (H2.set l (.loop (if e2 = .normal then 0 else 2) e2 T4 ps4 a4 b4))) :
    Run P (P.funcs.size + l) args H K := by
  have hT1 := setAll_TR hT (l := ps.toList.zip args) fun q hq => by rw [hN]; exact hps _ (List.of_mem_zip hq).1
  obtain ⟨e, tl', t', H', e1, a1, a2, rfl, p1, T1, ps1, ca1, cb1, g1, k2⟩ := wpC_sound hf hT1 (by rw [setAll_len, hN]) h2 k
  obtain ⟨e2, tl2, t2, H2, f1, b1, b2, st4, p4, T4, ps4, a4, b4, g4, hK⟩ := wpC_sound hf a1 a2 h4 k2
  exact ⟨_, _, roundE_of hB hl hlen h1 e1 g1 h3 f1 g4, hK⟩
structure LS where
  (T : List AV) (ps : Array Tmp) (a b : Code)
def LoopIs (H : AHeap) (l st : Nat) (e : Ex) (s : LS) : Prop := H.get l = some (.loop st e s.T s.ps s.a s.b)
theorem LoopIs.keep {S : Nat → Prop} {H H' : AHeap} {l st : Nat} {e : Ex} {s : LS} (h : LoopIs H l st e s) (k : Keep S H H') (hn : ¬ S l) : LoopIs H' l st e s := k.getS h hn
theorem LoopIs.kp {H H' : AHeap} {l st : Nat} {e : Ex} {s : LS} (h : LoopIs H l st e s) (k : Kp H H') : LoopIs H' l st e s := h.keep k id
theorem LoopIs.lt {H : AHeap} {l st : Nat} {e : Ex} {s : LS} (h : LoopIs H l st e s) : l < H.size := AHeap.get_lt h
def YieldT (P : Program) [BaseC P] (tys : List CT) (mk : Tup tys → List AV) (s : LS) (l : Nat) (R : Tup tys → (Ex → AHeap → Prop) → AHeap → Prop) : Prop :=
  ∀ (x : Tup tys) (e0 : Ex) (H : AHeap) (K : Bool → AHeap → Prop), LoopIs H l 0 e0 s →
    (∀ H1, Keep (fun y => y = l) H H1 → H1.size = H.size → LoopIs H1 l 1 e0 s → R x (fun e H2 => ∃ st e4, LoopIs H2 l st e4 s ∧ ∀ H3, Keep (fun y => y = l) H2 H3 → H3.size = H2.size → LoopIs H3 l (if e = .normal then 0 else 2) e s → K (decide (e = .normal)) H3) H1) →
    RunT P [(false, [.bool])] (P.funcs.size + l) (mk x) H fun H' b => K b H'
def RangeT (P : Program) [BaseC P] (tys : List CT) (mk : Tup tys → List AV) (c : AC) (H : AHeap) (R : Tup tys → (Ex → AHeap → Prop) → AHeap → Prop) (Kr : Ex → AHeap → Prop) : Prop :=
  ∃ g first caps, c = .fn g first caps ∧ g < P.funcs.size ∧ ∀ s : LS, YieldT P tys mk s H.size R → ∀ H0, Kp H H0 → H0.size = H.size + 1 → LoopIs H0 H.size 0 .normal s →
    Run P g (first.map (fun a => .one (.ptr (some a))) ++ [.one (.yield H.size)] ++ caps.map (fun a => .one (.ptr (some a)))) H0 fun _ H' => ∃ st e, LoopIs H' H.size st e s ∧ st ≠ 1 ∧ ∀ H3, Keep (fun y => y = H.size) H' H3 → H3.size = H'.size → Kr e H3
theorem Kp.pushLoop (H : AHeap) (st : Nat) (e : Ex) (T : List AV) (ps : Array Tmp) (a b : Code) : Kp H (H.push (.loop st e T ps a b)) := by
  refine ⟨by simp, fun b hb _ => by rw [AHeap.get_push, if_neg (by omega)], fun b hb _ => rfl, ⟨fun hw x e' g st ro cs' hx => ?_, fun hw x e' g st ro cs' hx => ?_⟩, fun x e' g st ro cs' hx hg _ => ?_⟩
  · rw [AHeap.get_push] at hx
    split at hx
    · cases hx
    · exact hw _ _ _ _ _ _ hx
  · refine hw x e' g st ro cs' ?_
    have := AHeap.get_lt hx
    rw [AHeap.get_push, if_neg (by omega)]
    exact hx
  · rw [AHeap.get_push] at hx
    split at hx
    · cases hx
    · exact ⟨_, _, _, _, hx⟩
theorem c_range {P : Program} [BaseC P] {eqs : List (TypeId × Nat)} (hf : Facts P eqs) (hB : ∀ f, P.funcs.size ≤ f → BaseC.has P f = false) {tys : List CT} {mk : Tup tys → List AV} {c : AC} {t : Env} {N : Nat} {ps : Array Tmp} {ca cb : Code} {ra rb : RC} (tblA tblB : List (Nat × List (Nat × Nat))) {H : AHeap} {R : Tup tys → (Ex → AHeap → Prop) → AHeap → Prop} {Kr : Ex → AHeap → Prop} {K : Ex → Env → AHeap → Prop} {f : RV}
    (hev : evR t f = .one c) (hps : ∀ p ∈ ps.toList, p < N) (hlen : ∀ x, (mk x).length = ps.size) (h1 : slimOk tblA ca = true) (h2 : resC P eqs N (slim tblA ca) = some ra) (h3 : slimOk tblB cb = true) (h4 : resC P eqs N (slim tblB cb) = some rb)
    (hA : ∀ x H (J : Env → AHeap → Prop), J (updAll t (ps.toList.zip (mk x))) H → ∃ t1, (∀ J : Env → AHeap → Prop, J t1 H → wpC P ra (updAll t (ps.toList.zip (mk x))) H fun e t2 H2 => e = .normal ∧ J t2 H2) ∧ ∀ (KR : Ex → AHeap → Prop) (Kt : Ex → Env → AHeap → Prop) H, (∀ e t H, KR e H → Kt e t H) → R x KR H → wpC P rb t1 H Kt)
    (hK : ∀ e H, Kr e H → K e t H) : RangeT P tys mk c H R Kr → wpC P (.rangeF f N ps ca cb) t H K := by
  rintro ⟨g, first, caps, rfl, hg, q⟩
  simp only [wpC, hev]
  refine ⟨g, first, caps, rfl, hg, fun T hN hT => ?_⟩
  have hget : LoopIs (H.push (.loop 0 .normal T ps ca cb)) H.size 0 .normal ⟨T, ps, ca, cb⟩ := by
    unfold LoopIs
    rw [AHeap.get_push, if_pos rfl]
  have hY : YieldT P tys mk ⟨T, ps, ca, cb⟩ H.size R := by
    intro x e0 H1 K1 hl hr
    have hl' : H1.get H.size = some (.loop 0 e0 T ps ca cb) := hl
    refine round_wp hf tblA tblB (hB _ (by omega)) hl' hT hN hps (hlen x) h1 h2 h3 h4 ?_
    obtain ⟨t1, a1, a2⟩ := hA x H1 (fun _ _ => True) trivial
    refine a1 _ ⟨_, _, _, _, _, hl', ?_⟩
    have k1 : Keep (fun y => y = H.size) H1 (H1.set H.size (.loop 1 e0 T ps ca cb)) := Keep.set hl' trivial
    have hq := hr _ k1 rfl (by unfold LoopIs; rw [AHeap.get_set, if_pos ⟨rfl, AHeap.get_lt hl'⟩])
    refine a2 _ _ _ ?_ hq
    rintro e2 t2 H2 ⟨st, e4, hl2, hk⟩
    have hl2' : H2.get H.size = some (.loop st e4 T ps ca cb) := hl2
    refine ⟨_, _, _, _, _, _, hl2', ?_⟩
    refine ⟨(decide (e2 = .normal), ()), rfl, hk _ (Keep.set hl2' trivial) rfl ?_⟩
    unfold LoopIs
    rw [AHeap.get_set, if_pos ⟨rfl, AHeap.get_lt hl2'⟩]
  obtain ⟨v, H', hrun, st, e, hl, hst, hk⟩ := q ⟨T, ps, ca, cb⟩ hY _ (Kp.pushLoop _ _ _ _ _ _ _) (by simp) hget
  have hl' : H'.get H.size = some (.loop st e T ps ca cb) := hl
  exact ⟨v, H', hrun, st, e, _, _, _, _, hl', hst, hK _ _ (hk _ (Keep.set hl' trivial) rfl)⟩
end Go.AI
end
section
namespace Go.Proofs.YtkpjcnlljdccjaaGreat
open Go.AI Go.Lib
def sortI (l : List Int) : List Int := l.mergeSort fun x y => decide (x ≤ y)
theorem Sort_o {s : AC} {F : Nat → Prop} {l : List Int} {H : AHeap} (h : OwnS H s 1 F (iRows l)) (hw : GW H) (hl : l.length < 4611686018427387904) :
    Fn.slices_Sort_int_int s H fun H' => OwnS H' s 1 F (iRows (sortI l)) ∧ Keep F H H' := by
  unfold Fn.slices_Sort_int_int
  rcases h.turn (l' := sortI l) hw (List.length_mergeSort _) with ⟨rfl, rfl⟩ | ⟨b, cap, H', rfl, h1, h2, h3, h4, _⟩
  · exact runT_told (v := .tup []) (H' := H) rfl rfl () rfl ⟨by simpa [sortI] using h, Keep.refl _ _⟩
  · by_cases h0 : l.length = 0
    · have hl0 := List.eq_nil_of_length_eq_zero h0
      subst hl0
      exact runT_told (v := .tup []) (H' := H) rfl rfl () rfl ⟨by simpa [sortI] using h, Keep.refl _ _⟩
    · refine runT_told (v := .tup []) (H' := H') rfl ?_ () rfl ⟨h3, h4⟩
      show sortB H [.one (.sl (some (b, 0)) 1 l.length cap)] = _
      simp only [sortB, if_neg h0, if_neg (show ¬ l.length ≥ 4611686018427387904 by omega), h1, Option.bind_some, intsOf_map]
      show (H.store (b, 0) ((sortI l).map (AC.int .i64))).map _ = _
      rw [h2]
      rfl
theorem slr_take {H : AHeap} {b n m : Nat} {cap : Option Nat} {rows : List (List AC)} (h : SlR H (.sl (some (b, 0)) 1 n cap) 1 rows) (hm : m ≤ n) : SlR H (.sl (some (b, 0)) 1 m cap) 1 (rows.take m) := by
  obtain ⟨a, z, cap', e, hr⟩ := h.ex
  cases e
  refine ⟨_, 1, cap, by rw [List.length_take, Nat.min_eq_left hm], fun i r hi => ?_⟩
  rw [List.getElem?_take] at hi
  split at hi
  · obtain ⟨_, b', o', e, hl⟩ := hr i r hi
    exact ⟨rfl, b', o', e, hl⟩
  · cases hi
theorem Compact_o {s : AC} {F : Nat → Prop} {l : List Int} {H : AHeap} (h : OwnS H s 1 F (iRows l)) (hw : GW H) (hl : l.length < 4611686018427387904) :
    Fn.slices_Compact_int_int s H fun H' q => SlR H' q 1 (iRows (compact l)) ∧ (∀ b o z m cap, q = .sl (some (b, o)) z m cap → F b) ∧ Keep F H H' := by
  have hcl := compact_length_le l
  unfold Fn.slices_Compact_int_int
  rcases h.turn (l' := compact l ++ List.replicate (l.length - (compact l).length) 0) hw (by rw [List.length_append, List.length_replicate]; omega) with ⟨rfl, rfl⟩ | ⟨b, cap, H', rfl, h1, h2, h3, h4, _⟩
  · exact runT_told (v := .one (.sl none 0 0 (some 0))) (H' := H) rfl rfl (AC.sl none 0 0 (some 0), ()) rfl ⟨h.slr, fun b o z m cap e => (by cases e), Keep.refl _ _⟩
  · have hF : F b := by
      rcases h.ex with ⟨e, _⟩ | ⟨b', _, _, _, _, e, _, _, _, h5, _⟩
      · cases e
      · have e2 : b = b' := congrArg (fun c => match c with | AC.sl (some p) _ _ _ => p.1 | _ => 0) e
        rw [e2]; exact h5
    by_cases h0 : l.length = 0
    · have hl0 := List.eq_nil_of_length_eq_zero h0
      subst hl0
      exact runT_told (v := .one (.sl (some (b, 0)) 1 0 cap)) (H' := H) rfl rfl (AC.sl (some (b, 0)) 1 0 cap, ()) rfl ⟨h.slr, fun b' o z m cap' e => (by cases e; exact hF), Keep.refl _ _⟩
    · refine runT_told (v := .one (.sl (some (b, 0)) 1 (compact l).length cap)) (H' := H') rfl ?_ (AC.sl (some (b, 0)) 1 (compact l).length cap, ()) rfl ⟨?_, fun b' o z m cap' e => (by cases e; exact hF), h4⟩
      · show compactB H [.one (.sl (some (b, 0)) 1 l.length cap)] = _
        simp only [compactB, if_neg h0, if_neg (show ¬ l.length ≥ 4611686018427387904 by omega), h1, Option.bind_some, intsOf_map, h2, Option.map_some]
      · have := slr_take h3.slr hcl
        have e : (iRows (compact l ++ List.replicate (l.length - (compact l).length) 0)).take (compact l).length = iRows (compact l) := by
          unfold iRows
          rw [List.map_append, List.take_append_of_le_length (by rw [List.length_map]; exact Nat.le_refl _), List.take_of_length_le (by rw [List.length_map]; exact Nat.le_refl _)]
        rwa [e] at this
noncomputable def apR : Array Tmp × Code × Code := match Tryz.f105.body with
  | some (.seq _ (.seq (.seq _ (.block _ (.rangeFunc _ ps a b))) _)) => (ps, a, b)
  | _ => (#[], .skip, .skip)
noncomputable def ap.ca : RC := .ops [.put 5 (.mov (.tm 7))]
noncomputable def ap.cb : RC := .block 1 (.ops [.put 8 (.ld false [.ac] (.tm 2)), .put 9 (.mov (.tm 5)), .put 10 (.blds 3 1 1 [(.int .i64 0)] [(0, 1, (.tm 9))]), .put 11 (.app 3 1 8 (.tm 8) (.tm 10)), .run (.st 1 (.tm 2) (.tm 11))])
noncomputable def ap.c : RC := .seq (.ops [.put 2 (.box 28 (.tm 0)), .put 4 (.mov (.ct (.one (.sl none 0 0 (some 0)))))]) (.seq (.seq (.ops [.put 6 (.mov (.tm 1))]) (.block 0 (.rangeF (.tm 6) 13 apR.1 apR.2.1 apR.2.2))) (.seq (.ops [.put 12 (.ld false [.ac] (.tm 2)), .put 4 (.mov (.tm 12))]) .ret))
theorem ap.slimOk : AI.slimOk [] (Tryz.f105.body.getD .skip) = true := by kernel_rfl
theorem ap.resC : AI.resC Tryz.prog aggs Tryz.f105.ntmps (slim [] (Tryz.f105.body.getD .skip)) = some ap.c := by kernel_rfl
theorem ap.resR : AI.resR Tryz.prog Tryz.f105.results.toList = some [.tm 4] := by kernel_rfl
theorem ap.bodyEq : Tryz.f105.body = some (Tryz.f105.body.getD .skip) := by kernel_rfl
theorem ap.aOk : AI.slimOk [] apR.2.1 = true := by kernel_rfl
theorem ap.aRes : AI.resC Tryz.prog aggs 13 (slim [] apR.2.1) = some ap.ca := by kernel_rfl
theorem ap.bOk : AI.slimOk [] apR.2.2 = true := by kernel_rfl
theorem ap.bRes : AI.resC Tryz.prog aggs 13 (slim [] apR.2.2) = some ap.cb := by kernel_rfl
theorem ap.ps : apR.1 = #[7] := by kernel_rfl
theorem size_tryz : Tryz.prog.funcs.size = 194 := by kernel_rfl
theorem told_none (f : Nat) (h : Tryz.prog.funcs.size ≤ f) : BaseC.has Tryz.prog f = false := by
  rw [size_tryz] at h
  show (Nat.beq f 93 || Nat.beq f 59 || Nat.beq f 10 || Nat.beq f 95 || Nat.beq f 96 || Nat.beq f 73 || Nat.beq f 74) = false
  have key : ∀ n, n < 194 → Nat.beq f n = false := fun n hn => by
    cases hb : Nat.beq f n with
    | false => rfl
    | true => have := Nat.eq_of_beq_eq_true hb; omega
  rw [key 93 (by omega), key 59 (by omega), key 10 (by omega), key 95 (by omega), key 96 (by omega), key 73 (by omega), key 74 (by omega)]
  rfl
def ap.R (p : AC) (x : Tup [.int .i64]) (KR : Ex → AHeap → Prop) (H : AHeap) : Prop :=
  Ld [.ac] H p fun (v_1 : AC) =>
  NewS 3 1 1 [(.int .i64 x.1)] H fun p_2 H_3 =>
  App 3 1 8 v_1 p_2 H_3 fun s_4 H_5 =>
  Sto H_5 p [s_4] fun H_6 =>
  KR .normal H_6
def ap.W (a0 a1 : AC) (H : AHeap) (Q : AHeap → AC → Prop) : Prop :=
  New 28 [a0] H fun p_1 H_2 =>
  RangeT Tryz.prog [.int .i64] (fun x => [.one (.int .i64 x.1)]) a1 H_2 (ap.R p_1) fun e H_3 =>
  e = .normal ∧ Ld [.ac] H_3 p_1 fun (v_4 : AC) =>
  Q H_3 v_4
theorem ap.rnd {p_1 : AC} {t : Env} (h2 : t 2 = .one p_1) (x : Tup [.int .i64]) (KR : Ex → AHeap → Prop) (Kt : Ex → Env → AHeap → Prop) (H : AHeap) (hK : ∀ e t H, KR e H → Kt e t H) :
    ap.R p_1 x KR H → wpC Tryz.prog ap.cb (upd (upd t 7 (.one (.int .i64 x.1))) 5 (.one (.int .i64 x.1))) H Kt := by
  refine c_blk (c_ops (s_cons (w_put (o_ld1 h2 fun v_1 => ?_))))
  refine s_cons (w_put (o_mov rfl (s_cons (w_put (o_blds rfl fun p_2 H_3 => ?_)))))
  refine s_cons (w_put (o_app rfl rfl fun s_4 H_5 => ?_))
  exact s_cons (w_run (o_st h2 rfl rfl fun H_6 => s_nil (k_blk (hK _ _ _))))
theorem ap.rng {p_1 a1 : AC} {t : Env} {H : AHeap} {K : Ex → Env → AHeap → Prop} {Kr : Ex → AHeap → Prop} (h2 : t 2 = .one p_1) (h6 : t 6 = .one a1) (hK : ∀ e H, Kr e H → K e t H) :
    RangeT Tryz.prog [.int .i64] (fun x => [.one (.int .i64 x.1)]) a1 H (ap.R p_1) Kr → wpC Tryz.prog (.rangeF (.tm 6) 13 apR.1 apR.2.1 apR.2.2) t H K :=
  c_range aggs_ok told_none [] [] h6 (by rw [ap.ps]; intro p hp; simp at hp; rw [hp]; decide) (fun x => by rw [ap.ps]; rfl) ap.aOk ap.aRes ap.bOk ap.bRes
    (by
      rw [ap.ps]
      intro x H3 J _
      exact ⟨upd (upd t 7 (.one (.int .i64 x.1))) 5 (.one (.int .i64 x.1)), fun J hJ => c_ops (s_cons (w_put (o_mov rfl (s_nil fun h => ⟨rfl, h⟩)))) hJ, ap.rnd h2 x⟩)
    hK
theorem ap.ok {a0 a1 : AC} {H : AHeap} (Q : AHeap → AC → Prop) : ap.W a0 a1 H Q → wpF Tryz.prog ap.c [.tm 4] (envOf [(.one a0), (.one a1)]) H (fun v H => ∃ xs : Tup (flat [(false, [.ac])]), v = joinR (splitP [(false, [.ac])] (cellsOf (flat [(false, [.ac])]) xs)) ∧ app (flat [(false, [.ac])]) (Q H) xs) := by
  refine c_seq (c_ops (s_cons (w_put (o_box rfl fun p_1 H_2 => ?_))))
  refine s_cons (w_put (o_mov rfl (s_nil (k_seq ?_))))
  refine c_seq (c_seq (c_ops (s_cons (w_put (o_mov rfl (s_nil (k_seq ?_)))))))
  refine c_blk (ap.rng rfl rfl ?_)
  rintro e H3 ⟨rfl, h⟩
  refine k_blk (k_seq ?_) h
  refine c_seq (c_ops (s_cons (w_put (o_ld1 rfl fun v_4 => ?_))))
  exact s_cons (w_put (o_mov rfl (s_nil (k_seq (c_ret (k_topR (r_one rfl (r_nil fun h => ⟨(v_4, ()), rfl, h⟩))))))))
theorem ap.run {a0 a1 : AC} {H : AHeap} {Q : AHeap → AC → Prop} (h : ap.W a0 a1 H Q) : RunT Tryz.prog [(false, [.ac])] 105 [(.one a0), (.one a1)] H Q := by
  unfold RunT
  exact run_of aggs_ok [] rfl Tryz.func105 ap.bodyEq ap.slimOk ap.resC ap.resR (Nat.le_of_ble_eq_true (by kernel_rfl)) (ap.ok Q h)
theorem lt94 : 94 < Tryz.prog.funcs.size := (Array.getElem?_eq_some_iff.1 Tryz.func94).1
theorem append_c {bx : Nat} {s : AC} {l : List Int} {H : AHeap} (hb : Own H bx [s]) (hs : SlR H s 1 (iRows l)) (hl : l.length < 4611686018427387904) (hl2 : l.length * 8 + 8 ≤ 140737488355328) :
    RunT Tryz.prog [(false, [.ac])] 105 [(.one (.sl none 0 0 (some 0))), (.one (.fn 94 [] [(bx, 0)]))] H fun H' q => (∃ F, OwnS H' q 1 F (iRows l) ∧ ∀ y, F y → H.size ≤ y) ∧ Kp H H' := by
  have hll := iRows_len l
  refine ap.run ?_
  unfold ap.W
  refine New.own fun b1 H1 hb1 hs1 o1 k1 => ?_
  refine ⟨94, [], [(bx, 0)], rfl, lt94, fun sl hY H0 k0 hs0 hl0 => ?_⟩
  have kk0 := k1.trans k0
  suffices hrun : Fn.Z36 (.yield H1.size) (.ptr (some (bx, 0))) H0 fun H' => ∃ st e, LoopIs H' H1.size st e sl ∧ st ≠ 1 ∧ ∀ H3, Keep (fun y => y = H1.size) H' H3 → H3.size = H'.size → (e = .normal ∧ Ld [.ac] H3 (.ptr (some (b1, 0))) fun (v : AC) => (∃ F, OwnS H3 v 1 F (iRows l) ∧ ∀ y, F y → H.size ≤ y) ∧ Kp H H3) by
    refine Run.mono ?_ hrun
    rintro v H' ⟨_, _, h⟩
    exact h
  refine Z36.run ?_
  unfold Z36.W
  refine Ld.oc (hb.kp kk0) rfl (LenS.of (hs.kp kk0) ?_)
  rw [hll]
  unfold Z36.l3
  refine LoopT.rule (fun m s0 H2 => ∃ (i : Nat) (out : AC) (F : Nat → Prop), i ≤ l.length ∧ m = l.length - i ∧ s0 = (.yield H1.size, s, (l.length : Int), (i : Int), ()) ∧ Kp H H2 ∧ LoopIs H2 H1.size 0 .normal sl ∧ Own H2 b1 [out] ∧ OwnS H2 out 1 F (iRows (l.take i)) ∧ ∀ y, F y → H1.size < y) l.length
    ⟨0, _, fun _ => False, by omega, by omega, rfl, kk0, hl0, o1.kp k0, by simpa [iRows] using OwnS.nil H0 1, fun y h => h.elim⟩ ?_
  rintro m s0 H2 back ⟨i, out, F, hi, rfl, rfl, k2, hlp, ob, ho, hF⟩ hback
  simp only [Z36.b3]
  refine CondB.dec (fun hlt => ?_) fun hge => ?_
  · have hi' : i < l.length := by omega
    obtain ⟨v, hv⟩ : ∃ b, l[i]? = some b := ⟨_, List.getElem?_eq_getElem hi'⟩
    refine IA.of (r := [AC.int .i64 v]) (hs.kp k2) (by omega) (by rw [Int.toNat_natCast]; unfold iRows; rw [List.getElem?_map, hv]; rfl) fun b o hld => Ld.a1 hld v rfl rfl ?_
    refine CVT.yield (hY (v, ()) .normal H2 _ hlp fun H3 k3 hs3 hl3 => ?_)
    have ob3 := ob.keep k3 (show ¬ b1 = H1.size by omega)
    have ho3 := ho.keep k3 fun y e h => by have := hF y h; have e' : y = H1.size := e; omega
    have hz2 := k2.size
    have hlt2 := hlp.lt
    have hb2 := ob.lt
    unfold ap.R
    refine Ld.oc ob3 rfl (NewS.own fun b4 H4 hb4 hs4 o4 k4 => ?_)
    have hlen : (iRows (l.take i)).length = i := by rw [iRows_len, List.length_take]; omega
    refine App.own (ho3.kp k4) (r := [AC.int .i64 v]) ⟨b4, _, rfl, o4.all⟩ rfl (by rw [hlen]; omega) (by rw [hlen]; omega) fun out' H5 ho5 k5 hs5 => ?_
    have hFn : ∀ y, F y → y ≠ b1 ∧ y ≠ H1.size := fun y h => by have := hF y h; omega
    refine Sto.own ((ob3.kp k4).keep k5 fun h => (hFn _ h).1 rfl) (Nat.le_refl 1) fun H6 o6 k6 hs6 => ?_
    have hlp6 : LoopIs H6 H1.size 1 .normal sl := ((hl3.kp k4).keep k5 fun h => (hFn _ h).2 rfl).keep k6 (show ¬ H1.size = b1 by omega)
    refine ⟨_, _, hlp6, fun H7 k7 hs7 hl7 => CondB.neg rfl ?_⟩
    have hk : Kp H H7 := ((((k2.fresh k3 fun y e => by have e' : y = H1.size := e; omega).trans k4).fresh k5 fun y h => by have := hF y h; omega).fresh k6 fun y e => by have e' : y = b1 := e; omega).fresh k7 fun y e => by have e' : y = H1.size := e; omega
    refine hback (l.length - (i + 1)) _ _ (by omega) ⟨i + 1, out', fun y => F y ∨ y = H4.size, by omega, rfl, ?_, hk, hl7, o6.keep k7 (show ¬ b1 = H1.size by omega), ?_, fun y h => h.elim (hF y) fun e => by omega⟩
    · exact tc rfl (tc rfl (tc rfl (tc ((wrap64 (by omega) (by omega)).trans (by omega)) rfl)))
    · have e : iRows (l.take (i + 1)) = iRows (l.take i) ++ [[AC.int .i64 v]] := by
        unfold iRows
        rw [List.take_add_one, List.map_append, hv]
        rfl
      rw [e]
      have h6 := ho5.keep k6 fun y e h => by
        have e' : y = b1 := e
        rcases h with h | h
        · exact (hFn y h).1 e'
        · omega
      exact h6.keep k7 fun y e h => by
        have e' : y = H1.size := e
        rcases h with h | h
        · exact (hFn y h).2 e'
        · omega
  · have hil : i = l.length := by omega
    subst hil
    rw [List.take_of_length_le (Nat.le_refl _)] at ho
    refine ⟨0, .normal, hlp, by omega, fun H3 k3 hs3 => ⟨rfl, ?_⟩⟩
    have hz2 := k2.size
    refine Ld.oc (ob.keep k3 (show ¬ b1 = H1.size by omega)) rfl ⟨⟨F, ho.keep k3 fun y e h => by have := hF y h; have e' : y = H1.size := e; omega, fun y h => by have := hF y h; omega⟩, k2.fresh k3 fun y e => by have e' : y = H1.size := e; omega⟩
theorem Sorted_c {bx : Nat} {s : AC} {l : List Int} {H : AHeap} (hb : Own H bx [s]) (hs : SlR H s 1 (iRows l)) (hw : GW H) (hl : l.length < 4611686018427387904) (hl2 : l.length * 8 + 8 ≤ 140737488355328) :
    Fn.Z34 (.fn 94 [] [(bx, 0)]) H fun H' q => (∃ F, OwnS H' q 1 F (iRows (sortI l)) ∧ ∀ y, F y → H.size ≤ y) ∧ Kp H H' := by
  refine Z34.run ?_
  unfold Z34.W
  refine RunT.imp ?_ (Z26.run (Q := fun H' q => (∃ F, OwnS H' q 1 F (iRows l) ∧ ∀ y, F y → H.size ≤ y) ∧ Kp H H') ?_)
  · rintro H1 (q : AC) ⟨⟨F, ho, hF⟩, k1⟩
    refine RunT.imp ?_ (Sort_o ho (k1.gw.1 hw) hl)
    rintro H2 ⟨ho2, k2⟩
    exact ⟨⟨F, ho2, hF⟩, k1.fresh k2 hF⟩
  · unfold Z26.W
    exact append_c hb hs hl hl2
end Go.Proofs.YtkpjcnlljdccjaaGreat
end
section
namespace Go.AI
theorem flatten_set {sz : Nat} : ∀ {rows : List (List AC)} {i : Nat} {r : List AC} {o : Nat} {c : AC}, (∀ r ∈ rows, r.length = sz) → rows[i]? = some r → o < sz → (rows.set i (r.set o c)).flatten = rows.flatten.set (i * sz + o) c
  | [], i, r, o, c, _, h, _ => by simp at h
  | a :: rows, 0, r, o, c, hl, h, ho => by
    simp only [List.getElem?_cons_zero, Option.some.injEq] at h
    subst h
    have ha := hl a (List.mem_cons_self ..)
    rw [Nat.zero_mul, Nat.zero_add, List.set_cons_zero, List.flatten_cons, List.flatten_cons, List.set_append_left _ _ (by omega)]
  | a :: rows, i + 1, r, o, c, hl, h, ho => by
    simp only [List.getElem?_cons_succ] at h
    have ha := hl a (List.mem_cons_self ..)
    have hm : (i + 1) * sz = i * sz + sz := by rw [Nat.add_mul, Nat.one_mul]
    rw [List.set_cons_succ, List.flatten_cons, List.flatten_cons, flatten_set (fun r hr => hl r (List.mem_cons_of_mem _ hr)) h ho, List.set_append_right _ _ (by omega)]
    congr 2
    omega
theorem OwnS.write {H : AHeap} {s : AC} {sz : Nat} {F : Nat → Prop} {rows rows' : List (List AC)} {off : Nat} {vs : List AC} (h : OwnS H s sz F rows) (hw : GW H) (hne : rows ≠ []) (ho : off + vs.length ≤ rows.flatten.length)
    (hl : rows'.length = rows.length) (hr : ∀ r ∈ rows', r.length = sz) (hf : rows'.flatten = rows.flatten.take off ++ vs ++ rows.flatten.drop (off + vs.length)) :
    ∃ b cap H', s = .sl (some (b, 0)) sz rows.length cap ∧ H.store (b, off) vs = some H' ∧ OwnS H' s sz F rows' ∧ Keep F H H' ∧ H'.size = H.size := by
  rcases h.ex with ⟨h1, h2⟩ | ⟨b, e, g, st, cap, h1, hg, h3, h4, h5, h6⟩
  · exact absurd h2 hne
  · have hfl : rows'.flatten.length = rows.flatten.length := by rw [flatten_len hr, flatten_len h.len, hl]
    have hblt := AHeap.get_lt hg
    obtain ⟨H', hH'⟩ : ∃ H', H' = H.stores b e g st off (rows.flatten.map some) (vs.map some) := ⟨_, rfl⟩
    have hst : H.store (b, off) vs = some H' := by
      unfold AHeap.store
      simp only [hg]
      rw [if_pos (by rw [List.length_map]; exact ho), hH']
    have hsz : H'.size = H.size := by rw [hH']; exact AHeap.size_stores _ _ _ _ _ _ _ _
    have hext : ∀ k, H'.ext k = H.ext k := fun k => by rw [hH']; exact AHeap.ext_stores _ _ _ _ _ _ _ _ _
    have hnew : splice (rows.flatten.map some) off (vs.map some) = rows'.flatten.map some := by rw [splice_map _ _ off ho, hf]
    -- what each block holds behind it
    have hget : ∀ m, H'.get m = if m = b then some (.row e g st false (rows'.flatten.map some)) else if (H.ext g).2 = true ∧ ¬ (H.ext g).1 ≤ st + off then (H.get m).map (blot g (st + off) (st + off + vs.length)) else H.get m := by
      intro m
      rw [hH']
      unfold AHeap.stores
      rw [AHeap.get_set, hnew]
      have hlt' : b < (if (H.ext g).2 = true then H.blotGroup g (st + off) (st + off + (vs.map some).length) else H).size := by
        split
        · rw [AHeap.size_blotGroup]; exact hblt
        · exact hblt
      by_cases hm : m = b
      · rw [if_pos ⟨hm, hlt'⟩, if_pos hm]
      · rw [if_neg (fun k => hm k.1), if_neg hm]
        by_cases hx : (H.ext g).2 = true
        · rw [if_pos hx]
          unfold AHeap.blotGroup
          by_cases hy : (H.ext g).1 ≤ st + off
          · rw [if_pos hy, if_neg (fun k => k.2 hy)]
          · rw [if_neg hy, if_pos ⟨hx, hy⟩, AHeap.get_blotAll]
            by_cases hml : m < H.size
            · rw [if_pos hml]; simp
            · rw [if_neg hml]
              have : H.get m = none := by unfold AHeap.get; rw [if_neg hml]
              rw [this]; rfl
        · rw [if_neg hx, if_neg (fun k => hx k.1)]
    -- rows keep their groups
    have rowOf : ∀ x e' g' st' ro' cs', H'.get x = some (.row e' g' st' ro' cs') → ∃ e1 st1 ro1 cs1, H.get x = some (.row e1 g' st1 ro1 cs1) := by
      intro x e' g' st' ro' cs' hx
      rw [hget] at hx
      split at hx
      · next hxb => cases hx; subst hxb; exact ⟨_, _, _, _, hg⟩
      split at hx
      · obtain ⟨o, ho, hb⟩ := Option.map_eq_some_iff.1 hx
        cases o with
        | map _ => cases hb
        | loop => cases hb
        | row e1 g1 st1 ro1 cs1 =>
          simp only [blot] at hb
          split at hb
          · cases hb; exact ⟨_, _, _, _, ho⟩
          · cases hb; exact ⟨_, _, _, _, ho⟩
      · exact ⟨_, _, _, _, hx⟩
    have rowTo : ∀ x e' g' st' ro' cs', H.get x = some (.row e' g' st' ro' cs') → ∃ e1 st1 ro1 cs1, H'.get x = some (.row e1 g' st1 ro1 cs1) := by
      intro x e' g' st' ro' cs' hx
      rw [hget]
      split
      · next hxb => subst hxb; rw [hg] at hx; cases hx; exact ⟨_, _, _, _, rfl⟩
      split
      · rw [hx]
        simp only [Option.map_some, blot]
        split
        · exact ⟨_, _, _, _, rfl⟩
        · exact ⟨_, _, _, _, rfl⟩
      · exact ⟨_, _, _, _, hx⟩
    have keep : Keep F H H' := by
      refine ⟨by omega, fun x hx hn => ?_, fun x hx hn => hext x, ⟨fun hw' x e' g' st' ro' cs' hx => ?_, fun hw' x e' g' st' ro' cs' hx => ?_⟩, fun x e' g' st' ro' cs' hx _ _ => rowOf x _ _ _ _ _ hx⟩
      · rw [hget, if_neg (fun k => hn (by rw [k]; exact h5))]
        split
        · cases ho : H.get x with
          | none => rfl
          | some o =>
            cases o with
            | map _ => rfl
            | loop => rfl
            | row e1 g1 st1 ro1 cs1 =>
              simp only [Option.map_some, blot]
              rw [if_neg]
              rintro rfl
              exact hn (h.grp hw _ _ _ _ _ _ _ _ _ _ _ _ _ _ _ h1 hg ho)
        · rfl
      · obtain ⟨_, _, _, _, hx'⟩ := rowOf _ _ _ _ _ _ hx
        exact hw' _ _ _ _ _ _ hx'
      · obtain ⟨_, _, _, _, hx'⟩ := rowTo _ _ _ _ _ _ hx
        exact hw' _ _ _ _ _ _ hx'
    refine ⟨b, cap, H', h1, hst, ⟨hr, fun x hx => by have := h.lt x hx; omega, .inr ⟨b, e, g, st, cap, by rw [hl]; exact h1, ?_, ?_, ?_, h5, h6⟩, fun hw' b' o z n cap' e' g' st' ro cs x e2 st2 ro2 cs2 hs hb hx => ?_⟩, keep, hsz⟩
    · rw [hget, if_pos rfl]
    · rw [hext, hfl]
      exact h3
    · rw [hl]
      exact h4
    · rw [h1] at hs
      cases hs
      rw [hget, if_pos rfl] at hb
      cases hb
      obtain ⟨_, _, _, _, hx'⟩ := rowOf _ _ _ _ _ _ hx
      exact h.grp hw _ _ _ _ _ _ _ _ _ _ _ _ _ _ _ h1 hg hx'
theorem OwnS.put {H : AHeap} {s : AC} {sz : Nat} {F : Nat → Prop} {rows : List (List AC)} {i : Int} {o : Nat} {r : List AC} {c : AC} {k : AHeap → Prop} (h : OwnS H s sz F rows) (hw : GW H) (h0 : 0 ≤ i) (hr : rows[i.toNat]? = some r) (ho : o < sz)
    (q : ∀ H', OwnS H' s sz F (rows.set i.toNat (r.set o c)) → Keep F H H' → H'.size = H.size → k H') : IA sz s i fun p => FA o p fun p2 => Sto H p2 [c] k := by
  have hlt := (List.getElem?_eq_some_iff.1 hr).1
  have hfl := flatten_len h.len
  have hm : (i.toNat + 1) * sz ≤ rows.length * sz := Nat.mul_le_mul_right _ (by omega)
  rw [Nat.add_mul, Nat.one_mul] at hm
  have hrl := h.len r (List.mem_of_getElem? hr)
  obtain ⟨b, cap, H', e, hst, h1, h2, h3⟩ := h.write (rows' := rows.set i.toNat (r.set o c)) (off := i.toNat * sz + o) (vs := [c]) hw (by intro e; rw [e] at hlt; simp at hlt) (by simp only [List.length_singleton]; omega) List.length_set (fun y hy => by
    rcases List.mem_or_eq_of_mem_set hy with hy | rfl
    · exact h.len y hy
    · rw [List.length_set]; exact hrl) (by
    rw [flatten_set h.len hr ho, List.set_eq_take_append_cons_drop, if_pos (by omega)]
    simp)
  rw [e]
  refine IA.mk h0 (by omega) (FA.mk (Sto.mk (H' := H') ?_ (q H' h1 h2 h3)))
  rw [Nat.zero_add]
  exact hst
end Go.AI
end
section
namespace Go.AI
end Go.AI
end
section
namespace Go.Proofs.YtkpjcnlljdccjaaGreat
open Go.AI Go.Lib
theorem iRow_at {l : List Int} {i : Nat} {p : Int} (h : l[i]? = some p) : (iRows l)[i]? = some [AC.int .i64 p] := by unfold iRows; rw [List.getElem?_map, h]; rfl
theorem ldRow {H : AHeap} {b o : Nat} {p : Int} {k : Int → Prop} (h : H.load (b, o) 1 = some [.int .i64 p]) (q : k p) : Ld [.int .i64] H (.ptr (some (b, o))) k := Ld.all h ((p : Int), ()) rfl rfl q
def setOf (vs : List Int) : List Int := compact (sortI vs)
theorem setOf_asc (vs : List Int) : (setOf vs).Pairwise (· < ·) := (compact_sort vs).1
theorem setOf_mem (vs : List Int) (x : Int) : x ∈ setOf vs ↔ x ∈ vs := (compact_sort vs).2 x
theorem setOf_len (vs : List Int) : (setOf vs).length ≤ vs.length := by
  have h : (sortI vs).length = vs.length := List.length_mergeSort _
  have := compact_length_le (sortI vs)
  unfold setOf
  omega
theorem within_c {v : Int} {H : AHeap} : Fn.Z13 v H fun H' q => H' = H ∧ (q = true ↔ -16384 ≤ v ∧ v ≤ 16384) := by
  refine Z13.run ?_
  unfold Z13.W
  refine CondB.dec (fun h => ⟨rfl, ?_⟩) fun h => ⟨rfl, ?_⟩
  · rw [decide_eq_true_iff]; omega
  · constructor
    · intro e; cases e
    · rintro ⟨a, _⟩; omega
end Go.Proofs.YtkpjcnlljdccjaaGreat
end
section
namespace Go.Proofs.YtkpjcnlljdccjaaGreat
open Go.AI Go.Lib
end Go.Proofs.YtkpjcnlljdccjaaGreat
end
section
namespace Go.AI
def inS (l : List Sp) (v : Int) : Prop := ∃ p ∈ l, p.1 ≤ v ∧ v ≤ p.2
instance (l : List Sp) (v : Int) : Decidable (inS l v) := by unfold inS; infer_instance
def Norm : List Sp → Prop
  | [] => True
  | p :: l => p.1 ≤ p.2 ∧ (∀ q ∈ l, p.2 + 1 < q.1) ∧ Norm l
theorem Norm.le : ∀ {l : List Sp}, Norm l → ∀ p ∈ l, p.1 ≤ p.2
  | _ :: _, h, p, hp => by
    rcases List.mem_cons.1 hp with rfl | hp
    · exact h.1
    · exact h.2.2.le p hp
structure DOk (l : List Sp) : Prop where
  norm : Norm l
  bd : ∀ p ∈ l, -16384 ≤ p.1 ∧ p.2 ≤ 16384
  pos : 0 < l.length
  len : l.length ≤ 256
end Go.AI
end
section
namespace Go.AI
structure Cn where
  k : Int
  vs : List Int
  cs : List Int
  ns : List Int
  rel : Int
  bound : Int
  ts : List (List Int)
def arityOk (k : Int) (n : Nat) : Prop :=
  if k = 2 then n = 2 else if k = 6 then n = 3 else if k = 4 then 3 ≤ n ∧ n ≤ 16 else if k = 7 ∨ k = 8 ∨ k = 10 then 2 ≤ n ∧ n ≤ 16 else 1 ≤ n ∧ n ≤ 16
def scanV (k vars : Int) : List Int → List Int → Int
  | _, [] => 0
  | seen, v :: r => if v < 0 ∨ vars ≤ v then 1 else if v ∈ seen ∧ ¬ (k = 6 ∧ seen.length = 1) then 5 else scanV k vars (seen ++ [v]) r
structure Formed (c : Cn) : Prop where
  cs : (c.cs.length : Int) = if c.k = 1 ∨ c.k = 9 then (c.vs.length : Int) else if c.k = 10 then (c.vs.length : Int) - 1 else 0
  ns : (c.ns.length : Int) = if c.k = 9 then (c.vs.length : Int) else 0
  rel : c.rel = 0 ∨ c.k = 1 ∨ c.k = 10
  bound : c.bound = 0 ∨ ¬ (c.k = 3 ∨ c.k = 4 ∨ c.k = 5 ∨ c.k = 6)
  none : c.k ≠ 5 → c.ts = []
  some : c.k = 5 → c.ts ≠ [] ∧ ∀ t ∈ c.ts, t.length = c.vs.length
structure Ranged (c : Cn) : Prop where
  rel : (c.k = 1 ∨ c.k = 10) → c.rel = 1 ∨ c.rel = 3 ∨ c.rel = 4
  cs : ∀ x ∈ c.cs, -100000 ≤ x ∧ x ≤ 100000 ∧ (c.k = 9 → 0 ≤ x) ∧ (c.k ≠ 9 → x ≠ 0)
  ns : ∀ x ∈ c.ns, 0 ≤ x ∧ x ≤ 100000
  ts : ∀ t ∈ c.ts, ∀ x ∈ t, -16384 ≤ x ∧ x ≤ 16384
  bound : if c.k = 7 then 0 ≤ c.bound ∧ c.bound ≤ 1 else if c.k = 2 ∨ c.k = 8 then -16384 ≤ c.bound ∧ c.bound ≤ 16384 else if c.k = 9 then 0 ≤ c.bound ∧ c.bound ≤ 1099511627776 else -1099511627776 ≤ c.bound ∧ c.bound ≤ 1099511627776
open Classical in
noncomputable def cFault (c : Cn) (vars : Int) : Int :=
  if c.k < 1 ∨ 10 < c.k then 7 else if ¬ arityOk c.k c.vs.length then 3 else if scanV c.k vars [] c.vs ≠ 0 then scanV c.k vars [] c.vs else if ¬ Formed c then 2 else if 200 < c.ts.length then 3 else if ¬ Ranged c then 1 else 0
theorem cFault_ok {c : Cn} {vars : Int} (h : cFault c vars = 0) : 1 ≤ c.k ∧ c.k ≤ 10 ∧ arityOk c.k c.vs.length ∧ scanV c.k vars [] c.vs = 0 ∧ Formed c ∧ c.ts.length ≤ 200 ∧ Ranged c := by
  unfold cFault at h
  split at h
  · cases h
  next h1 =>
  split at h
  · cases h
  next h2 =>
  split at h
  · next h3 => exact absurd h h3
  next h3 =>
  split at h
  · cases h
  next h4 =>
  split at h
  · cases h
  next h5 =>
  split at h
  · cases h
  next h6 =>
  exact ⟨by omega, by omega, Classical.not_not.1 h2, by omega, Classical.not_not.1 h4, by omega, Classical.not_not.1 h6⟩
structure SlL (H : AHeap) (s : AC) (ls : List (List Int)) : Prop where
  ex : ∃ hs : List AC, SlR H s 1 (hs.map fun h => [h]) ∧ hs.length = ls.length ∧ ∀ (i : Nat) (h : AC) (l : List Int), hs[i]? = some h → ls[i]? = some l → SlR H h 1 (iRows l)
theorem SlL.kp {H H' : AHeap} {s : AC} {ls : List (List Int)} (h : SlL H s ls) (k : Kp H H') : SlL H' s ls := by
  obtain ⟨hs, h1, h2, h3⟩ := h.ex
  exact ⟨hs, h1.kp k, h2, fun i x l a b => (h3 i x l a b).kp k⟩
theorem SlL.len {H : AHeap} {s : AC} {ls : List (List Int)} (h : SlL H s ls) {k : Int → Prop} (q : k (ls.length : Int)) : LenS s k := by
  obtain ⟨hs, h1, h2, _⟩ := h.ex
  refine LenS.of h1 ?_
  rw [List.length_map, h2]
  exact q
theorem SlL.at {H : AHeap} {s : AC} {ls : List (List Int)} {i : Int} {l : List Int} {k : AC → Prop} (h : SlL H s ls) (h0 : 0 ≤ i) (hl : ls[i.toNat]? = some l) (q : ∀ x, SlR H x 1 (iRows l) → k x) : IA 1 s i fun p => Ld [.ac] H p k := by
  obtain ⟨hs, h1, h2, h3⟩ := h.ex
  have hlt := (List.getElem?_eq_some_iff.1 hl).1
  obtain ⟨x, hx⟩ : ∃ x, hs[i.toNat]? = some x := ⟨_, List.getElem?_eq_getElem (by omega)⟩
  refine IA.of h1 h0 (r := [x]) (by rw [List.getElem?_map, hx]; rfl) fun b o hld => Ld.all hld ((x : AC), ()) rfl rfl ?_
  exact q x (h3 _ _ _ hx hl)
structure CIn (H : AHeap) (c : Cn) (sv sc sn st : AC) : Prop where
  rv : SlR H sv 1 (iRows c.vs)
  rc : SlR H sc 1 (iRows c.cs)
  rn : SlR H sn 1 (iRows c.ns)
  rt : SlL H st c.ts
  lv : c.vs.length ≤ 9223372036854775807
  lc : c.cs.length ≤ 9223372036854775807
  ln : c.ns.length ≤ 9223372036854775807
  lt : c.ts.length ≤ 9223372036854775807
  ltt : ∀ l ∈ c.ts, l.length ≤ 9223372036854775807
theorem CIn.kp {H H' : AHeap} {c : Cn} {sv sc sn st : AC} (h : CIn H c sv sc sn st) (k : Kp H H') : CIn H' c sv sc sn st := ⟨h.rv.kp k, h.rc.kp k, h.rn.kp k, h.rt.kp k, h.lv, h.lc, h.ln, h.lt, h.ltt⟩
end Go.AI
end
section
namespace Go.Proofs.YtkpjcnlljdccjaaGreat
open Go.AI
set_option linter.unusedVariables false
theorem rwithin_c {v lo hi : Int} {H : AHeap} : Fn.Z25 v lo hi H fun H' q => H' = H ∧ (q = true ↔ lo ≤ v ∧ v ≤ hi) := by
  refine Z25.run ?_
  unfold Z25.W
  refine CondB.dec (fun h => ⟨rfl, ?_⟩) fun h => ⟨rfl, ?_⟩
  · rw [decide_eq_true_iff]; omega
  · constructor
    · intro e; cases e
    · rintro ⟨a, _⟩; omega
theorem arity_c {k : Int} {n : Nat} {H : AHeap} : Fn.Z18 k (n : Int) H fun H' q => H' = H ∧ (q = true ↔ arityOk k n) := by
  refine Z18.run ?_
  unfold Z18.W arityOk
  have w : ∀ {lo hi : Int} {P : Prop}, (lo ≤ (n : Int) ∧ (n : Int) ≤ hi ↔ P) → Fn.Z25 (n : Int) lo hi H fun H' q => H' = H ∧ (q = true ↔ P) := fun {lo hi P} hP => RunT.imp (by rintro H1 (q : Bool) ⟨e, h⟩; exact ⟨e, h.trans hP⟩) rwithin_c
  refine CondB.eq (fun h => ⟨rfl, ?_⟩) fun h2 => CondB.eq (fun h => ⟨rfl, ?_⟩) fun h6 => CondB.eq (fun h => ?_) fun h4 => ?_
  · rw [if_pos h, beq_iff_eq]; omega
  · rw [if_neg h2, if_pos h, beq_iff_eq]; omega
  · rw [if_neg h2, if_neg h6, if_pos h]
    exact w (by omega)
  · rw [if_neg h2, if_neg h6, if_neg h4]
    have big : (k = 7 ∨ k = 8 ∨ k = 10) → Z18.p29 (fun H' q => H' = H ∧ (q = true ↔ if k = 7 ∨ k = 8 ∨ k = 10 then 2 ≤ n ∧ n ≤ 16 else 1 ≤ n ∧ n ≤ 16)) (n : Int) true H := by
      intro hk
      unfold Z18.p29
      rw [if_pos hk]
      exact CondB.pos rfl (w (by omega))
    refine CondB.eq (fun h => big (.inl h)) fun h7 => CondB.eq (fun h => big (.inr (.inl h))) fun h8 => ?_
    by_cases h10 : k = 10
    · rw [show (k == 10) = true from by simpa using h10]
      exact big (.inr (.inr h10))
    · rw [show (k == 10) = false from by simpa using h10]
      unfold Z18.p29
      rw [if_neg (by omega)]
      exact CondB.neg rfl (w (by omega))
abbrev cnCells (c : Cn) (sv sc sn st : AC) : List AC := [.int .i64 c.k, sv, sc, sn, .int .i64 c.rel, .int .i64 c.bound, st]
theorem coefs_c {c : Cn} {sv sc sn st : AC} {H : AHeap} (h : CIn H c sv sc sn st) : Fn.Z19 c.k sv sc sn c.rel c.bound st H fun H' q => q = (if c.k = 1 ∨ c.k = 9 then (c.vs.length : Int) else if c.k = 10 then IntKind.wrap .i64 ((c.vs.length : Int) - 1) else 0) ∧ Kp H H' := by
  refine Z19.run ?_
  unfold Z19.W
  refine New.own fun b H1 hb hs1 o1 k1 => FA.mk (Ld.oi o1 rfl ?_)
  have h1 := h.kp k1
  have yes : (c.k = 1 ∨ c.k = 9) → Z19.p5 (fun H' q => q = (if c.k = 1 ∨ c.k = 9 then (c.vs.length : Int) else if c.k = 10 then IntKind.wrap .i64 ((c.vs.length : Int) - 1) else 0) ∧ Kp H H') (.ptr (some (b, 0))) true H1 := by
    intro hk
    unfold Z19.p5
    refine CondB.pos rfl (FA.mk (Ld.oc o1 rfl (LenS.of h1.rv ?_)))
    rw [iRows_len, if_pos hk]
    exact ⟨rfl, k1⟩
  refine CondB.eq (fun hk => yes (.inl hk)) fun hk1 => FA.mk (Ld.oi o1 rfl ?_)
  by_cases hk9 : c.k = 9
  · rw [show (c.k == 9) = true from by simpa using hk9]
    exact yes (.inr hk9)
  · rw [show (c.k == 9) = false from by simpa using hk9]
    unfold Z19.p5
    rw [if_neg (by omega)]
    refine CondB.neg rfl (FA.mk (Ld.oi o1 rfl (CondB.eq (fun hk => ?_) fun hk => ?_)))
    · refine FA.mk (Ld.oc o1 rfl (LenS.of h1.rv ?_))
      rw [iRows_len, if_pos hk]
      exact ⟨rfl, k1⟩
    · rw [if_neg hk]
      exact ⟨rfl, k1⟩
theorem formed_c {c : Cn} {sv sc sn st : AC} {H : AHeap} (h : CIn H c sv sc sn st) (hv : 1 ≤ c.vs.length) : Fn.Z21 c.k sv sc sn c.rel c.bound st H fun H' q => (q = true ↔ Formed c) ∧ Kp H H' := by
  have llv := h.lv
  have llt := h.lt
  refine Z21.run ?_
  unfold Z21.W
  refine New.own fun b H1 hb hs1 o1 k1 => FA.mk (Ld.oi o1 rfl ?_)
  -- no
  have no : ∀ {H' : AHeap}, Kp H H' → ¬ Formed c → ((false : Bool) = true ↔ Formed c) ∧ Kp H H' := fun k hn => ⟨⟨fun e => (by cases e), fun e => absurd e hn⟩, k⟩
  have p29f : ∀ {H2 : AHeap}, Kp H H2 → ¬ Formed c → Z21.p29 (fun H' q => (q = true ↔ Formed c) ∧ Kp H H') (.ptr (some (b, 0))) true H2 := fun k hn => by
    unfold Z21.p29
    exact CondB.pos rfl (no k hn)
  have p29 : ∀ {H2 : AHeap}, Kp H H2 → Own H2 b (cnCells c sv sc sn st) → (c.cs.length : Int) = (if c.k = 1 ∨ c.k = 9 then (c.vs.length : Int) else if c.k = 10 then (c.vs.length : Int) - 1 else 0) → (c.ns.length : Int) = (if c.k = 9 then (c.vs.length : Int) else 0) → (c.rel = 0 ∨ c.k = 1 ∨ c.k = 10) → (c.bound = 0 ∨ ¬ (c.k = 3 ∨ c.k = 4 ∨ c.k = 5 ∨ c.k = 6)) →
      Z21.p29 (fun H' q => (q = true ↔ Formed c) ∧ Kp H H') (.ptr (some (b, 0))) false H2 := by
    intro H2 k2 o2 f1 f2 f3 f4
    have h2 := h.kp k2
    unfold Z21.p29
    refine CondB.neg rfl (FA.mk (Ld.oi o2 rfl (CondB.ne (fun hk => ?_) fun hk => ?_)))
    · refine FA.mk (Ld.oc o2 rfl (h2.rt.len ⟨?_, k2⟩))
      rw [beq_iff_eq]
      constructor
      · intro e
        exact ⟨f1, f2, f3, f4, fun _ => List.eq_nil_of_length_eq_zero (by omega), fun e => absurd e hk⟩
      · intro hf
        rw [hf.none hk]
        rfl
    · unfold Z21.l46
      refine LoopT.rule (fun m s0 H3 => ∃ i : Nat, i ≤ c.ts.length ∧ m = c.ts.length - i ∧ s0 = (.ptr (some (b, 0)), (i : Int), ()) ∧ H3 = H2 ∧ ∀ t ∈ c.ts.take i, t.length = c.vs.length) c.ts.length ⟨0, by omega, by omega, rfl, rfl, fun t ht => by cases ht⟩ ?_
      rintro m s0 H3 back ⟨i, hi, rfl, rfl, rfl, hall⟩ hback
      simp only [Z21.b46]
      refine FA.mk (Ld.oc o2 rfl (h2.rt.len ?_))
      refine CondB.dec (fun hlt => ?_) fun hge => ?_
      · have hil : i < c.ts.length := by omega
        obtain ⟨t, ht⟩ : ∃ b, c.ts[i]? = some b := ⟨_, List.getElem?_eq_getElem hil⟩
        refine FA.mk (Ld.oc o2 rfl (h2.rt.at (by omega) (by rw [Int.toNat_natCast]; exact ht) fun x hx => LenS.of hx ?_))
        rw [iRows_len]
        refine FA.mk (Ld.oc o2 rfl (LenS.of h2.rv ?_))
        rw [iRows_len]
        refine CondB.ne (fun hne => no k2 fun hf => ?_) fun he => ?_
        · have := (hf.some hk).2 t (List.mem_of_getElem? ht)
          omega
        · refine hback (c.ts.length - (i + 1)) _ _ (by omega) ⟨i + 1, by omega, rfl, ?_, rfl, fun u hu => ?_⟩
          · exact tc rfl (tc ((wrap64 (by omega) (by omega)).trans (by omega)) rfl)
          · rw [List.take_add_one, ht] at hu
            rcases List.mem_append.1 hu with hu | hu
            · exact hall u hu
            · obtain rfl := List.mem_singleton.1 hu
              omega
      · have hil : i = c.ts.length := by omega
        subst hil
        rw [List.take_length] at hall
        refine FA.mk (Ld.oc o2 rfl (h2.rt.len ⟨?_, k2⟩))
        rw [decide_eq_true_iff]
        constructor
        · intro e
          exact ⟨f1, f2, f3, f4, fun e => absurd hk e, fun _ => ⟨fun e' => by rw [e'] at e; simp at e, hall⟩⟩
        · intro hf
          have := (hf.some hk).1
          have : c.ts.length ≠ 0 := fun e => this (List.eq_nil_of_length_eq_zero e)
          omega
  have p21 : ∀ {H2 : AHeap}, Kp H H2 → Own H2 b (cnCells c sv sc sn st) → (c.cs.length : Int) = (if c.k = 1 ∨ c.k = 9 then (c.vs.length : Int) else if c.k = 10 then (c.vs.length : Int) - 1 else 0) → (c.ns.length : Int) = (if c.k = 9 then (c.vs.length : Int) else 0) → (c.rel = 0 ∨ c.k = 1 ∨ c.k = 10) →
      Z21.p21 (fun H' q => (q = true ↔ Formed c) ∧ Kp H H') (.ptr (some (b, 0))) false H2 := by
    intro H2 k2 o2 f1 f2 f3
    unfold Z21.p21
    refine CondB.neg rfl (FA.mk (Ld.oi o2 rfl (CondB.ne (fun hb0 => ?_) fun hb0 => p29 k2 o2 f1 f2 f3 (.inl hb0))))
    have bad : (c.k = 3 ∨ c.k = 4 ∨ c.k = 5 ∨ c.k = 6) → ¬ Formed c := fun hk hf => hf.bound.elim (fun e => absurd e hb0) fun e => e hk
    refine FA.mk (Ld.oi o2 rfl (CondB.eq (fun hk => p29f k2 (bad (.inl hk))) fun h3 => FA.mk (Ld.oi o2 rfl (CondB.eq (fun hk => p29f k2 (bad (.inr (.inl hk)))) fun h4 => FA.mk (Ld.oi o2 rfl (CondB.eq (fun hk => p29f k2 (bad (.inr (.inr (.inl hk))))) fun h5 => FA.mk (Ld.oi o2 rfl ?_)))))))
    by_cases h6 : c.k = 6
    · rw [show (c.k == 6) = true from by simpa using h6]
      exact p29f k2 (bad (.inr (.inr (.inr h6))))
    · rw [show (c.k == 6) = false from by simpa using h6]
      exact p29 k2 o2 f1 f2 f3 (.inr (by omega))
  have p13 : ∀ {H2 : AHeap}, Kp H H2 → Own H2 b (cnCells c sv sc sn st) → (c.cs.length : Int) = (if c.k = 1 ∨ c.k = 9 then (c.vs.length : Int) else if c.k = 10 then (c.vs.length : Int) - 1 else 0) → (c.ns.length : Int) = (if c.k = 9 then (c.vs.length : Int) else 0) →
      Z21.p13 (fun H' q => (q = true ↔ Formed c) ∧ Kp H H') (.ptr (some (b, 0))) false H2 := by
    intro H2 k2 o2 f1 f2
    unfold Z21.p13
    refine CondB.neg rfl (FA.mk (Ld.oi o2 rfl (CondB.ne (fun hr0 => ?_) fun hr0 => p21 k2 o2 f1 f2 (.inl hr0))))
    refine FA.mk (Ld.oi o2 rfl (CondB.ne (fun h1 => FA.mk (Ld.oi o2 rfl ?_)) fun h1 => p21 k2 o2 f1 f2 (.inr (.inl h1))))
    by_cases h10 : c.k = 10
    · rw [show (c.k != 10) = false from by rw [h10]; rfl]
      exact p21 k2 o2 f1 f2 (.inr (.inr h10))
    · rw [show (c.k != 10) = true from by simpa using h10]
      unfold Z21.p21
      exact CondB.pos rfl (no k2 fun hf => by have := hf.rel; omega)
  have p10 : ∀ (n : Int), n = (if c.k = 9 then (c.vs.length : Int) else 0) → Z21.p10 (fun H' q => (q = true ↔ Formed c) ∧ Kp H H') (.ptr (some (b, 0))) n H1 := by
    intro n hn
    have h1 := h.kp k1
    unfold Z21.p10
    refine FA.mk (Ld.oc o1 rfl (LenS.of h1.rc ?_))
    rw [iRows_len]
    refine Ld.o7 o1 c.k sv sc sn c.rel c.bound st rfl (RunT.imp ?_ (coefs_c h1))
    rintro H2 (q : Int) ⟨rfl, k2⟩
    have k12 := k1.trans k2
    have o2 := o1.kp k2
    have e10 : (if c.k = 1 ∨ c.k = 9 then (c.vs.length : Int) else if c.k = 10 then IntKind.wrap .i64 ((c.vs.length : Int) - 1) else 0) = (if c.k = 1 ∨ c.k = 9 then (c.vs.length : Int) else if c.k = 10 then (c.vs.length : Int) - 1 else 0) := by
      rw [wrap64 (by omega) (by omega)]
    rw [e10]
    have sm : Same1 H1 H2 (.ptr (some (b, 0 + 2))) 1 := Same1.mk ((o2.cell (o := 0 + 2) (c := sc) rfl).trans (o1.cell (o := 0 + 2) (c := sc) rfl).symm)
    refine CondB.ne (fun hne => ⟨sm, ?_⟩) fun he => FA.mk (Ld.oc o2 rfl (LenS.of (h1.kp k2).rn ?_))
    · unfold Z21.p13
      exact CondB.pos rfl (no k12 fun hf => hne hf.cs)
    · rw [iRows_len]
      refine ⟨sm, ?_⟩
      by_cases hc : (c.ns.length : Int) = n
      · rw [show ((c.ns.length : Int) != n) = false from by rw [hc]; simp]
        exact p13 k12 o2 he (by rw [hc, hn])
      · rw [show ((c.ns.length : Int) != n) = true from by simpa using hc]
        unfold Z21.p13
        exact CondB.pos rfl (no k12 fun hf => hc (by rw [hf.ns, hn]))
  refine CondB.eq (fun hk => FA.mk (Ld.oc o1 rfl (LenS.of (h.kp k1).rv ?_))) fun hk => p10 0 (by rw [if_neg hk])
  rw [iRows_len]
  exact p10 _ (by rw [if_pos hk])
end Go.Proofs.YtkpjcnlljdccjaaGreat
end
