/- Joined by a program: what the proof of the law leans on, part 6. -/
import Derived.Test.YtanaaabejeeakaaA5
import Derived.Test.YtanaaabejeeakaaRows
import Derived.WalkKit
import Derived.ProofKit
import Derived.OpenShut
import Derived.JoinedCond
import Derived.Below
import Derived.ChangeSame
import Derived.Lib.SlicesCompact
set_option linter.unusedVariables false
set_option linter.unusedSimpArgs false
section
namespace Go.Proofs.Ytanaaabejeeakaa
open Go.AI
set_option maxRecDepth 100000
set_option maxHeartbeats 2000000
set_option linter.unusedVariables false
attribute [local irreducible] Ld Sto New NewS NewM NN NZ GE0 FA IA IAP LenS Slc App Cpy Clr MkS Fnc NilQ IxS Look MSet Run CV RunT CVT LoopT Same1 Same2 wpC wpOs wpT wpO wpOp
def Z33.c : RC := (.seq (.ops [.put 8 (.mov (cI 0))]) (.seq (.seq (.ops [pM 12 2, pM 13 3, .put 14 (.cm .eq (.tm 12) (.tm 13))]) (.cond 14 (.seq (.ops [pM 15 2, pM 8 15]) .ret) .skip)) (.seq (.ops [pM 16 1, pM 17 2, pM 18 3, .put 19 (.bld [(.int .i64 0), (.int .i64 0), (.int .i64 0)] [(0, 1, (.tm 16)), (1, 1, (.tm 17)), (2, 1, (.tm 18))]), .put 9 (.new 77 [(.int .i64 0), (.int .i64 0), (.int .i64 0)]), .run (.st 3 (.tm 9) (.tm 19))]) (.seq (.ops [pM 21 0, .put 22 (.nn (.tm 21)), .put 23 (.fa 1 (.tm 22)), .put 24 (.ld false [.ac] (.tm 23)), .put 25 (.ld true [.int .i64, .int .i64, .int .i64] (.tm 9)), .put 26 (.look (some 3) false [.int .i64] [(.int .i64 0)] true (.tm 24) (.tm 25)), pM 20 26, .put 27 (.ex (.tm 20) 0), .put 28 (.ex (.tm 20) 1), pM 10 27, pM 11 28]) (.seq (.seq (.ops [pM 29 11, .put 30 (.not (.tm 29))]) (.cond 30 (.seq (.ops [pM 31 0, .put 32 (.nn (.tm 31)), .put 33 (.fa 0 (.tm 32)), .put 34 (.ld false [.ac] (.tm 33)), .put 35 (.lens (.tm 34)), pM 10 35]) (.seq (.ops [pM 36 0, pM 37 0, .put 38 (.nn (.tm 37)), .put 39 (.fa 0 (.tm 38)), .put 40 (.ld false [.ac] (.tm 39)), .put 41 (.ld true [.int .i64, .int .i64, .int .i64] (.tm 9)), .put 42 (.blds 77 3 1 [(.int .i64 0), (.int .i64 0), (.int .i64 0)] [(0, 3, (.tm 41))]), .put 43 (.app 77 3 24 (.tm 40) (.tm 42)), .put 44 (.nn (.tm 36)), .put 45 (.fa 0 (.tm 44)), .run (.st 1 (.tm 45) (.tm 43))]) (.ops [pM 46 0, .put 47 (.nn (.tm 46)), .put 48 (.fa 1 (.tm 47)), .put 49 (.ld false [.ac] (.tm 48)), .put 50 (.ld true [.int .i64, .int .i64, .int .i64] (.tm 9)), pM 51 10, .run (.mset (some 3) (.tm 49) (.tm 50) (.tm 51))]))) .skip)) (.seq (.ops [pM 52 10, pM 8 52]) .ret))))))
abbrev Z33.KQ (Q : AHeap → Int → Prop) : AV → AHeap → Prop := KQT [(false, [.int .i64])] Q
abbrev Z33.K (Q : AHeap → Int → Prop) : Ex → Env → AHeap → Prop := kTop [.tm 8] (Z33.KQ Q)
def Z33.W (a0 : AC) (a1 : Int) (a2 : Int) (a3 : Int) (H : AHeap) (Q : AHeap → Int → Prop) : Prop := CondB (a2 == a3) (Q H a2) (New 77 [(.int .i64 0), (.int .i64 0), (.int .i64 0)] H fun p_1 H_2 => Sto H_2 p_1 [(.int .i64 a1), (.int .i64 a2), (.int .i64 a3)] fun H_3 => NN a0 <| FA 1 a0 fun q_4 => Ld [.ac] H_3 q_4 fun (v_5 : AC) => Ld [.int .i64, .int .i64, .int .i64] H_3 p_1 fun (v_6 : Int) (v_7 : Int) (v_8 : Int) => Look (some 3) false [.int .i64] [(.int .i64 0)] H_3 v_5 [v_6, v_7, v_8] fun b_9 (v_10 : Int) => CondB (!b_9) (NN a0 <| FA 0 a0 fun q_11 => Ld [.ac] H_3 q_11 fun (v_12 : AC) => LenS v_12 fun n_13 => NN a0 <| FA 0 a0 fun q_14 => Ld [.ac] H_3 q_14 fun (v_15 : AC) => Ld [.int .i64, .int .i64, .int .i64] H_3 p_1 fun (v_16 : Int) (v_17 : Int) (v_18 : Int) => NewS 77 3 1 [(.int .i64 v_16), (.int .i64 v_17), (.int .i64 v_18)] H_3 fun p_19 H_20 => App 77 3 24 v_15 p_19 H_20 fun s_21 H_22 => NN a0 <| FA 0 a0 fun q_23 => Sto H_22 q_23 [s_21] fun H_24 => NN a0 <| FA 1 a0 fun q_25 => Ld [.ac] H_24 q_25 fun (v_26 : AC) => Ld [.int .i64, .int .i64, .int .i64] H_24 p_1 fun (v_27 : Int) (v_28 : Int) (v_29 : Int) => MSet (some 3) H_24 v_26 [v_27, v_28, v_29] (.one (.int .i64 n_13)) fun H_30 => Q H_30 n_13) (Q H_3 v_10))
theorem Z33.ok {a0 : AC} {a1 : Int} {a2 : Int} {a3 : Int} {H : AHeap} (Q : AHeap → Int → Prop) : Z33.W a0 a1 a2 a3 H Q → wpF Try.prog Z33.c [.tm 8] (envOf [(.one a0), (.one (.int .i64 a1)), (.one (.int .i64 a2)), (.one (.int .i64 a3))]) H (Z33.KQ Q) := cO (sP (o_mov rfl (sK (c_seq (cO (sP (o_mov rfl (sP (o_mov rfl (sP (o_eq rfl rfl (sK (c_if rfl (cO (sP (o_mov rfl (sP (o_mov rfl (sK (c_ret (k_seqR (k_topR (r_one rfl (r_nil (fun h => ⟨((a2 : Int), ()), rfl, h⟩)))))))))))) (c_skip (k_seq (cO (sP (o_mov rfl (sP (o_mov rfl (sP (o_mov rfl (sP (o_bld rfl (sP (o_new (fun p_1 H_2 => s_cons (w_run (o_st rfl rfl rfl (fun H_3 => sK (cO (sP (o_mov rfl (sP (o_nn rfl (sP (o_fa rfl (fun q_4 => sP (o_ld1 rfl (fun (v_5 : AC) => sP (o_ld3 rfl (fun (v_6 : Int) (v_7 : Int) (v_8 : Int) => sP (o_look1 rfl rfl (fun b_9 (v_10 : Int) => sP (o_mov rfl (sP (o_ex rfl rfl rfl (sP (o_ex rfl rfl rfl (sP (o_mov rfl (sP (o_mov rfl (sK (c_seq (cO (sP (o_mov rfl (sP (o_not rfl (sK (c_if rfl (cO (sP (o_mov rfl (sP (o_nn rfl (sP (o_fa rfl (fun q_11 => sP (o_ld1 rfl (fun (v_12 : AC) => sP (o_lens rfl (fun n_13 => sP (o_mov rfl (sK (cO (sP (o_mov rfl (sP (o_mov rfl (sP (o_nn rfl (sP (o_fa rfl (fun q_14 => sP (o_ld1 rfl (fun (v_15 : AC) => sP (o_ld3 rfl (fun (v_16 : Int) (v_17 : Int) (v_18 : Int) => sP (o_blds rfl (fun p_19 H_20 => sP (o_app rfl rfl (fun s_21 H_22 => sP (o_nn rfl (sP (o_fa rfl (fun q_23 => s_cons (w_run (o_st rfl rfl rfl (fun H_24 => sK (c_ops (sP (o_mov rfl (sP (o_nn rfl (sP (o_fa rfl (fun q_25 => sP (o_ld1 rfl (fun (v_26 : AC) => sP (o_ld3 rfl (fun (v_27 : Int) (v_28 : Int) (v_29 : Int) => sP (o_mov rfl (s_cons (w_run (o_mset rfl rfl rfl rfl (fun H_30 => sK (cO (sP (o_mov rfl (sP (o_mov rfl (sK (c_ret (k_topR (r_one rfl (r_nil (fun h => ⟨((n_13 : Int), ()), rfl, h⟩))))))))))))))))))))))))))))))))))))))))))))))))))))))))))))))))))) (c_skip (k_seq (cO (sP (o_mov rfl (sP (o_mov rfl (sK (c_ret (k_topR (r_one rfl (r_nil (fun h => ⟨((v_10 : Int), ()), rfl, h⟩)))))))))))))))))))))))))))))))))))))))))))))))))))))))))))))))))))))))))))
theorem Z33.run {a0 : AC} {a1 : Int} {a2 : Int} {a3 : Int} {H : AHeap} {Q : AHeap → Int → Prop} (h : Z33.W a0 a1 a2 a3 H Q) : Fn.Z33 a0 a1 a2 a3 H Q := by
  unfold Fn.Z33 RunT
  exact runK aggs_ok [(4, []), (7, []), (8, [])] Try.func80 rfl (by kernel_rfl) (by kernel_rfl) (by kernel_rfl) (by kernel_rfl) (by kernel_rfl) (Z33.ok Q h)
def Z32.c18 : RC := (.cond 34 (.seq (.ops [pM 41 1, pM 8 41]) .ret) .skip)
def Z32.c6 : RC := (.cond 21 (.seq (.ops [pM 29 2, pM 8 29]) .ret) (.seq (.ops [pM 31 1, .put 32 (.cm .eq (.tm 31) (.ct (.one (.int .i64 (-1))))), pM 30 32]) (.cond 30 (.seq (.ops [pM 33 3, pM 8 33]) .ret) (.seq (.ops [pM 35 2, .put 36 (.cm .eq (.tm 35) (.ct (.one (.int .i64 (-2))))), pM 37 36, .gput 38 37 true (.mov (.tm 3)), .gput 39 37 true (.cm .eq (.tm 38) (.ct (.one (.int .i64 (-1))))), .put 40 (.pick (.tm 37) (.tm 39) (.ct (.one (.bool false)))), pM 34 40]) Z32.c18))))
def Z32.c : RC := (.seq (.ops [.put 8 (.mov (cI 0))]) (.seq (.block 0 (.seq (.ops [pM 22 1, .put 23 (.cm .eq (.tm 22) (.ct (.one (.int .i64 (-2))))), pM 24 23, .gput 25 24 false (.mov (.tm 2)), .gput 26 24 false (.mov (.tm 3)), .gput 27 24 false (.cm .eq (.tm 25) (.tm 26)), .put 28 (.pick (.tm 24) (.ct (.one (.bool true))) (.tm 27)), pM 21 28]) Z32.c6)) (.seq (.ops [pM 42 1, pM 43 2, pM 44 3, .put 45 (.bld [(.int .i64 0), (.int .i64 0), (.int .i64 0)] [(0, 1, (.tm 42)), (1, 1, (.tm 43)), (2, 1, (.tm 44))]), .put 9 (.new 115 [(.int .i64 0), (.int .i64 0), (.int .i64 0)]), .run (.st 3 (.tm 9) (.tm 45))]) (.seq (.seq (.ops [pM 47 0, .put 48 (.nn (.tm 47)), .put 49 (.fa 2 (.tm 48)), .put 50 (.ld false [.ac] (.tm 49)), .put 51 (.ld true [.int .i64, .int .i64, .int .i64] (.tm 9)), .put 52 (.look (some 3) false [.int .i64] [(.int .i64 0)] true (.tm 50) (.tm 51)), pM 46 52, .put 53 (.ex (.tm 46) 0), .put 54 (.ex (.tm 46) 1), pM 10 53, pM 11 54]) (.seq (.ops [pM 55 11]) (.cond 55 (.seq (.ops [pM 56 10, pM 8 56]) .ret) .skip))) (.seq (.ops [pM 57 0, pM 58 1, .put 59 (.call 90 [(.tm 57), (.tm 58)]), pM 60 0, pM 61 2, .put 62 (.call 90 [(.tm 60), (.tm 61)]), pM 63 0, pM 64 3, .put 65 (.call 90 [(.tm 63), (.tm 64)]), .put 66 (.min3 (.tm 59) (.tm 62) (.tm 65)), pM 12 66]) (.seq (.ops [pM 68 0, pM 69 1, pM 70 12, .put 71 (.call 98 [(.tm 68), (.tm 69), (.tm 70)]), pM 67 71, .put 72 (.ex (.tm 67) 0), .put 73 (.ex (.tm 67) 1), pM 13 72, pM 14 73]) (.seq (.ops [pM 75 0, pM 76 2, pM 77 12, .put 78 (.call 98 [(.tm 75), (.tm 76), (.tm 77)]), pM 74 78, .put 79 (.ex (.tm 74) 0), .put 80 (.ex (.tm 74) 1), pM 15 79, pM 16 80]) (.seq (.ops [pM 82 0, pM 83 3, pM 84 12, .put 85 (.call 98 [(.tm 82), (.tm 83), (.tm 84)]), pM 81 85, .put 86 (.ex (.tm 81) 0), .put 87 (.ex (.tm 81) 1), pM 17 86, pM 18 87]) (.seq (.ops [pM 88 0, pM 89 13, pM 90 15, pM 91 17, .put 92 (.call 81 [(.tm 88), (.tm 89), (.tm 90), (.tm 91)]), pM 19 92]) (.seq (.ops [pM 93 0, pM 94 12, pM 95 19, pM 96 0, pM 97 14, pM 98 16, pM 99 18, .put 100 (.call 81 [(.tm 96), (.tm 97), (.tm 98), (.tm 99)]), .put 101 (.call 80 [(.tm 93), (.tm 94), (.tm 95), (.tm 100)]), pM 20 101]) (.seq (.ops [pM 102 0, .put 103 (.nn (.tm 102)), .put 104 (.fa 2 (.tm 103)), .put 105 (.ld false [.ac] (.tm 104)), .put 106 (.ld true [.int .i64, .int .i64, .int .i64] (.tm 9)), pM 107 20, .run (.mset (some 3) (.tm 105) (.tm 106) (.tm 107))]) (.seq (.ops [pM 108 20, pM 8 108]) .ret))))))))))))
abbrev Z32.KQ (Q : AHeap → Int → Prop) : AV → AHeap → Prop := KQT [(false, [.int .i64])] Q
abbrev Z32.K (Q : AHeap → Int → Prop) : Ex → Env → AHeap → Prop := kTop [.tm 8] (Z32.KQ Q)
abbrev Z32.k3 (Q : AHeap → Int → Prop) : Ex → Env → AHeap → Prop := kSeq (fun t H => wpC Try.prog (.seq (.ops [pM 42 1, pM 43 2, pM 44 3, .put 45 (.bld [(.int .i64 0), (.int .i64 0), (.int .i64 0)] [(0, 1, (.tm 42)), (1, 1, (.tm 43)), (2, 1, (.tm 44))]), .put 9 (.new 115 [(.int .i64 0), (.int .i64 0), (.int .i64 0)]), .run (.st 3 (.tm 9) (.tm 45))]) (.seq (.seq (.ops [pM 47 0, .put 48 (.nn (.tm 47)), .put 49 (.fa 2 (.tm 48)), .put 50 (.ld false [.ac] (.tm 49)), .put 51 (.ld true [.int .i64, .int .i64, .int .i64] (.tm 9)), .put 52 (.look (some 3) false [.int .i64] [(.int .i64 0)] true (.tm 50) (.tm 51)), pM 46 52, .put 53 (.ex (.tm 46) 0), .put 54 (.ex (.tm 46) 1), pM 10 53, pM 11 54]) (.seq (.ops [pM 55 11]) (.cond 55 (.seq (.ops [pM 56 10, pM 8 56]) .ret) .skip))) (.seq (.ops [pM 57 0, pM 58 1, .put 59 (.call 90 [(.tm 57), (.tm 58)]), pM 60 0, pM 61 2, .put 62 (.call 90 [(.tm 60), (.tm 61)]), pM 63 0, pM 64 3, .put 65 (.call 90 [(.tm 63), (.tm 64)]), .put 66 (.min3 (.tm 59) (.tm 62) (.tm 65)), pM 12 66]) (.seq (.ops [pM 68 0, pM 69 1, pM 70 12, .put 71 (.call 98 [(.tm 68), (.tm 69), (.tm 70)]), pM 67 71, .put 72 (.ex (.tm 67) 0), .put 73 (.ex (.tm 67) 1), pM 13 72, pM 14 73]) (.seq (.ops [pM 75 0, pM 76 2, pM 77 12, .put 78 (.call 98 [(.tm 75), (.tm 76), (.tm 77)]), pM 74 78, .put 79 (.ex (.tm 74) 0), .put 80 (.ex (.tm 74) 1), pM 15 79, pM 16 80]) (.seq (.ops [pM 82 0, pM 83 3, pM 84 12, .put 85 (.call 98 [(.tm 82), (.tm 83), (.tm 84)]), pM 81 85, .put 86 (.ex (.tm 81) 0), .put 87 (.ex (.tm 81) 1), pM 17 86, pM 18 87]) (.seq (.ops [pM 88 0, pM 89 13, pM 90 15, pM 91 17, .put 92 (.call 81 [(.tm 88), (.tm 89), (.tm 90), (.tm 91)]), pM 19 92]) (.seq (.ops [pM 93 0, pM 94 12, pM 95 19, pM 96 0, pM 97 14, pM 98 16, pM 99 18, .put 100 (.call 81 [(.tm 96), (.tm 97), (.tm 98), (.tm 99)]), .put 101 (.call 80 [(.tm 93), (.tm 94), (.tm 95), (.tm 100)]), pM 20 101]) (.seq (.ops [pM 102 0, .put 103 (.nn (.tm 102)), .put 104 (.fa 2 (.tm 103)), .put 105 (.ld false [.ac] (.tm 104)), .put 106 (.ld true [.int .i64, .int .i64, .int .i64] (.tm 9)), pM 107 20, .run (.mset (some 3) (.tm 105) (.tm 106) (.tm 107))]) (.seq (.ops [pM 108 20, pM 8 108]) .ret)))))))))) t H (Z32.K Q)) (Z32.K Q)
def Z32.p18 (Q : AHeap → Int → Prop) (x0 : AC) (x1 : Int) (x2 : Int) (x3 : Int) (x34 : Bool) (H : AHeap) : Prop := CondB x34 (Q H x1) (New 115 [(.int .i64 0), (.int .i64 0), (.int .i64 0)] H fun p_1 H_2 => Sto H_2 p_1 [(.int .i64 x1), (.int .i64 x2), (.int .i64 x3)] fun H_3 => NN x0 <| FA 2 x0 fun q_4 => Ld [.ac] H_3 q_4 fun (v_5 : AC) => Ld [.int .i64, .int .i64, .int .i64] H_3 p_1 fun (v_6 : Int) (v_7 : Int) (v_8 : Int) => Look (some 3) false [.int .i64] [(.int .i64 0)] H_3 v_5 [v_6, v_7, v_8] fun b_9 (v_10 : Int) => CondB b_9 (Q H_3 v_10) (Fn.Z38 x0 x1 H_3 fun H_11 (v_12 : Int) => Fn.Z38 x0 x2 H_11 fun H_13 (v_14 : Int) => Fn.Z38 x0 x3 H_13 fun H_15 (v_16 : Int) => Fn.Z37 x0 x1 (if v_16 < (if v_14 < v_12 then v_14 else v_12) then v_16 else (if v_14 < v_12 then v_14 else v_12)) H_15 fun H_17 (v_18 : Int) (v_19 : Int) => Fn.Z37 x0 x2 (if v_16 < (if v_14 < v_12 then v_14 else v_12) then v_16 else (if v_14 < v_12 then v_14 else v_12)) H_17 fun H_20 (v_21 : Int) (v_22 : Int) => Fn.Z37 x0 x3 (if v_16 < (if v_14 < v_12 then v_14 else v_12) then v_16 else (if v_14 < v_12 then v_14 else v_12)) H_20 fun H_23 (v_24 : Int) (v_25 : Int) => Fn.Z32 x0 v_18 v_21 v_24 H_23 fun H_26 (v_27 : Int) => Fn.Z32 x0 v_19 v_22 v_25 H_26 fun H_28 (v_29 : Int) => Fn.Z33 x0 (if v_16 < (if v_14 < v_12 then v_14 else v_12) then v_16 else (if v_14 < v_12 then v_14 else v_12)) v_27 v_29 H_28 fun H_30 (v_31 : Int) => NN x0 <| FA 2 x0 fun q_32 => Ld [.ac] H_30 q_32 fun (v_33 : AC) => Ld [.int .i64, .int .i64, .int .i64] H_30 p_1 fun (v_34 : Int) (v_35 : Int) (v_36 : Int) => MSet (some 3) H_30 v_33 [v_34, v_35, v_36] (.one (.int .i64 v_31)) fun H_37 => Q H_37 v_31))
def Z32.p6 (Q : AHeap → Int → Prop) (x0 : AC) (x1 : Int) (x2 : Int) (x3 : Int) (x21 : Bool) (H : AHeap) : Prop := CondB x21 (Q H x2) (CondB (x1 == (-1)) (Q H x3) (CondB (x2 == (-2)) (Z32.p18 Q x0 x1 x2 x3 (x3 == (-1)) H) (Z32.p18 Q x0 x1 x2 x3 false H)))
def Z32.W (a0 : AC) (a1 : Int) (a2 : Int) (a3 : Int) (H : AHeap) (Q : AHeap → Int → Prop) : Prop := CondB (a1 == (-2)) (Z32.p6 Q a0 a1 a2 a3 true H) (Z32.p6 Q a0 a1 a2 a3 (a2 == a3) H)
theorem Z32.p18_okE (Q : AHeap → Int → Prop) {x0 : AC} {x1 : Int} {x2 : Int} {x3 : Int} {x34 : Bool} {H : AHeap} (j : Env) : Z32.p18 Q x0 x1 x2 x3 x34 H → wpC Try.prog Z32.c18 (upd (upd (upd (upd (upd j 0 (.one x0)) 1 (.one (.int .i64 x1))) 2 (.one (.int .i64 x2))) 3 (.one (.int .i64 x3))) 34 (.one (.bool x34))) H (kBlk 0 (Z32.k3 Q)) := c_if rfl (cO (sP (o_mov rfl (sP (o_mov rfl (sK (c_ret (k_blkR (k_seqR (k_topR (r_one rfl (r_nil (fun h => ⟨((x1 : Int), ()), rfl, h⟩))))))))))))) (c_skip (k_blk (k_seq (cO (sP (o_mov rfl (sP (o_mov rfl (sP (o_mov rfl (sP (o_bld rfl (sP (o_new (fun p_1 H_2 => s_cons (w_run (o_st rfl rfl rfl (fun H_3 => sK (c_seq (cO (sP (o_mov rfl (sP (o_nn rfl (sP (o_fa rfl (fun q_4 => sP (o_ld1 rfl (fun (v_5 : AC) => sP (o_ld3 rfl (fun (v_6 : Int) (v_7 : Int) (v_8 : Int) => sP (o_look1 rfl rfl (fun b_9 (v_10 : Int) => sP (o_mov rfl (sP (o_ex rfl rfl rfl (sP (o_ex rfl rfl rfl (sP (o_mov rfl (sP (o_mov rfl (sK (cO (sP (o_mov rfl (sK (c_if rfl (cO (sP (o_mov rfl (sP (o_mov rfl (sK (c_ret (k_seqR (k_topR (r_one rfl (r_nil (fun h => ⟨((v_10 : Int), ()), rfl, h⟩)))))))))))) (c_skip (k_seq (cO (sP (o_mov rfl (sP (o_mov rfl (sP (o_call rfl (cv_1 (fun H_11 (v_12 : Int) => sP (o_mov rfl (sP (o_mov rfl (sP (o_call rfl (cv_1 (fun H_13 (v_14 : Int) => sP (o_mov rfl (sP (o_mov rfl (sP (o_call rfl (cv_1 (fun H_15 (v_16 : Int) => sP (o_min3 rfl rfl rfl (sP (o_mov rfl (sK (cO (sP (o_mov rfl (sP (o_mov rfl (sP (o_mov rfl (sP (o_call rfl (cv_o1_o1 (fun H_17 (v_18 : Int) (v_19 : Int) => sP (o_mov rfl (sP (o_ex rfl rfl rfl (sP (o_ex rfl rfl rfl (sP (o_mov rfl (sP (o_mov rfl (sK (cO (sP (o_mov rfl (sP (o_mov rfl (sP (o_mov rfl (sP (o_call rfl (cv_o1_o1 (fun H_20 (v_21 : Int) (v_22 : Int) => sP (o_mov rfl (sP (o_ex rfl rfl rfl (sP (o_ex rfl rfl rfl (sP (o_mov rfl (sP (o_mov rfl (sK (cO (sP (o_mov rfl (sP (o_mov rfl (sP (o_mov rfl (sP (o_call rfl (cv_o1_o1 (fun H_23 (v_24 : Int) (v_25 : Int) => sP (o_mov rfl (sP (o_ex rfl rfl rfl (sP (o_ex rfl rfl rfl (sP (o_mov rfl (sP (o_mov rfl (sK (cO (sP (o_mov rfl (sP (o_mov rfl (sP (o_mov rfl (sP (o_mov rfl (sP (o_call rfl (cv_1 (fun H_26 (v_27 : Int) => sP (o_mov rfl (sK (cO (sP (o_mov rfl (sP (o_mov rfl (sP (o_mov rfl (sP (o_mov rfl (sP (o_mov rfl (sP (o_mov rfl (sP (o_mov rfl (sP (o_call rfl (cv_1 (fun H_28 (v_29 : Int) => sP (o_call rfl (cv_1 (fun H_30 (v_31 : Int) => sP (o_mov rfl (sK (cO (sP (o_mov rfl (sP (o_nn rfl (sP (o_fa rfl (fun q_32 => sP (o_ld1 rfl (fun (v_33 : AC) => sP (o_ld3 rfl (fun (v_34 : Int) (v_35 : Int) (v_36 : Int) => sP (o_mov rfl (s_cons (w_run (o_mset rfl rfl rfl rfl (fun H_37 => sK (cO (sP (o_mov rfl (sP (o_mov rfl (sK (c_ret (k_topR (r_one rfl (r_nil (fun h => ⟨((v_31 : Int), ()), rfl, h⟩)))))))))))))))))))))))))))))))))))))))))))))))))))))))))))))))))))))))))))))))))))))))))))))))))))))))))))))))))))))))))))))))))))))))))))))))))))))))))))))))))))))))))))))))))))))))))))))))))))))))))))))))
theorem Z32.p18_ok (Q : AHeap → Int → Prop) {x0 : AC} {x1 : Int} {x2 : Int} {x3 : Int} {x34 : Bool} {H : AHeap} {t : Env} (h0 : t 0 = (.one x0)) (h1 : t 1 = (.one (.int .i64 x1))) (h2 : t 2 = (.one (.int .i64 x2))) (h3 : t 3 = (.one (.int .i64 x3))) (h34 : t 34 = (.one (.bool x34))) (h : Z32.p18 Q x0 x1 x2 x3 x34 H) : wpC Try.prog Z32.c18 t H (kBlk 0 (Z32.k3 Q)) := by
  have g := Z32.p18_okE Q t h
  rw [upd_self h0] at g
  rw [upd_self h1] at g
  rw [upd_self h2] at g
  rw [upd_self h3] at g
  rw [upd_self h34] at g
  exact g
theorem Z32.p6_okE (Q : AHeap → Int → Prop) {x0 : AC} {x1 : Int} {x2 : Int} {x3 : Int} {x21 : Bool} {H : AHeap} (j : Env) : Z32.p6 Q x0 x1 x2 x3 x21 H → wpC Try.prog Z32.c6 (upd (upd (upd (upd (upd j 0 (.one x0)) 1 (.one (.int .i64 x1))) 2 (.one (.int .i64 x2))) 3 (.one (.int .i64 x3))) 21 (.one (.bool x21))) H (kBlk 0 (Z32.k3 Q)) := c_if rfl (cO (sP (o_mov rfl (sP (o_mov rfl (sK (c_ret (k_blkR (k_seqR (k_topR (r_one rfl (r_nil (fun h => ⟨((x2 : Int), ()), rfl, h⟩))))))))))))) (cO (sP (o_mov rfl (sP (o_eq rfl rfl (sP (o_mov rfl (sK (c_if rfl (cO (sP (o_mov rfl (sP (o_mov rfl (sK (c_ret (k_blkR (k_seqR (k_topR (r_one rfl (r_nil (fun h => ⟨((x3 : Int), ()), rfl, h⟩))))))))))))) (cO (sP (o_mov rfl (sP (o_eq rfl rfl (sP (o_mov rfl (s_cons (w_gputT rfl (o_mov rfl (s_cons (w_gputY rfl (o_eq rfl rfl (sP (o_pickT rfl rfl (sP (o_mov rfl (sK (Z32.p18_ok Q rfl rfl rfl rfl rfl)))))))))) (s_cons (w_gputN rfl (sP (o_pickF rfl rfl (sP (o_mov rfl (sK (Z32.p18_ok Q rfl rfl rfl rfl rfl))))))))))))))))))))))))))
theorem Z32.p6_ok (Q : AHeap → Int → Prop) {x0 : AC} {x1 : Int} {x2 : Int} {x3 : Int} {x21 : Bool} {H : AHeap} {t : Env} (h0 : t 0 = (.one x0)) (h1 : t 1 = (.one (.int .i64 x1))) (h2 : t 2 = (.one (.int .i64 x2))) (h3 : t 3 = (.one (.int .i64 x3))) (h21 : t 21 = (.one (.bool x21))) (h : Z32.p6 Q x0 x1 x2 x3 x21 H) : wpC Try.prog Z32.c6 t H (kBlk 0 (Z32.k3 Q)) := by
  have g := Z32.p6_okE Q t h
  rw [upd_self h0] at g
  rw [upd_self h1] at g
  rw [upd_self h2] at g
  rw [upd_self h3] at g
  rw [upd_self h21] at g
  exact g
theorem Z32.ok {a0 : AC} {a1 : Int} {a2 : Int} {a3 : Int} {H : AHeap} (Q : AHeap → Int → Prop) : Z32.W a0 a1 a2 a3 H Q → wpF Try.prog Z32.c [.tm 8] (envOf [(.one a0), (.one (.int .i64 a1)), (.one (.int .i64 a2)), (.one (.int .i64 a3))]) H (Z32.KQ Q) := cO (sP (o_mov rfl (sK (c_seq (c_blk (cO (sP (o_mov rfl (sP (o_eq rfl rfl (sP (o_mov rfl (s_cons (w_gputF rfl (s_cons (w_gputN rfl (s_cons (w_gputN rfl (sP (o_pickT rfl rfl (sP (o_mov rfl (sK (Z32.p6_ok Q rfl rfl rfl rfl rfl)))))))))) (o_mov rfl (s_cons (w_gputY rfl (o_mov rfl (s_cons (w_gputY rfl (o_eq rfl rfl (sP (o_pickF rfl rfl (sP (o_mov rfl (sK (Z32.p6_ok Q rfl rfl rfl rfl rfl)))))))))))))))))))))))))))
theorem Z32.run {a0 : AC} {a1 : Int} {a2 : Int} {a3 : Int} {H : AHeap} {Q : AHeap → Int → Prop} (h : Z32.W a0 a1 a2 a3 H Q) : Fn.Z32 a0 a1 a2 a3 H Q := by
  unfold Fn.Z32 RunT
  exact runK aggs_ok [(8, []), (17, [])] Try.func81 rfl (by kernel_rfl) (by kernel_rfl) (by kernel_rfl) (by kernel_rfl) (by kernel_rfl) (Z32.ok Q h)
end Go.Proofs.Ytanaaabejeeakaa
end
section
namespace Go.Proofs.Ytanaaabejeeakaa
open Go.AI
set_option maxRecDepth 100000
set_option maxHeartbeats 2000000
set_option linter.unusedVariables false
attribute [local irreducible] Ld Sto New NewS NewM NN NZ GE0 FA IA IAP LenS Slc App Cpy Clr MkS Fnc NilQ IxS Look MSet Run CV RunT CVT LoopT Same1 Same2 wpC wpOs wpT wpO wpOp
def Z25.c : RC := (.seq (.ops [.put 3 (.mov (cI 0))]) (.seq (.seq (.ops [pM 4 0, .put 5 (.cm .lt (.tm 4) (cI 0))]) (.cond 5 (.seq (.ops [pM 6 0, pM 3 6]) .ret) .skip)) (.seq (.ops [.put 7 (.ld false [.ac] (.tm 1)), pM 8 0, .put 9 (.ia 1 (.tm 7) (.tm 8)), .put 10 (.ld false [.int .i64] (.tm 9)), pM 3 10]) .ret)))
abbrev Z25.KQ (Q : AHeap → Int → Prop) : AV → AHeap → Prop := KQT [(false, [.int .i64])] Q
abbrev Z25.K (Q : AHeap → Int → Prop) : Ex → Env → AHeap → Prop := kTop [.tm 3] (Z25.KQ Q)
def Z25.W (a0 : Int) (a1 : AC) (H : AHeap) (Q : AHeap → Int → Prop) : Prop := CondB (decide (a0 < 0)) (Q H a0) (Ld [.ac] H a1 fun (v_1 : AC) => IA 1 v_1 a0 fun q_2 => Ld [.int .i64] H q_2 fun (v_3 : Int) => Q H v_3)
theorem Z25.ok {a0 : Int} {a1 : AC} {H : AHeap} (Q : AHeap → Int → Prop) : Z25.W a0 a1 H Q → wpF Try.prog Z25.c [.tm 3] (envOf [(.one (.int .i64 a0)), (.one a1)]) H (Z25.KQ Q) := cO (sP (o_mov rfl (sK (c_seq (cO (sP (o_mov rfl (sP (o_lt rfl rfl (sK (c_if rfl (cO (sP (o_mov rfl (sP (o_mov rfl (sK (c_ret (k_seqR (k_topR (r_one rfl (r_nil (fun h => ⟨((a0 : Int), ()), rfl, h⟩)))))))))))) (c_skip (k_seq (cO (sP (o_ld1 rfl (fun (v_1 : AC) => sP (o_mov rfl (sP (o_ia rfl rfl (fun q_2 => sP (o_ld1 rfl (fun (v_3 : Int) => sP (o_mov rfl (sK (c_ret (k_topR (r_one rfl (r_nil (fun h => ⟨((v_3 : Int), ()), rfl, h⟩))))))))))))))))))))))))))))))
theorem Z25.run {a0 : Int} {a1 : AC} {H : AHeap} {Q : AHeap → Int → Prop} (h : Z25.W a0 a1 H Q) : Fn.Z25 a0 a1 H Q := by
  unfold Fn.Z25 RunT
  exact runK aggs_ok [] Try.func84 rfl (by kernel_rfl) (by kernel_rfl) (by kernel_rfl) (by kernel_rfl) (by kernel_rfl) (Z25.ok Q h)
def Z4.c : RC := (.seq (.ops [.put 4 (.mov (.ct (.one (.bool false))))]) (.seq (.ops [pM 5 0, pM 6 1, .put 7 (.call 99 [(.tm 5), (.tm 6)]), .put 8 (.cm .ge (.tm 7) (cI 0)), pM 4 8]) .ret))
abbrev Z4.KQ (Q : AHeap → Bool → Prop) : AV → AHeap → Prop := KQT [(false, [.bool])] Q
abbrev Z4.K (Q : AHeap → Bool → Prop) : Ex → Env → AHeap → Prop := kTop [.tm 4] (Z4.KQ Q)
def Z4.W (a0 : AC) (a1 : AC) (H : AHeap) (Q : AHeap → Bool → Prop) : Prop := Fn.Z7 a0 a1 H fun H_1 (v_2 : Int) => Q H_1 (decide (v_2 ≥ 0))
theorem Z4.ok {a0 : AC} {a1 : AC} {H : AHeap} (Q : AHeap → Bool → Prop) : Z4.W a0 a1 H Q → wpF Try.prog Z4.c [.tm 4] (envOf [(.one a0), (.one a1)]) H (Z4.KQ Q) := cO (sP (o_mov rfl (sK (cO (sP (o_mov rfl (sP (o_mov rfl (sP (o_call rfl (cv_1 (fun H_1 (v_2 : Int) => sP (o_ge rfl rfl (sP (o_mov rfl (sK (c_ret (k_topR (r_one rfl (r_nil (fun h => ⟨(((decide (v_2 ≥ 0)) : Bool), ()), rfl, h⟩)))))))))))))))))))))
theorem Z4.run {a0 : AC} {a1 : AC} {H : AHeap} {Q : AHeap → Bool → Prop} (h : Z4.W a0 a1 H Q) : Fn.Z4 a0 a1 H Q := by
  unfold Fn.Z4 RunT
  exact runK aggs_ok [] Try.func85 rfl (by kernel_rfl) (by kernel_rfl) (by kernel_rfl) (by kernel_rfl) (by kernel_rfl) (Z4.ok Q h)
def Z43.c : RC := (.seq (.ops [.put 2 (.box 77 (.tm 0)), .put 3 (.mov (.ct (.one (.bool false))))]) (.seq (.ops [.put 4 (.fa 0 (.tm 2)), .put 5 (.ld false [.int .i64] (.tm 4)), .put 6 (.ld false [.int .i64] (.tm 1)), .put 7 (.cm .ge (.tm 5) (.tm 6)), pM 3 7]) .ret))
abbrev Z43.KQ (Q : AHeap → Bool → Prop) : AV → AHeap → Prop := KQT [(false, [.bool])] Q
abbrev Z43.K (Q : AHeap → Bool → Prop) : Ex → Env → AHeap → Prop := kTop [.tm 3] (Z43.KQ Q)
def Z43.W (a0_0 : Int) (a0_1 : Int) (a0_2 : Int) (a1 : AC) (H : AHeap) (Q : AHeap → Bool → Prop) : Prop := New 77 [(.int .i64 a0_0), (.int .i64 a0_1), (.int .i64 a0_2)] H fun p_1 H_2 => FA 0 p_1 fun q_3 => Ld [.int .i64] H_2 q_3 fun (v_4 : Int) => Ld [.int .i64] H_2 a1 fun (v_5 : Int) => Q H_2 (decide (v_4 ≥ v_5))
theorem Z43.ok {a0_0 : Int} {a0_1 : Int} {a0_2 : Int} {a1 : AC} {H : AHeap} (Q : AHeap → Bool → Prop) : Z43.W a0_0 a0_1 a0_2 a1 H Q → wpF Try.prog Z43.c [.tm 3] (envOf [(.agg [(.int .i64 a0_0), (.int .i64 a0_1), (.int .i64 a0_2)]), (.one a1)]) H (Z43.KQ Q) := cO (sP (o_box rfl (fun p_1 H_2 => sP (o_mov rfl (sK (cO (sP (o_fa rfl (fun q_3 => sP (o_ld1 rfl (fun (v_4 : Int) => sP (o_ld1 rfl (fun (v_5 : Int) => sP (o_ge rfl rfl (sP (o_mov rfl (sK (c_ret (k_topR (r_one rfl (r_nil (fun h => ⟨(((decide (v_4 ≥ v_5)) : Bool), ()), rfl, h⟩))))))))))))))))))))))
theorem Z43.run {a0_0 : Int} {a0_1 : Int} {a0_2 : Int} {a1 : AC} {H : AHeap} {Q : AHeap → Bool → Prop} (h : Z43.W a0_0 a0_1 a0_2 a1 H Q) : Fn.Z43 a0_0 a0_1 a0_2 a1 H Q := by
  unfold Fn.Z43 RunT
  exact runK aggs_ok [] Try.func86 rfl (by kernel_rfl) (by kernel_rfl) (by kernel_rfl) (by kernel_rfl) (by kernel_rfl) (Z43.ok Q h)
def Z29.c : RC := (.seq (.ops [.put 6 (.mov (cI 0))]) (.seq (.seq (.ops [pM 11 0, .put 12 (.cm .lt (.tm 11) (cI 0))]) (.cond 12 (.seq (.ops [pM 13 0, pM 6 13]) .ret) .skip)) (.seq (.seq (.ops [.put 15 (.ld false [.ac] (.tm 1)), pM 16 0, .put 17 (.look none false [.int .i64] [(.int .i64 0)] true (.tm 15) (.tm 16)), pM 14 17, .put 18 (.ex (.tm 14) 0), .put 19 (.ex (.tm 14) 1), pM 7 18, pM 8 19]) (.seq (.ops [pM 20 8]) (.cond 20 (.seq (.ops [pM 21 7, pM 6 21]) .ret) .skip))) (.seq (.ops [.put 22 (.ld false [.ac] (.tm 2)), .put 23 (.ld false [.ac] (.tm 3)), .put 24 (.nn (.tm 23)), .put 25 (.fa 0 (.tm 24)), .put 26 (.ld false [.ac] (.tm 25)), pM 27 0, .put 28 (.ia 3 (.tm 26) (.tm 27)), .put 29 (.fa 1 (.tm 28)), .put 30 (.ld false [.int .i64] (.tm 29)), .put 31 (.callv (.tm 22) [(.tm 30)]), pM 9 31]) (.seq (.ops [.put 32 (.ld false [.ac] (.tm 2)), .put 33 (.ld false [.ac] (.tm 3)), .put 34 (.nn (.tm 33)), .put 35 (.fa 0 (.tm 34)), .put 36 (.ld false [.ac] (.tm 35)), pM 37 0, .put 38 (.ia 3 (.tm 36) (.tm 37)), .put 39 (.fa 2 (.tm 38)), .put 40 (.ld false [.int .i64] (.tm 39)), .put 41 (.callv (.tm 32) [(.tm 40)]), pM 10 41]) (.seq (.ops [.put 42 (.fa 0 (.tm 4)), .put 43 (.ld false [.ac] (.tm 42)), .put 44 (.ld false [.ac] (.tm 3)), .put 45 (.nn (.tm 44)), .put 46 (.fa 0 (.tm 45)), .put 47 (.ld false [.ac] (.tm 46)), pM 48 0, .put 49 (.ia 3 (.tm 47) (.tm 48)), .put 50 (.fa 0 (.tm 49)), .put 51 (.ld false [.int .i64] (.tm 50)), pM 52 9, pM 53 10, .put 54 (.bld [(.int .i64 0), (.int .i64 0), (.int .i64 0)] [(0, 1, (.tm 51)), (1, 1, (.tm 52)), (2, 1, (.tm 53))]), .put 55 (.blds 77 3 1 [(.int .i64 0), (.int .i64 0), (.int .i64 0)] [(0, 3, (.tm 54))]), .put 56 (.app 77 3 24 (.tm 43) (.tm 55)), .put 57 (.fa 0 (.tm 4)), .run (.st 1 (.tm 57) (.tm 56))]) (.seq (.ops [.put 58 (.ld false [.ac] (.tm 1)), pM 59 0, .put 60 (.fa 0 (.tm 4)), .put 61 (.ld false [.ac] (.tm 60)), .put 62 (.lens (.tm 61)), .put 63 (.ar .sub (.tm 62) (cI 1)), .run (.mset none (.tm 58) (.tm 59) (.tm 63))]) (.seq (.ops [.put 64 (.ld false [.ac] (.tm 1)), pM 65 0, .put 66 (.look none false [.int .i64] [(.int .i64 0)] false (.tm 64) (.tm 65)), pM 6 66]) .ret))))))))
abbrev Z29.KQ (Q : AHeap → Int → Prop) : AV → AHeap → Prop := KQT [(false, [.int .i64])] Q
abbrev Z29.K (Q : AHeap → Int → Prop) : Ex → Env → AHeap → Prop := kTop [.tm 6] (Z29.KQ Q)
def Z29.W (a0 : Int) (a1 : AC) (a2 : AC) (a3 : AC) (a4 : AC) (H : AHeap) (Q : AHeap → Int → Prop) : Prop := CondB (decide (a0 < 0)) (Q H a0) (Ld [.ac] H a1 fun (v_1 : AC) => Look none false [.int .i64] [(.int .i64 0)] H v_1 [a0] fun b_2 (v_3 : Int) => CondB b_2 (Q H v_3) (Ld [.ac] H a2 fun (v_4 : AC) => Ld [.ac] H a3 fun (v_5 : AC) => NN v_5 <| FA 0 v_5 fun q_6 => Ld [.ac] H q_6 fun (v_7 : AC) => IA 3 v_7 a0 fun q_8 => FA 1 q_8 fun q_9 => Ld [.int .i64] H q_9 fun (v_10 : Int) => CVT Try.prog [(false, [.int .i64])] v_4 [(.one (.int .i64 v_10))] H fun H_11 (v_12 : Int) => Ld [.ac] H_11 a2 fun (v_13 : AC) => Ld [.ac] H_11 a3 fun (v_14 : AC) => NN v_14 <| FA 0 v_14 fun q_15 => Ld [.ac] H_11 q_15 fun (v_16 : AC) => IA 3 v_16 a0 fun q_17 => FA 2 q_17 fun q_18 => Ld [.int .i64] H_11 q_18 fun (v_19 : Int) => CVT Try.prog [(false, [.int .i64])] v_13 [(.one (.int .i64 v_19))] H_11 fun H_20 (v_21 : Int) => FA 0 a4 fun q_22 => Ld [.ac] H_20 q_22 fun (v_23 : AC) => Ld [.ac] H_20 a3 fun (v_24 : AC) => NN v_24 <| FA 0 v_24 fun q_25 => Ld [.ac] H_20 q_25 fun (v_26 : AC) => IA 3 v_26 a0 fun q_27 => FA 0 q_27 fun q_28 => Ld [.int .i64] H_20 q_28 fun (v_29 : Int) => NewS 77 3 1 [(.int .i64 v_29), (.int .i64 v_12), (.int .i64 v_21)] H_20 fun p_30 H_31 => App 77 3 24 v_23 p_30 H_31 fun s_32 H_33 => FA 0 a4 fun q_34 => Sto H_33 q_34 [s_32] fun H_35 => Ld [.ac] H_35 a1 fun (v_36 : AC) => FA 0 a4 fun q_37 => Ld [.ac] H_35 q_37 fun (v_38 : AC) => LenS v_38 fun n_39 => MSet none H_35 v_36 [a0] (.one (.int .i64 (IntKind.wrap .i64 (n_39 - 1)))) fun H_40 => Ld [.ac] H_40 a1 fun (v_41 : AC) => Look none false [.int .i64] [(.int .i64 0)] H_40 v_41 [a0] fun b_42 (v_43 : Int) => Q H_40 v_43))
theorem Z29.ok {a0 : Int} {a1 : AC} {a2 : AC} {a3 : AC} {a4 : AC} {H : AHeap} (Q : AHeap → Int → Prop) : Z29.W a0 a1 a2 a3 a4 H Q → wpF Try.prog Z29.c [.tm 6] (envOf [(.one (.int .i64 a0)), (.one a1), (.one a2), (.one a3), (.one a4)]) H (Z29.KQ Q) := cO (sP (o_mov rfl (sK (c_seq (cO (sP (o_mov rfl (sP (o_lt rfl rfl (sK (c_if rfl (cO (sP (o_mov rfl (sP (o_mov rfl (sK (c_ret (k_seqR (k_topR (r_one rfl (r_nil (fun h => ⟨((a0 : Int), ()), rfl, h⟩)))))))))))) (c_skip (k_seq (c_seq (cO (sP (o_ld1 rfl (fun (v_1 : AC) => sP (o_mov rfl (sP (o_look1 rfl rfl (fun b_2 (v_3 : Int) => sP (o_mov rfl (sP (o_ex rfl rfl rfl (sP (o_ex rfl rfl rfl (sP (o_mov rfl (sP (o_mov rfl (sK (cO (sP (o_mov rfl (sK (c_if rfl (cO (sP (o_mov rfl (sP (o_mov rfl (sK (c_ret (k_seqR (k_topR (r_one rfl (r_nil (fun h => ⟨((v_3 : Int), ()), rfl, h⟩)))))))))))) (c_skip (k_seq (cO (sP (o_ld1 rfl (fun (v_4 : AC) => sP (o_ld1 rfl (fun (v_5 : AC) => sP (o_nn rfl (sP (o_fa rfl (fun q_6 => sP (o_ld1 rfl (fun (v_7 : AC) => sP (o_mov rfl (sP (o_ia rfl rfl (fun q_8 => sP (o_fa rfl (fun q_9 => sP (o_ld1 rfl (fun (v_10 : Int) => sP (o_callv rfl rfl (cu_1 (fun H_11 (v_12 : Int) => sP (o_mov rfl (sK (cO (sP (o_ld1 rfl (fun (v_13 : AC) => sP (o_ld1 rfl (fun (v_14 : AC) => sP (o_nn rfl (sP (o_fa rfl (fun q_15 => sP (o_ld1 rfl (fun (v_16 : AC) => sP (o_mov rfl (sP (o_ia rfl rfl (fun q_17 => sP (o_fa rfl (fun q_18 => sP (o_ld1 rfl (fun (v_19 : Int) => sP (o_callv rfl rfl (cu_1 (fun H_20 (v_21 : Int) => sP (o_mov rfl (sK (cO (sP (o_fa rfl (fun q_22 => sP (o_ld1 rfl (fun (v_23 : AC) => sP (o_ld1 rfl (fun (v_24 : AC) => sP (o_nn rfl (sP (o_fa rfl (fun q_25 => sP (o_ld1 rfl (fun (v_26 : AC) => sP (o_mov rfl (sP (o_ia rfl rfl (fun q_27 => sP (o_fa rfl (fun q_28 => sP (o_ld1 rfl (fun (v_29 : Int) => sP (o_mov rfl (sP (o_mov rfl (sP (o_bld rfl (sP (o_blds rfl (fun p_30 H_31 => sP (o_app rfl rfl (fun s_32 H_33 => sP (o_fa rfl (fun q_34 => s_cons (w_run (o_st rfl rfl rfl (fun H_35 => sK (cO (sP (o_ld1 rfl (fun (v_36 : AC) => sP (o_mov rfl (sP (o_fa rfl (fun q_37 => sP (o_ld1 rfl (fun (v_38 : AC) => sP (o_lens rfl (fun n_39 => sP (o_sub rfl rfl (s_cons (w_run (o_mset rfl rfl rfl rfl (fun H_40 => sK (cO (sP (o_ld1 rfl (fun (v_41 : AC) => sP (o_mov rfl (sP (o_look1 rfl rfl (fun b_42 (v_43 : Int) => sP (o_mov rfl (sK (c_ret (k_topR (r_one rfl (r_nil (fun h => ⟨((v_43 : Int), ()), rfl, h⟩))))))))))))))))))))))))))))))))))))))))))))))))))))))))))))))))))))))))))))))))))))))))))))))))))))))))))))))))))))))))))))))))))))))))))))))))))))))))))))))
theorem Z29.run {a0 : Int} {a1 : AC} {a2 : AC} {a3 : AC} {a4 : AC} {H : AHeap} {Q : AHeap → Int → Prop} (h : Z29.W a0 a1 a2 a3 a4 H Q) : Fn.Z29 a0 a1 a2 a3 a4 H Q := by
  unfold Fn.Z29 RunT
  exact runK aggs_ok [(6, []), (7, []), (8, [])] Try.func88 rfl (by kernel_rfl) (by kernel_rfl) (by kernel_rfl) (by kernel_rfl) (by kernel_rfl) (Z29.ok Q h)
def Z31.c37 : RC := (.seq (.ops [.put 63 (.ld false [.ac] (.tm 3)), pM 64 0, pM 65 11, .run (.mset none (.tm 63) (.tm 64) (.tm 65))]) (.seq (.ops [pM 66 11, pM 7 66]) .ret))
def Z31.c5 : RC := (.cond 21 (.seq (.ops [pM 22 0, pM 7 22]) .ret) .skip)
def Z31.c : RC := (.seq (.ops [.put 7 (.mov (cI 0))]) (.seq (.seq (.held [pM 13 0, .put 14 (.cm .lt (.tm 13) (cI 0)), pM 15 14, .gput 16 15 false (.ld false [.ac] (.tm 1)), .gput 17 15 false (.mov (.tm 0)), .gput 18 15 false (.call 90 [(.tm 16), (.tm 17)]), .gput 19 15 false (.ld false [.int .i64] (.tm 2)), .gput 20 15 false (.cm .gt (.tm 18) (.tm 19)), .put 21 (.pick (.tm 15) (.ct (.one (.bool true))) (.tm 20))] [(6, 5)]) Z31.c5) (.seq (.seq (.ops [.put 24 (.ld false [.ac] (.tm 3)), pM 25 0, .put 26 (.look none false [.int .i64] [(.int .i64 0)] true (.tm 24) (.tm 25)), pM 23 26, .put 27 (.ex (.tm 23) 0), .put 28 (.ex (.tm 23) 1), pM 8 27, pM 9 28]) (.seq (.ops [pM 29 9]) (.cond 29 (.seq (.ops [pM 30 8, pM 7 30]) .ret) .skip))) (.seq (.ops [.put 31 (.ld false [.ac] (.tm 1)), .put 32 (.nn (.tm 31)), .put 33 (.fa 0 (.tm 32)), .put 34 (.ld false [.ac] (.tm 33)), pM 35 0, .put 36 (.ia 3 (.tm 34) (.tm 35)), .put 37 (.ld true [.int .i64, .int .i64, .int .i64] (.tm 36)), .put 10 (.new 77 [(.int .i64 0), (.int .i64 0), (.int .i64 0)]), .run (.st 3 (.tm 10) (.tm 37))]) (.seq (.ops [.put 38 (.fa 1 (.tm 10)), .put 39 (.ld false [.int .i64] (.tm 38)), pM 11 39]) (.seq (.block 0 (.seq (.ops [.put 41 (.fa 0 (.tm 10)), .put 42 (.ld false [.int .i64] (.tm 41)), .put 43 (.ld false [.int .i64] (.tm 2)), .put 44 (.cm .lt (.tm 42) (.tm 43)), pM 40 44]) (.cond 40 (.seq (.ops [.put 45 (.ld false [.ac] (.tm 4)), .put 46 (.fa 1 (.tm 10)), .put 47 (.ld false [.int .i64] (.tm 46)), .put 48 (.callv (.tm 45) [(.tm 47)]), pM 12 48]) (.held [.put 49 (.ld false [.ac] (.tm 1)), .put 50 (.fa 0 (.tm 10)), .put 51 (.ld false [.int .i64] (.tm 50)), pM 52 12, .put 53 (.ld false [.ac] (.tm 4)), .put 54 (.fa 2 (.tm 10)), .put 55 (.ld false [.int .i64] (.tm 54)), .put 56 (.callv (.tm 53) [(.tm 55)]), .put 57 (.call 80 [(.tm 49), (.tm 51), (.tm 52), (.tm 56)]), pM 11 57] [(0, 7), (2, 7)])) (.seq (.ops [.put 59 (.ld false [.int .i64] (.tm 5)), .put 60 (.cm .eq (.tm 59) (cI 1)), pM 58 60]) (.cond 58 (.ops [.put 61 (.fa 2 (.tm 10)), .put 62 (.ld false [.int .i64] (.tm 61)), pM 11 62]) .skip))))) Z31.c37))))))
abbrev Z31.KQ (Q : AHeap → Int → Prop) : AV → AHeap → Prop := KQT [(false, [.int .i64])] Q
abbrev Z31.K (Q : AHeap → Int → Prop) : Ex → Env → AHeap → Prop := kTop [.tm 7] (Z31.KQ Q)
abbrev Z31.k3 (Q : AHeap → Int → Prop) : Ex → Env → AHeap → Prop := kSeq (fun t H => wpC Try.prog (.seq (.seq (.ops [.put 24 (.ld false [.ac] (.tm 3)), pM 25 0, .put 26 (.look none false [.int .i64] [(.int .i64 0)] true (.tm 24) (.tm 25)), pM 23 26, .put 27 (.ex (.tm 23) 0), .put 28 (.ex (.tm 23) 1), pM 8 27, pM 9 28]) (.seq (.ops [pM 29 9]) (.cond 29 (.seq (.ops [pM 30 8, pM 7 30]) .ret) .skip))) (.seq (.ops [.put 31 (.ld false [.ac] (.tm 1)), .put 32 (.nn (.tm 31)), .put 33 (.fa 0 (.tm 32)), .put 34 (.ld false [.ac] (.tm 33)), pM 35 0, .put 36 (.ia 3 (.tm 34) (.tm 35)), .put 37 (.ld true [.int .i64, .int .i64, .int .i64] (.tm 36)), .put 10 (.new 77 [(.int .i64 0), (.int .i64 0), (.int .i64 0)]), .run (.st 3 (.tm 10) (.tm 37))]) (.seq (.ops [.put 38 (.fa 1 (.tm 10)), .put 39 (.ld false [.int .i64] (.tm 38)), pM 11 39]) (.seq (.block 0 (.seq (.ops [.put 41 (.fa 0 (.tm 10)), .put 42 (.ld false [.int .i64] (.tm 41)), .put 43 (.ld false [.int .i64] (.tm 2)), .put 44 (.cm .lt (.tm 42) (.tm 43)), pM 40 44]) (.cond 40 (.seq (.ops [.put 45 (.ld false [.ac] (.tm 4)), .put 46 (.fa 1 (.tm 10)), .put 47 (.ld false [.int .i64] (.tm 46)), .put 48 (.callv (.tm 45) [(.tm 47)]), pM 12 48]) (.held [.put 49 (.ld false [.ac] (.tm 1)), .put 50 (.fa 0 (.tm 10)), .put 51 (.ld false [.int .i64] (.tm 50)), pM 52 12, .put 53 (.ld false [.ac] (.tm 4)), .put 54 (.fa 2 (.tm 10)), .put 55 (.ld false [.int .i64] (.tm 54)), .put 56 (.callv (.tm 53) [(.tm 55)]), .put 57 (.call 80 [(.tm 49), (.tm 51), (.tm 52), (.tm 56)]), pM 11 57] [(0, 7), (2, 7)])) (.seq (.ops [.put 59 (.ld false [.int .i64] (.tm 5)), .put 60 (.cm .eq (.tm 59) (cI 1)), pM 58 60]) (.cond 58 (.ops [.put 61 (.fa 2 (.tm 10)), .put 62 (.ld false [.int .i64] (.tm 61)), pM 11 62]) .skip))))) Z31.c37)))) t H (Z31.K Q)) (Z31.K Q)
def Z31.p37 (Q : AHeap → Int → Prop) (x0 : Int) (x3 : AC) (x11 : Int) (H : AHeap) : Prop := Ld [.ac] H x3 fun (v_1 : AC) => MSet none H v_1 [x0] (.one (.int .i64 x11)) fun H_2 => Q H_2 x11
def Z31.p5 (Q : AHeap → Int → Prop) (x0 : Int) (x1 : AC) (x2 : AC) (x3 : AC) (x4 : AC) (x5 : AC) (x21 : Bool) (H : AHeap) : Prop := CondB x21 (Q H x0) (Ld [.ac] H x3 fun (v_1 : AC) => Look none false [.int .i64] [(.int .i64 0)] H v_1 [x0] fun b_2 (v_3 : Int) => CondB b_2 (Q H v_3) (Ld [.ac] H x1 fun (v_4 : AC) => NN v_4 <| FA 0 v_4 fun q_5 => Ld [.ac] H q_5 fun (v_6 : AC) => IA 3 v_6 x0 fun q_7 => Ld [.int .i64, .int .i64, .int .i64] H q_7 fun (v_8 : Int) (v_9 : Int) (v_10 : Int) => New 77 [(.int .i64 0), (.int .i64 0), (.int .i64 0)] H fun p_11 H_12 => Sto H_12 p_11 [(.int .i64 v_8), (.int .i64 v_9), (.int .i64 v_10)] fun H_13 => FA 1 p_11 fun q_14 => Ld [.int .i64] H_13 q_14 fun (v_15 : Int) => FA 0 p_11 fun q_16 => Ld [.int .i64] H_13 q_16 fun (v_17 : Int) => Ld [.int .i64] H_13 x2 fun (v_18 : Int) => CondB (decide (v_17 < v_18)) (Ld [.ac] H_13 x4 fun (v_19 : AC) => FA 1 p_11 fun q_20 => Ld [.int .i64] H_13 q_20 fun (v_21 : Int) => CVT Try.prog [(false, [.int .i64])] v_19 [(.one (.int .i64 v_21))] H_13 fun H_22 (v_23 : Int) => Ld [.ac] H_22 x1 fun (v_24 : AC) => FA 0 p_11 fun q_25 => Ld [.int .i64] H_22 q_25 fun (v_26 : Int) => Ld [.ac] H_22 x4 fun (v_27 : AC) => FA 2 p_11 fun q_28 => Ld [.int .i64] H_22 q_28 fun (v_29 : Int) => CVT Try.prog [(false, [.int .i64])] v_27 [(.one (.int .i64 v_29))] H_22 fun H_30 (v_31 : Int) => Fn.Z33 v_24 v_26 v_23 v_31 H_30 fun H_32 (v_33 : Int) => Same1 H_22 H_30 x1 1 ∧ Same1 H_22 H_30 q_25 1 ∧ Z31.p37 Q x0 x3 v_33 H_32) (Ld [.int .i64] H_13 x5 fun (v_34 : Int) => CondB (v_34 == 1) (FA 2 p_11 fun q_35 => Ld [.int .i64] H_13 q_35 fun (v_36 : Int) => Z31.p37 Q x0 x3 v_36 H_13) (Z31.p37 Q x0 x3 v_15 H_13))))
def Z31.W (a0 : Int) (a1 : AC) (a2 : AC) (a3 : AC) (a4 : AC) (a5 : AC) (H : AHeap) (Q : AHeap → Int → Prop) : Prop := CondB (decide (a0 < 0)) (Z31.p5 Q a0 a1 a2 a3 a4 a5 true H) (Ld [.ac] H a1 fun (v_1 : AC) => Fn.Z38 v_1 a0 H fun H_2 (v_3 : Int) => Ld [.int .i64] H_2 a2 fun (v_4 : Int) => Same2 H_2 H a2 1 ∧ Z31.p5 Q a0 a1 a2 a3 a4 a5 (decide (v_3 > v_4)) H_2)
theorem Z31.p37_okE (Q : AHeap → Int → Prop) {x0 : Int} {x3 : AC} {x11 : Int} {H : AHeap} (j : Env) : Z31.p37 Q x0 x3 x11 H → wpC Try.prog Z31.c37 (upd (upd (upd j 0 (.one (.int .i64 x0))) 3 (.one x3)) 11 (.one (.int .i64 x11))) H (Z31.K Q) := cO (sP (o_ld1 rfl (fun (v_1 : AC) => sP (o_mov rfl (sP (o_mov rfl (s_cons (w_run (o_mset rfl rfl rfl rfl (fun H_2 => sK (cO (sP (o_mov rfl (sP (o_mov rfl (sK (c_ret (k_topR (r_one rfl (r_nil (fun h => ⟨((x11 : Int), ()), rfl, h⟩)))))))))))))))))))))
theorem Z31.p37_ok (Q : AHeap → Int → Prop) {x0 : Int} {x3 : AC} {x11 : Int} {H : AHeap} {t : Env} (h0 : t 0 = (.one (.int .i64 x0))) (h3 : t 3 = (.one x3)) (h11 : t 11 = (.one (.int .i64 x11))) (h : Z31.p37 Q x0 x3 x11 H) : wpC Try.prog Z31.c37 t H (Z31.K Q) := by
  have g := Z31.p37_okE Q t h
  rw [upd_self h0] at g
  rw [upd_self h3] at g
  rw [upd_self h11] at g
  exact g
theorem Z31.p5_okE (Q : AHeap → Int → Prop) {x0 : Int} {x1 : AC} {x2 : AC} {x3 : AC} {x4 : AC} {x5 : AC} {x21 : Bool} {H : AHeap} (j : Env) : Z31.p5 Q x0 x1 x2 x3 x4 x5 x21 H → wpC Try.prog Z31.c5 (upd (upd (upd (upd (upd (upd (upd j 0 (.one (.int .i64 x0))) 1 (.one x1)) 2 (.one x2)) 3 (.one x3)) 4 (.one x4)) 5 (.one x5)) 21 (.one (.bool x21))) H (Z31.k3 Q) := c_if rfl (cO (sP (o_mov rfl (sP (o_mov rfl (sK (c_ret (k_seqR (k_topR (r_one rfl (r_nil (fun h => ⟨((x0 : Int), ()), rfl, h⟩)))))))))))) (c_skip (k_seq (c_seq (cO (sP (o_ld1 rfl (fun (v_1 : AC) => sP (o_mov rfl (sP (o_look1 rfl rfl (fun b_2 (v_3 : Int) => sP (o_mov rfl (sP (o_ex rfl rfl rfl (sP (o_ex rfl rfl rfl (sP (o_mov rfl (sP (o_mov rfl (sK (cO (sP (o_mov rfl (sK (c_if rfl (cO (sP (o_mov rfl (sP (o_mov rfl (sK (c_ret (k_seqR (k_topR (r_one rfl (r_nil (fun h => ⟨((v_3 : Int), ()), rfl, h⟩)))))))))))) (c_skip (k_seq (cO (sP (o_ld1 rfl (fun (v_4 : AC) => sP (o_nn rfl (sP (o_fa rfl (fun q_5 => sP (o_ld1 rfl (fun (v_6 : AC) => sP (o_mov rfl (sP (o_ia rfl rfl (fun q_7 => sP (o_ld3 rfl (fun (v_8 : Int) (v_9 : Int) (v_10 : Int) => sP (o_new (fun p_11 H_12 => s_cons (w_run (o_st rfl rfl rfl (fun H_13 => sK (cO (sP (o_fa rfl (fun q_14 => sP (o_ld1 rfl (fun (v_15 : Int) => sP (o_mov rfl (sK (c_seq (c_blk (cO (sP (o_fa rfl (fun q_16 => sP (o_ld1 rfl (fun (v_17 : Int) => sP (o_ld1 rfl (fun (v_18 : Int) => sP (o_lt rfl rfl (sP (o_mov rfl (sK (c_if rfl (cO (sP (o_ld1 rfl (fun (v_19 : AC) => sP (o_fa rfl (fun q_20 => sP (o_ld1 rfl (fun (v_21 : Int) => sP (o_callv rfl rfl (cu_1 (fun H_22 (v_23 : Int) => sP (o_mov rfl (sK (c_held (t_cons (w_put (o_ld1 rfl (fun (v_24 : AC) => t_cons (w_put (o_fa rfl (fun q_25 => t_cons (w_put (o_ld1 rfl (fun (v_26 : Int) => t_cons (w_put (o_mov rfl (t_cons (w_put (o_ld1 rfl (fun (v_27 : AC) => t_cons (w_put (o_fa rfl (fun q_28 => t_cons (w_put (o_ld1 rfl (fun (v_29 : Int) => t_cons (w_put (o_callv rfl rfl (cu_1 (fun H_30 (v_31 : Int) => t_cons (w_put (o_call rfl (cv_1 (fun H_32 (v_33 : Int) => t_cons (w_put (o_mov rfl (t_nil (p_one rfl rfl rfl rfl rfl rfl rfl rfl (p_one rfl rfl rfl rfl rfl rfl rfl rfl (p_nil (k_blk (k_seq (Z31.p37_ok Q rfl rfl rfl))))))))))))))))))))))))))))))))))))))))))))))))))))) (cO (sP (o_ld1 rfl (fun (v_34 : Int) => sP (o_eq rfl rfl (sP (o_mov rfl (sK (c_if rfl (c_ops (sP (o_fa rfl (fun q_35 => sP (o_ld1 rfl (fun (v_36 : Int) => sP (o_mov rfl (s_nil (k_blk (k_seq (Z31.p37_ok Q rfl rfl rfl))))))))))) (c_skip (k_blk (k_seq (Z31.p37_ok Q rfl rfl rfl)))))))))))))))))))))))))))))))))))))))))))))))))))))))))))))))))))))))))))))))))))))
theorem Z31.p5_ok (Q : AHeap → Int → Prop) {x0 : Int} {x1 : AC} {x2 : AC} {x3 : AC} {x4 : AC} {x5 : AC} {x21 : Bool} {H : AHeap} {t : Env} (h0 : t 0 = (.one (.int .i64 x0))) (h1 : t 1 = (.one x1)) (h2 : t 2 = (.one x2)) (h3 : t 3 = (.one x3)) (h4 : t 4 = (.one x4)) (h5 : t 5 = (.one x5)) (h21 : t 21 = (.one (.bool x21))) (h : Z31.p5 Q x0 x1 x2 x3 x4 x5 x21 H) : wpC Try.prog Z31.c5 t H (Z31.k3 Q) := by
  have g := Z31.p5_okE Q t h
  rw [upd_self h0] at g
  rw [upd_self h1] at g
  rw [upd_self h2] at g
  rw [upd_self h3] at g
  rw [upd_self h4] at g
  rw [upd_self h5] at g
  rw [upd_self h21] at g
  exact g
theorem Z31.ok {a0 : Int} {a1 : AC} {a2 : AC} {a3 : AC} {a4 : AC} {a5 : AC} {H : AHeap} (Q : AHeap → Int → Prop) : Z31.W a0 a1 a2 a3 a4 a5 H Q → wpF Try.prog Z31.c [.tm 7] (envOf [(.one (.int .i64 a0)), (.one a1), (.one a2), (.one a3), (.one a4), (.one a5)]) H (Z31.KQ Q) := cO (sP (o_mov rfl (sK (c_seq (c_seq (c_held (t_cons (w_put (o_mov rfl (t_cons (w_put (o_lt rfl rfl (t_cons (w_put (o_mov rfl (t_cons (w_gputF rfl (t_cons (w_gputN rfl (t_cons (w_gputN rfl (t_cons (w_gputN rfl (t_cons (w_gputN rfl (t_cons (w_put (o_pickT rfl rfl (t_nil (p_skip trivial (p_nil (k_seq (Z31.p5_ok Q rfl rfl rfl rfl rfl rfl rfl)))))))))))))))) (o_ld1 rfl (fun (v_1 : AC) => t_cons (w_gputY rfl (o_mov rfl (t_cons (w_gputY rfl (o_call rfl (cv_1 (fun H_2 (v_3 : Int) => t_cons (w_gputY rfl (o_ld1 rfl (fun (v_4 : Int) => t_cons (w_gputY rfl (o_gt rfl rfl (t_cons (w_put (o_pickF rfl rfl (t_nil (p_two rfl rfl rfl rfl rfl rfl rfl rfl (p_nil (k_seq (Z31.p5_ok Q rfl rfl rfl rfl rfl rfl rfl)))))))))))))))))))))))))))))))))))))))
theorem Z31.run {a0 : Int} {a1 : AC} {a2 : AC} {a3 : AC} {a4 : AC} {a5 : AC} {H : AHeap} {Q : AHeap → Int → Prop} (h : Z31.W a0 a1 a2 a3 a4 a5 H Q) : Fn.Z31 a0 a1 a2 a3 a4 a5 H Q := by
  unfold Fn.Z31 RunT
  exact runK aggs_ok [(1, [(6, 5)]), (10, [(0, 7), (2, 7)])] Try.func89 rfl (by kernel_rfl) (by kernel_rfl) (by kernel_rfl) (by kernel_rfl) (by kernel_rfl) (Z31.ok Q h)
def Z38.c : RC := (.seq (.ops [.put 4 (.mov (cI 0))]) (.seq (.seq (.ops [pM 5 1, .put 6 (.cm .lt (.tm 5) (cI 0))]) (.cond 6 (.seq (.ops [.put 4 (.mov (cI 16))]) .ret) .skip)) (.seq (.ops [pM 7 0, .put 8 (.nn (.tm 7)), .put 9 (.fa 0 (.tm 8)), .put 10 (.ld false [.ac] (.tm 9)), pM 11 1, .put 12 (.ia 3 (.tm 10) (.tm 11)), .put 13 (.fa 0 (.tm 12)), .put 14 (.ld false [.int .i64] (.tm 13)), pM 4 14]) .ret)))
abbrev Z38.KQ (Q : AHeap → Int → Prop) : AV → AHeap → Prop := KQT [(false, [.int .i64])] Q
abbrev Z38.K (Q : AHeap → Int → Prop) : Ex → Env → AHeap → Prop := kTop [.tm 4] (Z38.KQ Q)
def Z38.W (a0 : AC) (a1 : Int) (H : AHeap) (Q : AHeap → Int → Prop) : Prop := CondB (decide (a1 < 0)) (Q H 16) (NN a0 <| FA 0 a0 fun q_1 => Ld [.ac] H q_1 fun (v_2 : AC) => IA 3 v_2 a1 fun q_3 => FA 0 q_3 fun q_4 => Ld [.int .i64] H q_4 fun (v_5 : Int) => Q H v_5)
theorem Z38.ok {a0 : AC} {a1 : Int} {H : AHeap} (Q : AHeap → Int → Prop) : Z38.W a0 a1 H Q → wpF Try.prog Z38.c [.tm 4] (envOf [(.one a0), (.one (.int .i64 a1))]) H (Z38.KQ Q) := cO (sP (o_mov rfl (sK (c_seq (cO (sP (o_mov rfl (sP (o_lt rfl rfl (sK (c_if rfl (cO (sP (o_mov rfl (sK (c_ret (k_seqR (k_topR (r_one rfl (r_nil (fun h => ⟨((16 : Int), ()), rfl, h⟩)))))))))) (c_skip (k_seq (cO (sP (o_mov rfl (sP (o_nn rfl (sP (o_fa rfl (fun q_1 => sP (o_ld1 rfl (fun (v_2 : AC) => sP (o_mov rfl (sP (o_ia rfl rfl (fun q_3 => sP (o_fa rfl (fun q_4 => sP (o_ld1 rfl (fun (v_5 : Int) => sP (o_mov rfl (sK (c_ret (k_topR (r_one rfl (r_nil (fun h => ⟨((v_5 : Int), ()), rfl, h⟩))))))))))))))))))))))))))))))))))))))
theorem Z38.run {a0 : AC} {a1 : Int} {H : AHeap} {Q : AHeap → Int → Prop} (h : Z38.W a0 a1 H Q) : Fn.Z38 a0 a1 H Q := by
  unfold Fn.Z38 RunT
  exact runK aggs_ok [] Try.func90 rfl (by kernel_rfl) (by kernel_rfl) (by kernel_rfl) (by kernel_rfl) (by kernel_rfl) (Z38.ok Q h)
def Z8.c7 : RC := (.seq (.ops [.put 9 (.cm .lt (.tm 8) (.tm 7))]) (.seq (.cond 9 .skip (.exit 0)) (.seq (.block 1 (.seq (.ops [pM 10 8, pM 5 10]) (.seq (.ops [pM 11 1, pM 12 0, pM 13 5, .put 14 (.ia 1 (.tm 12) (.tm 13)), .put 15 (.ld false [.int .i64] (.tm 14)), .put 16 (.callv (.tm 11) [(.tm 15)])]) (.cond 16 (.seq (.ops [pM 17 5, pM 4 17]) .ret) .skip)))) (.ops [.put 18 (.ar .add (.tm 8) (cI 1)), pM 8 18]))))
def Z8.c : RC := (.seq (.ops [.put 4 (.mov (cI 0))]) (.seq (.seq (.ops [pM 6 0, .put 7 (.lens (.tm 6)), .put 8 (.mov (cI 0))]) (.block 0 (.loop Z8.c7))) (.seq (.ops [.put 4 (.mov (.ct (.one (.int .i64 (-1)))))]) .ret)))
abbrev Z8.KQ (Q : AHeap → Int → Prop) : AV → AHeap → Prop := KQT [(false, [.int .i64])] Q
abbrev Z8.K (Q : AHeap → Int → Prop) : Ex → Env → AHeap → Prop := kTop [.tm 4] (Z8.KQ Q)
abbrev Z8.k3 (Q : AHeap → Int → Prop) : Ex → Env → AHeap → Prop := kSeq (fun t H => wpC Try.prog (.seq (.ops [.put 4 (.mov (.ct (.one (.int .i64 (-1)))))]) .ret) t H (Z8.K Q)) (Z8.K Q)
def Z8.R6 (s : Tup [.ac, .ac, .int .i64, .int .i64]) (t : Env) : Prop := t 0 = (.one (s.1)) ∧ t 1 = (.one (s.2.1)) ∧ t 7 = (.one (.int .i64 (s.2.2.1))) ∧ t 8 = (.one (.int .i64 (s.2.2.2.1))) ∧ True
def Z8.b6 (Q : AHeap → Int → Prop) (Y6 : Tup [.ac, .ac, .int .i64, .int .i64] → AHeap → Prop) (x0 : AC) (x1 : AC) (x7 : Int) (x8 : Int) (H : AHeap) : Prop := CondB (decide (x8 < x7)) (IA 1 x0 x8 fun q_1 => Ld [.int .i64] H q_1 fun (v_2 : Int) => CVT Try.prog [(false, [.bool])] x1 [(.one (.int .i64 v_2))] H fun H_3 (v_4 : Bool) => CondB v_4 (Q H_3 x8) (Y6 (x0, x1, (x7 : Int), ((IntKind.wrap .i64 (x8 + 1)) : Int), ()) H_3)) (Q H (-1))
def Z8.l6 (Q : AHeap → Int → Prop) (x0 : AC) (x1 : AC) (x7 : Int) (x8 : Int) (H : AHeap) : Prop := LoopT (Tup [.ac, .ac, .int .i64, .int .i64]) (fun Y s H => Z8.b6 Q Y (s.1) (s.2.1) (s.2.2.1) (s.2.2.2.1) H) (x0, x1, x7, x8, ()) H
def Z8.W (a0 : AC) (a1 : AC) (H : AHeap) (Q : AHeap → Int → Prop) : Prop := LenS a0 fun n_1 => Z8.l6 Q a0 a1 n_1 0 H
theorem Z8.b6_ok (Q : AHeap → Int → Prop) (Y6 : Tup [.ac, .ac, .int .i64, .int .i64] → AHeap → Prop) (X6 : Env → AHeap → Prop) (hX6 : ∀ s t H, Z8.R6 s t → Y6 s H → X6 t H) {x0 : AC} {x1 : AC} {x7 : Int} {x8 : Int} {H : AHeap} (j : Env) : Z8.b6 Q Y6 x0 x1 x7 x8 H → wpC Try.prog Z8.c7 (upd (upd (upd (upd j 0 (.one x0)) 1 (.one x1)) 7 (.one (.int .i64 x7))) 8 (.one (.int .i64 x8))) H (kSeq X6 (kBlk 0 (Z8.k3 Q))) := cO (sP (o_lt rfl rfl (sK (c_seq (c_if rfl (c_skip (k_seq (c_seq (c_blk (cO (sP (o_mov rfl (sP (o_mov rfl (sK (cO (sP (o_mov rfl (sP (o_mov rfl (sP (o_mov rfl (sP (o_ia rfl rfl (fun q_1 => sP (o_ld1 rfl (fun (v_2 : Int) => sP (o_callv rfl rfl (cu_1 (fun H_3 (v_4 : Bool) => sK (c_if rfl (cO (sP (o_mov rfl (sP (o_mov rfl (sK (c_ret (k_blkR (k_seqR (k_seqR (k_blkR (k_seqR (k_topR (r_one rfl (r_nil (fun h => ⟨((x8 : Int), ()), rfl, h⟩)))))))))))))))) (c_skip (k_blk (k_seq (c_ops (sP (o_add rfl rfl (sP (o_mov rfl (sK (hX6 _ _ _ ⟨rfl, rfl, rfl, rfl, trivial⟩)))))))))))))))))))))))))))))))))))) (c_exit (k_seqE (k_seqE (k_blkH (k_seq (cO (sP (o_mov rfl (sK (c_ret (k_topR (r_one rfl (r_nil (fun h => ⟨(((-1) : Int), ()), rfl, h⟩)))))))))))))))))))
theorem Z8.l6_ok (Q : AHeap → Int → Prop) {x0 : AC} {x1 : AC} {x7 : Int} {x8 : Int} {H : AHeap} {t : Env} (h0 : t 0 = (.one x0)) (h1 : t 1 = (.one x1)) (h7 : t 7 = (.one (.int .i64 x7))) (h8 : t 8 = (.one (.int .i64 x8))) : Z8.l6 Q x0 x1 x7 x8 H → wpC Try.prog (.loop Z8.c7) t H (kBlk 0 (Z8.k3 Q)) :=
  m_loop Z8.R6 ⟨h0, h1, h7, h8, trivial⟩ fun X Y hX s t H hR hB => by
    have g := Z8.b6_ok Q Y X hX t hB
    rw [upd_self hR.1] at g
    rw [upd_self hR.2.1] at g
    rw [upd_self hR.2.2.1] at g
    rw [upd_self hR.2.2.2.1] at g
    exact g
theorem Z8.ok {a0 : AC} {a1 : AC} {H : AHeap} (Q : AHeap → Int → Prop) : Z8.W a0 a1 H Q → wpF Try.prog Z8.c [.tm 4] (envOf [(.one a0), (.one a1)]) H (Z8.KQ Q) := cO (sP (o_mov rfl (sK (c_seq (cO (sP (o_mov rfl (sP (o_lens rfl (fun n_1 => sP (o_mov rfl (sK (c_blk (Z8.l6_ok Q rfl rfl rfl rfl))))))))))))))
theorem Z8.run {a0 : AC} {a1 : AC} {H : AHeap} {Q : AHeap → Int → Prop} (h : Z8.W a0 a1 H Q) : Fn.Z8 a0 a1 H Q := by
  unfold Fn.Z8 RunT
  exact runK aggs_ok [] Try.func91 rfl (by kernel_rfl) (by kernel_rfl) (by kernel_rfl) (by kernel_rfl) (by kernel_rfl) (Z8.ok Q h)
def Z3.c : RC := (.seq (.ops [.put 2 (.mov (.ct (.one (.sl none 0 0 (some 0)))))]) (.seq (.ops [pM 3 0, .put 4 (.call 101 [(.ct (.one (.sl none 0 0 (some 0)))), (.tm 3)]), pM 2 4]) .ret))
abbrev Z3.KQ (Q : AHeap → AC → Prop) : AV → AHeap → Prop := KQT [(false, [.ac])] Q
abbrev Z3.K (Q : AHeap → AC → Prop) : Ex → Env → AHeap → Prop := kTop [.tm 2] (Z3.KQ Q)
def Z3.W (a0 : AC) (H : AHeap) (Q : AHeap → AC → Prop) : Prop := RunT Try.prog [(false, [.ac])] 101 [(.one (.sl none 0 0 (some 0))), (.one a0)] H fun H_1 (v_2 : AC) => Q H_1 v_2
theorem Z3.ok {a0 : AC} {H : AHeap} (Q : AHeap → AC → Prop) : Z3.W a0 H Q → wpF Try.prog Z3.c [.tm 2] (envOf [(.one a0)]) H (Z3.KQ Q) := cO (sP (o_mov rfl (sK (cO (sP (o_mov rfl (sP (o_call rfl (cv_1 (fun H_1 (v_2 : AC) => sP (o_mov rfl (sK (c_ret (k_topR (r_one rfl (r_nil (fun h => ⟨(v_2, ()), rfl, h⟩)))))))))))))))))
theorem Z3.run {a0 : AC} {H : AHeap} {Q : AHeap → AC → Prop} (h : Z3.W a0 H Q) : Fn.Z3 a0 H Q := by
  unfold Fn.Z3 RunT
  exact runK aggs_ok [] Try.func92 rfl (by kernel_rfl) (by kernel_rfl) (by kernel_rfl) (by kernel_rfl) (by kernel_rfl) (Z3.ok Q h)
def Z11.c4 : RC := (.seq (.ops [.put 8 (.cm .lt (.tm 7) (.tm 6))]) (.seq (.cond 8 .skip (.exit 0)) (.seq (.block 1 (.seq (.ops [.put 9 (.ia 1 (.tm 5) (.tm 7)), .put 10 (.ld false [.int .i64] (.tm 9)), pM 4 10]) (.seq (.ops [pM 11 0, pM 12 4, .put 13 (.callv (.tm 11) [(.tm 12)]), .put 14 (.not (.tm 13))]) (.cond 14 .ret .skip)))) (.ops [.put 15 (.ar .add (.tm 7) (cI 1)), pM 7 15]))))
def Z11.c : RC := (.seq (.ops [.put 5 (.ld false [.ac] (.tm 1)), .put 6 (.lens (.tm 5)), .put 7 (.mov (cI 0))]) (.block 0 (.loop Z11.c4)))
abbrev Z11.KQ (Q : AHeap → Prop) : AV → AHeap → Prop := KQT [] Q
abbrev Z11.K (Q : AHeap → Prop) : Ex → Env → AHeap → Prop := kTop [] (Z11.KQ Q)
def Z11.R3 (s : Tup [.ac, .ac, .int .i64, .int .i64]) (t : Env) : Prop := t 0 = (.one (s.1)) ∧ t 5 = (.one (s.2.1)) ∧ t 6 = (.one (.int .i64 (s.2.2.1))) ∧ t 7 = (.one (.int .i64 (s.2.2.2.1))) ∧ True
def Z11.b3 (Q : AHeap → Prop) (Y3 : Tup [.ac, .ac, .int .i64, .int .i64] → AHeap → Prop) (x0 : AC) (x5 : AC) (x6 : Int) (x7 : Int) (H : AHeap) : Prop := CondB (decide (x7 < x6)) (IA 1 x5 x7 fun q_1 => Ld [.int .i64] H q_1 fun (v_2 : Int) => CVT Try.prog [(false, [.bool])] x0 [(.one (.int .i64 v_2))] H fun H_3 (v_4 : Bool) => CondB (!v_4) (Q H_3 ) (Y3 (x0, x5, (x6 : Int), ((IntKind.wrap .i64 (x7 + 1)) : Int), ()) H_3)) (Q H )
def Z11.l3 (Q : AHeap → Prop) (x0 : AC) (x5 : AC) (x6 : Int) (x7 : Int) (H : AHeap) : Prop := LoopT (Tup [.ac, .ac, .int .i64, .int .i64]) (fun Y s H => Z11.b3 Q Y (s.1) (s.2.1) (s.2.2.1) (s.2.2.2.1) H) (x0, x5, x6, x7, ()) H
def Z11.W (a0 : AC) (a1 : AC) (H : AHeap) (Q : AHeap → Prop) : Prop := Ld [.ac] H a1 fun (v_1 : AC) => LenS v_1 fun n_2 => Z11.l3 Q a0 v_1 n_2 0 H
theorem Z11.b3_ok (Q : AHeap → Prop) (Y3 : Tup [.ac, .ac, .int .i64, .int .i64] → AHeap → Prop) (X3 : Env → AHeap → Prop) (hX3 : ∀ s t H, Z11.R3 s t → Y3 s H → X3 t H) {x0 : AC} {x5 : AC} {x6 : Int} {x7 : Int} {H : AHeap} (j : Env) : Z11.b3 Q Y3 x0 x5 x6 x7 H → wpC Try.prog Z11.c4 (upd (upd (upd (upd j 0 (.one x0)) 5 (.one x5)) 6 (.one (.int .i64 x6))) 7 (.one (.int .i64 x7))) H (kSeq X3 (kBlk 0 (Z11.K Q))) := cO (sP (o_lt rfl rfl (sK (c_seq (c_if rfl (c_skip (k_seq (c_seq (c_blk (cO (sP (o_ia rfl rfl (fun q_1 => sP (o_ld1 rfl (fun (v_2 : Int) => sP (o_mov rfl (sK (cO (sP (o_mov rfl (sP (o_mov rfl (sP (o_callv rfl rfl (cu_1 (fun H_3 (v_4 : Bool) => sP (o_not rfl (sK (c_if rfl (c_ret (k_blkR (k_seqR (k_seqR (k_blkR (k_topR (r_nil (fun h => ⟨(()), rfl, h⟩)))))))) (c_skip (k_blk (k_seq (c_ops (sP (o_add rfl rfl (sP (o_mov rfl (sK (hX3 _ _ _ ⟨rfl, rfl, rfl, rfl, trivial⟩)))))))))))))))))))))))))))))))))) (c_exit (k_seqE (k_seqE (k_blkH (k_top (r_nil (fun h => ⟨(()), rfl, h⟩))))))))))))
theorem Z11.l3_ok (Q : AHeap → Prop) {x0 : AC} {x5 : AC} {x6 : Int} {x7 : Int} {H : AHeap} {t : Env} (h0 : t 0 = (.one x0)) (h5 : t 5 = (.one x5)) (h6 : t 6 = (.one (.int .i64 x6))) (h7 : t 7 = (.one (.int .i64 x7))) : Z11.l3 Q x0 x5 x6 x7 H → wpC Try.prog (.loop Z11.c4) t H (kBlk 0 (Z11.K Q)) :=
  m_loop Z11.R3 ⟨h0, h5, h6, h7, trivial⟩ fun X Y hX s t H hR hB => by
    have g := Z11.b3_ok Q Y X hX t hB
    rw [upd_self hR.1] at g
    rw [upd_self hR.2.1] at g
    rw [upd_self hR.2.2.1] at g
    rw [upd_self hR.2.2.2.1] at g
    exact g
theorem Z11.ok {a0 : AC} {a1 : AC} {H : AHeap} (Q : AHeap → Prop) : Z11.W a0 a1 H Q → wpF Try.prog Z11.c [] (envOf [(.one a0), (.one a1)]) H (Z11.KQ Q) := cO (sP (o_ld1 rfl (fun (v_1 : AC) => sP (o_lens rfl (fun n_2 => sP (o_mov rfl (sK (c_blk (Z11.l3_ok Q rfl rfl rfl rfl)))))))))
theorem Z11.run {a0 : AC} {a1 : AC} {H : AHeap} {Q : AHeap → Prop} (h : Z11.W a0 a1 H Q) : Fn.Z11 a0 a1 H Q := by
  unfold Fn.Z11 RunT
  exact runK aggs_ok [] Try.func93 rfl (by kernel_rfl) (by kernel_rfl) (by kernel_rfl) (by kernel_rfl) (by kernel_rfl) (Z11.ok Q h)
end Go.Proofs.Ytanaaabejeeakaa
end
section
namespace Go.Proofs.Ytanaaabejeeakaa
open Go.AI
set_option maxRecDepth 100000
set_option maxHeartbeats 2000000
set_option linter.unusedVariables false
attribute [local irreducible] Ld Sto New NewS NewM NN NZ GE0 FA IA IAP LenS Slc App Cpy Clr MkS Fnc NilQ IxS Look MSet Run CV RunT CVT LoopT Same1 Same2 wpC wpOs wpT wpO wpOp
def Z37.c : RC := (.seq (.ops [.put 6 (.mov (cI 0)), .put 7 (.mov (cI 0))]) (.seq (.seq (.ops [pM 8 0, pM 9 1, .put 10 (.call 90 [(.tm 8), (.tm 9)]), pM 11 2, .put 12 (.cm .ne (.tm 10) (.tm 11))]) (.cond 12 (.seq (.ops [pM 13 1, pM 14 1, pM 6 13, pM 7 14]) .ret) .skip)) (.seq (.ops [pM 15 0, .put 16 (.nn (.tm 15)), .put 17 (.fa 0 (.tm 16)), .put 18 (.ld false [.ac] (.tm 17)), pM 19 1, .put 20 (.ia 3 (.tm 18) (.tm 19)), .put 21 (.fa 1 (.tm 20)), .put 22 (.ld false [.int .i64] (.tm 21)), pM 23 0, .put 24 (.nn (.tm 23)), .put 25 (.fa 0 (.tm 24)), .put 26 (.ld false [.ac] (.tm 25)), pM 27 1, .put 28 (.ia 3 (.tm 26) (.tm 27)), .put 29 (.fa 2 (.tm 28)), .put 30 (.ld false [.int .i64] (.tm 29)), pM 6 22, pM 7 30]) .ret)))
abbrev Z37.KQ (Q : AHeap → Int → Int → Prop) : AV → AHeap → Prop := KQT [(false, [.int .i64]), (false, [.int .i64])] Q
abbrev Z37.K (Q : AHeap → Int → Int → Prop) : Ex → Env → AHeap → Prop := kTop [.tm 6, .tm 7] (Z37.KQ Q)
def Z37.W (a0 : AC) (a1 : Int) (a2 : Int) (H : AHeap) (Q : AHeap → Int → Int → Prop) : Prop := Fn.Z38 a0 a1 H fun H_1 (v_2 : Int) => CondB (v_2 != a2) (Q H_1 a1 a1) (NN a0 <| FA 0 a0 fun q_3 => Ld [.ac] H_1 q_3 fun (v_4 : AC) => IA 3 v_4 a1 fun q_5 => FA 1 q_5 fun q_6 => Ld [.int .i64] H_1 q_6 fun (v_7 : Int) => NN a0 <| FA 0 a0 fun q_8 => Ld [.ac] H_1 q_8 fun (v_9 : AC) => IA 3 v_9 a1 fun q_10 => FA 2 q_10 fun q_11 => Ld [.int .i64] H_1 q_11 fun (v_12 : Int) => Q H_1 v_7 v_12)
theorem Z37.ok {a0 : AC} {a1 : Int} {a2 : Int} {H : AHeap} (Q : AHeap → Int → Int → Prop) : Z37.W a0 a1 a2 H Q → wpF Try.prog Z37.c [.tm 6, .tm 7] (envOf [(.one a0), (.one (.int .i64 a1)), (.one (.int .i64 a2))]) H (Z37.KQ Q) := cO (sP (o_mov rfl (sP (o_mov rfl (sK (c_seq (cO (sP (o_mov rfl (sP (o_mov rfl (sP (o_call rfl (cv_1 (fun H_1 (v_2 : Int) => sP (o_mov rfl (sP (o_ne rfl rfl (sK (c_if rfl (cO (sP (o_mov rfl (sP (o_mov rfl (sP (o_mov rfl (sP (o_mov rfl (sK (c_ret (k_seqR (k_topR (r_one rfl (r_one rfl (r_nil (fun h => ⟨((a1 : Int), (a1 : Int), ()), rfl, h⟩))))))))))))))))) (c_skip (k_seq (cO (sP (o_mov rfl (sP (o_nn rfl (sP (o_fa rfl (fun q_3 => sP (o_ld1 rfl (fun (v_4 : AC) => sP (o_mov rfl (sP (o_ia rfl rfl (fun q_5 => sP (o_fa rfl (fun q_6 => sP (o_ld1 rfl (fun (v_7 : Int) => sP (o_mov rfl (sP (o_nn rfl (sP (o_fa rfl (fun q_8 => sP (o_ld1 rfl (fun (v_9 : AC) => sP (o_mov rfl (sP (o_ia rfl rfl (fun q_10 => sP (o_fa rfl (fun q_11 => sP (o_ld1 rfl (fun (v_12 : Int) => sP (o_mov rfl (sP (o_mov rfl (sK (c_ret (k_topR (r_one rfl (r_one rfl (r_nil (fun h => ⟨((v_7 : Int), (v_12 : Int), ()), rfl, h⟩))))))))))))))))))))))))))))))))))))))))))))))))))))))))))))))))))
theorem Z37.run {a0 : AC} {a1 : Int} {a2 : Int} {H : AHeap} {Q : AHeap → Int → Int → Prop} (h : Z37.W a0 a1 a2 H Q) : Fn.Z37 a0 a1 a2 H Q := by
  unfold Fn.Z37 RunT
  exact runK aggs_ok [(3, [])] Try.func98 rfl (by kernel_rfl) (by kernel_rfl) (by kernel_rfl) (by kernel_rfl) (by kernel_rfl) (Z37.ok Q h)
def Z7.c7 : RC := (.seq (.ops [.put 9 (.cm .lt (.tm 8) (.tm 7))]) (.seq (.cond 9 .skip (.exit 0)) (.seq (.block 1 (.seq (.ops [pM 10 8, pM 5 10]) (.seq (.ops [pM 11 1, pM 12 0, pM 13 5, .put 14 (.ia 3 (.tm 12) (.tm 13)), .put 15 (.ld true [.int .i64, .int .i64, .int .i64] (.tm 14)), .put 16 (.callv (.tm 11) [(.tm 15)])]) (.cond 16 (.seq (.ops [pM 17 5, pM 4 17]) .ret) .skip)))) (.ops [.put 18 (.ar .add (.tm 8) (cI 1)), pM 8 18]))))
def Z7.c : RC := (.seq (.ops [.put 4 (.mov (cI 0))]) (.seq (.seq (.ops [pM 6 0, .put 7 (.lens (.tm 6)), .put 8 (.mov (cI 0))]) (.block 0 (.loop Z7.c7))) (.seq (.ops [.put 4 (.mov (.ct (.one (.int .i64 (-1)))))]) .ret)))
abbrev Z7.KQ (Q : AHeap → Int → Prop) : AV → AHeap → Prop := KQT [(false, [.int .i64])] Q
abbrev Z7.K (Q : AHeap → Int → Prop) : Ex → Env → AHeap → Prop := kTop [.tm 4] (Z7.KQ Q)
abbrev Z7.k3 (Q : AHeap → Int → Prop) : Ex → Env → AHeap → Prop := kSeq (fun t H => wpC Try.prog (.seq (.ops [.put 4 (.mov (.ct (.one (.int .i64 (-1)))))]) .ret) t H (Z7.K Q)) (Z7.K Q)
def Z7.R6 (s : Tup [.ac, .ac, .int .i64, .int .i64]) (t : Env) : Prop := t 0 = (.one (s.1)) ∧ t 1 = (.one (s.2.1)) ∧ t 7 = (.one (.int .i64 (s.2.2.1))) ∧ t 8 = (.one (.int .i64 (s.2.2.2.1))) ∧ True
def Z7.b6 (Q : AHeap → Int → Prop) (Y6 : Tup [.ac, .ac, .int .i64, .int .i64] → AHeap → Prop) (x0 : AC) (x1 : AC) (x7 : Int) (x8 : Int) (H : AHeap) : Prop := CondB (decide (x8 < x7)) (IA 3 x0 x8 fun q_1 => Ld [.int .i64, .int .i64, .int .i64] H q_1 fun (v_2 : Int) (v_3 : Int) (v_4 : Int) => CVT Try.prog [(false, [.bool])] x1 [(.agg [(.int .i64 v_2), (.int .i64 v_3), (.int .i64 v_4)])] H fun H_5 (v_6 : Bool) => CondB v_6 (Q H_5 x8) (Y6 (x0, x1, (x7 : Int), ((IntKind.wrap .i64 (x8 + 1)) : Int), ()) H_5)) (Q H (-1))
def Z7.l6 (Q : AHeap → Int → Prop) (x0 : AC) (x1 : AC) (x7 : Int) (x8 : Int) (H : AHeap) : Prop := LoopT (Tup [.ac, .ac, .int .i64, .int .i64]) (fun Y s H => Z7.b6 Q Y (s.1) (s.2.1) (s.2.2.1) (s.2.2.2.1) H) (x0, x1, x7, x8, ()) H
def Z7.W (a0 : AC) (a1 : AC) (H : AHeap) (Q : AHeap → Int → Prop) : Prop := LenS a0 fun n_1 => Z7.l6 Q a0 a1 n_1 0 H
theorem Z7.b6_ok (Q : AHeap → Int → Prop) (Y6 : Tup [.ac, .ac, .int .i64, .int .i64] → AHeap → Prop) (X6 : Env → AHeap → Prop) (hX6 : ∀ s t H, Z7.R6 s t → Y6 s H → X6 t H) {x0 : AC} {x1 : AC} {x7 : Int} {x8 : Int} {H : AHeap} (j : Env) : Z7.b6 Q Y6 x0 x1 x7 x8 H → wpC Try.prog Z7.c7 (upd (upd (upd (upd j 0 (.one x0)) 1 (.one x1)) 7 (.one (.int .i64 x7))) 8 (.one (.int .i64 x8))) H (kSeq X6 (kBlk 0 (Z7.k3 Q))) := cO (sP (o_lt rfl rfl (sK (c_seq (c_if rfl (c_skip (k_seq (c_seq (c_blk (cO (sP (o_mov rfl (sP (o_mov rfl (sK (cO (sP (o_mov rfl (sP (o_mov rfl (sP (o_mov rfl (sP (o_ia rfl rfl (fun q_1 => sP (o_ld3 rfl (fun (v_2 : Int) (v_3 : Int) (v_4 : Int) => sP (o_callv rfl rfl (cu_1 (fun H_5 (v_6 : Bool) => sK (c_if rfl (cO (sP (o_mov rfl (sP (o_mov rfl (sK (c_ret (k_blkR (k_seqR (k_seqR (k_blkR (k_seqR (k_topR (r_one rfl (r_nil (fun h => ⟨((x8 : Int), ()), rfl, h⟩)))))))))))))))) (c_skip (k_blk (k_seq (c_ops (sP (o_add rfl rfl (sP (o_mov rfl (sK (hX6 _ _ _ ⟨rfl, rfl, rfl, rfl, trivial⟩)))))))))))))))))))))))))))))))))))) (c_exit (k_seqE (k_seqE (k_blkH (k_seq (cO (sP (o_mov rfl (sK (c_ret (k_topR (r_one rfl (r_nil (fun h => ⟨(((-1) : Int), ()), rfl, h⟩)))))))))))))))))))
theorem Z7.l6_ok (Q : AHeap → Int → Prop) {x0 : AC} {x1 : AC} {x7 : Int} {x8 : Int} {H : AHeap} {t : Env} (h0 : t 0 = (.one x0)) (h1 : t 1 = (.one x1)) (h7 : t 7 = (.one (.int .i64 x7))) (h8 : t 8 = (.one (.int .i64 x8))) : Z7.l6 Q x0 x1 x7 x8 H → wpC Try.prog (.loop Z7.c7) t H (kBlk 0 (Z7.k3 Q)) :=
  m_loop Z7.R6 ⟨h0, h1, h7, h8, trivial⟩ fun X Y hX s t H hR hB => by
    have g := Z7.b6_ok Q Y X hX t hB
    rw [upd_self hR.1] at g
    rw [upd_self hR.2.1] at g
    rw [upd_self hR.2.2.1] at g
    rw [upd_self hR.2.2.2.1] at g
    exact g
theorem Z7.ok {a0 : AC} {a1 : AC} {H : AHeap} (Q : AHeap → Int → Prop) : Z7.W a0 a1 H Q → wpF Try.prog Z7.c [.tm 4] (envOf [(.one a0), (.one a1)]) H (Z7.KQ Q) := cO (sP (o_mov rfl (sK (c_seq (cO (sP (o_mov rfl (sP (o_lens rfl (fun n_1 => sP (o_mov rfl (sK (c_blk (Z7.l6_ok Q rfl rfl rfl rfl))))))))))))))
theorem Z7.run {a0 : AC} {a1 : AC} {H : AHeap} {Q : AHeap → Int → Prop} (h : Z7.W a0 a1 H Q) : Fn.Z7 a0 a1 H Q := by
  unfold Fn.Z7 RunT
  exact runK aggs_ok [] Try.func99 rfl (by kernel_rfl) (by kernel_rfl) (by kernel_rfl) (by kernel_rfl) (by kernel_rfl) (Z7.ok Q h)
end Go.Proofs.Ytanaaabejeeakaa
end
section

end
section
namespace Go.Proofs.Ytanaaabejeeakaa
open Go.AI
end Go.Proofs.Ytanaaabejeeakaa
end
section
namespace Go.Proofs.Ytanaaabejeeakaa
open Go.AI
theorem kid_at {rows : List (Int × Int × AC)} {kids : List Fm} (hl : rows.length = kids.length) {i : Nat} (hi : i < kids.length) : ∃ r k, rows[i]? = some r ∧ kids[i]? = some k ∧ (rows.map fun r : Int × Int × AC => ([.int .i64 r.1, .int .i64 r.2.1, r.2.2] : List AC))[i]? = some [.int .i64 r.1, .int .i64 r.2.1, r.2.2] := by
  refine ⟨rows[i], kids[i], List.getElem?_eq_getElem (by omega), List.getElem?_eq_getElem hi, ?_⟩
  rw [List.getElem?_map, List.getElem?_eq_getElem (by omega)]; rfl
theorem pnodes_c : ∀ (n : Nat) {op var : Int} {s : AC} {f : Fm} {H : AHeap} {most : Int}, f.size ≤ n → f.size < 4611686018427387904 → 0 ≤ most → most < 4611686018427387904 → FmAt H op var s f →
    Fn.Z41 op var s most H fun H' r => r = min (f.size : Int) (most + 1) ∧ Kp H H' := by
  intro n
  induction n with
  | zero => intro op var s f H most hn; have := f.size_pos; omega
  | succ n ih =>
    intro op var s f H most hn hmax hm0 hm1 hf
    obtain ⟨kids, rows, rfl, hl, hs, hk⟩ := hf.inv
    have hsz : Fm.size (.mk op var kids) = Fm.sizes kids + 1 := by rw [Fm.size]
    have hlen := Fm.sizes_len kids
    refine Z41.run ?_
    unfold Z41.W
    refine New.own fun b H1 hb hs1 ho hkp => ?_
    refine FA.mk (Ld.oc ho rfl (LenS.of (hs.kp hkp) ?_))
    rw [List.length_map, hl]
    unfold Z41.l8
    have fin : ∀ (i : Nat) (x : Int) (H2 : AHeap), Kp H H2 → (x ≤ most ∧ x = ((Fm.sizes (kids.take i) + 1 : Nat) : Int)) ∨ (x = most + 1 ∧ most < ((Fm.sizes (kids.take i) + 1 : Nat) : Int)) → (most < x ∨ kids.length ≤ i) →
        Z41.p27 (fun H' r => r = min ((Fm.size (.mk op var kids) : Nat) : Int) (most + 1) ∧ Kp H H') most x H2 := by
      intro i x H2 hkp2 hx hor
      unfold Z41.p27
      refine ⟨?_, hkp2⟩
      have hle := Fm.sizes_le kids i
      have hw : IntKind.wrap .i64 (most + 1) = most + 1 := wrap64 (by omega) (by omega)
      rw [hw, hsz]
      have hall : kids.length ≤ i → Fm.sizes (kids.take i) = Fm.sizes kids := fun h => by rw [List.take_of_length_le h]
      split <;> rcases hx with ⟨h1, h2⟩ | ⟨h1, h2⟩ <;> rcases hor with h3 | h3 <;> (try have := hall h3) <;> omega
    refine LoopT.rule (fun m s0 H2 => ∃ (i : Nat) (x : Int), i ≤ kids.length ∧ m = kids.length - i ∧ s0 = (most, x, s, (kids.length : Int), (i : Int), ()) ∧ Kp H H2 ∧
      ((x ≤ most ∧ x = ((Fm.sizes (kids.take i) + 1 : Nat) : Int)) ∨ (x = most + 1 ∧ most < ((Fm.sizes (kids.take i) + 1 : Nat) : Int)))) kids.length ⟨0, 1, by omega, by omega, rfl, hkp, ?_⟩ ?_
    · simp only [List.take_zero, Fm.sizes]; omega
    rintro m s0 H2 back ⟨i, x, hi, rfl, rfl, hkp2, hx⟩ hback
    simp only [Z41.b8]
    refine CondB.dec (fun hlt => ?_) fun hge => fin i x H2 hkp2 hx (.inr (by omega))
    have hlt' : i < kids.length := by omega
    obtain ⟨r, k, hri, hki, hro⟩ := kid_at hl hlt'
    refine IA.of (hs.kp hkp2) (by omega) (by rw [Int.toNat_natCast]; exact hro) fun b' o' hld => ?_
    refine Ld.a3 hld r.1 r.2.1 r.2.2 rfl rfl ?_
    refine NewSto.own rfl fun p H3 hp hs3 hbox hk3 => ?_
    have hle := Fm.size_mem kids i k hki
    have htk := Fm.sizes_take kids i k hki
    have htl := Fm.sizes_le kids (i + 1)
    refine CondB.dec (fun hgt => fin i x H3 (hkp2.trans hk3) hx (.inl hgt)) fun hng => ?_
    refine Ld.o3 hbox r.1 r.2.1 r.2.2 rfl ?_
    have hw : IntKind.wrap .i64 (most - x) = most - x := wrap64 (by omega) (by omega)
    rw [hw]
    refine RunT.imp ?_ (ih (by omega) (by omega) (by omega) (by omega) ((hk i r k hri hki).kp (hkp2.trans hk3)))
    rintro H4 v ⟨rfl, hkp4⟩
    refine hback (kids.length - (i + 1)) _ _ (by omega) ⟨i + 1, x + min (k.size : Int) (most - x + 1), by omega, rfl, ?_, (hkp2.trans hk3).trans hkp4, ?_⟩
    · exact tc rfl (tc (wrap64 (by omega) (by omega)) (tc rfl (tc rfl (tc ((wrap64 (by omega) (by omega)).trans (by omega)) rfl))))
    · rw [htk]; omega
theorem boolFault_c : ∀ (n : Nat) {op var : Int} {s : AC} {f : Fm} {H : AHeap}, f.size ≤ n → f.size < 4611686018427387904 → FmAt H op var s f →
    Fn.Z22 op var s H fun H' r => r = f.fault ∧ Kp H H' := by
  intro n
  induction n with
  | zero => intro op var s f H hn; have := f.size_pos; omega
  | succ n ih =>
    intro op var s f H hn hmax hf
    obtain ⟨kids, rows, rfl, hl, hs, hk⟩ := hf.inv
    have hsz : Fm.size (.mk op var kids) = Fm.sizes kids + 1 := by rw [Fm.size]
    have hlen := Fm.sizes_len kids
    refine Z22.run ?_
    unfold Z22.W
    refine New.own fun b H1 hb hs1 ho hkp => ?_
    refine FA.mk (Ld.oi ho rfl ?_)
    have hf0 := Fm.fault.eq_1 op var kids
    -- the kids
    have kidsOk : ∀ g : Int, g = Fm.faults kids → Z22.l58 (fun H' r => r = g ∧ Kp H H') s kids.length 0 H1 := by
      rintro g rfl
      unfold Z22.l58
      refine LoopT.rule (fun m s0 H2 => ∃ (i : Nat), i ≤ kids.length ∧ m = kids.length - i ∧ s0 = (s, (kids.length : Int), (i : Int), ()) ∧ Kp H H2 ∧ Fm.faults kids = Fm.faults (kids.drop i)) kids.length ⟨0, by omega, by omega, rfl, hkp, by simp⟩ ?_
      rintro m s0 H2 back ⟨i, hi, rfl, rfl, hkp2, hx⟩ hback
      simp only [Z22.b58]
      refine CondB.dec (fun hlt => ?_) fun hge => ?_
      · have hlt' : i < kids.length := by omega
        obtain ⟨r, k, hri, hki, hro⟩ := kid_at hl hlt'
        refine IA.of (hs.kp hkp2) (by omega) (by rw [Int.toNat_natCast]; exact hro) fun b' o' hld => ?_
        refine Ld.a3 hld r.1 r.2.1 r.2.2 rfl rfl ?_
        refine NewSto.own rfl fun p H3 hp hs3 hbox hk3 => ?_
        refine Ld.o3 hbox r.1 r.2.1 r.2.2 rfl ?_
        have hle := Fm.size_mem kids i k hki
        refine RunT.imp ?_ (ih (by omega) (by omega) ((hk i r k hri hki).kp (hkp2.trans hk3)))
        rintro H4 v ⟨rfl, hkp4⟩
        have hdr := Fm.faults_drop kids i k hki
        refine CondB.ne (fun hne => ⟨?_, (hkp2.trans hk3).trans hkp4⟩) fun he => ?_
        · rw [hx, hdr, if_pos hne]
        · refine hback (kids.length - (i + 1)) _ _ (by omega) ⟨i + 1, by omega, rfl, ?_, (hkp2.trans hk3).trans hkp4, by rw [hx, hdr, if_neg (by omega)]⟩
          exact tc rfl (tc rfl (tc ((wrap64 (by omega) (by omega)).trans (by omega)) rfl))
      · refine ⟨?_, hkp2⟩
        rw [hx, List.drop_eq_nil_of_le (by omega)]; rfl
    have p49 : ∀ (x : Bool), 1 ≤ op → op ≤ 7 → (kids.length : Int) = Fm.want op kids.length → x = decide (var < 0 ∨ Fm.most op < var) → Z22.p49 (fun H' r => r = Fm.fault (.mk op var kids) ∧ Kp H H') (.ptr (some (b, 0))) x H1 := by
      intro x h1 h2 h3 hx
      unfold Z22.p49
      refine CondB.mk (fun e => ⟨?_, hkp⟩) fun e => ?_
      · rw [e] at hx
        rw [hf0, if_neg (by omega), if_neg (by omega), if_pos (of_decide_eq_true hx.symm)]
      · rw [e] at hx
        refine FA.mk (Ld.oc ho rfl (LenS.of (hs.kp hkp) ?_))
        rw [List.length_map, hl]
        exact kidsOk _ (by rw [hf0, if_neg (by omega), if_neg (by omega), if_neg (of_decide_eq_false hx.symm)])
    have p43 : ∀ (x : Bool), 1 ≤ op → op ≤ 7 → x = decide ((kids.length : Int) ≠ Fm.want op kids.length) → Z22.p43 (fun H' r => r = Fm.fault (.mk op var kids) ∧ Kp H H') (.ptr (some (b, 0))) (Fm.most op) x H1 := by
      intro x h1 h2 hx
      unfold Z22.p43
      refine CondB.mk (fun e => ⟨?_, hkp⟩) fun e => ?_
      · rw [e] at hx
        rw [hf0, if_neg (by omega), if_pos (of_decide_eq_true hx.symm)]
      · rw [e] at hx
        have h3 := of_decide_eq_false hx.symm
        refine FA.mk (Ld.oi ho rfl (CondB.dec (fun hlt => p49 _ h1 h2 (by omega) ?_) fun hge => FA.mk (Ld.oi ho rfl (p49 _ h1 h2 (by omega) ?_))))
        · simp [hlt]
        · rw [Bool.eq_iff_iff]; simp; omega
    have p39 : ∀ (y : Int), 1 ≤ op → op ≤ 7 → (y = Fm.want op kids.length ∧ 0 ≤ y ∨ y < 0 ∧ Fm.want op kids.length = kids.length) → Z22.p39 (fun H' r => r = Fm.fault (.mk op var kids) ∧ Kp H H') (.ptr (some (b, 0))) y (Fm.most op) H1 := by
      intro y h1 h2 hy
      unfold Z22.p39
      refine CondB.dec (fun hge => ?_) fun hlt => p43 _ h1 h2 ?_
      · refine FA.mk (Ld.oc ho rfl (LenS.of (hs.kp hkp) (p43 _ h1 h2 ?_)))
        rw [List.length_map, hl, Bool.eq_iff_iff]
        simp only [bne_iff_ne, ne_eq, decide_eq_true_eq]
        rcases hy with ⟨h, _⟩ | ⟨h, _⟩
        · rw [h]
        · omega
      · rcases hy with ⟨_, h⟩ | ⟨_, h⟩
        · omega
        · simp [h]
    have hop : ∀ (y z : Int), op = z → z = 1 ∨ z = 2 ∨ z = 3 ∨ z = 6 ∨ z = 7 → y = Fm.want z kids.length → 0 ≤ y → ∀ mo, mo = Fm.most z → Z22.p39 (fun H' r => r = Fm.fault (.mk op var kids) ∧ Kp H H') (.ptr (some (b, 0))) y mo H1 := by
      rintro y z rfl hz hy h0 mo rfl
      exact p39 y (by omega) (by omega) (.inl ⟨hy, h0⟩)
    refine CondB.eq (fun e => hop 0 1 e (by omega) (by simp [Fm.want]) (by omega) _ (by simp [Fm.most])) fun e1 => ?_
    refine CondB.eq (fun e => hop 0 2 e (by omega) (by simp [Fm.want]) (by omega) _ (by simp [Fm.most])) fun e2 => ?_
    refine CondB.eq (fun e => hop 1 3 e (by omega) (by simp [Fm.want]) (by omega) _ (by simp [Fm.most])) fun e3 => ?_
    refine CondB.eq (fun e => hop 2 6 e (by omega) (by simp [Fm.want]) (by omega) _ (by simp [Fm.most])) fun e6 => ?_
    refine CondB.eq (fun e => hop 3 7 e (by omega) (by simp [Fm.want]) (by omega) _ (by simp [Fm.most])) fun e7 => ?_
    have hw : Fm.want op kids.length = kids.length := by simp [Fm.want, e1, e2, e3, e6, e7]
    have hmo : Fm.most op = 0 := by simp [Fm.most, e1, e2]
    refine CondB.eq (fun e => ?_) fun e4 => ?_
    · unfold Z22.p34
      have := p39 (-1) (by omega) (by omega) (.inr ⟨by omega, hw⟩)
      rw [hmo] at this
      exact CondB.pos rfl this
    · unfold Z22.p34
      refine CondB.eq (fun e => ?_) fun e5 => ⟨?_, hkp⟩
      · have := p39 (-1) (by omega) (by omega) (.inr ⟨by omega, hw⟩)
        rw [hmo] at this
        exact this
      · rw [hf0, if_pos (by omega)]
def boolFaultOf (f : Fm) : Int := if 300 < f.size then 3 else f.fault
theorem CheckBool_c {op var : Int} {s : AC} {f : Fm} {H : AHeap} (hmax : f.size < 4611686018427387904) (hf : FmAt H op var s f) :
    Fn.Z14 op var s H fun H' r => r = boolFaultOf f ∧ Kp H H' := by
  refine Z14.run ?_
  unfold Z14.W
  refine New.own fun b H1 hb hs1 ho hkp => ?_
  refine Ld.o3 ho op var s rfl ?_
  refine RunT.imp ?_ (pnodes_c f.size (Nat.le_refl _) hmax (by omega) (by omega) (hf.kp hkp))
  rintro H2 r ⟨rfl, hkp2⟩
  unfold boolFaultOf
  refine CondB.dec (fun h => ⟨by rw [if_pos (by omega)], hkp.trans hkp2⟩) fun h => ?_
  refine Ld.o3 (ho.kp hkp2) op var s rfl ?_
  refine RunT.imp ?_ (boolFault_c f.size (Nat.le_refl _) hmax (hf.kp (hkp.trans hkp2)))
  rintro H3 r ⟨rfl, hkp3⟩
  exact ⟨by rw [if_neg (by omega)], (hkp.trans hkp2).trans hkp3⟩
end Go.Proofs.Ytanaaabejeeakaa
end
section
namespace Go.Proofs.Ytanaaabejeeakaa
open Go.AI
def boolRows (t : List Bool) : List (List AC) := t.map fun b => [.bool b]
end Go.Proofs.Ytanaaabejeeakaa
end
section
namespace Go.Proofs.Ytanaaabejeeakaa
open Go.AI
theorem boolRows_len (t : List Bool) : (boolRows t).length = t.length := by unfold boolRows; rw [List.length_map]
def nodeRows (l : List (Int × Int × Int)) : List (List AC) := l.map nodeCells
theorem nodeRow_at {l : List (Int × Int × Int)} {i : Nat} {p : Int × Int × Int} (h : l[i]? = some p) : (nodeRows l)[i]? = some (nodeCells p) := by
  unfold nodeRows; rw [List.getElem?_map, h]; rfl
theorem nodeRows_len (l : List (Int × Int × Int)) : (nodeRows l).length = l.length := by unfold nodeRows; rw [List.length_map]
theorem SameDiagram_c {s s' : AC} {l l' : List (Int × Int × Int)} {r r' : Int} {H : AHeap} (hs : SlR H s 3 (nodeRows l)) (hs' : SlR H s' 3 (nodeRows l')) (hlen : l.length < 4611686018427387904) :
    Fn.Z2 s r s' r' H fun H' q => q = decide (l = l' ∧ r = r') ∧ Kp H H' := by
  refine Z2.run ?_
  unfold Z2.W
  refine New.own fun b H1 hb hs1 ho hkp => New.own fun b' H2 hb' hs2 ho' hkp2 => ?_
  have ho1 := ho.kp hkp2
  have hk := hkp.trans hkp2
  refine FA.mk (Ld.oc ho1 rfl (LenS.of (hs.kp hk) (FA.mk (Ld.oc ho' rfl (LenS.of (hs'.kp hk) ?_)))))
  rw [nodeRows_len, nodeRows_len]
  unfold Z2.p5
  refine CondB.ne (fun hne => CondB.pos rfl ⟨?_, hk⟩) fun he => ?_
  · symm; rw [decide_eq_false_iff_not]; rintro ⟨rfl, _⟩; exact hne rfl
  have hl : l.length = l'.length := by omega
  refine FA.mk (Ld.oi ho1 rfl (FA.mk (Ld.oi ho' rfl (CondB.ne (fun hne => ⟨?_, hk⟩) fun hr => ?_))))
  · symm; rw [decide_eq_false_iff_not]; rintro ⟨_, h⟩; exact hne h
  subst hr
  unfold Z2.l14
  refine LoopT.rule (fun m s0 H3 => ∃ i : Nat, i ≤ l.length ∧ m = l.length - i ∧ s0 = (.ptr (some (b, 0)), .ptr (some (b', 0)), (i : Int), ()) ∧ H3 = H2 ∧ ∀ j, j < i → l[j]? = l'[j]?) l.length ⟨0, by omega, by omega, rfl, rfl, fun j h => by omega⟩ ?_
  rintro m s0 H3 back ⟨i, hi, rfl, rfl, rfl, hall⟩ hback
  simp only [Z2.b14]
  refine FA.mk (Ld.oc ho1 rfl (LenS.of (hs.kp hk) ?_))
  rw [nodeRows_len]
  refine CondB.dec (fun hlt => ?_) fun hge => ?_
  · have hi' : i < l.length := by omega
    obtain ⟨p, hp⟩ : ∃ b, l[i]? = some b := ⟨_, List.getElem?_eq_getElem hi'⟩
    obtain ⟨p', hp'⟩ : ∃ b, l'[i]? = some b := ⟨_, List.getElem?_eq_getElem (by omega)⟩
    refine FA.mk (Ld.oc ho1 rfl (IA.of (hs.kp hk) (by omega) (by rw [Int.toNat_natCast]; exact nodeRow_at hp) fun b1 o1 hld => Ld.a3 hld p.1 p.2.1 p.2.2 rfl rfl ?_))
    refine FA.mk (Ld.oc ho' rfl (IA.of (hs'.kp hk) (by omega) (by rw [Int.toNat_natCast]; exact nodeRow_at hp') fun b1 o1 hld => Ld.a3 hld p'.1 p'.2.1 p'.2.2 rfl rfl ?_))
    refine CondB.mk (fun hc => ⟨?_, hk⟩) fun hc => ?_
    · symm
      rw [decide_eq_false_iff_not]
      rintro ⟨rfl, _⟩
      rw [hp] at hp'
      cases hp'
      simp at hc
    · refine hback (l.length - (i + 1)) _ _ (by omega) ⟨i + 1, by omega, rfl, ?_, rfl, fun j hj => ?_⟩
      · exact tc rfl (tc rfl (tc ((wrap64 (by omega) (by omega)).trans (by omega)) rfl))
      · by_cases hji : j = i
        · subst hji
          rw [hp, hp']
          have : p = p' := by
            simp only [Bool.not_eq_false', decide_eq_true_eq, List.cons.injEq, and_true] at hc
            exact Prod.ext hc.1 (Prod.ext hc.2.1 hc.2.2)
          rw [this]
        · exact hall j (by omega)
  · refine ⟨?_, hk⟩
    symm
    rw [decide_eq_true_iff]
    refine ⟨?_, by trivial⟩
    apply List.ext_getElem?
    intro j
    by_cases hj : j < i
    · exact hall j hj
    · rw [List.getElem?_eq_none (by omega), List.getElem?_eq_none (by omega)]
end Go.Proofs.Ytanaaabejeeakaa
end
section
namespace Go.Proofs.Ytanaaabejeeakaa
open Go.AI Go.AI.DT
def TabAt (H : AHeap) (tb : Nat) (s : AC) (t : List Bool) : Prop := SlR H s 1 (boolRows t) ∧ ∀ b o z n cap, s = .sl (some (b, o)) z n cap → b = tb
theorem TabAt.keep {S : Nat → Prop} {H H' : AHeap} {tb : Nat} {s : AC} {t : List Bool} (h : TabAt H tb s t) (k : Keep S H H') (hn : ¬ S tb) : TabAt H' tb s t :=
  ⟨h.1.keep k fun b o n cap z e => by rw [h.2 b o z n cap e]; exact hn, h.2⟩
theorem TabAt.slice {H : AHeap} {tb : Nat} {s : AC} {t : List Bool} (h : TabAt H tb s t) (hne : t ≠ []) {lo hi : Option Int} {l u : Nat} (hl : lo.getD 0 = (l : Int)) (hu : hi.getD (t.length : Int) = (u : Int)) (h1 : l ≤ u) (h2 : u ≤ t.length) {k : AC → Prop}
    (q : ∀ r, TabAt H tb r ((t.drop l).take (u - l)) → k r) : Slc 1 s lo hi k := by
  obtain ⟨⟨a, z, cap, e, hr⟩, hb⟩ := h
  subst e
  obtain ⟨b0, l0, rfl⟩ : ∃ x l, t = x :: l := by cases t with
    | nil => exact absurd rfl hne
    | cons x l => exact ⟨x, l, rfl⟩
  obtain ⟨rfl, b, o, rfl, _⟩ := hr 0 [.bool b0] rfl
  have hlen : (boolRows (b0 :: l0)).length = (b0 :: l0).length := boolRows_len _
  refine Slc.mk (r := .sl (some (b, o + l * 1)) 1 (u - l) (cap.map (· - l))) ?_ (q _ ⟨⟨some (b, o + l * 1), 1, cap.map (· - l), ?_, fun i r hi => ?_⟩, fun b' o' z' n' cap' e => ?_⟩)
  · simp only [sliceA, hlen, hl, hu]
    rw [if_pos (by refine ⟨by simp, by omega, by omega, by omega⟩)]
    simp
  · rw [boolRows_len, List.length_take, List.length_drop, Nat.min_eq_left (by omega)]
  · unfold boolRows at hi
    rw [List.getElem?_map, List.getElem?_take] at hi
    split at hi
    · rw [List.getElem?_drop, ← List.getElem?_map] at hi
      obtain ⟨_, b', o', e, hld⟩ := hr _ _ hi
      cases e
      refine ⟨rfl, b, o + l * 1, rfl, ?_⟩
      rw [show o + l * 1 + i * 1 = o + (l + i) * 1 from by omega]
      exact hld
    · cases hi
  · cases e; exact hb _ _ _ _ _ rfl
structure WSx (H : AHeap) (tb : Nat) (ns ts : AC) (F Fn Ft : Nat → Prop) (st : List DT) (tabs : List (AC × List Bool)) : Prop where
  nodes : OwnS H ns 3 Fn (st.map fun x => nodeCells (row st x))
  tables : OwnS H ts 1 Ft (tabs.map fun e => [e.1])
  dis : ∀ x, Fn x → ¬ Ft x
  fF : ∀ x, F x ↔ Fn x ∨ Ft x
  len : tabs.length = st.length
  max : st.length ≤ 2000
  tab : ∀ e ∈ tabs, TabAt H tb e.1 e.2
  tr : ∀ (i : Nat) (e : AC × List Bool) (x : DT), tabs[i]? = some e → st[i]? = some x → ∃ k, k ≤ 16 ∧ e.2.length = 2 ^ k ∧ x = tree k e.2 ∧ x.top = 16 - k
  fin : Fin st
  ntb : ¬ F tb
  tlt : tb < H.size
def WS (H : AHeap) (tb : Nat) (ns ts : AC) (F : Nat → Prop) (st : List DT) (tabs : List (AC × List Bool)) : Prop := ∃ Fn Ft, WSx H tb ns ts F Fn Ft st tabs
theorem WSx.keep {S : Nat → Prop} {H H' : AHeap} {tb : Nat} {ns ts : AC} {F Fn Ft : Nat → Prop} {st : List DT} {tabs : List (AC × List Bool)} (h : WSx H tb ns ts F Fn Ft st tabs) (k : Keep S H H') (hs : ∀ x, S x → ¬ F x) (hn : ¬ S tb) : WSx H' tb ns ts F Fn Ft st tabs :=
  ⟨h.nodes.keep k fun x hx hf => hs x hx ((h.fF x).2 (.inl hf)), h.tables.keep k fun x hx hf => hs x hx ((h.fF x).2 (.inr hf)), h.dis, h.fF, h.len, h.max, fun e he => (h.tab e he).keep k hn, h.tr, h.fin, h.ntb, Nat.lt_of_lt_of_le h.tlt k.size⟩
theorem WS.keep {S : Nat → Prop} {H H' : AHeap} {tb : Nat} {ns ts : AC} {F : Nat → Prop} {st : List DT} {tabs : List (AC × List Bool)} (h : WS H tb ns ts F st tabs) (k : Keep S H H') (hs : ∀ x, S x → ¬ F x) (hn : ¬ S tb) : WS H' tb ns ts F st tabs := by
  obtain ⟨Fn, Ft, h⟩ := h
  exact ⟨Fn, Ft, h.keep k hs hn⟩
theorem WS.kp {H H' : AHeap} {tb : Nat} {ns ts : AC} {F : Nat → Prop} {st : List DT} {tabs : List (AC × List Bool)} (h : WS H tb ns ts F st tabs) (k : Kp H H') : WS H' tb ns ts F st tabs := h.keep k (fun _ hx => hx.elim) id
theorem WS.lt {H : AHeap} {tb : Nat} {ns ts : AC} {F : Nat → Prop} {st : List DT} {tabs : List (AC × List Bool)} (h : WS H tb ns ts F st tabs) : ∀ x, F x → x < H.size := by
  obtain ⟨Fn, Ft, h⟩ := h
  intro x hx
  rcases (h.fF x).1 hx with hx | hx
  · exact h.nodes.lt x hx
  · exact h.tables.lt x hx
theorem WSx.snoc {H H1 H2 : AHeap} {tb : Nat} {ns ts ns' ts' s : AC} {F Fn Ft Fn' Ft' : Nat → Prop} {st : List DT} {tabs : List (AC × List Bool)} {t : List Bool} {k : Nat} {l h : DT} (w : WSx H tb ns ts F Fn Ft st tabs)
    (hn : OwnS H2 ns' 3 Fn' ((st.map fun x => nodeCells (row st x)) ++ [nodeCells ((15 - k : Nat), ref st l, ref st h)])) (ht : OwnS H2 ts' 1 Ft' ((tabs.map fun e => [e.1]) ++ [[s]]))
    (hd : ∀ x, Fn' x → ¬ Ft' x) (hk : k < 16) (htl : t.length = 2 ^ (k + 1)) (htr : tree (k + 1) t = nd (15 - k) l h) (hnin : nd (15 - k) l h ∉ st) (hl : In st l) (hh : In st h) (hs : TabAt H2 tb s t) (hmax : st.length < 2000)
    (hall : ∀ e ∈ tabs, TabAt H2 tb e.1 e.2) (hntb : ¬ (Fn' tb ∨ Ft' tb)) (htlt : tb < H2.size) :
    WSx H2 tb ns' ts' (fun x => Fn' x ∨ Ft' x) Fn' Ft' (st ++ [nd (15 - k) l h]) (tabs ++ [(s, t)]) := by
  have hp : st <+: st ++ [nd (15 - k) l h] := List.prefix_append _ _
  have hro := (tree_ok (k + 1) t (by omega) htl).1
  rw [htr] at hro
  refine ⟨?_, by rw [List.map_append]; exact ht, hd, fun x => Iff.rfl, by simp [w.len], by simp; omega, ?_, ?_, w.fin.snoc hnin hl hh hro, hntb, htlt⟩
  · have e1 := congrArg (List.map nodeCells) (w.fin.row_mono hp)
    have e2 : st.map (fun x => nodeCells (row (st ++ [nd (15 - k) l h]) x)) = st.map fun x => nodeCells (row st x) := by
      simpa [List.map_map, Function.comp_def] using e1
    rw [List.map_append, e2]
    simpa only [List.map_cons, List.map_nil, row, ref_mono hl hp, ref_mono hh hp] using hn
  · intro e he
    rcases List.mem_append.1 he with he | he
    · exact hall e he
    · simp at he; subst he; exact hs
  · intro i e x he hx
    by_cases hi : i < st.length
    · rw [List.getElem?_append_left (by rw [w.len]; exact hi)] at he
      rw [List.getElem?_append_left hi] at hx
      exact w.tr i e x he hx
    · rw [List.getElem?_append_right (by rw [w.len]; omega), w.len] at he
      rw [List.getElem?_append_right (by omega)] at hx
      have hi0 : i - st.length = 0 := by
        rcases Nat.eq_zero_or_pos (i - st.length) with h0 | h0
        · exact h0
        · rw [List.getElem?_eq_none (by simp; omega)] at hx; cases hx
      rw [hi0] at he hx
      simp at he hx
      subst he hx
      exact ⟨k + 1, by omega, htl, htr.symm, by simp only [top]; omega⟩
end Go.Proofs.Ytanaaabejeeakaa
end
section
namespace Go.Proofs.Ytanaaabejeeakaa
open Go.AI Go.AI.DT
end Go.Proofs.Ytanaaabejeeakaa
end
section
namespace Go.Proofs.Ytanaaabejeeakaa
open Go.AI Go.AI.DT
structure After (H : AHeap) (m : AC) (F : Nat → Prop) (ts : List DT) (n : Nat) (H' : AHeap) (F' : Nat → Prop) (ts' : List DT) : Prop where
  mgr : Mgr H' m F' ts'
  pre : ts <+: ts'
  len : ts'.length ≤ ts.length + n
  keep : Keep F H H'
  fresh : ∀ x, F' x → F x ∨ H.size ≤ x
theorem After.refl {H : AHeap} {m : AC} {F : Nat → Prop} {ts : List DT} (h : Mgr H m F ts) (n : Nat) : After H m F ts n H F ts := ⟨h, List.prefix_rfl, by omega, Keep.refl _ _, fun _ h => .inl h⟩
theorem After.trans {H H1 H2 : AHeap} {m : AC} {F F1 F2 : Nat → Prop} {ts ts1 ts2 : List DT} {n k : Nat} (h : After H m F ts n H1 F1 ts1) (h' : After H1 m F1 ts1 k H2 F2 ts2) : After H m F ts (n + k) H2 F2 ts2 := by
  refine ⟨h'.mgr, h.pre.trans h'.pre, by have := h.len; have := h'.len; omega, Keep.trans h.keep h'.keep fun b hb hx => ?_, fun x hx => ?_⟩
  · rcases h.fresh b hx with h1 | h1
    · exact h1
    · omega
  · rcases h'.fresh x hx with h1 | h1
    · exact h.fresh x h1
    · exact .inr (Nat.le_trans h.keep.size h1)
theorem After.kp {H H0 H1 : AHeap} {m : AC} {F F1 : Nat → Prop} {ts ts1 : List DT} {n : Nat} (k : Kp H H0) (h : After H0 m F ts n H1 F1 ts1) : After H m F ts n H1 F1 ts1 :=
  ⟨h.mgr, h.pre, h.len, Kp.andThen k h.keep, fun x hx => (h.fresh x hx).imp id fun h => Nat.le_trans k.size h⟩
theorem node_c {m : AC} {F : Nat → Prop} {ts : List DT} {H : AHeap} (hm : Mgr H m F ts) {v : Nat} {l h : DT} (hl : In ts l) (hh : In ts h) (hv : v < 16) (hvl : v < l.top) (hvh : v < h.top) (hsz : ts.length < 4294967296) :
    Fn.Z33 m (v : Int) (ref ts l) (ref ts h) H fun H' r => ∃ F' ts', After H m F ts 1 H' F' ts' ∧ In ts' (mk v l h) ∧ r = ref ts' (mk v l h) := by
  refine Z33.run ?_
  unfold Z33.W
  refine CondB.eq (fun e => ?_) fun hne => ?_
  · have := ref_inj hl hh e
    subst this
    exact ⟨F, ts, .refl hm _, by simpa [mk] using hl, by simp [mk]⟩
  have hlh : l ≠ h := fun e => hne (by rw [e])
  have hmk : mk v l h = nd v l h := by simp [mk, hlh]
  obtain ⟨mb, ib, db, Fs, slc, idx, done, hx⟩ := hm
  have hlt := hx.lt
  have hF := hx.fF
  have hro : (nd v l h).RO := ⟨hv, hlh, hvl, hvh, hx.fin.ro hl, hx.fin.ro hh⟩
  refine NewSto.own rfl fun b H2 hb hs2 hbox hk2 => ?_
  have hx2 := hx.keep hk2 fun _ h => h.elim
  obtain rfl := hx.m_eq
  refine NN.ptr (FA.mk (Ld.oc hx2.own rfl (Ld.o3 hbox (v : Int) (ref ts l) (ref ts h) rfl (Look.i hx2.im rfl (fun n hf => ?_) fun hf => ?_))))
  · refine CondB.neg rfl ?_
    obtain ⟨x, hxm, e⟩ := hx.iok.only _ _ hf
    obtain ⟨w, a, c, rfl, h1, h2, _⟩ := hx.fin.parts x hxm
    simp only [rowL, row, List.cons.injEq, and_true] at e
    have e1 := ref_inj hl h1 e.2.1
    have e2 := ref_inj hh h2 e.2.2
    have e3 : v = w := by omega
    subst e1 e2 e3
    rw [hmk]
    have hfa := hx.iok.all _ hxm
    rw [show rowL ts (nd v l h) = [(v : Int), ref ts l, ref ts h] from rfl, hf] at hfa
    refine ⟨F, ts, (After.refl ⟨mb, ib, db, Fs, slc, idx, done, hx2⟩ 1).kp hk2, .inr hxm, ?_⟩
    simpa using hfa
  · refine CondB.pos rfl ?_
    have hnin : nd v l h ∉ ts := by
      intro hin
      have hfa := hx.iok.all _ hin
      rw [show rowL ts (nd v l h) = [(v : Int), ref ts l, ref ts h] from rfl, hf] at hfa
      cases hfa
    refine NN.ptr (FA.mk (Ld.oc hx2.own rfl (LenS.of hx2.sl.slr (NN.ptr (FA.mk (Ld.oc hx2.own rfl (Ld.o3 hbox (v : Int) (ref ts l) (ref ts h) rfl ?_)))))))
    refine NewS.own fun p H3 hp hs3 hbox3 hk3 => ?_
    refine App.own (hx2.sl.kp hk3) (r := nodeCells ((v : Int), ref ts l, ref ts h)) ⟨p, _, rfl, hbox3.all⟩ rfl (by simp; omega) (by simp; omega) fun s' H4 hsl4 hk4 hs4 => ?_
    have own4 : Own H4 mb [slc, .map (some ib), .map (some db)] := (hx2.own.kp hk3).keep hk4 hx.d1
    refine NN.ptr (FA.mk (Sto.own own4 (by simp) fun H5 own5 hk5 hs5 => ?_))
    simp only [List.take_zero, List.nil_append, List.cons_append, List.length_cons, List.length_nil, Nat.zero_add, Nat.add_zero, List.drop_succ_cons, List.drop_zero] at own5
    have im5 : MapI H5 ib (some 3) idx := ((hx2.im.kp hk3).keep hk4 hx.d2).keep hk5 (fun e => hx.ne1 e.symm)
    have dm5 : MapI H5 db (some 3) done := ((hx2.dm.kp hk3).keep hk4 hx.d3).keep hk5 (fun e => hx.ne2 e.symm)
    have hFlt : ∀ x, Fs x → x < H.size := fun x h => hlt x ((hF x).2 (.inr (.inr (.inr h))))
    have hmbl := hx.own.lt
    have hibl := hx.im.lt
    have hdbl := hx.dm.lt
    have hs3' : H3.size = H.size + 2 := by omega
    have box5 : Own H5 b (nodeCells ((v : Int), ref ts l, ref ts h)) := ((hbox.kp hk3).keep hk4 (fun h => by have := hFlt _ h; omega)).keep hk5 (fun e => by omega)
    have sl5 := hsl4.keep hk5 (fun x e h => by
      subst e
      rcases h with h | h
      · exact hx.d1 h
      · omega)
    refine NN.ptr (FA.mk (Ld.oc own5 rfl (Ld.o3 box5 (v : Int) (ref ts l) (ref ts h) rfl (MSet.i im5 rfl fun H6 im6 hk6 hs6 => ?_))))
    have hp : ts <+: ts ++ [nd v l h] := List.prefix_append _ _
    have hrows : (ts ++ [nd v l h]).map (fun x => nodeCells (row (ts ++ [nd v l h]) x)) = (ts.map fun x => nodeCells (row ts x)) ++ [nodeCells ((v : Int), ref ts l, ref ts h)] := by
      have e1 := hx.fin.row_mono hp
      have e2 : ts.map (fun x => nodeCells (row (ts ++ [nd v l h]) x)) = ts.map fun x => nodeCells (row ts x) := by
        have := congrArg (List.map nodeCells) e1
        simpa [List.map_map, Function.comp_def] using this
      rw [List.map_append, e2]
      simp only [List.map_cons, List.map_nil, row, ref_mono hl hp, ref_mono hh hp]
    refine ⟨fun x => F x ∨ x = H3.size, ts ++ [nd v l h], ⟨⟨mb, ib, db, fun y => Fs y ∨ y = H3.size, s', setI [(v : Int), ref ts l, ref ts h] (((ts.map fun x => nodeCells (row ts x)).length : Nat) : Int) idx, done, ?_⟩, hp, by simp, ?_, ?_⟩, ?_, ?_⟩
    · refine ⟨rfl, own5.keep hk6 hx.ne1, ?_, im6, dm5.keep hk6 (fun e => hx.ne3 e.symm), hx.ne1, hx.ne2, hx.ne3, ?_, ?_, ?_, hx.fin.snoc hnin hl hh hro, ?_, hx.dok.mono hp, ?_⟩
      · rw [hrows]
        refine sl5.keep hk6 (fun x e h => ?_)
        subst e
        rcases h with h | h
        · exact hx.d2 h
        · omega
      · rintro (h | h)
        · exact hx.d1 h
        · omega
      · rintro (h | h)
        · exact hx.d2 h
        · omega
      · rintro (h | h)
        · exact hx.d3 h
        · omega
      · have := hx.iok.snoc hx.fin hnin hl hh hro
        simpa using this
      · intro x
        rw [hF x]
        constructor
        · rintro ((h | h | h | h) | h)
          · exact .inl h
          · exact .inr (.inl h)
          · exact .inr (.inr (.inl h))
          · exact .inr (.inr (.inr (.inl h)))
          · exact .inr (.inr (.inr (.inr h)))
        · rintro (h | h | h | h | h)
          · exact .inl (.inl h)
          · exact .inl (.inr (.inl h))
          · exact .inl (.inr (.inr (.inl h)))
          · exact .inl (.inr (.inr (.inr h)))
          · exact .inr h
    · have k1 : Kp H H3 := hk2.trans hk3
      refine (Kp.andThen k1 ?_ : Keep F H H6)
      refine Keep.trans (Keep.trans (hk4.mono fun x _ h => (hF x).2 (.inr (.inr (.inr h)))) hk5 fun x _ e => ?_) hk6 fun x _ e => ?_
      · rw [hF x]; exact .inl e
      · rw [hF x]; exact .inr (.inl e)
    · rintro x (h | h)
      · exact .inl h
      · exact .inr (by omega)
    · rw [hmk]; exact .inr (by simp)
    · rw [hmk, ref_new hnin]; simp
end Go.Proofs.Ytanaaabejeeakaa
end
section
namespace Go.Proofs.Ytanaaabejeeakaa
open Go.AI Go.AI.DT
theorem top_c {m : AC} {F : Nat → Prop} {ts : List DT} {H : AHeap} (hm : Mgr H m F ts) {a : DT} (ha : In ts a) :
    Fn.Z38 m (ref ts a) H fun H' r => r = (a.top : Int) ∧ H' = H := by
  refine Z38.run ?_
  unfold Z38.W
  obtain ⟨mb, ib, db, Fs, slc, idx, done, hx⟩ := hm
  obtain rfl := hx.m_eq
  refine CondB.dec (fun hlt => ?_) fun hge => ?_
  · obtain ⟨b, rfl⟩ := ref_leaf.1 hlt
    exact ⟨rfl, rfl⟩
  · have h0 : 0 ≤ ref ts a := by omega
    have hg := ref_get ha h0
    cases a with
    | leaf b => cases b <;> simp [ref] at h0
    | nd v l h =>
      refine NN.ptr (FA.mk (Ld.oc hx.own rfl (IA.of hx.sl.slr h0 (r := nodeCells (row ts (nd v l h))) (by simp [hg]) fun b o hld => FA.mk (Ld.ei hld rfl ?_))))
      exact ⟨rfl, rfl⟩
theorem split_c {m : AC} {F : Nat → Prop} {ts : List DT} {H : AHeap} (hm : Mgr H m F ts) {a : DT} (ha : In ts a) (v : Nat) (hv : v < 16) :
    Fn.Z37 m (ref ts a) (v : Int) H fun H' r s => r = ref ts (a.lo v) ∧ s = ref ts (a.hi v) ∧ H' = H := by
  refine Z37.run ?_
  unfold Z37.W
  refine RunT.imp ?_ (top_c hm ha)
  rintro H1 t ⟨rfl, rfl⟩
  refine CondB.ne (fun hne => ?_) fun he => ?_
  · have : a.lo v = a ∧ a.hi v = a := by
      cases a with
      | leaf b => exact ⟨rfl, rfl⟩
      | nd w l h =>
        simp only [top] at hne
        have : w ≠ v := fun e => hne (by rw [e])
        simp [lo, hi, this]
    rw [this.1, this.2]
    exact ⟨rfl, rfl, rfl⟩
  · cases a with
    | leaf b => simp only [top] at he; omega
    | nd w l h =>
      simp only [top] at he
      have hw : w = v := by omega
      subst hw
      have h0 : 0 ≤ ref ts (nd w l h) := by rw [ref_ge]; omega
      have hg := ref_get ha h0
      obtain ⟨mb, ib, db, Fs, slc, idx, done, hx⟩ := hm
      obtain rfl := hx.m_eq
      refine NN.ptr (FA.mk (Ld.oc hx.own rfl (IA.of hx.sl.slr h0 (r := nodeCells (row ts (nd w l h))) (by simp [hg]) fun b o hld => FA.mk (Ld.ei hld rfl ?_))))
      refine NN.ptr (FA.mk (Ld.oc hx.own rfl (IA.of hx.sl.slr h0 (r := nodeCells (row ts (nd w l h))) (by simp [hg]) fun b o hld => FA.mk (Ld.ei hld rfl ?_))))
      refine ⟨?_, ?_, rfl⟩ <;> simp [lo, hi, row]
theorem in_lo {ts : List DT} (f : Fin ts) {a : DT} (h : In ts a) (v : Nat) : In ts (a.lo v) := by
  cases a with
  | leaf b => exact h
  | nd w l r =>
    simp only [DT.lo]
    split
    · rcases h with ⟨b, hb⟩ | h
      · cases hb
      · obtain ⟨_, _, _, e, h1, _, _⟩ := f.parts _ h; cases e; exact h1
    · exact h
theorem in_hi {ts : List DT} (f : Fin ts) {a : DT} (h : In ts a) (v : Nat) : In ts (a.hi v) := by
  cases a with
  | leaf b => exact h
  | nd w l r =>
    simp only [DT.hi]
    split
    · rcases h with ⟨b, hb⟩ | h
      · cases hb
      · obtain ⟨_, _, _, e, _, h1, _⟩ := f.parts _ h; cases e; exact h1
    · exact h
def IteRes (a b c r : DT) : Prop := (∀ ρ, r.eval ρ = if a.eval ρ then b.eval ρ else c.eval ρ) ∧ ∀ v, v ≤ a.top → v ≤ b.top → v ≤ c.top → v ≤ r.top
theorem min_cast (a b c : Nat) : (if (c : Int) < (if (b : Int) < (a : Int) then (b : Int) else a) then (c : Int) else (if (b : Int) < (a : Int) then (b : Int) else a)) = ((min (min a b) c : Nat) : Int) := by
  split <;> split at * <;> omega
theorem ite_c : ∀ (n : Nat) {m : AC} {F : Nat → Prop} {ts : List DT} {H : AHeap} {a b c : DT}, Mgr H m F ts → In ts a → In ts b → In ts c → 16 ≤ n + min (min a.top b.top) c.top → ts.length + 2 ^ n ≤ 4294967296 →
    Fn.Z32 m (ref ts a) (ref ts b) (ref ts c) H fun H' q => ∃ F' ts' r, After H m F ts (2 ^ n - 1) H' F' ts' ∧ In ts' r ∧ q = ref ts' r ∧ IteRes a b c r := by
  intro n
  induction n with
  | zero =>
    intro m F ts H a b c hm ha hb hc hn hsz
    have fin := hm.fin
    have ta := top_le a (fin.ro ha)
    cases a with
    | nd w l h => have := (fin.ro ha).1; simp only [top] at hn; omega
    | leaf x =>
      refine Z32.run ?_
      unfold Z32.W
      cases x with
      | true => exact CondB.pos rfl (by unfold Z32.p6; exact CondB.pos rfl ⟨F, ts, b, .refl hm _, hb, rfl, fun ρ => by simp [eval], fun _ _ h _ => h⟩)
      | false =>
        refine CondB.neg rfl ?_
        unfold Z32.p6
        refine CondB.eq (fun e => ?_) fun _ => ?_
        · have := ref_inj hb hc e; subst this
          exact ⟨F, ts, b, .refl hm _, hb, rfl, fun ρ => by simp, fun _ _ h _ => h⟩
        · exact CondB.pos rfl ⟨F, ts, c, .refl hm _, hc, rfl, fun ρ => by simp [eval], fun _ _ _ h => h⟩
  | succ n ih =>
    intro m F ts H a b c hm ha hb hc hn hsz
    have fin := hm.fin
    have ra := fin.ro ha
    have rb := fin.ro hb
    have rc := fin.ro hc
    refine Z32.run ?_
    unfold Z32.W
    have hb1 : ∀ H' : AHeap, After H m F ts (2 ^ (n + 1) - 1) H' F ts → (a = leaf true ∨ b = c) → ∃ F' ts' r, After H m F ts (2 ^ (n + 1) - 1) H' F' ts' ∧ In ts' r ∧ ref ts b = ref ts' r ∧ IteRes a b c r := by
      intro H' haf hor
      refine ⟨F, ts, b, haf, hb, rfl, fun ρ => ?_, fun _ _ h _ => h⟩
      rcases hor with rfl | rfl
      · simp [eval]
      · simp
    -- the rest, once the easy ways are gone
    have rest : (¬ a = leaf true) → b ≠ c → a ≠ leaf false → (¬ (b = leaf true ∧ c = leaf false)) →
        Z32.p18 (fun H' q => ∃ F' ts' r, After H m F ts (2 ^ (n + 1) - 1) H' F' ts' ∧ In ts' r ∧ q = ref ts' r ∧ IteRes a b c r) m (ref ts a) (ref ts b) (ref ts c) false H := by
      intro n1 n2 n3 n4
      unfold Z32.p18
      refine CondB.neg rfl ?_
      refine NewSto.own rfl fun bx H2 hbx hs2 hbox hk2 => ?_
      obtain ⟨mb, ib, db, Fs, slc, idx, done, hx⟩ := hm
      have hx2 := hx.keep hk2 fun _ h => h.elim
      have hlt := hx.lt
      have hm2 : Mgr H2 m F ts := ⟨mb, ib, db, Fs, slc, idx, done, hx2⟩
      obtain rfl := hx.m_eq
      refine NN.ptr (FA.mk (Ld.oc hx2.own rfl (Ld.o3 hbox (ref ts a) (ref ts b) (ref ts c) rfl (Look.i hx2.dm rfl (fun q hf => ?_) fun hf => ?_))))
      · refine CondB.pos rfl ?_
        obtain ⟨a', b', c', r, h1, h2, h3, h4, h5, h6, h7, h8⟩ := hx.dok.ok _ _ hf
        simp only [List.cons.injEq, and_true] at h5
        have e1 := ref_inj ha h1 h5.1
        have e2 := ref_inj hb h2 h5.2.1
        have e3 := ref_inj hc h3 h5.2.2
        subst e1 e2 e3
        exact ⟨F, ts, r, (After.refl hm2 _).kp hk2, h4, h6, h7, h8⟩
      · refine CondB.neg rfl ?_
        refine RunT.imp ?_ (top_c hm2 ha)
        rintro H3 t1 ⟨rfl, rfl⟩
        refine RunT.imp ?_ (top_c hm2 hb)
        rintro H3 t2 ⟨rfl, rfl⟩
        refine RunT.imp ?_ (top_c hm2 hc)
        rintro H3 t3 ⟨rfl, rfl⟩
        rw [min_cast]
        obtain ⟨v, hv⟩ : ∃ v, v = min (min a.top b.top) c.top := ⟨_, rfl⟩
        rw [← hv]
        have hva : v ≤ a.top := by omega
        have hvb : v ≤ b.top := by omega
        have hvc : v ≤ c.top := by omega
        have hv16 : v < 16 := by
          cases a with
          | leaf x => cases x <;> simp at n1 n3
          | nd w l h => have := ra.1; simp only [top] at hva; omega
        refine RunT.imp ?_ (split_c hm2 ha v hv16)
        rintro H3 a0 a1 ⟨rfl, rfl, rfl⟩
        refine RunT.imp ?_ (split_c hm2 hb v hv16)
        rintro H3 b0 b1 ⟨rfl, rfl, rfl⟩
        refine RunT.imp ?_ (split_c hm2 hc v hv16)
        rintro H3 c0 c1 ⟨rfl, rfl, rfl⟩
        have la := lo_spec ra hva hv16
        have lb := lo_spec rb hvb hv16
        have lc := lo_spec rc hvc hv16
        have ga := hi_spec ra hva hv16
        have gb := hi_spec rb hvb hv16
        have gc := hi_spec rc hvc hv16
        have hpow : 2 ^ (n + 1) = 2 ^ n + 2 ^ n := by rw [Nat.pow_succ]; omega
        have hpos : 0 < 2 ^ n := Nat.pow_pos (by omega)
        refine RunT.imp ?_ (ih hm2 (in_lo fin ha v) (in_lo fin hb v) (in_lo fin hc v) (by omega) (by omega))
        rintro H4 q0 ⟨F4, ts4, r0, af4, in4, rfl, res4⟩
        have p4 := af4.pre
        have l4 := af4.len
        rw [← ref_mono (in_hi fin ha v) p4, ← ref_mono (in_hi fin hb v) p4, ← ref_mono (in_hi fin hc v) p4]
        refine RunT.imp ?_ (ih af4.mgr ((in_hi fin ha v).mono p4) ((in_hi fin hb v).mono p4) ((in_hi fin hc v).mono p4) (by omega) (by omega))
        rintro H5 q1 ⟨F5, ts5, r1, af5, in5, rfl, res5⟩
        have p5 := af5.pre
        have l5 := af5.len
        rw [← ref_mono in4 p5]
        have f5 := af5.mgr.fin
        have t0 : v < r0.top := by have := res4.2 (v + 1) la.2.1 lb.2.1 lc.2.1; omega
        have t1 : v < r1.top := by have := res5.2 (v + 1) ga.2.1 gb.2.1 gc.2.1; omega
        refine RunT.imp ?_ (node_c af5.mgr (in4.mono p5) in5 hv16 t0 t1 (by omega))
        rintro H6 q2 ⟨F6, ts6, af6, in6, rfl⟩
        have af := (af4.trans af5).trans af6
        have hb6 : Own H6 bx [.int .i64 (ref ts a), .int .i64 (ref ts b), .int .i64 (ref ts c)] := hbox.keep af.keep (fun h => by have := hlt _ h; omega)
        have hm6 := af6.mgr
        obtain ⟨mb6, ib6, db6, Fs6, slc6, idx6, done6, hx6⟩ := hm6
        have hme := hx6.m_eq
        simp only [AC.ptr.injEq, Option.some.injEq, Prod.mk.injEq, and_true] at hme
        subst hme
        refine NN.ptr (FA.mk (Ld.oc hx6.own rfl (Ld.o3 hb6 (ref ts a) (ref ts b) (ref ts c) rfl (MSet.i hx6.dm rfl fun H7 dm7 hk7 hs7 => ?_))))
        have hres : IteRes a b c (mk v r0 r1) := by
          refine ⟨fun ρ => ?_, fun w h1 h2 h3 => ?_⟩
          · rw [mk_eval]
            cases hρ : ρ v with
            | true => simp only [if_true]; rw [res5.1, ga.2.2 ρ hρ, gb.2.2 ρ hρ, gc.2.2 ρ hρ]
            | false => simp only [Bool.false_eq_true, if_false]; rw [res4.1, la.2.2 ρ hρ, lb.2.2 ρ hρ, lc.2.2 ρ hρ]
          · have := mk_top (v := v) (h := r1) t0; omega
        have p6 := af.pre
        have hlt6 := hx6.lt
        refine ⟨F6, ts6, mk v r0 r1, After.kp hk2 ⟨⟨mb, ib6, db6, Fs6, slc6, idx6, setI [ref ts a, ref ts b, ref ts c] (ref ts6 (mk v r0 r1)) done6, ?_⟩, p6, ?_, ?_, af.fresh⟩, in6, rfl, hres⟩
        · refine ⟨rfl, hx6.own.keep hk7 hx6.ne2, hx6.sl.keep hk7 (fun x e h => hx6.d3 (e ▸ h)), hx6.im.keep hk7 hx6.ne3, dm7, hx6.ne1, hx6.ne2, hx6.ne3, hx6.d1, hx6.d2, hx6.d3, hx6.fin, hx6.iok, ?_, hx6.fF⟩
          have := hx6.dok.set (ha.mono p6) (hb.mono p6) (hc.mono p6) in6 hres.1 hres.2
          rwa [ref_mono ha p6, ref_mono hb p6, ref_mono hc p6] at this
        · have := af.len; omega
        · refine Keep.trans af.keep hk7 fun x hxl e => ?_
          subst e
          rcases af.fresh _ ((hx6.fF _).2 (.inr (.inr (.inl rfl)))) with h | h
          · exact h
          · omega
    refine CondB.eq (fun e => ?_) fun hne1 => ?_
    · have := ref_true.1 e; subst this
      unfold Z32.p6
      exact CondB.pos rfl (hb1 H (.refl hm _) (.inl rfl))
    have m1 : ¬ a = leaf true := fun e => hne1 (ref_true.2 e)
    unfold Z32.p6
    refine CondB.eq (fun e => ?_) fun hne2 => ?_
    · exact hb1 H (.refl hm _) (.inr (ref_inj hb hc e))
    have m2 : b ≠ c := fun e => hne2 (by rw [e])
    refine CondB.eq (fun e => ?_) fun hne3 => ?_
    · have := ref_false.1 e; subst this
      exact ⟨F, ts, c, .refl hm _, hc, rfl, fun ρ => by simp [eval], fun _ _ _ h => h⟩
    have m3 : a ≠ leaf false := fun e => hne3 (ref_false.2 e)
    refine CondB.eq (fun e => ?_) fun hne4 => ?_
    · have hbt := ref_true.1 e
      subst hbt
      by_cases hcf : ref ts c = -1
      · have := ref_false.1 hcf; subst this
        unfold Z32.p18
        refine CondB.pos rfl ⟨F, ts, a, .refl hm _, ha, rfl, fun ρ => ?_, fun _ h _ _ => h⟩
        simp only [eval]
        cases a.eval ρ <;> rfl
      · rw [show (ref ts c == -1) = false from by simpa using hcf]
        exact rest m1 m2 m3 fun h => hcf (ref_false.2 h.2)
    · exact rest m1 m2 m3 fun h => hne4 (ref_true.2 h.1)
end Go.Proofs.Ytanaaabejeeakaa
end
section
namespace Go.Proofs.Ytanaaabejeeakaa
open Go.AI Go.AI.DT
def DRes (H : AHeap) (x : DT) (ns : AC) (root err : Int) : Prop :=
  (2000 < (ser x []).length ∧ err = 3 ∧ root = 0 ∧ SlR H ns 3 (nodeRows [])) ∨
  ((ser x []).length ≤ 2000 ∧ err = 0 ∧ root = ref (ser x []) x ∧ SlR H ns 3 (nodeRows ((ser x []).map (row (ser x [])))))
theorem DRes.kp {H H' : AHeap} {x : DT} {ns : AC} {root err : Int} (h : DRes H x ns root err) (k : Kp H H') : DRes H' x ns root err := by
  rcases h with ⟨a, b, c, d⟩ | ⟨a, b, c, d⟩
  · exact .inl ⟨a, b, c, d.kp k⟩
  · exact .inr ⟨a, b, c, d.kp k⟩
def DResN (H0 H : AHeap) (x : DT) (ns : AC) (root err : Int) : Prop :=
  ∃ Fo : Nat → Prop, (∀ y, Fo y → H0.size ≤ y) ∧ ((2000 < (ser x []).length ∧ err = 3 ∧ root = 0 ∧ OwnS H ns 3 Fo (nodeRows [])) ∨
  ((ser x []).length ≤ 2000 ∧ err = 0 ∧ root = ref (ser x []) x ∧ OwnS H ns 3 Fo (nodeRows ((ser x []).map (row (ser x []))))))
theorem DResN.keep {S : Nat → Prop} {H0 H H' : AHeap} {x : DT} {ns : AC} {root err : Int} (h : DResN H0 H x ns root err) (k : Keep S H H') (hS : ∀ y, S y → y < H0.size) : DResN H0 H' x ns root err := by
  obtain ⟨Fo, hf, h⟩ := h
  have hd : ∀ y, S y → ¬ Fo y := fun y h1 h2 => by have := hS y h1; have := hf y h2; omega
  exact ⟨Fo, hf, h.imp (fun ⟨a, b, c, d⟩ => ⟨a, b, c, d.keep k hd⟩) fun ⟨a, b, c, d⟩ => ⟨a, b, c, d.keep k hd⟩⟩
theorem DResN.res {H0 H : AHeap} {x : DT} {ns : AC} {root err : Int} (h : DResN H0 H x ns root err) : DRes H x ns root err := by
  obtain ⟨Fo, hf, h⟩ := h
  exact h.imp (fun ⟨a, b, c, d⟩ => ⟨a, b, c, d.slr⟩) fun ⟨a, b, c, d⟩ => ⟨a, b, c, d.slr⟩
theorem DResN.from {H0 H1 H : AHeap} {x : DT} {ns : AC} {root err : Int} (h : DResN H1 H x ns root err) (hs : H0.size ≤ H1.size) : DResN H0 H x ns root err := by
  obtain ⟨Fo, hf, h⟩ := h
  exact ⟨Fo, fun y hy => Nat.le_trans hs (hf y hy), h⟩
theorem SlR.nil (H : AHeap) (sz : Nat) : SlR H (.sl none 0 0 (some 0)) sz [] := ⟨none, 0, some 0, rfl, fun i r h => by simp at h⟩
theorem newManager_c {H : AHeap} : Fn.Z40 H fun H' m => (∃ F, Mgr H' m F [] ∧ ∀ x, F x → H.size ≤ x) ∧ Kp H H' := by
  refine Z40.run ?_
  unfold Z40.W
  refine NewM.i (some 3) fun ib H1 hib hs1 him hk1 => NewM.i (some 3) fun db H2 hdb hs2 hdm hk2 => New.own fun mb H3 hmb hs3 hom hk3 => ?_
  refine ⟨⟨fun x => x = mb ∨ x = ib ∨ x = db ∨ False, ⟨mb, ib, db, fun _ => False, .sl none 0 0 (some 0), [], [], ?_⟩, ?_⟩, (hk1.trans hk2).trans hk3⟩
  · exact ⟨rfl, hom, OwnS.nil _ _, (him.kp hk2).kp hk3, hdm.kp hk3, by omega, by omega, by omega, id, id, id, Fin.nil, ⟨fun _ h => (by cases h), fun _ _ h => (by cases h)⟩, ⟨fun _ _ h => (by cases h)⟩, fun _ => Iff.rfl⟩
  · rintro x (h | h | h | h)
    · omega
    · omega
    · omega
    · exact h.elim
def OpRes (H : AHeap) (m : AC) (F : Nat → Prop) (ts : List DT) (n : Nat) (val : (Nat → Bool) → Bool) (H' : AHeap) (q : Int) : Prop :=
  ∃ F' ts' r, After H m F ts n H' F' ts' ∧ In ts' r ∧ q = ref ts' r ∧ ∀ ρ, r.eval ρ = val ρ
theorem ite_op {m : AC} {F : Nat → Prop} {ts : List DT} {H : AHeap} {a b c : DT} (hm : Mgr H m F ts) (ha : In ts a) (hb : In ts b) (hc : In ts c) (hsz : ts.length + 65536 ≤ 4294967296) :
    Fn.Z32 m (ref ts a) (ref ts b) (ref ts c) H fun H' q => OpRes H m F ts 65535 (fun ρ => if a.eval ρ then b.eval ρ else c.eval ρ) H' q := by
  refine RunT.imp ?_ (ite_c 16 hm ha hb hc (by omega) hsz)
  rintro H' q ⟨F', ts', r, af, h1, h2, h3⟩
  exact ⟨F', ts', r, af, h1, h2, h3.1⟩
theorem not_c {m : AC} {F : Nat → Prop} {ts : List DT} {H : AHeap} {a : DT} (hm : Mgr H m F ts) (ha : In ts a) (hsz : ts.length + 65536 ≤ 4294967296) :
    Fn.Z34 m (ref ts a) H fun H' q => OpRes H m F ts 65535 (fun ρ => !a.eval ρ) H' q := by
  refine Z34.run ?_
  unfold Z34.W
  refine RunT.imp ?_ (ite_op hm ha (In.leaf ts false) (In.leaf ts true) hsz)
  rintro H' q ⟨F', ts', r, af, h1, h2, h3⟩
  exact ⟨F', ts', r, af, h1, h2, fun ρ => by rw [h3 ρ]; simp only [eval]; cases a.eval ρ <;> rfl⟩
theorem and_c {m : AC} {F : Nat → Prop} {ts : List DT} {H : AHeap} {a b : DT} (hm : Mgr H m F ts) (ha : In ts a) (hb : In ts b) (hsz : ts.length + 65536 ≤ 4294967296) :
    Fn.Z26 m (ref ts a) (ref ts b) H fun H' q => OpRes H m F ts 65535 (fun ρ => a.eval ρ && b.eval ρ) H' q := by
  refine Z26.run ?_
  unfold Z26.W
  refine RunT.imp ?_ (ite_op hm ha hb (In.leaf ts false) hsz)
  rintro H' q ⟨F', ts', r, af, h1, h2, h3⟩
  exact ⟨F', ts', r, af, h1, h2, fun ρ => by rw [h3 ρ]; simp only [eval]; cases a.eval ρ <;> rfl⟩
theorem or_c {m : AC} {F : Nat → Prop} {ts : List DT} {H : AHeap} {a b : DT} (hm : Mgr H m F ts) (ha : In ts a) (hb : In ts b) (hsz : ts.length + 65536 ≤ 4294967296) :
    Fn.Z35 m (ref ts a) (ref ts b) H fun H' q => OpRes H m F ts 65535 (fun ρ => a.eval ρ || b.eval ρ) H' q := by
  refine Z35.run ?_
  unfold Z35.W
  refine RunT.imp ?_ (ite_op hm ha (In.leaf ts true) hb hsz)
  rintro H' q ⟨F', ts', r, af, h1, h2, h3⟩
  exact ⟨F', ts', r, af, h1, h2, fun ρ => by rw [h3 ρ]; simp only [eval]; cases a.eval ρ <;> rfl⟩
theorem xor_c {m : AC} {F : Nat → Prop} {ts : List DT} {H : AHeap} {a b : DT} (hm : Mgr H m F ts) (ha : In ts a) (hb : In ts b) (hsz : ts.length + 131072 ≤ 4294967296) :
    Fn.Z39 m (ref ts a) (ref ts b) H fun H' q => OpRes H m F ts 131070 (fun ρ => a.eval ρ != b.eval ρ) H' q := by
  refine Z39.run ?_
  unfold Z39.W
  refine RunT.imp ?_ (not_c hm hb (by omega))
  rintro H1 q ⟨F1, ts1, r1, af1, in1, rfl, hv1⟩
  have hl := af1.len
  rw [← ref_mono ha af1.pre, ← ref_mono hb af1.pre]
  refine RunT.imp ?_ (ite_op af1.mgr (ha.mono af1.pre) in1 (hb.mono af1.pre) (by omega))
  rintro H' q ⟨F', ts', r, af, h1, h2, h3⟩
  exact ⟨F', ts', r, af1.trans af, h1, h2, fun ρ => by
    rw [h3 ρ]
    show (if a.eval ρ then r1.eval ρ else b.eval ρ) = _
    rw [hv1 ρ]
    show (if a.eval ρ then !b.eval ρ else b.eval ρ) = (a.eval ρ != b.eval ρ)
    cases a.eval ρ <;> cases b.eval ρ <;> rfl⟩
end Go.Proofs.Ytanaaabejeeakaa
end
section
namespace Go.Proofs.Ytanaaabejeeakaa
open Go.AI Go.AI.DT
theorem lt52 : 52 < Try.prog.funcs.size := (Array.getElem?_eq_some_iff.1 Try.func52).1
theorem lt53 : 53 < Try.prog.funcs.size := (Array.getElem?_eq_some_iff.1 Try.func53).1
structure Kids (H : AHeap) (s : AC) (Fk : Nat → Prop) (ts : List DT) (kids : List Fm) (rs : List DT) : Prop where
  own : OwnS H s 1 Fk (rs.map fun r => [AC.int .i64 (ref ts r)])
  inn : ∀ r ∈ rs, In ts r
  val : ∀ ρ, rs.map (DT.eval ρ) = kids.map (Fm.val ρ)
theorem Kids.at' {H : AHeap} {s : AC} {Fk : Nat → Prop} {ts : List DT} {kids : List Fm} {rs : List DT} (h : Kids H s Fk ts kids rs) {i : Nat} (hi : i < kids.length) : ∃ r k, rs[i]? = some r ∧ kids[i]? = some k ∧ In ts r ∧ (∀ ρ, r.eval ρ = k.val ρ) ∧
    (rs.map fun r => [AC.int .i64 (ref ts r)])[i]? = some [AC.int .i64 (ref ts r)] := by
  have hl : rs.length = kids.length := by have := congrArg List.length (h.val fun _ => false); simpa using this
  refine ⟨rs[i], kids[i], List.getElem?_eq_getElem (by omega), List.getElem?_eq_getElem hi, h.inn _ (List.getElem_mem _), fun ρ => ?_, ?_⟩
  · have := congrArg (fun l => l[i]?) (h.val ρ)
    simp only [List.getElem?_map, List.getElem?_eq_getElem (show i < rs.length by omega), List.getElem?_eq_getElem hi, Option.map_some, Option.some.injEq] at this
    exact this
  · rw [List.getElem?_map, List.getElem?_eq_getElem (by omega)]; rfl
theorem OpRes.of {H H1 H' : AHeap} {m : AC} {F F1 : Nat → Prop} {ts ts1 : List DT} {n k N : Nat} {val val' : (Nat → Bool) → Bool} {q : Int} (af : After H m F ts n H1 F1 ts1) (h : OpRes H1 m F1 ts1 k val H' q) (hN : n + k ≤ N) (hv : ∀ ρ, val ρ = val' ρ) : OpRes H m F ts N val' H' q := by
  obtain ⟨F', ts', r, af', h1, h2, h3⟩ := h
  have := af.trans af'
  exact ⟨F', ts', r, ⟨this.mgr, this.pre, by have := this.len; omega, this.keep, this.fresh⟩, h1, h2, fun ρ => (h3 ρ).trans (hv ρ)⟩
theorem join_c {m : AC} {fn : AC} {op : Bool → Bool → Bool} {H : AHeap} {F : Nat → Prop} {ts : List DT} {s : AC} {Fk : Nat → Prop} {kids : List Fm} {rs : List DT} {start : Bool} {n0 : Nat} {H0 : AHeap} {F0 : Nat → Prop} {ts0 : List DT} {N : Nat}
    (hf : ∀ {H : AHeap} {F : Nat → Prop} {ts : List DT} {a b : DT}, Mgr H m F ts → In ts a → In ts b → ts.length + 65536 ≤ 4294967296 →
      CVT Try.prog [(false, [.int .i64])] fn [(.one (.int .i64 (ref ts a))), (.one (.int .i64 (ref ts b)))] H fun H' q => OpRes H m F ts 65535 (fun ρ => op (a.eval ρ) (b.eval ρ)) H' q)
    (af : After H0 m F0 ts0 n0 H F ts) (hk : Kids H s Fk ts kids rs) (hdis : ∀ x, F x → ¬ Fk x) (hlen : kids.length ≤ 300) (hsz : ts.length + 300 * 65536 + 65536 ≤ 4294967296) (hN : n0 + kids.length * 65535 ≤ N) :
    Z27.p64 (fun H' q => OpRes H0 m F0 ts0 N (fun ρ => (kids.map (Fm.val ρ)).foldl op start) H' q) s (ref ts (leaf start)) fn H := by
  unfold Z27.p64
  have hl : rs.length = kids.length := by have := congrArg List.length (hk.val fun _ => false); simpa using this
  refine LenS.of hk.own.slr ?_
  rw [List.length_map, hl]
  unfold Z27.l68
  refine LoopT.rule (fun mm s0 H2 => ∃ (i : Nat) (F2 : Nat → Prop) (ts2 : List DT) (a : DT), i ≤ kids.length ∧ mm = kids.length - i ∧ s0 = (ref ts2 a, fn, s, (kids.length : Int), (i : Int), ()) ∧ After H m F ts (i * 65535) H2 F2 ts2 ∧ In ts2 a ∧ (∀ x, F2 x → ¬ Fk x) ∧
    (∀ ρ, a.eval ρ = ((kids.take i).map (Fm.val ρ)).foldl op start) ∧ Kids H2 s Fk ts2 kids rs) kids.length
    ⟨0, F, ts, leaf start, by omega, by omega, by cases start <;> rfl, .refl af.mgr _, In.leaf _ _, hdis, fun ρ => by simp [eval], hk⟩ ?_
  rintro mm s0 H2 back ⟨i, F2, ts2, a, hi, rfl, rfl, af2, ha, hdis2, hva, hk2⟩ hback
  simp only [Z27.b68]
  refine CondB.dec (fun hlt => ?_) fun hge => ?_
  · have hi' : i < kids.length := by omega
    obtain ⟨r, k, hri, hki, hin, hev, hro⟩ := hk2.at' hi'
    refine IA.of hk2.own.slr (by omega) (by rw [Int.toNat_natCast]; exact hro) fun b o hld => Ld.a1 hld (ref ts2 r) rfl rfl ?_
    have hl2 := af2.len
    have hmul : i * 65535 ≤ 300 * 65535 := Nat.mul_le_mul_right _ (by omega)
    refine CVT.imp ?_ (hf af2.mgr ha hin (by omega))
    rintro H3 q ⟨F3, ts3, a3, af3, hin3, rfl, hev3⟩
    refine hback (kids.length - (i + 1)) _ _ (by omega) ⟨i + 1, F3, ts3, a3, by omega, rfl, ?_, ?_, hin3, fun x hx => ?_, fun ρ => ?_, ?_⟩
    · exact tc rfl (tc rfl (tc rfl (tc rfl (tc ((wrap64 (by omega) (by omega)).trans (by omega)) rfl))))
    · have := af2.trans af3
      exact ⟨this.mgr, this.pre, by have := this.len; omega, this.keep, this.fresh⟩
    · rcases af3.fresh x hx with h | h
      · exact hdis2 x h
      · intro hf'; have := hk2.own.lt x hf'; omega
    · rw [hev3 ρ]
      show op (a.eval ρ) (r.eval ρ) = _
      rw [hva ρ, hev ρ]
      have ht : kids.take (i + 1) = kids.take i ++ [k] := by
        rw [List.take_succ_eq_append_getElem hi']
        rw [List.getElem?_eq_getElem hi'] at hki
        simp only [Option.some.injEq] at hki
        rw [hki]
      rw [ht]; simp
    · refine ⟨?_, fun r hr => (hk2.inn r hr).mono af3.pre, hk2.val⟩
      have e : (rs.map fun r => [AC.int .i64 (ref ts3 r)]) = rs.map fun r => [AC.int .i64 (ref ts2 r)] := by
        apply List.map_congr_left
        intro r hr
        rw [ref_mono (hk2.inn r hr) af3.pre]
      rw [e]
      exact hk2.own.keep af3.keep fun x hx => hdis2 x hx
  · have hil : i = kids.length := by omega
    subst hil
    have := af.trans af2
    refine ⟨F2, ts2, a, ⟨this.mgr, this.pre, by have := this.len; omega, this.keep, this.fresh⟩, ha, rfl, fun ρ => ?_⟩
    rw [hva ρ, List.take_of_length_le (Nat.le_refl _)]
theorem foldl_and : ∀ (l : List Bool) (b : Bool), l.foldl (fun x y => x && y) b = (b && l.all id)
  | [], b => by simp
  | x :: l, b => by rw [List.foldl_cons, foldl_and l]; simp [Bool.and_assoc]
theorem foldl_or : ∀ (l : List Bool) (b : Bool), l.foldl (fun x y => x || y) b = (b || l.any id)
  | [], b => by simp
  | x :: l, b => by rw [List.foldl_cons, foldl_or l]; simp [Bool.or_assoc]
theorem build_c : ∀ (n : Nat) {op var : Int} {s : AC} {f : Fm} {H : AHeap} {m : AC} {F : Nat → Prop} {ts : List DT} {base : Nat}, f.size ≤ n → f.size ≤ 300 → f.fault = 0 → FmB base H op var s f → base ≤ H.size → Mgr H m F ts → (∀ x, F x → base ≤ x) →
    ts.length + 131070 * f.size + 39321600 ≤ 4294967296 →
    Fn.Z27 m op var s H fun H' q => OpRes H m F ts (131070 * f.size - 65535) (fun ρ => f.val ρ) H' q := by
  intro n
  induction n with
  | zero => intro op var s f H m F ts base hn; have := f.size_pos; omega
  | succ n ih =>
    intro op var s f H m F ts base hn h300 hok hf hbase hm hFb hsz
    obtain ⟨kids, rows, rfl, hl, hs, hsb, hk⟩ := hf.inv
    obtain ⟨o1, o2, o3, o4, o5, o6⟩ := Fm.ok_inv hok
    have hsize : Fm.size (.mk op var kids) = Fm.sizes kids + 1 := by rw [Fm.size]
    have hlen := Fm.sizes_len kids
    rw [hsize] at hn h300 hsz ⊢
    have hlt := hm.lt
    refine Z27.run ?_
    unfold Z27.W
    refine New.own fun b H1 hb hs1 ho hkp => ?_
    refine FA.mk (Ld.oc ho rfl (LenS.of (hs.kp hkp) ?_))
    rw [List.length_map, hl]
    have hbF : ¬ F b := fun h => by have := hlt _ h; omega
    unfold Z27.l8
    refine LoopT.rule (fun mm s0 H2 => ∃ (i : Nat) (F2 : Nat → Prop) (ts2 : List DT) (ks : AC) (Fk : Nat → Prop) (rs : List DT), i ≤ kids.length ∧ mm = kids.length - i ∧ s0 = (m, .ptr (some (b, 0)), ks, s, (kids.length : Int), (i : Int), ()) ∧
      After H1 m F ts (131070 * Fm.sizes (kids.take i) - 65535 * i) H2 F2 ts2 ∧ Kids H2 ks Fk ts2 (kids.take i) rs ∧ (∀ x, F2 x → ¬ Fk x) ∧ (∀ x, Fk x → H1.size ≤ x) ∧ ¬ Fk b ∧ Own H2 b [.int .i64 op, .int .i64 var, s]) kids.length
      ⟨0, F, ts, .sl none 0 0 (some 0), fun _ => False, [], by omega, by omega, rfl, After.refl (hm.kp hkp) _, ⟨OwnS.nil _ _, fun _ h => (by cases h), fun _ => rfl⟩, fun _ _ => id, fun _ h => h.elim, id, ho⟩ ?_
    rintro mm s0 H2 back ⟨i, F2, ts2, ks, Fk, rs, hi, rfl, rfl, af2, hki2, hdis2, hFkb, hbk, ho2⟩ hback
    simp only [Z27.b8]
    have hsz2 := af2.keep.size
    have hsame : ∀ x, x < base → H2.get x = H.get x := fun x hx => by rw [af2.keep.get x (by omega) (fun h => by have := hFb x h; omega), hkp.get x (by omega) id]
    have hF2 : ∀ x, F2 x → base ≤ x := fun x h => by rcases af2.fresh x h with h | h; exact hFb x h; omega
    have hs2 : SlR H2 s 3 (rows.map fun r : Int × Int × AC => [.int .i64 r.1, .int .i64 r.2.1, r.2.2]) := by
      obtain ⟨a, z, cap, e, hr⟩ := hs.ex
      refine ⟨a, z, cap, e, fun j r hj => ?_⟩
      obtain ⟨hz, b', o', e1, hld⟩ := hr j r hj
      subst e1
      exact ⟨hz, b', o', rfl, af2.keep.loadS (hkp.load hld) (fun h => by have := hFb _ h; have := hsb b' o' _ _ _ e; omega)⟩
    have hl2 := af2.len
    have htl := Fm.sizes_le kids i
    have hSi := Fm.sizes_len (kids.take i)
    rw [List.length_take, Nat.min_eq_left hi] at hSi
    refine CondB.dec (fun hlt2 => ?_) fun hge => ?_
    · have hi' : i < kids.length := by omega
      obtain ⟨r, k, hri, hki, hro⟩ := kid_at hl hi'
      have hle := Fm.size_mem kids i k hki
      have htk := Fm.sizes_take kids i k hki
      have htl' := Fm.sizes_le kids (i + 1)
      have hkp0 := k.size_pos
      refine IA.of hs2 (by omega) (by rw [Int.toNat_natCast]; exact hro) fun b' o' hld => Ld.a3 hld r.1 r.2.1 r.2.2 rfl rfl ?_
      refine NewSto.own rfl fun p H3 hp hs3 hbox hk3 => ?_
      refine Ld.o3 hbox r.1 r.2.1 r.2.2 rfl ?_
      have hkB : FmB base H3 r.1 r.2.1 r.2.2 k := (hk i r k hri hki).move fun x hx => by rw [hk3.get x (by omega) id, hsame x hx]
      refine RunT.imp ?_ (ih (by omega) (by omega) (o6 k (List.mem_of_getElem? hki)) hkB (by omega) (af2.mgr.kp hk3) hF2 (by omega))
      rintro H4 q ⟨F4, ts4, r4, af4, in4, rfl, hev4⟩
      have af4' := After.kp hk3 af4
      have hl4 := af4.len
      have hsz34 := af4.keep.size
      refine NewS.own fun p2 H5 hp2 hs5 hbox5 hk5 => ?_
      have hbF2 : ¬ F2 b := fun h => by rcases af2.fresh _ h with h | h; exact hbF h; omega
      have ho4 := (ho2.kp hk3).keep af4.keep hbF2
      have own4 := (hki2.own.kp hk3).keep af4.keep hdis2
      have hrl : rs.length = i := by have := congrArg List.length (hki2.val fun _ => false); simp at this; omega
      refine App.own (own4.kp hk5) (r := [.int .i64 (ref ts4 r4)]) ⟨p2, _, rfl, hbox5.all⟩ rfl (by rw [List.length_map]; omega) (by rw [List.length_map]; omega) fun s6 H6 own6 hk6 hs6 => ?_
      have hFklt : ∀ x, Fk x → x < H2.size := hki2.own.lt
      have hF4Fk : ∀ x, F4 x → ¬ Fk x := fun x h hf => by
        rcases af4.fresh x h with h | h
        · exact hdis2 x h hf
        · have := hFklt x hf; omega
      have afAll := af2.trans af4'
      have hF4lt := af4.mgr.lt
      refine hback (kids.length - (i + 1)) _ _ (by omega) ⟨i + 1, F4, ts4, s6, fun y => Fk y ∨ y = H5.size, rs ++ [r4], by omega, rfl, ?_, ?_, ⟨?_, fun x hx => ?_, fun ρ => ?_⟩, fun x hx => ?_, fun x hx => ?_, fun hx => ?_, ?_⟩
      · exact tc rfl (tc rfl (tc rfl (tc rfl (tc rfl (tc ((wrap64 (by omega) (by omega)).trans (by omega)) rfl)))))
      · refine ⟨(af4.mgr.kp hk5).keep hk6 (fun x h hf => hF4Fk x hf h), afAll.pre, ?_, ?_, afAll.fresh⟩
        · have := afAll.len
          rw [htk]
          omega
        · have hszH := afAll.keep.size
          exact Keep.trans (Keep.trans' afAll.keep hk5) hk6 fun x hx h => by have := hFkb x h; omega
      · have e : ((rs ++ [r4]).map fun r => [AC.int .i64 (ref ts4 r)]) = (rs.map fun r => [AC.int .i64 (ref ts2 r)]) ++ [[AC.int .i64 (ref ts4 r4)]] := by
          rw [List.map_append]
          congr 1
          apply List.map_congr_left
          intro x hx
          rw [ref_mono (hki2.inn x hx) af4.pre]
        rw [e]; exact own6
      · rcases List.mem_append.1 hx with hx | hx
        · exact (hki2.inn x hx).mono af4.pre
        · simp at hx; subst hx; exact in4
      · have ht : kids.take (i + 1) = kids.take i ++ [k] := by
          rw [List.take_succ_eq_append_getElem hi']
          rw [List.getElem?_eq_getElem hi'] at hki
          simp only [Option.some.injEq] at hki
          rw [hki]
        rw [ht, List.map_append, List.map_append, hki2.val ρ]
        simp only [List.map_cons, List.map_nil, hev4 ρ]
      · rintro (h | h)
        · exact hF4Fk x hx h
        · have := hF4lt x hx; omega
      · rcases hx with h | h
        · exact hFkb x h
        · have := afAll.keep.size; omega
      · rcases hx with h | h
        · exact hbk h
        · have := ho2.lt; omega
      · exact (ho4.kp hk5).keep hk6 hbk
    · have hil : i = kids.length := by omega
      subst hil
      rw [List.take_of_length_le (Nat.le_refl _)] at af2 hki2 hl2
      have af2 := After.kp hkp af2
      have hv0 : ∀ ρ, Fm.val ρ (.mk op var kids) = _ := fun ρ => Fm.val.eq_1 ρ op var kids
      have hvl : ∀ ρ, Fm.vals ρ kids = kids.map (Fm.val ρ) := fun ρ => Fm.vals_map ρ kids
      have hin1 : ∀ b, In ts2 (leaf b) := In.leaf ts2
      refine FA.mk (Ld.oi ho2 rfl (CondB.eq (fun e => ?_) fun e1 => ?_))
      · refine FA.mk (Ld.oi ho2 rfl ?_)
        have hv : var ≤ 15 := by rw [Fm.most, if_pos e] at o5; exact o5
        obtain ⟨w, rfl⟩ := Int.eq_ofNat_of_zero_le o4
        have := node_c af2.mgr (v := w) (hin1 false) (hin1 true) (by omega) (by simp [top]; omega) (by simp [top]; omega) (by omega)
        refine RunT.imp ?_ this
        rintro H3 q ⟨F3, ts3, af3, in3, rfl⟩
        refine OpRes.of af2 ⟨F3, ts3, _, af3, in3, rfl, fun ρ => mk_eval ρ⟩ (by omega) fun ρ => ?_
        rw [hv0 ρ, if_pos e, Int.toNat_natCast]
        simp only [eval]
        cases ρ w <;> rfl
      refine CondB.eq (fun e => ?_) fun e2 => ?_
      · refine NewS.own fun p H3 hp hs3 hbox hk3 => ?_
        refine FA.mk (Ld.oi (ho2.kp hk3) rfl ?_)
        have hv : var ≤ 1 := by rw [Fm.most, if_neg (by omega), if_pos e] at o5; exact o5
        have af3 := af2.trans ((After.refl (af2.mgr.kp hk3) 0).kp hk3)
        have hcase : var = 0 ∨ var = 1 := by omega
        refine IA.mk o4 (by omega) ?_
        rcases hcase with rfl | rfl
        · refine Ld.i (hbox.cell (c := .int .i64 (-1)) rfl) ⟨F2, ts2, leaf false, ⟨af3.mgr, af3.pre, by have := af3.len; omega, af3.keep, af3.fresh⟩, hin1 false, rfl, fun ρ => ?_⟩
          show (leaf false).eval ρ = Fm.val ρ (.mk op 0 kids)
          rw [hv0 ρ, if_neg (by omega), if_pos e]; rfl
        · refine Ld.i (hbox.cell (c := .int .i64 (-2)) rfl) ⟨F2, ts2, leaf true, ⟨af3.mgr, af3.pre, by have := af3.len; omega, af3.keep, af3.fresh⟩, hin1 true, rfl, fun ρ => ?_⟩
          show (leaf true).eval ρ = Fm.val ρ (.mk op 1 kids)
          rw [hv0 ρ, if_neg (by omega), if_pos e]; rfl
      refine CondB.eq (fun e => ?_) fun e3 => ?_
      · have hkl : kids.length = 1 := by have := o3; simp [Fm.want, e] at this; omega
        obtain ⟨r, k, hri, hki, hin, hev, hro⟩ := hki2.at' (i := 0) (by omega)
        refine IA.of hki2.own.slr (by omega) (by exact hro) fun b' o' hld => Ld.a1 hld (ref ts2 r) rfl rfl ?_
        refine RunT.imp ?_ (not_c af2.mgr hin (by omega))
        intro H3 q hq
        refine OpRes.of af2 hq (by omega) fun ρ => ?_
        rw [hv0 ρ, if_neg (by omega), if_neg (by omega), if_pos e, hvl]
        cases kids with
        | nil => simp at hkl
        | cons a l => simp at hki; subst hki; simp [hev ρ]
      refine CondB.eq (fun e => ?_) fun e6 => ?_
      · have hkl : kids.length = 2 := by have := o3; simp [Fm.want, e] at this; omega
        obtain ⟨r, k, hri, hki, hin, hev, hro⟩ := hki2.at' (i := 0) (by omega)
        obtain ⟨r', k', hri', hki', hin', hev', hro'⟩ := hki2.at' (i := 1) (by omega)
        refine IA.of hki2.own.slr (by omega) (by exact hro) fun b' o' hld => Ld.a1 hld (ref ts2 r) rfl rfl ?_
        refine IA.of hki2.own.slr (by omega) (by exact hro') fun b' o' hld => Ld.a1 hld (ref ts2 r') rfl rfl ?_
        refine RunT.imp ?_ (xor_c af2.mgr hin hin' (by omega))
        intro H3 q hq
        refine OpRes.of af2 hq (by omega) fun ρ => ?_
        rw [hv0 ρ, if_neg (by omega), if_neg (by omega), if_neg (by omega), if_pos e, hvl]
        cases kids with
        | nil => simp at hkl
        | cons a l => cases l with
          | nil => simp at hkl
          | cons a' l => simp at hki hki'; subst hki hki'; simp [hev ρ, hev' ρ]
      refine CondB.eq (fun e => ?_) fun e7 => ?_
      · have hkl : kids.length = 3 := by have := o3; simp [Fm.want, e] at this; omega
        obtain ⟨r, k, hri, hki, hin, hev, hro⟩ := hki2.at' (i := 0) (by omega)
        obtain ⟨r', k', hri', hki', hin', hev', hro'⟩ := hki2.at' (i := 1) (by omega)
        obtain ⟨r'', k'', hri'', hki'', hin'', hev'', hro''⟩ := hki2.at' (i := 2) (by omega)
        refine IA.of hki2.own.slr (by omega) (by exact hro) fun b' o' hld => Ld.a1 hld (ref ts2 r) rfl rfl ?_
        refine IA.of hki2.own.slr (by omega) (by exact hro') fun b' o' hld => Ld.a1 hld (ref ts2 r') rfl rfl ?_
        refine IA.of hki2.own.slr (by omega) (by exact hro'') fun b' o' hld => Ld.a1 hld (ref ts2 r'') rfl rfl ?_
        refine RunT.imp ?_ (ite_op af2.mgr hin hin' hin'' (by omega))
        intro H3 q hq
        refine OpRes.of af2 hq (by omega) fun ρ => ?_
        rw [hv0 ρ]
        simp only [e, hvl]
        cases kids with
        | nil => simp at hkl
        | cons a l => cases l with
          | nil => simp at hkl
          | cons a' l => cases l with
            | nil => simp at hkl
            | cons a'' l => simp at hki hki' hki''; subst hki hki' hki''; simp [hev ρ, hev' ρ, hev'' ρ]
      obtain ⟨mb, hmb⟩ : ∃ mb, m = .ptr (some (mb, 0)) := by obtain ⟨mb, _, _, _, _, _, _, hx⟩ := af2.mgr; exact ⟨mb, hx.m_eq⟩
      have hmul : kids.length * 65535 ≤ 65535 * Fm.sizes kids := by rw [Nat.mul_comm]; exact Nat.mul_le_mul_left _ hlen
      have hbnd : 131070 * Fm.sizes kids - 65535 * kids.length + kids.length * 65535 ≤ 131070 * (Fm.sizes kids + 1) - 65535 := by omega
      refine Fnc.mk (show ptrsC [m] = some [(mb, 0)] by rw [hmb]; rfl) (show ptrsC [] = some [] from rfl) (FA.mk (Ld.oi ho2 rfl (CondB.eq (fun e => ?_) fun e5 => ?_)))
      · refine Fnc.mk (show ptrsC [m] = some [(mb, 0)] by rw [hmb]; rfl) (show ptrsC [] = some [] from rfl) ?_
        have := join_c (m := m) (fn := .fn 53 [(mb, 0)] []) (op := fun x y => x || y) (start := false) (fun hm ha hb hsz => by
          have := or_c hm ha hb hsz
          rw [hmb] at this ⊢
          exact CVT.mk lt53 this) af2 hki2 hdis2 (by omega) (by omega) hbnd
        have e9 : (fun (H' : AHeap) (q : Int) => OpRes H m F ts (131070 * (Fm.sizes kids + 1) - 65535) (fun ρ => (kids.map (Fm.val ρ)).foldl (fun x y => x || y) false) H' q) = fun H' q => OpRes H m F ts (131070 * (Fm.sizes kids + 1) - 65535) (fun ρ => Fm.val ρ (.mk op var kids)) H' q := by
          have : (fun ρ => (kids.map (Fm.val ρ)).foldl (fun x y => x || y) false) = fun ρ => Fm.val ρ (.mk op var kids) := by
            funext ρ
            rw [hv0 ρ, if_neg (by omega), if_neg (by omega), if_neg (by omega), if_neg (by omega), if_neg (by omega), if_pos e, hvl, foldl_or]; rfl
          rw [this]
        rw [e9] at this
        exact this
      · have := join_c (m := m) (fn := .fn 52 [(mb, 0)] []) (op := fun x y => x && y) (start := true) (fun hm ha hb hsz => by
          have := and_c hm ha hb hsz
          rw [hmb] at this ⊢
          exact CVT.mk lt52 this) af2 hki2 hdis2 (by omega) (by omega) hbnd
        have e9 : (fun (H' : AHeap) (q : Int) => OpRes H m F ts (131070 * (Fm.sizes kids + 1) - 65535) (fun ρ => (kids.map (Fm.val ρ)).foldl (fun x y => x && y) true) H' q) = fun H' q => OpRes H m F ts (131070 * (Fm.sizes kids + 1) - 65535) (fun ρ => Fm.val ρ (.mk op var kids)) H' q := by
          have : (fun ρ => (kids.map (Fm.val ρ)).foldl (fun x y => x && y) true) = fun ρ => Fm.val ρ (.mk op var kids) := by
            funext ρ
            rw [hv0 ρ, if_neg (by omega), if_neg (by omega), if_neg (by omega), if_neg (by omega), if_neg (by omega), if_neg (by omega), hvl, foldl_and]; rfl
          rw [this]
        rw [e9] at this
        exact this
end Go.Proofs.Ytanaaabejeeakaa
end
section
namespace Go.Proofs.Ytanaaabejeeakaa
open Go.AI Go.AI.DT
theorem lt88 : 88 < Try.prog.funcs.size := (Array.getElem?_eq_some_iff.1 Try.func88).1
structure DP where
  (nb wb xb ob nm : Nat)
def DP.loc (p : DP) (y : Nat) : Prop := y = p.nb ∨ y = p.wb ∨ y = p.xb ∨ y = p.ob ∨ y = p.nm
structure DS (H : AHeap) (m : AC) (F : Nat → Prop) (ts : List DT) (p : DP) (Fo : Nat → Prop) (ns : AC) (es : List (List Int × Int)) (st : List DT) : Prop where
  mgr : Mgr H m F ts
  o1 : Own H p.nb [.map (some p.nm)]
  o2 : Own H p.wb [.fn 88 [] [(p.nb, 0), (p.wb, 0), (p.xb, 0), (p.ob, 0)]]
  o3 : Own H p.xb [m]
  o4 : ∃ r0, Own H p.ob [ns, .int .i64 r0]
  sl : OwnS H ns 3 Fo (st.map fun x => nodeCells (row st x))
  mp : MapI H p.nm none es
  eok : ∀ x n, In ts x → (findI [ref ts x] es = some n ↔ x ∈ st ∧ n = ref st x)
  fin : Fin st
  sub : ∀ x ∈ st, x ∈ ts
  d1 : ∀ y, F y → ¬ Fo y ∧ ¬ p.loc y
  d2 : ∀ y, Fo y → ¬ p.loc y
  ne : p.ob ≠ p.nb ∧ p.ob ≠ p.wb ∧ p.ob ≠ p.xb ∧ p.nm ≠ p.nb ∧ p.nm ≠ p.wb ∧ p.nm ≠ p.xb ∧ p.nm ≠ p.ob
theorem DS.kp {H H' : AHeap} {m : AC} {F : Nat → Prop} {ts : List DT} {p : DP} {Fo : Nat → Prop} {ns : AC} {es : List (List Int × Int)} {st : List DT} (h : DS H m F ts p Fo ns es st) (k : Kp H H') : DS H' m F ts p Fo ns es st :=
  ⟨h.mgr.kp k, h.o1.kp k, h.o2.kp k, h.o3.kp k, let ⟨r, o⟩ := h.o4; ⟨r, o.kp k⟩, h.sl.kp k, h.mp.kp k, h.eok, h.fin, h.sub, h.d1, h.d2, h.ne⟩
def Turned (p : DP) (Fo : Nat → Prop) (y : Nat) : Prop := y = p.ob ∨ y = p.nm ∨ Fo y
def DPost (H : AHeap) (m : AC) (F : Nat → Prop) (ts : List DT) (p : DP) (Fo : Nat → Prop) (st : List DT) (x : DT) (H' : AHeap) (q : Int) : Prop :=
  ∃ Fo' ns' es', DS H' m F ts p Fo' ns' es' (ser x st) ∧ Keep (Turned p Fo) H H' ∧ (∀ y, Fo' y → Fo y ∨ H.size ≤ y) ∧ q = ref (ser x st) x
theorem dwalk_c {m : AC} {F : Nat → Prop} {ts : List DT} {p : DP} (htl : ts.length < 4294967296) : ∀ (x : DT) {H : AHeap} {Fo : Nat → Prop} {ns : AC} {es : List (List Int × Int)} {st : List DT}, In ts x → DS H m F ts p Fo ns es st →
    Fn.Z29 (ref ts x) (.ptr (some (p.nb, 0))) (.ptr (some (p.wb, 0))) (.ptr (some (p.xb, 0))) (.ptr (some (p.ob, 0))) H fun H' q => DPost H m F ts p Fo st x H' q := by
  intro x
  induction x with
  | leaf b =>
    intro H Fo ns es st hx hd
    refine Z29.run ?_
    unfold Z29.W
    refine CondB.pos ?_ ⟨Fo, ns, es, hd, Keep.refl _ _, fun y h => .inl h, ?_⟩
    · rw [decide_eq_true_iff]; exact ref_leaf.2 ⟨b, rfl⟩
    · cases b <;> rfl
  | nd v l h ihl ihh =>
    intro H Fo ns es st hx hd
    have h0 : 0 ≤ ref ts (nd v l h) := by rw [ref_ge]; omega
    have hg := ref_get hx h0
    have hfin := hd.mgr.fin
    have hxm : nd v l h ∈ ts := hx.elim (fun ⟨b, e⟩ => by cases e) id
    obtain ⟨hinl, hinh, hro⟩ : In ts l ∧ In ts h ∧ (nd v l h).RO := by
      obtain ⟨_, _, _, e0, a1, a2, a3⟩ := hfin.parts _ hxm
      cases e0
      exact ⟨a1, a2, a3⟩
    refine Z29.run ?_
    unfold Z29.W
    refine CondB.neg (by rw [decide_eq_false_iff_not]; omega) (Ld.oc hd.o1 rfl (Look.i hd.mp rfl (fun n hf => ?_) fun hf => ?_))
    · obtain ⟨h1, h2⟩ := (hd.eok _ n hx).1 hf
      have hser : ser (nd v l h) st = st := by simp only [ser]; rw [if_pos h1]
      exact CondB.pos rfl ⟨Fo, ns, es, by rw [hser]; exact hd, Keep.refl _ _, fun y h => .inl h, by rw [hser]; exact h2⟩
    have hnin : nd v l h ∉ st := fun hin => by
      have := (hd.eok _ _ hx).2 ⟨hin, rfl⟩
      rw [hf] at this; cases this
    refine CondB.neg rfl (Ld.oc hd.o2 rfl (Ld.oc hd.o3 rfl ?_))
    -- the manager's node
    have node : ∀ {H : AHeap} {k : AC → Prop}, Mgr H m F ts → (∀ slc b o, SlR H slc 3 (ts.map fun x => nodeCells (row ts x)) → H.load (b, o) 3 = some (nodeCells (row ts (nd v l h))) → k (.ptr (some (b, o)))) →
        NN m (FA 0 m fun q => Ld [.ac] H q fun (vv : AC) => IA 3 vv (ref ts (nd v l h)) k) := by
      intro H k hm hk
      obtain ⟨mb, ib, db, Fs, slc, idx, done, hx'⟩ := hm
      obtain rfl := hx'.m_eq
      exact NN.ptr (FA.mk (Ld.oc hx'.own rfl (IA.of hx'.sl.slr h0 (r := nodeCells (row ts (nd v l h))) (by simp [hg]) fun b o hld => hk slc b o hx'.sl.slr hld)))
    refine node hd.mgr ?_; intro slc b o _ hld; refine FA.mk (Ld.ei hld rfl ?_)
    refine CVT.imp ?_ (CVT.mk lt88 (ihl hinl hd))
    rintro H1 q ⟨Fo1, ns1, es1, hd1, kp1, fr1, rfl⟩
    refine Ld.oc hd1.o2 rfl (Ld.oc hd1.o3 rfl (node hd1.mgr ?_)); intro slc b o _ hld; refine FA.mk (Ld.ei hld rfl ?_)
    refine CVT.imp ?_ (CVT.mk lt88 (ihh hinh hd1))
    rintro H2 q ⟨Fo2, ns2, es2, hd2, kp2, fr2, rfl⟩
    obtain ⟨r0, ho4⟩ := hd2.o4
    refine FA.mk (Ld.oc ho4 rfl (Ld.oc hd2.o3 rfl (node hd2.mgr ?_))); intro slc b o _ hld; refine FA.mk (Ld.ei hld rfl ?_)
    have hnin2 : nd v l h ∉ ser h (ser l st) := ser_new hnin
    have hil2 : In (ser h (ser l st)) l := (ser_in l st).mono (ser_prefix h _)
    have hih2 : In (ser h (ser l st)) h := ser_in h _
    have hrl : ref (ser l st) l = ref (ser h (ser l st)) l := (ref_mono (ser_in l st) (ser_prefix h _)).symm
    have hst2 : (ser h (ser l st)).length ≤ ts.length := hd2.fin.nodup.length_le_of_subset fun y hy => hd2.sub y hy
    have hser : ser (nd v l h) st = ser h (ser l st) ++ [nd v l h] := by simp only [ser]; rw [if_neg hnin]
    rw [hrl]
    obtain ⟨st2, hs2⟩ : ∃ s, s = ser h (ser l st) := ⟨_, rfl⟩
    rw [← hs2] at hd2 hnin2 hil2 hih2 hst2 hser ⊢
    refine NewS.own fun pb H3 hpb hs3 hbox3 hk3 => ?_
    have hd3 := hd2.kp hk3
    have hlF : ∀ y, Fo2 y → y < H2.size := hd2.sl.lt
    have hmF : ∀ y, F y → y < H2.size := hd2.mgr.lt
    have hob := ho4.lt
    have hnmb := hd2.mp.lt
    refine App.own hd3.sl (r := nodeCells ((v : Int), ref st2 l, ref st2 h)) ⟨pb, _, rfl, hbox3.all⟩ rfl (by rw [List.length_map]; omega) (by rw [List.length_map]; omega) fun ns4 H4 sl4 hk4 hs4 => ?_
    have ho4' := (ho4.kp hk3).keep hk4 (fun e => hd2.d2 _ e (.inr (.inr (.inr (.inl rfl)))))
    refine FA.mk (Sto.own ho4' (show 0 + 0 + 1 ≤ 2 by omega) fun H5 ho5 hk5 hs5 => ?_)
    simp only [List.take_zero, List.nil_append, List.cons_append, List.length_cons, List.length_nil, Nat.zero_add, Nat.add_zero, List.drop_succ_cons, List.drop_zero] at ho5
    have o15 := (hd3.o1.keep hk4 (fun e => hd2.d2 _ e (.inl rfl))).keep hk5 (fun e => hd2.ne.1 e.symm)
    have sl5 := sl4.keep hk5 (fun y e h => by
      subst e
      rcases h with h | h
      · exact hd2.d2 _ h (.inr (.inr (.inr (.inl rfl))))
      · omega)
    have mp5 := (hd3.mp.keep hk4 (fun e => hd2.d2 _ e (.inr (.inr (.inr (.inr rfl)))))).keep hk5 hd2.ne.2.2.2.2.2.2
    refine Ld.oc o15 rfl (FA.mk (Ld.oc ho5 rfl (LenS.of sl5.slr (MSet.i mp5 rfl fun H6 mp6 hk6 hs6 => ?_))))
    have o16 := o15.keep hk6 (fun e => hd2.ne.2.2.2.1 e.symm)
    have hlen : IntKind.wrap .i64 ((((st2.map fun x => nodeCells (row st2 x)) ++ [nodeCells ((v : Int), ref st2 l, ref st2 h)]).length : Int) - 1) = (st2.length : Int) := by
      simp only [List.length_append, List.length_map, List.length_cons, List.length_nil]
      exact (wrap64 (by omega) (by omega)).trans (by omega)
    rw [hlen] at mp6
    have hp : st2 <+: st2 ++ [nd v l h] := List.prefix_append _ _
    refine Ld.oc o16 rfl (Look.i mp6 rfl (fun n hf6 => ?_) fun hf6 => ?_)
    · rw [findI_set, if_pos rfl] at hf6
      simp only [Option.some.injEq] at hf6
      subst hf6
      refine ⟨fun y => Fo2 y ∨ y = H3.size, ns4, setI [ref ts (nd v l h)] (st2.length : Int) es2, ?_, ?_, ?_, ?_⟩
      · rw [hser]
        refine ⟨?_, o16, ?_, ?_, ⟨r0, ho5.keep hk6 (fun e => hd2.ne.2.2.2.2.2.2 e.symm)⟩, ?_, mp6, ?_, hd2.fin.snoc hnin2 hil2 hih2 hro, ?_, ?_, ?_, hd2.ne⟩
        · refine ((hd3.mgr.keep hk4 (fun y h1 h2 => (hd2.d1 y h2).1 h1)).keep hk5 (fun y e h2 => (hd2.d1 y h2).2 (.inr (.inr (.inr (.inl e)))))).keep hk6 (fun y e h2 => (hd2.d1 y h2).2 (.inr (.inr (.inr (.inr e)))))
        · exact ((hd3.o2.keep hk4 (fun e => hd2.d2 _ e (.inr (.inl rfl)))).keep hk5 (fun e => hd2.ne.2.1 e.symm)).keep hk6 (fun e => hd2.ne.2.2.2.2.1 e.symm)
        · exact ((hd3.o3.keep hk4 (fun e => hd2.d2 _ e (.inr (.inr (.inl rfl))))).keep hk5 (fun e => hd2.ne.2.2.1 e.symm)).keep hk6 (fun e => hd2.ne.2.2.2.2.2.1 e.symm)
        · have hrows : (st2 ++ [nd v l h]).map (fun x => nodeCells (row (st2 ++ [nd v l h]) x)) = (st2.map fun x => nodeCells (row st2 x)) ++ [nodeCells ((v : Int), ref st2 l, ref st2 h)] := by
            have e2 : st2.map (fun x => nodeCells (row (st2 ++ [nd v l h]) x)) = st2.map fun x => nodeCells (row st2 x) := by
              have := congrArg (List.map nodeCells) (hd2.fin.row_mono hp)
              simpa [List.map_map, Function.comp_def] using this
            rw [List.map_append, e2]
            simp only [List.map_cons, List.map_nil, row, ref_mono hil2 hp, ref_mono hih2 hp]
          rw [hrows]
          exact sl5.keep hk6 (fun y e h => by
            subst e
            rcases h with h | h
            · exact hd2.d2 _ h (.inr (.inr (.inr (.inr rfl))))
            · omega)
        · intro y n hy
          rw [findI_set]
          by_cases hyx : y = nd v l h
          · subst hyx
            rw [if_pos rfl, ref_new hnin2]
            constructor
            · intro e; simp only [Option.some.injEq] at e; exact ⟨by simp, e.symm⟩
            · rintro ⟨_, e⟩; rw [e]
          · rw [if_neg (fun e => hyx (ref_inj hy hx (by simpa using e.symm))), hd2.eok y n hy]
            constructor
            · rintro ⟨h1, h2⟩; exact ⟨List.mem_append_left _ h1, by rw [h2, ref_mono (.inr h1) hp]⟩
            · rintro ⟨h1, h2⟩
              rcases List.mem_append.1 h1 with h1 | h1
              · exact ⟨h1, by rw [h2, ref_mono (.inr h1) hp]⟩
              · simp at h1; exact absurd h1 hyx
        · intro y hy
          rcases List.mem_append.1 hy with hy | hy
          · exact hd2.sub y hy
          · simp at hy; subst hy; exact hxm
        · intro y hy
          refine ⟨?_, (hd2.d1 y hy).2⟩
          rintro (h | h)
          · exact (hd2.d1 y hy).1 h
          · have := hmF y hy; omega
        · rintro y (h | h) hl
          · exact hd2.d2 y h hl
          · have hloc : ∀ z, p.loc z → z < H2.size := by
              rintro z (e | e | e | e | e)
              · rw [e]; exact hd2.o1.lt
              · rw [e]; exact hd2.o2.lt
              · rw [e]; exact hd2.o3.lt
              · rw [e]; exact hob
              · rw [e]; exact hnmb
            have := hloc y hl; omega
      · have hz1 := kp1.size
        have hz2 := kp2.size
        have hT1 : ∀ y, y < H.size → Turned p Fo1 y → Turned p Fo y := by
          rintro y hy (e | e | e)
          · exact .inl e
          · exact .inr (.inl e)
          · rcases fr1 y e with e | e
            · exact .inr (.inr e)
            · omega
        have hF2 : ∀ y, y < H.size → Fo2 y → Fo y := by
          intro y hy e
          rcases fr2 y e with e | e
          · rcases fr1 y e with e | e
            · exact e
            · omega
          · omega
        refine Keep.trans (Keep.trans (Keep.trans (Keep.trans (Keep.trans kp1 kp2 hT1) hk3 fun _ _ h => h.elim) hk4 fun y hy e => .inr (.inr (hF2 y hy e))) hk5 fun y _ e => .inl e) hk6 fun y _ e => .inr (.inl e)
      · have hz1 := kp1.size
        have hz2 := kp2.size
        rintro y (h | h)
        · rcases fr2 y h with h | h
          · rcases fr1 y h with h | h
            · exact .inl h
            · exact .inr h
          · exact .inr (by omega)
        · exact .inr (by omega)
      · rw [hser, ref_new hnin2]
    · rw [findI_set, if_pos rfl] at hf6
      cases hf6
end Go.Proofs.Ytanaaabejeeakaa
end
section
namespace Go.Proofs.Ytanaaabejeeakaa
open Go.AI Go.AI.DT
theorem diagram_c {m : AC} {F : Nat → Prop} {ts : List DT} {x : DT} {H : AHeap} (hm : Mgr H m F ts) (hx : In ts x) (htl : ts.length < 4294967296) :
    Fn.Z28 m (ref ts x) H fun H' ns root => (∃ Fo, OwnS H' ns 3 Fo (nodeRows ((ser x []).map (row (ser x [])))) ∧ ∀ y, Fo y → H.size ≤ y) ∧ root = ref (ser x []) x ∧ Kp H H' := by
  refine Z28.run ?_
  unfold Z28.W
  have hF := hm.lt
  refine New.own fun b1 H1 hb1 hs1 o1 k1 => New.own fun b3 H3 hb3 hs3 o3 k3 => New.own fun b5 H5 hb5 hs5 o5 k5 => NewM.i none fun nm H6 hnm hs6 om k6 => ?_
  refine NewSto.own rfl fun b9 H9 hb9 hs9 o9 k9 => New.own fun b12 H12 hb12 hs12 o12 k12 => Fnc.mk rfl rfl ?_
  refine Sto.own o12 (Nat.le_refl 1) fun H13 o13 k13 hs13 => ?_
  simp only [List.take_zero, List.nil_append, List.length_cons, List.length_nil, Nat.zero_add, List.drop_succ_cons, List.drop_zero, List.cons_append] at o13
  have kk : Kp H H12 := ((((k1.trans k3).trans k5).trans k6).trans k9).trans k12
  have kk3 : Kp H H13 := kk.fresh k13 (fun x e => by omega)
  have hne13 : ∀ x, x < b12 → ¬ x = b12 := fun x h => by omega
  have o1' := ((((((o1.kp k3).kp k5).kp k6).kp k9).kp k12).keep k13 (hne13 _ (by omega)))
  have o3' := ((((o3.kp k5).kp k6).kp k9).kp k12).keep k13 (hne13 _ (by omega))
  have o5' := (((o5.kp k6).kp k9).kp k12).keep k13 (hne13 _ (by omega))
  have om' := ((om.kp k9).kp k12).keep k13 (hne13 _ (by omega))
  have o9' := (o9.kp k12).keep k13 (hne13 _ (by omega))
  obtain ⟨p, hp⟩ : ∃ p : DP, p = ⟨b9, b12, b1, b5, nm⟩ := ⟨_, rfl⟩
  have hd : DS H13 m F ts p (fun _ => False) (.sl none 0 0 (some 0)) [] [] := by
    subst hp
    refine ⟨hm.kp kk3, o9', o13, o1', ⟨0, o5'⟩, OwnS.nil _ _, om', fun y n _ => ?_, Fin.nil, fun _ h => (by cases h), fun y hy => ⟨id, ?_⟩, fun _ h => h.elim, ?_⟩
    · constructor
      · intro h; cases h
      · rintro ⟨h, _⟩; cases h
    · rintro (h | h | h | h | h) <;> (have := hF y hy; dsimp only at h; omega)
    · refine ⟨?_, ?_, ?_, ?_, ?_, ?_, ?_⟩ <;> dsimp only <;> omega
  refine Ld.oc o13 rfl (CVT.imp ?_ (by subst hp; exact CVT.mk lt88 (dwalk_c htl x hx hd)))
  rintro H14 q ⟨Fo, ns, es, hd4, k14, fr14, rfl⟩
  have kk4 : Kp H H14 := kk3.fresh k14 (by
    rintro y (h | h | h)
    · subst hp; have h' : y = b5 := h; omega
    · subst hp; have h' : y = nm := h; omega
    · exact h.elim)
  obtain ⟨r0, ho4⟩ := hd4.o4
  have o34 : Own H14 b3 [.sl none 0 0 (some 0), .int .i64 0] := o3'.keep k14 (by
    rintro (h | h | h)
    · subst hp; have h' : b3 = b5 := h; omega
    · subst hp; have h' : b3 = nm := h; omega
    · exact h.elim)
  subst hp
  refine FA.mk (Sto.own ho4 (show 1 + 1 ≤ 2 by omega) fun H15 o15 k15 hs15 => ?_)
  have o35 := o34.keep k15 (show ¬ b3 = b5 by omega)
  refine Ld.o2 o15 ns (ref (ser x []) x) rfl (Sto.own o35 (Nat.le_refl 2) fun H16 o36 k16 hs16 => ?_)
  refine Ld.o2 o36 ns (ref (ser x []) x) rfl ⟨⟨Fo, ?_, fun y h => ?_⟩, rfl, ?_⟩
  · unfold nodeRows
    rw [List.map_map]
    refine (hd4.sl.keep k15 (fun y e h => ?_)).keep k16 fun y e h => ?_
    · exact hd4.d2 y h (.inr (.inr (.inr (.inl e))))
    · rcases fr14 y h with h | h
      · exact h.elim
      · have := k13.size; have := k9.size; omega
  · rcases fr14 y h with h | h
    · exact h.elim
    · have := kk3.size; omega
  · exact (kk4.fresh k15 fun y e => by have e' : y = b5 := e; omega).fresh k16 fun y e => by have e' : y = b3 := e; omega
theorem result_c {m : AC} {F : Nat → Prop} {ts : List DT} {x : DT} {H : AHeap} (hm : Mgr H m F ts) (hx : In ts x) (htl : ts.length < 4294967296) :
    Fn.Z36 m (ref ts x) H fun H' ns root err => DResN H H' x ns root err ∧ Kp H H' := by
  refine Z36.run ?_
  unfold Z36.W
  refine New.own fun b1 H1 hb1 hs1 o1 k1 => ?_
  refine RunT.imp ?_ (diagram_c (hm.kp k1) hx htl)
  rintro H2 ns root ⟨⟨Fo, hsl, hFo⟩, rfl, k2⟩
  refine NewSto.own rfl fun b H3 hb hs3 ho k3 => FA.mk (Ld.oc ho rfl ?_)
  have hsl3 := hsl.kp k3
  have kk : Kp H H3 := (k1.trans k2).trans k3
  have o13 := (o1.kp k2).kp k3
  refine LenS.of hsl3.slr ?_
  have hlen : (nodeRows ((ser x []).map (row (ser x [])))).length = (ser x []).length := by simp [nodeRows]
  rw [hlen]
  have hsz := k1.size
  refine CondB.dec (fun hgt => ?_) fun hle => ?_
  · refine Sto.own o13 (Nat.le_refl 2) fun H4 o14 k4 hs4 => ?_
    exact Ld.o2 o14 (.sl none 0 0 (some 0)) (0 : Int) rfl ⟨⟨fun _ => False, fun _ h => h.elim, .inl ⟨by omega, rfl, rfl, OwnS.nil _ _⟩⟩, kk.fresh k4 fun y e => by have e' : y = b1 := e; omega⟩
  · refine Ld.o2 ho ns (ref (ser x []) x) rfl (Sto.own o13 (Nat.le_refl 2) fun H4 o14 k4 hs4 => ?_)
    refine Ld.o2 o14 ns (ref (ser x []) x) rfl ⟨⟨Fo, fun y h => by have := hFo y h; omega, .inr ⟨by omega, rfl, rfl, hsl3.keep k4 fun y e h => ?_⟩⟩, kk.fresh k4 fun y e => by have e' : y = b1 := e; omega⟩
    have e' : y = b1 := e
    have := hFo y h
    omega
def BRes (H0 H : AHeap) (f : Fm) (ns : AC) (root err : Int) : Prop :=
  (boolFaultOf f ≠ 0 ∧ err = boolFaultOf f ∧ root = 0 ∧ SlR H ns 3 []) ∨ (boolFaultOf f = 0 ∧ ∃ x : DT, x.RO ∧ (∀ ρ, x.eval ρ = f.val ρ) ∧ DResN H0 H x ns root err)
theorem Build_c {op var : Int} {s : AC} {f : Fm} {H : AHeap} (hmax : f.size < 4611686018427387904) (hf : FmB H.size H op var s f) :
    Fn.Z13 op var s H fun H' ns root err => BRes H H' f ns root err ∧ Kp H H' := by
  refine Z13.run ?_
  unfold Z13.W
  refine New.own fun b1 H1 hb1 hs1 o1 k1 => New.own fun b3 H3 hb3 hs3 o3 k3 => Ld.o3 (o1.kp k3) op var s rfl ?_
  have hf3 := hf.at'.kp (k1.trans k3)
  refine RunT.imp ?_ (CheckBool_c hmax hf3)
  rintro H4 e ⟨rfl, k4⟩
  have kk := (k1.trans k3).trans k4
  have hz1 := k1.size
  have hz3 := k3.size
  have hz4 := k4.size
  refine CondB.mk (fun hne => ?_) fun heq => ?_
  · refine Sto.own (o3.kp k4) (Nat.le_refl 2) fun H5 o5 k5 hs5 => ?_
    exact Ld.o2 o5 (.sl none 0 0 (some 0)) (0 : Int) rfl ⟨.inl ⟨by simpa using hne, rfl, rfl, SlR.nil _ _⟩, kk.fresh k5 fun y e => by have e' : y = b3 := e; omega⟩
  · have h0 : boolFaultOf f = 0 := by simpa using heq
    have hsz300 : f.size ≤ 300 ∧ f.fault = 0 := by
      unfold boolFaultOf at h0
      split at h0
      · cases h0
      · exact ⟨by omega, h0⟩
    refine RunT.imp ?_ newManager_c
    rintro H5 m ⟨⟨F, hm, hF⟩, k5⟩
    refine Ld.o3 (((o1.kp k3).kp k4).kp k5) op var s rfl ?_
    have kk5 := kk.trans k5
    have hfB : FmB H.size H5 op var s f := hf.move fun b hb => kk5.get b hb id
    have hz5 := k5.size
    refine RunT.imp ?_ (build_c f.size (Nat.le_refl _) hsz300.1 hsz300.2 hfB (by omega) hm (fun x hx => by have := hF x hx; omega) ?_)
    · rintro H6 q ⟨F6, ts6, r, af, hin, rfl, hev⟩
      have hz6 := af.keep.size
      have htl : ts6.length < 4294967296 := by
        have := af.len
        have h300 := hsz300.1
        simp only [List.length_nil, Nat.zero_add] at this
        omega
      refine RunT.imp ?_ (result_c af.mgr hin htl)
      rintro H7 ns root err ⟨hres, k7⟩
      have kk6 : Kp H H6 := kk5.fresh af.keep fun x hx => by have := hF x hx; omega
      have kk7 := kk6.trans k7
      have o37 : Own H7 b3 _ := ((((o3.kp k4).kp k5).keep af.keep fun hx => by have := hF _ hx; omega)).kp k7
      refine Sto.own o37 (Nat.le_refl 2) fun H8 o8 k8 hs8 => Ld.o2 o8 ns root rfl ⟨.inr ⟨h0, r, af.mgr.fin.ro hin, hev, ?_⟩, kk7.fresh k8 fun y e => by have e' : y = b3 := e; omega⟩
      exact (hres.keep k8 fun y e => by have e' : y = b3 := e; omega).from (by omega)
    · have h300 := hsz300.1
      simp only [List.length_nil, Nat.zero_add]
      omega
end Go.Proofs.Ytanaaabejeeakaa
end
section
namespace Go.AI
open DT
abbrev NRow := Int × Int × Int
def atR (ts : List DT) (r : Int) : DT := if r = -1 then leaf false else if r = -2 then leaf true else ts[r.toNat]?.getD (leaf false)
def bldStep (ts : List DT) (p : NRow) : List DT := ts ++ [DT.mk p.1.toNat (atR ts p.2.1) (atR ts p.2.2)]
def bld (l : List NRow) : List DT := l.foldl bldStep []
theorem bld_snoc (l : List NRow) (p : NRow) : bld (l ++ [p]) = bldStep (bld l) p := by simp [bld]
theorem bld_len' : ∀ (l : List NRow) (ts : List DT), (l.foldl bldStep ts).length = ts.length + l.length
  | [], ts => by simp
  | p :: l, ts => by rw [List.foldl_cons, bld_len' l, bldStep]; simp; omega
theorem bld_len (l : List NRow) : (bld l).length = l.length := by rw [bld, bld_len']; simp
theorem bld_pre' : ∀ (l : List NRow) (ts : List DT), ts <+: l.foldl bldStep ts
  | [], ts => List.prefix_rfl
  | p :: l, ts => by rw [List.foldl_cons]; exact (List.prefix_append _ _).trans (bld_pre' l _)
theorem bld_take_pre (l : List NRow) (i : Nat) : bld (l.take i) <+: bld l := by
  have e : bld l = (l.drop i).foldl bldStep (bld (l.take i)) := by
    unfold bld
    rw [← List.foldl_append, List.take_append_drop]
  rw [e]
  exact bld_pre' _ _
theorem bld_take_succ {l : List NRow} {i : Nat} {p : NRow} (h : l[i]? = some p) : bld (l.take (i + 1)) = bldStep (bld (l.take i)) p := by
  rw [List.take_add_one, h]
  exact bld_snoc _ _
theorem atR_mono {ts ts' : List DT} (hp : ts <+: ts') {r : Int} (h0 : -2 ≤ r) (h : r < ts.length) : atR ts' r = atR ts r := by
  unfold atR
  split
  · rfl
  split
  · rfl
  obtain ⟨s, rfl⟩ := hp
  rw [List.getElem?_append_left (by omega)]
theorem atR_ref {st : List DT} {x : DT} (h : In st x) : atR st (ref st x) = x := by
  unfold atR
  split
  · next e => exact (ref_false.1 e).symm
  split
  · next e => exact (ref_true.1 e).symm
  · next h1 h2 =>
    have := (ref_lt h).1
    rw [ref_get h (by omega)]; rfl
def scan : Nat → List NRow → Int
  | _, [] => 0
  | i, p :: l => if p.1 < 0 ∨ 16 ≤ p.1 then 1 else if p.2.1 < -2 ∨ (i : Int) ≤ p.2.1 ∨ p.2.2 < -2 ∨ (i : Int) ≤ p.2.2 then 2 else scan (i + 1) l
def NumOk (i : Nat) (p : NRow) : Prop := 0 ≤ p.1 ∧ p.1 < 16 ∧ -2 ≤ p.2.1 ∧ p.2.1 < i ∧ -2 ≤ p.2.2 ∧ p.2.2 < i
theorem scan_ok : ∀ {l : List NRow} {i : Nat}, scan i l = 0 ↔ ∀ (j : Nat) (p : NRow), l[j]? = some p → NumOk (i + j) p
  | [], i => by simp [scan]
  | p :: l, i => by
    simp only [scan]
    constructor
    · intro h j q hq
      split at h
      · cases h
      split at h
      · cases h
      next h1 h2 =>
        cases j with
        | zero => simp only [List.getElem?_cons_zero, Option.some.injEq] at hq; subst hq; simp only [Nat.add_zero]; unfold NumOk; omega
        | succ j =>
          simp only [List.getElem?_cons_succ] at hq
          have := scan_ok.1 h j q hq
          rwa [show i + 1 + j = i + (j + 1) from by omega] at this
    · intro h
      have h0 := h 0 p rfl
      simp only [Nat.add_zero] at h0
      unfold NumOk at h0
      rw [if_neg (by omega), if_neg (by omega)]
      refine scan_ok.2 fun j q hq => ?_
      have := h (j + 1) q (by simpa using hq)
      rwa [show i + 1 + j = i + (j + 1) from by omega]
theorem scan_drop {l : List NRow} {i : Nat} {p : NRow} (h : l[i]? = some p) : scan i (l.drop i) = if p.1 < 0 ∨ 16 ≤ p.1 then 1 else if p.2.1 < -2 ∨ (i : Int) ≤ p.2.1 ∨ p.2.2 < -2 ∨ (i : Int) ≤ p.2.2 then 2 else scan (i + 1) (l.drop (i + 1)) := by
  obtain ⟨hlt, e⟩ := List.getElem?_eq_some_iff.1 h
  rw [List.drop_eq_getElem_cons hlt, e]
  rfl
def OrdOk (l : List NRow) (p : NRow) : Prop := (∀ q, 0 ≤ p.2.1 → l[p.2.1.toNat]? = some q → p.1 < q.1) ∧ ∀ q, 0 ≤ p.2.2 → l[p.2.2.toNat]? = some q → p.1 < q.1
def RowsOk (l : List NRow) : Prop := ∀ (i : Nat) (p : NRow), l[i]? = some p → NumOk i p ∧ OrdOk l p
theorem bld_at {l : List NRow} {i : Nat} {p : NRow} (hp : l[i]? = some p) (hn : NumOk i p) : (bld l)[i]? = some (DT.mk p.1.toNat (atR (bld l) p.2.1) (atR (bld l) p.2.2)) := by
  have hlt := (List.getElem?_eq_some_iff.1 hp).1
  have hlen : (bld (l.take i)).length = i := by rw [bld_len, List.length_take]; omega
  have e := bld_take_succ hp
  have hpre := bld_take_pre l (i + 1)
  rw [e] at hpre
  obtain ⟨s, hs⟩ := hpre
  have hpre0 := bld_take_pre l i
  unfold NumOk at hn
  rw [atR_mono hpre0 hn.2.2.1 (by rw [hlen]; omega), atR_mono hpre0 hn.2.2.2.2.1 (by rw [hlen]; omega), ← hs]
  unfold bldStep
  rw [List.getElem?_append_left (by simp; omega), List.getElem?_append_right (by omega), hlen]
  simp
theorem bld_ro {l : List NRow} (h : RowsOk l) : ∀ (n i : Nat) (p : NRow), i < n → l[i]? = some p → ∃ x, (bld l)[i]? = some x ∧ x.RO ∧ p.1.toNat ≤ x.top := by
  intro n
  induction n with
  | zero => intro i p hi; omega
  | succ n ih =>
    intro i p hi hp
    obtain ⟨hn, ho1, ho2⟩ := h i p hp
    have hlt := (List.getElem?_eq_some_iff.1 hp).1
    refine ⟨_, bld_at hp hn, ?_⟩
    have part : ∀ r : Int, -2 ≤ r → r < i → (∀ q, 0 ≤ r → l[r.toNat]? = some q → p.1 < q.1) → (atR (bld l) r).RO ∧ p.1.toNat < (atR (bld l) r).top := by
      intro r h1 h2 h3
      unfold NumOk at hn
      unfold atR
      split
      · exact ⟨trivial, by simp only [top]; omega⟩
      split
      · exact ⟨trivial, by simp only [top]; omega⟩
      · have hr : r.toNat < l.length := by omega
        obtain ⟨x, e1, e2, e3⟩ := ih r.toNat l[r.toNat] (by omega) (List.getElem?_eq_getElem hr)
        rw [e1]
        have := h3 l[r.toNat] (by omega) (List.getElem?_eq_getElem hr)
        have hq := (h _ _ (List.getElem?_eq_getElem hr)).1
        unfold NumOk at hq
        exact ⟨e2, by simp only [Option.getD_some]; omega⟩
    have hn' := hn
    unfold NumOk at hn'
    obtain ⟨a1, a2⟩ := part p.2.1 hn'.2.2.1 hn'.2.2.2.1 ho1
    obtain ⟨b1, b2⟩ := part p.2.2 hn'.2.2.2.2.1 hn'.2.2.2.2.2 ho2
    exact ⟨mk_RO (by omega) a2 b2 a1 b1, mk_top a2⟩
theorem atR_ro {l : List NRow} (h : RowsOk l) {r : Int} : (atR (bld l) r).RO := by
  unfold atR
  split
  · trivial
  split
  · trivial
  · cases e : (bld l)[r.toNat]? with
    | none => trivial
    | some x =>
      have hlt := (List.getElem?_eq_some_iff.1 e).1
      rw [bld_len] at hlt
      obtain ⟨y, e1, e2, _⟩ := bld_ro h _ r.toNat l[r.toNat] (Nat.lt_succ_self _) (List.getElem?_eq_getElem hlt)
      rw [e1] at e
      cases e
      exact e2
def Seq (st : List DT) : Prop := Fin st ∧ ∀ (i v : Nat) (l h : DT), st[i]? = some (nd v l h) → In (st.take i) l ∧ In (st.take i) h
theorem Seq.nil : Seq [] := ⟨Fin.nil, fun i v l h e => by simp at e⟩
theorem Seq.snoc {st : List DT} {v : Nat} {l h : DT} (f : Seq st) (hn : nd v l h ∉ st) (hl : In st l) (hh : In st h) (hr : (nd v l h).RO) : Seq (st ++ [nd v l h]) := by
  refine ⟨f.1.snoc hn hl hh hr, fun i w a b e => ?_⟩
  by_cases hi : i < st.length
  · rw [List.getElem?_append_left hi] at e
    rw [List.take_append_of_le_length (by omega)]
    exact f.2 i w a b e
  · have hi' : i = st.length := by
      have := (List.getElem?_eq_some_iff.1 e).1
      simp at this; omega
    subst hi'
    rw [List.getElem?_append_right (Nat.le_refl _)] at e
    simp at e
    obtain ⟨rfl, rfl, rfl⟩ := e
    rw [List.take_append_of_le_length (Nat.le_refl _), List.take_length]
    exact ⟨hl, hh⟩
theorem ser_seq : ∀ (x : DT) (st : List DT), x.RO → Seq st → Seq (ser x st)
  | leaf _, st, _, f => f
  | nd v l h, st, hr, f => by
    simp only [ser]
    split
    · exact f
    · next hn =>
      have f1 := ser_seq l st hr.2.2.2.2.1 f
      have f2 := ser_seq h (ser l st) hr.2.2.2.2.2 f1
      exact f2.snoc (ser_new hn) ((ser_in l st).mono (ser_prefix h _)) (ser_in h _) hr
theorem in_take {st : List DT} {x : DT} (i : Nat) (h : In (st.take i) x) : In st x ∧ ref st x < i := by
  have hp : st.take i <+: st := List.take_prefix _ _
  refine ⟨h.mono hp, ?_⟩
  rw [ref_mono h hp]
  have := (ref_lt h).2
  rw [List.length_take] at this
  omega
theorem seq_rows {st : List DT} (f : Seq st) : RowsOk (st.map (row st)) := by
  intro i p hp
  rw [List.getElem?_map, Option.map_eq_some_iff] at hp
  obtain ⟨x, hx, rfl⟩ := hp
  obtain ⟨v, l, h, rfl, h1, h2, h3⟩ := f.1.parts x (List.mem_of_getElem? hx)
  obtain ⟨i1, i2⟩ := f.2 i v l h hx
  obtain ⟨_, r1⟩ := in_take i i1
  obtain ⟨_, r2⟩ := in_take i i2
  have b1 := (ref_lt h1).1
  have b2 := (ref_lt h2).1
  have hv := h3.1
  refine ⟨⟨?_, ?_, b1, r1, b2, r2⟩, ?_, ?_⟩
  · show (0 : Int) ≤ (v : Int); omega
  · show (v : Int) < 16; omega
  · intro q h0 hq
    have h0' : 0 ≤ ref st l := h0
    have hq' : (st.map (row st))[(ref st l).toNat]? = some q := hq
    rw [List.getElem?_map, ref_get h1 h0'] at hq'
    simp only [Option.map_some, Option.some.injEq] at hq'
    subst hq'
    show (v : Int) < _
    have ht := h3.2.2.1
    cases l with
    | leaf b => cases b <;> simp [ref] at h0'
    | nd w a b => simp only [top] at ht; show (v : Int) < (w : Int); omega
  · intro q h0 hq
    have h0' : 0 ≤ ref st h := h0
    have hq' : (st.map (row st))[(ref st h).toNat]? = some q := hq
    rw [List.getElem?_map, ref_get h2 h0'] at hq'
    simp only [Option.map_some, Option.some.injEq] at hq'
    subst hq'
    show (v : Int) < _
    have ht := h3.2.2.2.1
    cases h with
    | leaf b => cases b <;> simp [ref] at h0'
    | nd w a b => simp only [top] at ht; show (v : Int) < (w : Int); omega
theorem bld_rows {st : List DT} (f : Seq st) : bld (st.map (row st)) = st := by
  have key : ∀ n, n ≤ st.length → bld ((st.map (row st)).take n) = st.take n := by
    intro n
    induction n with
    | zero => intro _; rfl
    | succ n ih =>
      intro hn
      have hx : st[n]? = some st[n] := List.getElem?_eq_getElem (by omega)
      have hp : (st.map (row st))[n]? = some (row st st[n]) := by rw [List.getElem?_map, hx]; rfl
      rw [bld_take_succ hp, ih (by omega)]
      obtain ⟨y, hy⟩ : ∃ y, y = st[n] := ⟨_, rfl⟩
      rw [← hy] at hx ⊢
      obtain ⟨v, l, h, rfl, _, _, h3⟩ := f.1.parts y (List.mem_of_getElem? hx)
      obtain ⟨i1, i2⟩ := f.2 n v l h hx
      have hpre : st.take n <+: st := List.take_prefix _ _
      unfold bldStep
      simp only [row]
      rw [ref_mono i1 hpre, ref_mono i2 hpre, atR_ref i1, atR_ref i2, Int.toNat_natCast, List.take_add_one, hx, DT.mk, if_neg h3.2.1]
      rfl
  have := key st.length (Nat.le_refl _)
  rwa [List.take_of_length_le (by simp), List.take_length] at this
def CanonD (l : List NRow) (r : Int) : Prop := ∃ x : DT, x.RO ∧ l = (ser x []).map (row (ser x [])) ∧ r = ref (ser x []) x
theorem CanonD.of {l : List NRow} {r : Int} (h : CanonD l r) : RowsOk l ∧ -2 ≤ r ∧ r < l.length ∧ (atR (bld l) r).RO ∧ l = (ser (atR (bld l) r) []).map (row (ser (atR (bld l) r) [])) ∧ r = ref (ser (atR (bld l) r) []) (atR (bld l) r) := by
  obtain ⟨x, h1, rfl, rfl⟩ := h
  have f := ser_seq x [] h1 Seq.nil
  have hin := ser_in x []
  have e : atR (bld ((ser x []).map (row (ser x [])))) (ref (ser x []) x) = x := by rw [bld_rows f, atR_ref hin]
  rw [e]
  exact ⟨seq_rows f, (ref_lt hin).1, by rw [List.length_map]; exact (ref_lt hin).2, h1, rfl, rfl⟩
theorem CanonD.mk {l : List NRow} {r : Int} (h : RowsOk l) (h1 : l = (ser (atR (bld l) r) []).map (row (ser (atR (bld l) r) []))) (h2 : r = ref (ser (atR (bld l) r) []) (atR (bld l) r)) : CanonD l r :=
  ⟨_, atR_ro h, h1, h2⟩
open Classical in
noncomputable def dFault (l : List NRow) (r : Int) : Int := if 2000 < l.length then 3 else if scan 0 l ≠ 0 then scan 0 l else if CanonD l r then 0 else 2
end Go.AI
end
section
namespace Go.Proofs.Ytanaaabejeeakaa
open Go.AI Go.AI.DT
theorem lt84 : 84 < Try.prog.funcs.size := (Array.getElem?_eq_some_iff.1 Try.func84).1
def Old (H0 H : AHeap) : Prop := H0.size ≤ H.size ∧ ∀ b, b < H0.size → H.get b = H0.get b
theorem Old.refl (H : AHeap) : Old H H := ⟨Nat.le_refl _, fun _ _ => rfl⟩
theorem Old.keep {S : Nat → Prop} {H0 H H' : AHeap} (h : Old H0 H) (k : Keep S H H') (hS : ∀ b, S b → H0.size ≤ b) : Old H0 H' :=
  ⟨Nat.le_trans h.1 k.size, fun b hb => (k.get b (Nat.lt_of_lt_of_le hb h.1) fun e => by have := hS b e; omega).trans (h.2 b hb)⟩
theorem Old.kp {H0 H H' : AHeap} (h : Old H0 H) (k : Kp H H') : Old H0 H' := h.keep k fun _ h => h.elim
theorem Kp.old {H H' : AHeap} (k : Kp H H') : Old H H' := (Old.refl H).kp k
theorem _root_.Go.AI.SlR.old {H0 H : AHeap} {s : AC} {sz : Nat} {rows : List (List AC)} (h : SlR H0 s sz rows) (o : Old H0 H) : SlR H s sz rows := by
  obtain ⟨a, z, cap, e, hr⟩ := h.ex
  refine ⟨a, z, cap, e, fun i r hi => ?_⟩
  obtain ⟨hz, b, o', e1, hld⟩ := hr i r hi
  refine ⟨hz, b, o', e1, ?_⟩
  unfold AHeap.load at hld ⊢
  simp only at hld ⊢
  cases hg : H0.get b with
  | none => rw [hg] at hld; cases hld
  | some x => rw [hg] at hld; rw [o.2 b (AHeap.get_lt hg), hg]; exact hld
theorem add1_c {pb cb : Nat} {cs : List AC} {H : AHeap} {r q : Int} {n : Nat} (hp : Own H pb [.sl (some (cb, 0)) 1 n (some n)]) (hc : Own H cb cs) (hn : cs.length = n) (h : if r < 0 then q = r else cs[r.toNat]? = some (.int .i64 q)) :
    Fn.Z25 r (.ptr (some (pb, 0))) H fun H' v => H' = H ∧ v = q := by
  refine Z25.run ?_
  unfold Z25.W
  refine CondB.dec (fun h0 => ⟨rfl, ?_⟩) fun h0 => ?_
  · rw [if_pos h0] at h; exact h.symm
  · rw [if_neg h0] at h
    have hlt := (List.getElem?_eq_some_iff.1 h).1
    refine Ld.oc hp rfl (IA.mk (by omega) (by omega) (Ld.oi hc ?_ ⟨rfl, rfl⟩))
    rw [Nat.zero_add, Nat.mul_one]; exact h
def Made (ts : List DT) (l : List NRow) (i : Nat) (cs : List AC) : Prop := ∀ j, j < i → ∀ t, (bld l)[j]? = some t → In ts t ∧ cs[j]? = some (.int .i64 (ref ts t))
theorem Made.look {ts : List DT} {l : List NRow} {i : Nat} {cs : List AC} (h : Made ts l i cs) {r : Int} (h2 : -2 ≤ r) (hi : r < i) (hl : i ≤ l.length) : In ts (atR (bld l) r) ∧ if r < 0 then ref ts (atR (bld l) r) = r else cs[r.toNat]? = some (.int .i64 (ref ts (atR (bld l) r))) := by
  unfold atR
  by_cases h1 : r = -1
  · subst h1
    rw [if_pos rfl, if_pos (by omega)]
    exact ⟨.inl ⟨false, rfl⟩, rfl⟩
  rw [if_neg h1]
  by_cases h3 : r = -2
  · subst h3
    rw [if_pos rfl, if_pos (by omega)]
    exact ⟨.inl ⟨true, rfl⟩, rfl⟩
  rw [if_neg h3, if_neg (by omega)]
  have hlt : r.toNat < (bld l).length := by rw [bld_len]; omega
  rw [List.getElem?_eq_getElem hlt, Option.getD_some]
  exact h r.toNat (by omega) _ (List.getElem?_eq_getElem hlt)
theorem Made.mono {ts ts' : List DT} {l : List NRow} {i : Nat} {cs : List AC} (h : Made ts l i cs) (hp : ts <+: ts') : Made ts' l i cs := fun j hj t ht => by
  obtain ⟨h1, h2⟩ := h j hj t ht
  exact ⟨h1.mono hp, by rw [ref_mono h1 hp]; exact h2⟩
theorem add_c {m : AC} {F : Nat → Prop} {ts : List DT} {s : AC} {l : List NRow} {r : Int} {H0 H : AHeap} (hs : SlR H0 s 3 (nodeRows l)) (ho : Old H0 H) (hm : Mgr H m F ts) (hF : ∀ x, F x → H0.size ≤ x)
    (hok : RowsOk l) (hr1 : -2 ≤ r) (hr2 : r < l.length) (hlen : l.length ≤ 2000) (hsz : ts.length + 2001 ≤ 4294967296) :
    Fn.Z24 m s r H fun H' q => ∃ F' ts', After H m F ts 2000 H' F' ts' ∧ In ts' (atR (bld l) r) ∧ q = ref ts' (atR (bld l) r) := by
  refine Z24.run ?_
  unfold Z24.W
  refine New.own fun b1 H1 hb1 hs1 o1 k1 => FA.mk (Ld.oc o1 rfl (LenS.of (hs.old (ho.kp k1)) ?_))
  rw [nodeRows_len]
  refine MkS.own (n := l.length) (by omega) (by omega) fun cb H2 hcb hs2 oc k2 => NewSto.own rfl fun pb H3 hpb hs3 op k3 => Fnc.mk rfl rfl ?_
  have o13 := (o1.kp k2).kp k3
  have oc3 := oc.kp k3
  refine FA.mk (Ld.oc o13 rfl (LenS.of (hs.old (((ho.kp k1).kp k2).kp k3)) ?_))
  rw [nodeRows_len]
  have kk := (k1.trans k2).trans k3
  have hz := ho.1
  unfold Z24.l10
  refine LoopT.rule (fun mm s0 H4 => ∃ (i : Nat) (F4 : Nat → Prop) (ts4 : List DT) (cs : List AC), i ≤ l.length ∧ mm = l.length - i ∧ s0 = (m, .ptr (some (b1, 0)), .ptr (some (pb, 0)), .fn 84 [] [(pb, 0)], s, (l.length : Int), (i : Int), ()) ∧
    After H m F ts i H4 F4 ts4 ∧ Own H4 b1 [s, .int .i64 r] ∧ Own H4 pb [.sl (some (cb, 0)) 1 l.length (some l.length)] ∧ Own H4 cb cs ∧ cs.length = l.length ∧ Made ts4 l i cs ∧ (∀ x, F4 x → F x ∨ H3.size ≤ x) ∧ H3.size ≤ H4.size) l.length
    ⟨0, F, ts, _, by omega, by omega, rfl, ⟨hm.kp kk, List.prefix_rfl, by omega, kk.mono fun _ _ h => h.elim, fun x h => .inl h⟩, o13, op, oc3, by rw [List.length_replicate], fun j hj => by omega, fun x h => .inl h, Nat.le_refl _⟩ ?_
  rintro mm s0 H4 back ⟨i, F4, ts4, cs, hi, rfl, rfl, af, o14, op4, oc4, hcl, hmade, hF4, hz4⟩ hback
  simp only [Z24.b10]
  have hold : Old H0 H4 := ho.keep af.keep hF
  have hs4 := hs.old hold
  refine CondB.dec (fun hlt => ?_) fun hge => ?_
  · have hi' : i < l.length := by omega
    obtain ⟨p, hp⟩ : ∃ b, l[i]? = some b := ⟨_, List.getElem?_eq_getElem hi'⟩
    obtain ⟨hnum, hord⟩ := hok i p hp
    have hnum' := hnum
    unfold NumOk at hnum'
    obtain ⟨n1, n2, n3, n4, n5, n6⟩ := hnum'
    refine IA.of hs4 (by omega) (by rw [Int.toNat_natCast]; exact nodeRow_at hp) fun b o hld => Ld.a3 hld p.1 p.2.1 p.2.2 rfl rfl ?_
    refine NewSto.own rfl fun nb H5 hnb hs5 on k5 => Ld.oc (op4.kp k5) rfl (FA.mk (Ld.oi on rfl (FA.mk (Ld.oi on rfl ?_))))
    have af5 : After H m F ts i H5 F4 ts4 := ⟨af.mgr.kp k5, af.pre, af.len, Keep.trans' af.keep k5, af.fresh⟩
    obtain ⟨in1, e1⟩ := hmade.look n3 n4 hi
    obtain ⟨in2, e2⟩ := hmade.look n5 n6 hi
    refine CVT.imp ?_ (CVT.mk lt84 (add1_c (op4.kp k5) (oc4.kp k5) hcl e1))
    rintro H6 q ⟨he, rfl⟩
    obtain rfl : H5 = H6 := he.symm
    refine FA.mk (Ld.oi on rfl (CVT.imp ?_ (CVT.mk lt84 (add1_c (op4.kp k5) (oc4.kp k5) hcl e2))))
    rintro H6 q ⟨he, rfl⟩
    obtain rfl : H5 = H6 := he.symm
    have hv : ∃ v : Nat, p.1 = (v : Int) ∧ v < 16 ∧ p.1.toNat = v := ⟨p.1.toNat, by omega, by omega, rfl⟩
    obtain ⟨v, hv1, hv2, hv3⟩ := hv
    have top : ∀ r : Int, -2 ≤ r → r < i → (∀ q, 0 ≤ r → l[r.toNat]? = some q → p.1 < q.1) → v < (atR (bld l) r).top := by
      intro r h1 h2 h3
      unfold atR
      split
      · exact hv2
      split
      · exact hv2
      · have hr : r.toNat < l.length := by omega
        obtain ⟨x, e1, _, e3⟩ := bld_ro hok _ r.toNat l[r.toNat] (Nat.lt_succ_self _) (List.getElem?_eq_getElem hr)
        rw [e1]
        have := h3 l[r.toNat] (by omega) (List.getElem?_eq_getElem hr)
        simp only [Option.getD_some]
        omega
    have hl4 := af5.len
    have hz5 := k5.size
    have hzk := kk.size
    rw [hv1]
    refine RunT.imp ?_ (node_c af5.mgr in1 in2 hv2 (top _ n3 n4 hord.1) (top _ n5 n6 hord.2) (by omega))
    rintro H6 q ⟨F6, ts6, af6, hin6, rfl⟩
    have hnF4 : ∀ y, H.size ≤ y → y < H3.size → ¬ F4 y := fun y h1 h2 h => by
      rcases hF4 y h with h | h
      · have := hm.lt y h; omega
      · omega
    have o16 := (o14.kp k5).keep af6.keep (hnF4 _ (by omega) (by omega))
    have op6 := (op4.kp k5).keep af6.keep (hnF4 _ (by omega) (by omega))
    have oc6 := (oc4.kp k5).keep af6.keep (hnF4 _ (by omega) (by omega))
    have hnn : ¬ F4 nb := fun h => by have := af.mgr.lt nb h; omega
    refine IA.mk (by omega) (by omega) ?_
    refine Sto.cell oc6 (by rw [hcl]; omega) fun H7 oc7 k7 hs7 => ?_
    have hle6 := af6.keep.size
    refine ⟨Same1.mk rfl, Same1.mk rfl, Same1.mk ((op6.cell rfl).trans ((op4.kp k5).cell rfl).symm), Same1.mk rfl, Same1.mk rfl, Same2.mk rfl, ?_⟩
    have hF6 : ∀ y, F6 y → F y ∨ H3.size ≤ y := fun y h => by
      rcases af6.fresh y h with h | h
      · exact hF4 y h
      · exact .inr (by omega)
    have hnF6 : ∀ y, y = cb → ¬ F6 y := fun y e h => by
      rcases hF6 y h with h | h
      · have := hm.lt y h; omega
      · omega
    have aft := af5.trans af6
    refine hback (l.length - (i + 1)) _ _ (by omega) ⟨i + 1, F6, ts6, _, by omega, rfl, ?_, ?_, o16.keep k7 (by omega), op6.keep k7 (by omega), oc7, by rw [List.length_set, hcl], ?_, hF6, by omega⟩
    · exact tc rfl (tc rfl (tc rfl (tc rfl (tc rfl (tc rfl (tc ((wrap64 (by omega) (by omega)).trans (by omega)) rfl))))))
    · refine ⟨aft.mgr.keep k7 hnF6, aft.pre, aft.len, ?_, aft.fresh⟩
      exact Keep.trans aft.keep k7 fun x hx e => by have e' : x = cb := e; omega
    · intro j hj t ht
      by_cases hji : j = i
      · subst hji
        rw [bld_at hp hnum, Option.some.injEq] at ht
        subst ht
        rw [hv3]
        refine ⟨hin6, ?_⟩
        simp only [Int.toNat_natCast, Nat.mul_one, Nat.zero_add]
        rw [List.getElem?_set_self (by omega)]
      · obtain ⟨g1, g2⟩ := (hmade.mono af6.pre) j (by omega) t ht
        refine ⟨g1, ?_⟩
        simp only [Int.toNat_natCast, Nat.mul_one, Nat.zero_add]
        rw [List.getElem?_set_ne (by omega)]
        exact g2
  · have : i = l.length := by omega
    subst this
    obtain ⟨in1, e1⟩ := hmade.look hr1 hr2 (Nat.le_refl _)
    refine FA.mk (Ld.oi o14 rfl (CVT.imp ?_ (CVT.mk lt84 (add1_c op4 oc4 hcl e1))))
    rintro H6 q ⟨he, rfl⟩
    obtain rfl : H4 = H6 := he.symm
    exact ⟨F4, ts4, ⟨af.mgr, af.pre, by have := af.len; omega, af.keep, af.fresh⟩, in1, rfl⟩
end Go.Proofs.Ytanaaabejeeakaa
end
section
namespace Go.Proofs.Ytanaaabejeeakaa
open Go.AI Go.AI.DT
theorem Equal_c {s s' : AC} {l l' : List NRow} {H : AHeap} (hs : SlR H s 3 (nodeRows l)) (hs' : SlR H s' 3 (nodeRows l')) (hlen : l'.length < 4611686018427387904) :
    Fn.Z6 s s' H fun H' q => H' = H ∧ q = decide (l = l') := by
  refine Z6.run ?_
  unfold Z6.W
  refine LenS.of hs (LenS.of hs' ?_)
  rw [nodeRows_len, nodeRows_len]
  refine CondB.ne (fun hne => ⟨rfl, ?_⟩) fun he => ?_
  · symm; rw [decide_eq_false_iff_not]; rintro rfl; exact hne rfl
  have hl : l.length = l'.length := by omega
  refine LenS.of hs ?_
  rw [nodeRows_len]
  unfold Z6.l14
  refine LoopT.rule (fun m s0 H3 => ∃ i : Nat, i ≤ l.length ∧ m = l.length - i ∧ s0 = (s, s', (l.length : Int), (i : Int), ()) ∧ H3 = H ∧ ∀ j, j < i → l[j]? = l'[j]?) l.length ⟨0, by omega, by omega, rfl, rfl, fun j h => by omega⟩ ?_
  rintro m s0 H3 back ⟨i, hi, rfl, rfl, rfl, hall⟩ hback
  simp only [Z6.b14]
  refine CondB.dec (fun hlt => ?_) fun hge => ?_
  · have hi' : i < l.length := by omega
    obtain ⟨p, hp⟩ : ∃ b, l[i]? = some b := ⟨_, List.getElem?_eq_getElem hi'⟩
    obtain ⟨p', hp'⟩ : ∃ b, l'[i]? = some b := ⟨_, List.getElem?_eq_getElem (by omega)⟩
    refine IA.of hs (by omega) (by rw [Int.toNat_natCast]; exact nodeRow_at hp) fun b1 o1 hld => Ld.a3 hld p.1 p.2.1 p.2.2 rfl rfl ?_
    refine IA.of hs' (by omega) (by rw [Int.toNat_natCast]; exact nodeRow_at hp') fun b1 o1 hld => Ld.a3 hld p'.1 p'.2.1 p'.2.2 rfl rfl ?_
    refine CondB.mk (fun hc => ⟨by trivial, ?_⟩) fun hc => ?_
    · symm
      rw [decide_eq_false_iff_not]
      rintro rfl
      rw [hp] at hp'
      cases hp'
      simp at hc
    · refine hback (l.length - (i + 1)) _ _ (by omega) ⟨i + 1, by omega, rfl, ?_, rfl, fun j hj => ?_⟩
      · exact tc rfl (tc rfl (tc rfl (tc ((wrap64 (by omega) (by omega)).trans (by omega)) rfl)))
      · by_cases hji : j = i
        · subst hji
          rw [hp, hp']
          have : p = p' := by
            simp only [Bool.not_eq_false', decide_eq_true_eq, List.cons.injEq, and_true] at hc
            exact Prod.ext hc.1 (Prod.ext hc.2.1 hc.2.2)
          rw [this]
        · exact hall j (by omega)
  · refine ⟨by trivial, ?_⟩
    symm
    rw [decide_eq_true_iff]
    apply List.ext_getElem?
    intro j
    by_cases hj : j < i
    · exact hall j hj
    · rw [List.getElem?_eq_none (by omega), List.getElem?_eq_none (by omega)]
theorem dFault_two {l : List NRow} {r : Int} (h1 : l.length ≤ 2000) (h2 : scan 0 l = 0) (h3 : ¬ CanonD l r) : dFault l r = 2 := by
  unfold dFault
  rw [if_neg (by omega), if_neg (by omega), if_neg h3]
theorem dFault_zero {l : List NRow} {r : Int} (h1 : l.length ≤ 2000) (h3 : CanonD l r) : dFault l r = 0 := by
  have h2 : scan 0 l = 0 := scan_ok.2 fun j p hp => by rw [Nat.zero_add]; exact (h3.of.1 j p hp).1
  unfold dFault
  rw [if_neg (by omega), if_neg (by omega), if_pos h3]
theorem dFault_scan {l : List NRow} {r : Int} (h1 : l.length ≤ 2000) {k : Int} (h2 : scan 0 l = k) (hk : k ≠ 0) : dFault l r = k := by
  unfold dFault
  rw [if_neg (by omega), if_pos (by omega), h2]
theorem CheckDiagram_c {s : AC} {l : List NRow} {r : Int} {H : AHeap} (hs : SlR H s 3 (nodeRows l)) :
    Fn.Z15 s r H fun H' q => q = dFault l r ∧ Kp H H' := by
  refine Z15.run ?_
  unfold Z15.W
  refine New.own fun b1 H1 hb1 hs1 o1 k1 => FA.mk (Ld.oc o1 rfl (LenS.of (hs.kp k1) ?_))
  rw [nodeRows_len]
  refine CondB.dec (fun hgt => ⟨?_, k1⟩) fun hle => ?_
  · unfold dFault; rw [if_pos (by omega)]
  have hlen : l.length ≤ 2000 := by omega
  refine FA.mk (Ld.oc o1 rfl (LenS.of (hs.kp k1) ?_))
  rw [nodeRows_len]
  unfold Z15.l14
  refine LoopT.rule (fun m s0 H2 => ∃ i : Nat, i ≤ l.length ∧ m = l.length - i ∧ s0 = (.ptr (some (b1, 0)), s, (l.length : Int), (i : Int), ()) ∧ Kp H H2 ∧ Own H2 b1 [s, .int .i64 r] ∧ scan 0 l = scan i (l.drop i)) l.length
    ⟨0, by omega, by omega, rfl, k1, o1, rfl⟩ ?_
  rintro m s0 H2 back ⟨i, hi, rfl, rfl, k2, o12, hsc⟩ hback
  simp only [Z15.b14]
  refine CondB.dec (fun hlt => ?_) fun hge => ?_
  · have hi' : i < l.length := by omega
    obtain ⟨p, hp⟩ : ∃ b, l[i]? = some b := ⟨_, List.getElem?_eq_getElem hi'⟩
    rw [scan_drop hp] at hsc
    refine IA.of (hs.kp k2) (by omega) (by rw [Int.toNat_natCast]; exact nodeRow_at hp) fun b o hld => Ld.a3 hld p.1 p.2.1 p.2.2 rfl rfl ?_
    refine NewSto.own rfl fun nb H3 hnb hs3 on k3 => FA.mk (Ld.oi on rfl ?_)
    have kk := k2.trans k3
    unfold Z15.p28
    refine CondB.dec (fun h0 => CondB.pos rfl ⟨?_, kk⟩) fun h0 => FA.mk (Ld.oi on rfl (CondB.dec (fun h1 => ⟨?_, kk⟩) fun h1 => ?_))
    · rw [if_pos (.inl h0)] at hsc; exact (dFault_scan hlen hsc (by omega)).symm
    · rw [if_pos (.inr (by omega))] at hsc; exact (dFault_scan hlen hsc (by omega)).symm
    rw [if_neg (by omega)] at hsc
    unfold Z15.p34
    refine FA.mk (Ld.oi on rfl (CondB.dec (fun h2 => CondB.pos rfl ⟨?_, kk⟩) fun h2 => FA.mk (Ld.oi on rfl (CondB.dec (fun h3 => CondB.pos rfl ⟨?_, kk⟩) fun h3 => FA.mk (Ld.oi on rfl (CondB.dec (fun h4 => CondB.pos rfl ⟨?_, kk⟩) fun h4 => FA.mk (Ld.oi on rfl (CondB.dec (fun h5 => ⟨?_, kk⟩) fun h5 => ?_))))))))
    · rw [if_pos (by omega)] at hsc; exact (dFault_scan hlen hsc (by omega)).symm
    · rw [if_pos (by omega)] at hsc; exact (dFault_scan hlen hsc (by omega)).symm
    · rw [if_pos (by omega)] at hsc; exact (dFault_scan hlen hsc (by omega)).symm
    · rw [if_pos (by omega)] at hsc; exact (dFault_scan hlen hsc (by omega)).symm
    rw [if_neg (by omega)] at hsc
    refine hback (l.length - (i + 1)) _ _ (by omega) ⟨i + 1, by omega, rfl, ?_, kk, o12.kp k3, hsc⟩
    exact tc rfl (tc rfl (tc rfl (tc ((wrap64 (by omega) (by omega)).trans (by omega)) rfl)))
  have hsc0 : scan 0 l = 0 := by
    rw [hsc, List.drop_eq_nil_iff.2 (by omega)]; rfl
  have hnum : ∀ j p, l[j]? = some p → NumOk j p := fun j p hp => by have := scan_ok.1 hsc0 j p hp; rwa [Nat.zero_add] at this
  refine FA.mk (Ld.oc o12 rfl (LenS.of (hs.kp k2) ?_))
  rw [nodeRows_len]
  unfold Z15.l44
  refine LoopT.rule (fun m s0 H3 => ∃ i : Nat, i ≤ l.length ∧ m = l.length - i ∧ s0 = (.ptr (some (b1, 0)), s, (l.length : Int), (i : Int), ()) ∧ Kp H H3 ∧ Own H3 b1 [s, .int .i64 r] ∧ ∀ j p, j < i → l[j]? = some p → OrdOk l p) l.length
    ⟨0, by omega, by omega, rfl, k2, o12, fun j p h => by omega⟩ ?_
  clear hback back
  rintro m s0 H3 back ⟨i, hi, rfl, rfl, k3, o13, hord⟩ hback
  simp only [Z15.b44]
  refine CondB.dec (fun hlt => ?_) fun hge => ?_
  · have hi' : i < l.length := by omega
    obtain ⟨p, hp⟩ : ∃ b, l[i]? = some b := ⟨_, List.getElem?_eq_getElem hi'⟩
    have hn := hnum i p hp
    unfold NumOk at hn
    obtain ⟨n1, n2, n3, n4, n5, n6⟩ := hn
    refine IA.of (hs.kp k3) (by omega) (by rw [Int.toNat_natCast]; exact nodeRow_at hp) fun b o hld => Ld.a3 hld p.1 p.2.1 p.2.2 rfl rfl ?_
    refine NewSto.own rfl fun nb H4 hnb hs4 on k4 => FA.mk (Ld.oi on rfl (FA.mk (Ld.oi on rfl (NewS.own fun ab H5 hab hs5 oa k5 => LenS.mk ?_))))
    have kk := (k3.trans k4).trans k5
    have on5 := on.kp k5
    have o15 := (o13.kp k4).kp k5
    unfold Z15.l58
    refine LoopT.rule (fun m s0 H6 => ∃ k : Nat, k ≤ 2 ∧ m = 2 - k ∧ s0 = (.ptr (some (b1, 0)), .ptr (some (nb, 0)), s, (l.length : Int), (i : Int), .sl (some (ab, 0)) 1 2 (some 2), (2 : Int), (k : Int), ()) ∧ H6 = H5 ∧
      (0 < k → ∀ q, 0 ≤ p.2.1 → l[p.2.1.toNat]? = some q → p.1 < q.1) ∧ (1 < k → ∀ q, 0 ≤ p.2.2 → l[p.2.2.toNat]? = some q → p.1 < q.1)) 2 ⟨0, by omega, rfl, rfl, rfl, fun h => by omega, fun h => by omega⟩ ?_
    rintro m s0 H6 back2 ⟨k, hk, rfl, rfl, rfl, hk1, hk2⟩ hback2
    simp only [Z15.b58]
    refine CondB.dec (fun hlt2 => ?_) fun hge2 => ?_
    · have hbad : ∀ c : Int, (c = p.2.1 ∨ c = p.2.2) → ∀ q, 0 ≤ c → l[c.toNat]? = some q → ¬ p.1 < q.1 → dFault l r = 2 := by
        intro c hc q h0 hq hlt
        refine dFault_two hlen hsc0 fun hcan => ?_
        have := (hcan.of.1 i p hp).2
        rcases hc with rfl | rfl
        · exact hlt (this.1 q h0 hq)
        · exact hlt (this.2 q h0 hq)
      have main : ∀ c : Int, (c = p.2.1 ∨ c = p.2.2) → ((∀ q, 0 ≤ c → l[c.toNat]? = some q → p.1 < q.1) → back2 (.ptr (some (b1, 0)), .ptr (some (nb, 0)), s, (l.length : Int), (i : Int), .sl (some (ab, 0)) 1 2 (some 2), (2 : Int), IntKind.wrap .i64 ((k : Int) + 1), ()) H6) →
          CondB (decide (c ≥ 0))
            (FA 0 (.ptr (some (b1, 0))) fun q_3 =>
            Ld [.ac] H6 q_3 fun (v_4 : AC) =>
            IA 3 v_4 c fun q_5 =>
            FA 0 q_5 fun q_6 =>
            Ld [.int .i64] H6 q_6 fun (v_7 : Int) =>
            FA 0 (.ptr (some (nb, 0))) fun q_8 =>
            Ld [.int .i64] H6 q_8 fun (v_9 : Int) =>
            Z15.p71 (fun H' q => q = dFault l r ∧ Kp H H') back back2 (.ptr (some (b1, 0))) (.ptr (some (nb, 0))) s (l.length : Int) (i : Int) (.sl (some (ab, 0)) 1 2 (some 2)) (2 : Int) (k : Int) (decide (v_7 ≤ v_9)) H6)
            (Z15.p71 (fun H' q => q = dFault l r ∧ Kp H H') back back2 (.ptr (some (b1, 0))) (.ptr (some (nb, 0))) s (l.length : Int) (i : Int) (.sl (some (ab, 0)) 1 2 (some 2)) (2 : Int) (k : Int) false H6) := by
        intro c hc hgo
        unfold Z15.p71
        refine CondB.dec (fun h0 => ?_) fun h0 => CondB.neg rfl (hgo fun q h1 => by omega)
        have hclt : c.toNat < l.length := by rcases hc with rfl | rfl <;> omega
        obtain ⟨q, hq⟩ : ∃ b, l[c.toNat]? = some b := ⟨_, List.getElem?_eq_getElem hclt⟩
        refine FA.mk (Ld.oc o15 rfl (IA.of (hs.kp kk) h0 (nodeRow_at hq) fun b o hld => FA.mk (Ld.ei hld rfl (FA.mk (Ld.oi on5 rfl ?_)))))
        refine CondB.dec (fun h1 => ⟨(hbad c hc q h0 hq (by omega)).symm, kk⟩) fun h1 => hgo fun q' _ hq' => ?_
        rw [hq] at hq'
        cases hq'
        omega
      refine IA.mk (by omega) (by omega) ?_
      have hk' : k = 0 ∨ k = 1 := by omega
      rcases hk' with rfl | rfl
      · refine Ld.oi oa rfl (main p.2.1 (.inl rfl) fun hq => ?_)
        exact hback2 1 _ _ (by omega) ⟨1, by omega, rfl, by trivial, rfl, fun _ => hq, fun h => by omega⟩
      · refine Ld.oi oa rfl (main p.2.2 (.inr rfl) fun hq => ?_)
        exact hback2 0 _ _ (by omega) ⟨2, by omega, rfl, by trivial, rfl, fun _ => hk1 (by omega), fun _ => hq⟩
    · refine hback (l.length - (i + 1)) _ _ (by omega) ⟨i + 1, by omega, rfl, ?_, kk, o15, fun j q hj hq => ?_⟩
      · exact tc rfl (tc rfl (tc rfl (tc ((wrap64 (by omega) (by omega)).trans (by omega)) rfl)))
      · by_cases hji : j = i
        · subst hji
          rw [hp] at hq
          cases hq
          exact ⟨hk1 (by omega), hk2 (by omega)⟩
        · exact hord j q (by omega) hq
  have hok : RowsOk l := fun j p hp => ⟨hnum j p hp, hord j p (by have := (List.getElem?_eq_some_iff.1 hp).1; omega) hp⟩
  unfold Z15.p81
  refine FA.mk (Ld.oi o13 rfl (CondB.dec (fun h1 => CondB.pos rfl ⟨?_, k3⟩) fun h1 => FA.mk (Ld.oi o13 rfl (FA.mk (Ld.oc o13 rfl (LenS.of (hs.kp k3) ?_))))))
  · exact (dFault_two hlen hsc0 fun hc => by have := hc.of.2.1; omega).symm
  rw [nodeRows_len]
  refine CondB.dec (fun h2 => ⟨?_, k3⟩) fun h2 => ?_
  · exact (dFault_two hlen hsc0 fun hc => by have := hc.of.2.2.1; omega).symm
  refine RunT.imp ?_ newManager_c
  rintro H4 m ⟨⟨F, hm, hF⟩, k4⟩
  have kk4 := k3.trans k4
  have hz3 := k3.size
  refine Ld.o2 (o13.kp k4) s r rfl (RunT.imp ?_ (add_c hs (Kp.old kk4) hm (fun x h => by have := hF x h; omega) hok (by omega) (by omega) hlen (by simp)))
  rintro H5 q ⟨F5, ts5, af, hin, rfl⟩
  have kk5 : Kp H H5 := kk4.fresh af.keep fun x h => by have := hF x h; omega
  have hl5 := af.len
  have o15 : Own H5 b1 [s, .int .i64 r] := (o13.kp k4).keep af.keep fun h => by have := hF _ h; have := o13.lt; omega
  refine RunT.imp ?_ (diagram_c af.mgr hin (by simp at hl5; omega))
  rintro H6 ns root ⟨⟨Fo, hsl, hFo⟩, rfl, k6⟩
  refine NewSto.own rfl fun nb H7 hnb hs7 on k7 => ?_
  have kk7 := (kk5.trans k6).trans k7
  have o17 := (o15.kp k6).kp k7
  refine FA.mk (Ld.oi on rfl (FA.mk (Ld.oi o17 rfl ?_)))
  unfold Z15.p93
  refine CondB.ne (fun hne => CondB.pos rfl ⟨?_, kk7⟩) fun he => ?_
  · exact (dFault_two hlen hsc0 fun hc => hne hc.of.2.2.2.2.2.symm).symm
  refine FA.mk (Ld.oc on rfl (FA.mk (Ld.oc o17 rfl (RunT.imp ?_ (Equal_c (hsl.kp k7).slr (hs.kp kk7) ?_)))))
  · rintro H8 q ⟨he', rfl⟩
    obtain rfl : H7 = H8 := he'.symm
    refine CondB.mk (fun hc => ⟨?_, kk7⟩) fun hc => ⟨?_, kk7⟩
    · exact (dFault_two hlen hsc0 fun hcan => by
        have := hcan.of.2.2.2.2.1
        rw [← this] at hc
        simp at hc).symm
    · have e : (ser (atR (bld l) r) []).map (row (ser (atR (bld l) r) [])) = l := by simpa using hc
      exact (dFault_zero hlen (CanonD.mk hok e.symm he.symm)).symm
  · omega
end Go.Proofs.Ytanaaabejeeakaa
end
section
namespace Go.AI
open DT
def cnt (n : Nat) : Nat → DT → Nat
  | _, leaf false => 0
  | v, leaf true => 2 ^ (n - v)
  | v, nd w l h => (cnt n (w + 1) l + cnt n (w + 1) h) * 2 ^ (w - v)
def VarsLt (n : Nat) : DT → Prop
  | leaf _ => True
  | nd w l h => w < n ∧ VarsLt n l ∧ VarsLt n h
theorem cnt_le (n : Nat) : ∀ (x : DT) (v : Nat), x.RO → VarsLt n x → v ≤ n → v ≤ x.top → cnt n v x ≤ 2 ^ (n - v)
  | leaf false, v, _, _, _, _ => Nat.zero_le _
  | leaf true, v, _, _, _, _ => Nat.le_refl _
  | nd w l h, v, hr, hv, h1, h2 => by
    obtain ⟨_, _, t1, t2, r1, r2⟩ := hr
    obtain ⟨u0, u1, u2⟩ := hv
    simp only [top] at h2
    have e1 := cnt_le n l (w + 1) r1 u1 (by omega) (by omega)
    have e2 := cnt_le n h (w + 1) r2 u2 (by omega) (by omega)
    simp only [cnt]
    have e3 : 2 ^ (n - v) = 2 ^ (n - (w + 1)) * 2 * 2 ^ (w - v) := by
      rw [← Nat.pow_succ, ← Nat.pow_add]
      congr 1
      omega
    rw [e3]
    exact Nat.mul_le_mul_right _ (by omega)
theorem cnt_top (n v w : Nat) (l h : DT) : cnt n v (nd w l h) = cnt n w (nd w l h) * 2 ^ (w - v) := by
  simp only [cnt, Nat.sub_self, Nat.pow_zero, Nat.mul_one]
theorem varsLt_mem {n : Nat} : ∀ (x : DT) (st : List DT), VarsLt n x → ∀ y ∈ ser x st, y ∈ st ∨ VarsLt n y
  | leaf _, st, _, y, hy => .inl hy
  | nd v l h, st, hv, y, hy => by
    simp only [ser] at hy
    split at hy
    · exact .inl hy
    · rcases List.mem_append.1 hy with hy | hy
      · rcases varsLt_mem h _ hv.2.2 y hy with hy | hy
        · exact varsLt_mem l _ hv.2.1 y hy
        · exact .inr hy
      · simp at hy; subst hy; exact .inr hv
end Go.AI
end
section
namespace Go.Proofs.Ytanaaabejeeakaa
open Go.AI Go.AI.DT
theorem lt86 : 86 < Try.prog.funcs.size := (Array.getElem?_eq_some_iff.1 Try.func86).1
theorem lt58 : 58 < Try.prog.funcs.size := (Array.getElem?_eq_some_iff.1 Try.func58).1
theorem IndexFunc_c {s fn : AC} {l : List NRow} {H : AHeap} {f : NRow → Bool} (hs : SlR H s 3 (nodeRows l)) (hlen : l.length < 4611686018427387904)
    (hf : ∀ (p : NRow) (H2 : AHeap), Kp H H2 → CVT Try.prog [(false, [.bool])] fn [(.agg [(.int .i64 p.1), (.int .i64 p.2.1), (.int .i64 p.2.2)])] H2 fun H3 b => Kp H2 H3 ∧ b = f p) :
    Fn.Z7 s fn H fun H' q => Kp H H' ∧ (0 ≤ q ↔ ∃ p ∈ l, f p = true) := by
  refine Z7.run ?_
  unfold Z7.W Z7.l6
  refine LenS.of hs ?_
  rw [nodeRows_len]
  refine LoopT.rule (fun m s0 H3 => ∃ i : Nat, i ≤ l.length ∧ m = l.length - i ∧ s0 = (s, fn, (l.length : Int), (i : Int), ()) ∧ Kp H H3 ∧ ∀ j p, j < i → l[j]? = some p → f p = false) l.length ⟨0, by omega, by omega, rfl, Kp.refl _, fun j p h => by omega⟩ ?_
  rintro m s0 H3 back ⟨i, hi, rfl, rfl, k3, hall⟩ hback
  simp only [Z7.b6]
  refine CondB.dec (fun hlt => ?_) fun hge => ?_
  · have hi' : i < l.length := by omega
    obtain ⟨p, hp⟩ : ∃ b, l[i]? = some b := ⟨_, List.getElem?_eq_getElem hi'⟩
    refine IA.of (hs.kp k3) (by omega) (by rw [Int.toNat_natCast]; exact nodeRow_at hp) fun b1 o1 hld => Ld.a3 hld p.1 p.2.1 p.2.2 rfl rfl ?_
    refine CVT.imp ?_ (hf p H3 k3)
    rintro H4 b ⟨k4, rfl⟩
    refine CondB.mk (fun hc => ⟨k3.trans k4, ?_⟩) fun hc => ?_
    · exact ⟨fun _ => ⟨p, List.mem_of_getElem? hp, hc⟩, fun _ => by show (0 : Int) ≤ (i : Int); omega⟩
    · refine hback (l.length - (i + 1)) _ _ (by omega) ⟨i + 1, by omega, rfl, ?_, k3.trans k4, fun j q hj hq => ?_⟩
      · exact tc rfl (tc rfl (tc rfl (tc ((wrap64 (by omega) (by omega)).trans (by omega)) rfl)))
      · by_cases hji : j = i
        · subst hji
          rw [hp] at hq
          cases hq
          exact hc
        · exact hall j q (by omega) hq
  · refine ⟨k3, fun h => by exfalso; have h' : (0 : Int) ≤ -1 := h; omega, fun ⟨p, hp, he⟩ => ?_⟩
    obtain ⟨j, hj, e⟩ := List.getElem_of_mem hp
    have := hall j p (by omega) (by rw [List.getElem?_eq_getElem hj, e])
    rw [this] at he; cases he
open Classical in
noncomputable def vFault (l : List NRow) (r n : Int) : Int := if dFault l r ≠ 0 then dFault l r else if n < 0 ∨ 16 < n ∨ ∃ p ∈ l, n ≤ p.1 then 1 else 0
theorem dFault_len {l : List NRow} {r : Int} (h : dFault l r = 0) : l.length ≤ 2000 ∧ CanonD l r := by
  unfold dFault at h
  split at h
  · cases h
  split at h
  · next h1 => exact absurd h h1
  split at h
  · next h1 => exact ⟨by omega, h1⟩
  · cases h
theorem varsFault_c {s : AC} {l : List NRow} {r n : Int} {H : AHeap} (hs : SlR H s 3 (nodeRows l)) :
    Fn.Z42 s r n H fun H' q => q = vFault l r n ∧ Kp H H' := by
  refine Z42.run ?_
  unfold Z42.W
  refine New.own fun b1 H1 hb1 hs1 o1 k1 => New.own fun b3 H3 hb3 hs3 o3 k3 => Ld.o2 (o1.kp k3) s r rfl ?_
  have kk := k1.trans k3
  refine RunT.imp ?_ (CheckDiagram_c (hs.kp kk))
  rintro H4 q ⟨rfl, k4⟩
  have kk4 := kk.trans k4
  have o34 := o3.kp k4
  refine CondB.mk (fun hne => ⟨?_, kk4⟩) fun he => ?_
  · unfold vFault; rw [if_pos (by simpa using hne)]
  have h0 : dFault l r = 0 := by simpa using he
  have hv : vFault l r n = if n < 0 ∨ 16 < n ∨ ∃ p ∈ l, n ≤ p.1 then 1 else 0 := by unfold vFault; rw [if_neg (by omega)]
  rw [hv]
  unfold Z42.p15
  refine Ld.oi o34 rfl (CondB.dec (fun h1 => CondB.pos rfl ⟨?_, kk4⟩) fun h1 => Ld.oi o34 rfl (CondB.dec (fun h2 => CondB.pos rfl ⟨?_, kk4⟩) fun h2 => ?_))
  · rw [if_pos (.inl h1)]
  · rw [if_pos (.inr (.inl (by omega)))]
  refine FA.mk (Ld.oc ((o1.kp k3).kp k4) rfl (Fnc.mk rfl rfl ?_))
  refine Z4.run ?_
  unfold Z4.W
  refine RunT.imp ?_ (IndexFunc_c (f := fun p => decide (p.1 ≥ n)) (hs.kp kk4) (by have := (dFault_len h0).1; omega) fun p H2 k2 => CVT.mk lt86 ?_)
  · rintro H5 (q : Int) ⟨k5, hq⟩
    refine CondB.mk (fun h3 => ⟨?_, kk4.trans k5⟩) fun h3 => ⟨?_, kk4.trans k5⟩
    · obtain ⟨p, hp, he⟩ := hq.1 (@of_decide_eq_true _ _ h3)
      rw [if_pos (.inr (.inr ⟨p, hp, by simpa using he⟩))]
    · rw [if_neg]
      rintro (h | h | ⟨p, hp, he⟩)
      · exact h1 h
      · omega
      · exact @of_decide_eq_false _ _ h3 (hq.2 ⟨p, hp, by simpa using he⟩)
  · refine Z43.run ?_
    unfold Z43.W
    refine New.own fun nb H6 hnb hs6 on k6 => FA.mk (Ld.oi on rfl (Ld.oi ((o34.kp k2).kp k6) rfl ⟨k6, rfl⟩))
theorem pow2_lt {k : Nat} (h : k ≤ 16) : 2 ^ k ≤ 65536 := Nat.pow_le_pow_right (n := 2) (by omega) h
theorem Count1_c {st : List DT} {t : DT} {v n i b1 b3 pb cb : Nat} {s : AC} {r : Int} {cs : List AC} {H : AHeap} (ht : In st t) (hro : t.RO) (hvl : VarsLt n t) (hn : n ≤ 16) (hv : v ≤ n) (hvt : v ≤ t.top)
    (o3 : Own H b3 [.int .i64 (n : Int)]) (op : Own H pb [.sl (some (cb, 0)) 1 st.length (some st.length)]) (oc : Own H cb cs) (hcl : cs.length = st.length) (o1 : Own H b1 [s, .int .i64 r]) (hs : SlR H s 3 (nodeRows (st.map (row st))))
    (hmade : ∀ j t', j < i → st[j]? = some t' → cs[j]? = some (.int .i64 (cnt n t'.top t' : Int))) (hti : ref st t < i) :
    Fn.Z17 (ref st t) (v : Int) (.ptr (some (b3, 0))) (.ptr (some (pb, 0))) (.ptr (some (b1, 0))) H fun H' q => H' = H ∧ q = (cnt n v t : Int) := by
  refine Z17.run ?_
  unfold Z17.W
  have hle := cnt_le n t v hro hvl hv hvt
  have hp16 : 2 ^ (n - v) ≤ 65536 := pow2_lt (by omega)
  cases t with
  | leaf b =>
    cases b with
    | false => exact CondB.pos rfl ⟨rfl, rfl⟩
    | true =>
      refine CondB.neg rfl (CondB.pos rfl (Ld.oi o3 rfl ?_))
      have e : IntKind.wrap .i64 ((n : Int) - (v : Int)) = ((n - v : Nat) : Int) := (wrap64 (by omega) (by omega)).trans (by omega)
      rw [e]
      refine ⟨by omega, rfl, ?_⟩
      have := shl_nat (x := 1) (v := n - v) (by omega) (by rw [Nat.shiftLeft_eq, Nat.one_mul]; omega)
      rw [Nat.shiftLeft_eq, Nat.one_mul] at this
      exact this
  | nd w l h =>
    have h0 : 0 ≤ ref st (nd w l h) := by rw [ref_ge]; omega
    refine CondB.neg ?_ (CondB.neg ?_ (Ld.oc op rfl ?_))
    · simp only [beq_eq_false_iff_ne, ne_eq]; omega
    · simp only [beq_eq_false_iff_ne, ne_eq]; omega
    have hg := ref_get ht h0
    have hlt := (List.getElem?_eq_some_iff.1 hg).1
    have hc := hmade _ _ (by omega) hg
    refine IA.mk h0 (by omega) (Ld.oi oc (by rw [Nat.zero_add, Nat.mul_one]; exact hc) ?_)
    refine FA.mk (Ld.oc o1 rfl (IA.of hs h0 (nodeRow_at (by rw [List.getElem?_map, hg]; rfl)) fun b o hld => FA.mk (Ld.ei hld rfl ?_)))
    simp only [top] at hvt
    have hw := hvl.1
    have e : IntKind.wrap .i64 ((w : Int) - (v : Int)) = ((w - v : Nat) : Int) := (wrap64 (by omega) (by omega)).trans (by omega)
    refine GE0.mk ?_ ⟨by trivial, ?_⟩
    · show 0 ≤ IntKind.wrap .i64 ((w : Int) - (v : Int))
      rw [e]; omega
    · show shl .i64 (cnt n w (nd w l h) : Int) (IntKind.wrap .i64 ((w : Int) - (v : Int))) = _
      rw [cnt_top] at hle
      have := shl_nat (x := cnt n w (nd w l h)) (v := w - v) (by omega) (by rw [Nat.shiftLeft_eq]; omega)
      rw [Nat.shiftLeft_eq] at this
      rw [e, cnt_top n v]
      exact this
theorem Count_c {s : AC} {x : DT} {n : Nat} {H : AHeap} (hx : x.RO) (hs : SlR H s 3 (nodeRows ((ser x []).map (row (ser x []))))) (hlen : (ser x []).length ≤ 2000) (hn : n ≤ 16) (hvl : VarsLt n x) :
    Fn.Z16 s (ref (ser x []) x) (n : Int) H fun H' q e => q = (cnt n 0 x : Int) ∧ e = 0 ∧ Kp H H' := by
  refine Z16.run ?_
  unfold Z16.W
  obtain ⟨st, hst⟩ : ∃ st, st = ser x [] := ⟨_, rfl⟩
  have hseq : Seq st := by rw [hst]; exact ser_seq x [] hx Seq.nil
  have hinx : In st x := by rw [hst]; exact ser_in x []
  have hvars : ∀ y ∈ st, VarsLt n y := by
    intro y hy
    rw [hst] at hy
    rcases varsLt_mem x [] hvl y hy with h | h
    · cases h
    · exact h
  have hcan : vFault (st.map (row st)) (ref st x) n = 0 := by
    have : dFault (st.map (row st)) (ref st x) = 0 := dFault_zero (by rw [List.length_map, hst]; exact hlen) ⟨x, hx, by rw [hst], by rw [hst]⟩
    unfold vFault
    rw [if_neg (by omega), if_neg]
    rintro (h | h | ⟨p, hp, h⟩)
    · omega
    · omega
    · obtain ⟨y, hy, rfl⟩ := List.mem_map.1 hp
      obtain ⟨v, a, b, rfl, _⟩ := hseq.1.parts y hy
      have := (hvars _ hy).1
      simp only [row] at h
      omega
  rw [← hst] at hs hlen ⊢
  refine New.own fun b1 H1 hb1 hs1 o1 k1 => New.own fun b3 H3 hb3 hs3 o3 k3 => Ld.o2 (o1.kp k3) s (ref st x) rfl (Ld.oi o3 rfl ?_)
  have kk := k1.trans k3
  refine RunT.imp ?_ (varsFault_c (hs.kp kk))
  rintro H4 q ⟨rfl, k4⟩
  have kk4 := kk.trans k4
  rw [hcan]
  refine CondB.neg rfl (FA.mk (Ld.oc ((o1.kp k3).kp k4) rfl (LenS.of (hs.kp kk4) ?_)))
  rw [nodeRows_len, List.length_map]
  refine MkS.own (n := st.length) (by omega) (by omega) fun cb H5 hcb hs5 oc k5 => NewSto.own rfl fun pb H6 hpb hs6 op k6 => Fnc.mk rfl rfl ?_
  have kk6 := (kk4.trans k5).trans k6
  have o16 := (((o1.kp k3).kp k4).kp k5).kp k6
  have o36 := ((o3.kp k4).kp k5).kp k6
  refine FA.mk (Ld.oc o16 rfl (LenS.of (hs.kp kk6) ?_))
  rw [nodeRows_len, List.length_map]
  have hz4 := kk4.size
  have hb14 := ((o1.kp k3).kp k4).lt
  have hb34 := (o3.kp k4).lt
  unfold Z16.l20
  refine LoopT.rule (fun mm s0 H7 => ∃ (i : Nat) (cs : List AC), i ≤ st.length ∧ mm = st.length - i ∧ s0 = (.ptr (some (b1, 0)), .ptr (some (pb, 0)), .fn 58 [] [(b3, 0), (pb, 0), (b1, 0)], s, (st.length : Int), (i : Int), ()) ∧
    Kp H H7 ∧ Own H7 b1 [s, .int .i64 (ref st x)] ∧ Own H7 b3 [.int .i64 (n : Int)] ∧ Own H7 pb [.sl (some (cb, 0)) 1 st.length (some st.length)] ∧ Own H7 cb cs ∧ cs.length = st.length ∧
    ∀ j t', j < i → st[j]? = some t' → cs[j]? = some (.int .i64 (cnt n t'.top t' : Int))) st.length
    ⟨0, _, by omega, by omega, rfl, kk6, o16, o36, op, oc.kp k6, by rw [List.length_replicate], fun j t h => by omega⟩ ?_
  rintro mm s0 H7 back ⟨i, cs, hi, rfl, rfl, k7, o17, o37, op7, oc7, hcl, hmade⟩ hback
  simp only [Z16.b20]
  refine CondB.dec (fun hlt => ?_) fun hge => ?_
  · have hi' : i < st.length := by omega
    obtain ⟨t, ht⟩ : ∃ b, st[i]? = some b := ⟨_, List.getElem?_eq_getElem hi'⟩
    have htm := List.mem_of_getElem? ht
    obtain ⟨v, l, h, rfl, h1, h2, h3⟩ := hseq.1.parts t htm
    obtain ⟨i1, i2⟩ := hseq.2 i v l h ht
    obtain ⟨_, r1⟩ := in_take i i1
    obtain ⟨_, r2⟩ := in_take i i2
    have hvv := hvars _ htm
    refine IA.of (hs.kp k7) (by omega) (by rw [Int.toNat_natCast]; exact nodeRow_at (p := row st (nd v l h)) (by rw [List.getElem?_map, ht]; rfl)) fun b o hld => Ld.a3 hld (v : Int) (ref st l) (ref st h) rfl rfl ?_
    refine NewSto.own rfl fun nb H8 hnb hs8 on k8 => Ld.oc (op7.kp k8) rfl (FA.mk (Ld.oi on rfl (FA.mk (Ld.oi on rfl ?_))))
    have hv16 := hvv.1
    have ev : IntKind.wrap .i64 ((v : Int) + 1) = ((v + 1 : Nat) : Int) := (wrap64 (by omega) (by omega)).trans (by omega)
    rw [ev]
    have k78 := k7.trans k8
    have tl := h3.2.2.1
    have th := h3.2.2.2.1
    refine CVT.imp ?_ (CVT.mk lt58 (Count1_c h1 h3.2.2.2.2.1 hvv.2.1 hn (by omega) (by omega) (o37.kp k8) (op7.kp k8) (oc7.kp k8) hcl (o17.kp k8) (hs.kp k78) hmade r1))
    rintro H9 q ⟨he, rfl⟩
    obtain rfl : H8 = H9 := he.symm
    refine FA.mk (Ld.oi on rfl (FA.mk (Ld.oi on rfl ?_)))
    rw [ev]
    refine CVT.imp ?_ (CVT.mk lt58 (Count1_c h2 h3.2.2.2.2.2 hvv.2.2 hn (by omega) (by omega) (o37.kp k8) (op7.kp k8) (oc7.kp k8) hcl (o17.kp k8) (hs.kp k78) hmade r2))
    rintro H9 q ⟨he, rfl⟩
    obtain rfl : H8 = H9 := he.symm
    refine IA.mk (by omega) (by omega) ?_
    refine Sto.cell (oc7.kp k8) (by rw [hcl]; omega) fun H10 oc10 k10 hs10 => ?_
    refine ⟨Same1.mk rfl, Same1.mk rfl, Same2.mk rfl, Same2.mk rfl, ?_⟩
    refine hback (st.length - (i + 1)) _ _ (by omega) ⟨i + 1, _, by omega, rfl, ?_, k78.fresh k10 fun y e => ?_, (o17.kp k8).keep k10 (by omega), (o37.kp k8).keep k10 (by omega), (op7.kp k8).keep k10 (by omega), oc10, by rw [List.length_set, hcl], fun j t' hj ht' => ?_⟩
    · exact tc rfl (tc rfl (tc rfl (tc rfl (tc rfl (tc ((wrap64 (by omega) (by omega)).trans (by omega)) rfl)))))
    · have e' : y = cb := e; omega
    · simp only [Int.toNat_natCast, Nat.mul_one, Nat.zero_add]
      by_cases hji : j = i
      · subst hji
        rw [ht] at ht'
        cases ht'
        rw [List.getElem?_set_self (by omega)]
        have c1 := cnt_le n l (v + 1) h3.2.2.2.2.1 hvv.2.1 (by omega) (by omega)
        have c2 := cnt_le n h (v + 1) h3.2.2.2.2.2 hvv.2.2 (by omega) (by omega)
        have c3 : 2 ^ (n - (v + 1)) ≤ 65536 := pow2_lt (by omega)
        have e : IntKind.wrap .i64 ((cnt n (v + 1) l : Int) + (cnt n (v + 1) h : Int)) = (cnt n v (nd v l h) : Int) := by
          refine (wrap64 (by omega) (by omega)).trans ?_
          simp only [cnt, Nat.sub_self, Nat.pow_zero, Nat.mul_one]
          omega
        rw [e]
        rfl
      · rw [List.getElem?_set_ne (by omega)]
        exact hmade j t' (by omega) ht'
  · have hil : i = st.length := by omega
    have hmade' := hmade
    refine FA.mk (Ld.oi o17 rfl ?_)
    refine CVT.imp ?_ (CVT.mk lt58 (Count1_c (v := 0) hinx hx hvl hn (by omega) (by omega) o37 op7 oc7 hcl o17 (hs.kp k7) hmade (by have := (ref_lt hinx).2; omega)))
    rintro H9 q ⟨he, rfl⟩
    obtain rfl : H7 = H9 := he.symm
    exact ⟨by trivial, by trivial, k7⟩
end Go.Proofs.Ytanaaabejeeakaa
end
section
namespace Go.Proofs.Ytanaaabejeeakaa
open Go.AI Go.AI.DT
abbrev rowsOf (x : DT) : List NRow := (ser x []).map (row (ser x []))
def smallF : Fm := .mk 4 0 [.mk 1 0 [], .mk 1 2 []]
def smallT : DT := nd 0 (leaf false) (nd 2 (leaf false) (leaf true))
theorem smallT_ro : smallT.RO := ⟨by omega, by simp, by simp [top], by simp [top], trivial, by omega, by simp, by simp [top], by simp [top], trivial, trivial⟩
theorem small_eval (ρ : Nat → Bool) : smallT.eval ρ = smallF.val ρ := by
  simp only [smallT, smallF, eval, Fm.val, Fm.vals]
  cases h0 : ρ 0 <;> cases h2 : ρ 2 <;> simp [h0, h2]
theorem small_fault : boolFaultOf smallF = 0 := by
  simp [boolFaultOf, smallF, Fm.size, Fm.sizes, Fm.fault, Fm.faults, Fm.want, Fm.most]
theorem small_rows : rowsOf smallT = [(2, -1, -2), (0, -1, 0)] ∧ ref (ser smallT []) smallT = 1 ∧ cnt 3 0 smallT = 2 := by
  refine ⟨?_, ?_, ?_⟩ <;> decide
theorem BRes.tree {H0 H : AHeap} {f : Fm} {ns : AC} {root err : Int} {t : DT} (h : BRes H0 H f ns root err) (h0 : boolFaultOf f = 0) (hr : t.RO) (he : ∀ ρ, t.eval ρ = f.val ρ) : DRes H t ns root err := by
  rcases h with ⟨h1, _⟩ | ⟨_, x, hx, hev, hd⟩
  · exact absurd h0 h1
  · have : x = t := canon' hx hr fun ρ => (hev ρ).trans (he ρ).symm
    subst this
    exact hd.res
theorem built_c {H : AHeap} : Fn.Z1 H fun H' q => q = true ∧ Kp H H' := by
  refine Z1.run ?_
  unfold Z1.W
  refine NewSto.own rfl fun b1 H1 hb1 hs1 o1 k1 => NewSto.own rfl fun b2 H2 hb2 hs2 o2 k2 => ?_
  refine Ld.o3 (o1.kp k2) (1 : Int) (0 : Int) (.sl none 0 0 (some 0)) rfl (Ld.o3 o2 (1 : Int) (2 : Int) (.sl none 0 0 (some 0)) rfl ?_)
  refine NewS.own fun b3 H3 hb3 hs3 o3 k3 => ?_
  have kk := (k1.trans k2).trans k3
  have hf : FmB H3.size H3 4 0 (.sl (some (b3, 0)) 3 2 (some 2)) smallF := by
    have leafF : ∀ v : Int, FmB H3.size H3 1 v (.sl none 0 0 (some 0)) (.mk 1 v []) := fun v =>
      .mk [] rfl (SlR.nil _ _) (fun b o z m cap e => by cases e) fun i r k h => by simp at h
    refine .mk [(1, 0, .sl none 0 0 (some 0)), (1, 2, .sl none 0 0 (some 0))] rfl ?_ (fun b o z m cap e => ?_) ?_
    · refine ⟨some (b3, 0), 3, some 2, rfl, fun i r hr => ⟨rfl, b3, 0, rfl, ?_⟩⟩
      match i with
      | 0 => simp at hr; subst hr; exact o3.load (o := 0) (n := 3) (by simp)
      | 1 => simp at hr; subst hr; exact o3.load (o := 3) (n := 3) (by simp)
      | i + 2 => simp at hr
    · cases e; have := o3.lt; omega
    · intro i r k hr hk
      match i with
      | 0 => simp at hr hk; subst hr hk; exact leafF 0
      | 1 => simp at hr hk; subst hr hk; exact leafF 2
      | i + 2 => simp at hr
  refine RunT.imp ?_ (Build_c (f := smallF) (by simp [smallF, Fm.size, Fm.sizes]) hf)
  rintro H4 ns root err ⟨hres, k4⟩
  have hd := hres.tree small_fault smallT_ro small_eval
  obtain ⟨r1, r2, r3⟩ := small_rows
  have hl : (ser smallT []).length = 2 := by decide
  rcases hd with ⟨hbig, _⟩ | ⟨_, rfl, rfl, hsl⟩
  · omega
  have hsl' : SlR H4 ns 3 (nodeRows [(2, -1, -2), (0, -1, 0)]) := by rw [← r1]; exact hsl
  refine NewSto.own rfl fun b5 H5 hb5 hs5 o5 k5 => CondB.neg rfl (FA.mk (Ld.oi o5 rfl ?_))
  have kk5 := (kk.trans k4).trans k5
  refine CondB.neg (by rw [r2]; rfl) (FA.mk (Ld.oc o5 rfl (LenS.of (hsl'.kp k5) ?_)))
  unfold Z1.p11
  refine CondB.neg rfl (Ld.o2 o5 ns (ref (ser smallT []) smallT) rfl ?_)
  refine RunT.imp ?_ (Count_c (n := 3) smallT_ro (hsl.kp k5) (by omega) (by omega) ⟨by omega, trivial, by omega, trivial, trivial⟩)
  rintro H6 q e ⟨rfl, rfl, k6⟩
  rw [r3]
  have hsl6 := (hsl'.kp k5).kp k6
  refine FA.mk (Ld.oc (o5.kp k6) rfl (IA.of hsl6 (by omega) (r := nodeCells (2, -1, -2)) rfl fun b o hld => Ld.a3 hld (2 : Int) (-1 : Int) (-2 : Int) rfl rfl (CondB.pos rfl ?_)))
  refine FA.mk (Ld.oc (o5.kp k6) rfl (IA.of hsl6 (by omega) (r := nodeCells (0, -1, 0)) rfl fun b o hld => Ld.a3 hld (0 : Int) (-1 : Int) (0 : Int) rfl rfl (CondB.pos rfl (CondB.pos rfl ⟨rfl, kk5.trans k6⟩))))
theorem _root_.Go.AI.FmB.wide {n n' : Nat} {H : AHeap} (hn : n ≤ n') {op var : Int} {s : AC} {f : Fm} (h : FmB n H op var s f) : FmB n' H op var s f := by
  induction h with
  | mk rows hl hs hb _ ih => exact .mk rows hl hs (fun b o z m cap e => Nat.lt_of_lt_of_le (hb b o z m cap e) hn) ih
theorem DRes.same {H : AHeap} {x : DT} {ns ns' : AC} {r r' e e' : Int} (h : DRes H x ns r e) (h' : DRes H x ns' r' e') : e = e' ∧ r = r' ∧ ∃ l : List NRow, l.length ≤ 2000 ∧ SlR H ns 3 (nodeRows l) ∧ SlR H ns' 3 (nodeRows l) := by
  rcases h with ⟨a, rfl, rfl, d⟩ | ⟨a, rfl, rfl, d⟩ <;> rcases h' with ⟨a', rfl, rfl, d'⟩ | ⟨a', rfl, rfl, d'⟩
  · exact ⟨rfl, rfl, [], by simp, d, d'⟩
  · omega
  · omega
  · exact ⟨rfl, rfl, _, by rw [List.length_map]; exact a, d, d'⟩
end Go.Proofs.Ytanaaabejeeakaa
end
section
namespace Go.Proofs.Ytanaaabejeeakaa
open Go.AI
theorem good_int {D : Type} {P : Program} {H : AHeap} {n : Nat} {t : TypeId} {k : IntKind} {cs : List AC} {d : DataW D} (hu : P.underlying t = some (.int k)) (h : AI.Good P H n t cs d) : ∃ i, cs = [.int k i] ∧ d = .lit (.int k i) ∧ (Lit.int k i).wf = true := by
  cases n with
  | zero => exact h.elim
  | succ n => simp only [AI.Good, goodStep, hu] at h; exact h
theorem good_struct {D : Type} {P : Program} {H : AHeap} {n : Nat} {t : TypeId} {fs : Array Field} {cs : List AC} {d : DataW D} (hu : P.underlying t = some (.struct fs)) (h : AI.Good P H n t cs d) : ∃ m ds, n = m + 1 ∧ d = .agg ds ∧ goodF P (AI.Good P H m) fs.toList cs ds := by
  cases n with
  | zero => exact h.elim
  | succ n => simp only [AI.Good, goodStep, hu] at h; obtain ⟨ds, h1, h2⟩ := h; exact ⟨n, ds, rfl, h1, h2⟩
theorem good_slice {D : Type} {P : Program} {H : AHeap} {n : Nat} {t e : TypeId} {cs : List AC} {d : DataW D} (hu : P.underlying t = some (.slice e)) (h : AI.Good P H n t cs d) :
    (cs = [.sl none 0 0 (some 0)] ∧ d = .nil) ∨ ∃ m b ds rest cells, n = m + 1 ∧ cs = [.sl (some (b, 0)) (P.cellsOf e) ds.length none] ∧ d = .slice ds rest ∧ H.get b = some (.row e b 0 true (cells.map some)) ∧
        goodL (AI.Good P H m) e (P.cellsOf e) cells ds ∧ ds.length ≤ maxLen := by
  cases n with
  | zero => exact h.elim
  | succ n =>
    simp only [AI.Good, goodStep, hu] at h
    rcases h with h | ⟨b, ds, rest, cells, h1, h2, h3, h4, h5, _⟩
    · exact .inl h
    · exact .inr ⟨n, b, ds, rest, cells, rfl, h1, h2, h3, h4, h5⟩
theorem goodF_cons {D : Type} {P : Program} {good : TypeId → List AC → DataW D → Prop} {f : Field} {fs : List Field} {cs : List AC} {ds : List (DataW D)} (h : goodF P good (f :: fs) cs ds) :
    ∃ d ds' a b, ds = d :: ds' ∧ cs = a ++ b ∧ good f.type a d ∧ goodF P good fs b ds' := by
  cases ds with
  | nil => exact h.elim
  | cons d ds' => exact ⟨d, ds', cs.take (P.cellsOf f.type), cs.drop (P.cellsOf f.type), rfl, (List.take_append_drop ..).symm, h.1, h.2⟩
theorem goodF_nil {D : Type} {P : Program} {good : TypeId → List AC → DataW D → Prop} {cs : List AC} {ds : List (DataW D)} (h : goodF P good [] cs ds) : ds = [] ∧ cs = [] := by
  cases ds with
  | nil => exact ⟨rfl, h⟩
  | cons d ds' => exact h.elim
theorem cells77 : Try.prog.cellsOf 77 = 3 := by decide +kernel
end Go.Proofs.Ytanaaabejeeakaa
end
section
namespace Go.Proofs.Ytanaaabejeeakaa
open Go.ChangeShapes Go.WideShapes Go.ChangeAt Go.RowKit
set_option linter.unusedVariables false
section
variable {H : Type} {enc : TypeId × Value → H} {P : Program}
theorem post_of_below {f : Func} {s : ChangeSpec} {apart fresh handsOn again : Bool} {W W' : World} {args : Array Value} {v : Value} {ds gs : List (DataW H)} {before pa pv : List MemPlace}
    (hW : DataW.Whole enc P f.params.toList s.vars apart W args.toList ds gs before)
    (hres : ∀ (b : Nat) (sp : Nat → Bool) (hd : Bool), DataW.TrodAll enc P W' b sp hd f.resultTypes.toList (v.resultList f.resultTypes.size) (s.fn H (ds ++ gs)).results [])
    (hargs : ∀ sp : Nat → Bool, (∀ p ∈ before, sp p.block = true) → DataW.TrodAll enc P W' 0 sp true f.params.toList args.toList (s.fn H (ds ++ gs)).args pa)
    (hvars : ∀ sp : Nat → Bool, (∀ p ∈ before, sp p.block = true) → DataW.TrodVars enc P W' sp s.vars (s.fn H (ds ++ gs)).vars pv)
    (hps : before = pa ++ pv) (hb : Below W.heap.size W W')
    (hok : ∀ (j : Nat) (t : TypeId) (r : Value), f.resultTypes[j]? = some t → (v.resultList f.resultTypes.size)[j]? = some r → Value.okWide P W' .any 0 t r) :
    s.post enc P f apart fresh handsOn again W args v W' := by
  have hlt : ∀ p ∈ before, p.block < W.heap.size := fun p hp => hW.lt p hp
  have hold : ∀ p ∈ before, (fun b => decide (b < W.heap.size)) p.block = true := fun p hp => by simpa using hlt p hp
  refine ⟨ds, gs, before, [], pa, pv, hW, hres _ _ _, hargs _ hold, hvars _ hold, World.keptBut_mono (fun p hp => ⟨hp, ?_⟩) (hb.frame (· ∈ before)), fun _ => ?_⟩
  · rw [hps, List.mem_append] at hp
    exact Or.inr hp
  · obtain ⟨_, _, _, _, _, hz, hn⟩ := hW
    refine ⟨hok, _, _, ([] ++ pa) ++ pv, ⟨[] ++ pa, pv, trodAll_append (hargs _ (fun _ _ => rfl)) (hres _ _ _), hvars _ (fun _ _ => rfl), rfl, ?_, ?_⟩, ?_⟩
    · intro b off hp
      have hin : MemPlace.cell b off ∈ before := by rw [hps]; simpa using hp
      rw [hb.frozen (hlt _ hin)]
      exact hz b off hin
    · intro ha
      have := hn ha
      rw [hps] at this
      simpa using this
    · intro p hp _
      rw [hps]
      simpa using hp
end
theorem own : ownKnob Try.prog.godebug = none := by kernel_rfl
theorem names_ok : AI.NamesOk Try.prog := by
  have h : Try.prog.funcs.toList.all (fun fn => !(fn.name == "runtime.NumGoroutine")) = true := by decide +kernel
  intro f fn hf
  have hm : fn ∈ Try.prog.funcs.toList := by
    rw [Array.mem_toList_iff]
    exact Array.mem_of_getElem? hf
  have := List.all_eq_true.1 h fn hm
  simpa using this
theorem mixed : Try.prog.follows .mixedOrders = true := by kernel_rfl
theorem laid_out : laidOutB Try.prog = true := by kernel_rfl
def simpleTs : List TypeId := [24, 22, 3, 27, 25, 77]
theorem simple_ok : ∀ t ∈ simpleTs, AI.simpleT Try.prog simpleTs t = true := by
  have h : simpleTs.all (AI.simpleT Try.prog simpleTs) = true := by decide +kernel
  exact List.all_eq_true.1 h
end Go.Proofs.Ytanaaabejeeakaa
namespace Go.Proofs.Ytanaaabejeeakaa
open Go.AI
theorem gargs_cons {D : Type} {P : Program} {H : AHeap} {t : TypeId} {ts : List TypeId} {avs : List AV} {d : DataW D} {ds : List (DataW D)} (h : GoodArgs P H (t :: ts) avs (d :: ds)) :
    ∃ a rest n cs, avs = a :: rest ∧ AI.Good P H n t cs d ∧ a = avOf P t cs ∧ GoodArgs P H ts rest ds := by
  cases avs with
  | nil => exact h.elim
  | cons a rest =>
    obtain ⟨⟨n, cs, h1, h2⟩, h3⟩ := h
    exact ⟨a, rest, n, cs, rfl, h1, h2, h3⟩
theorem gargs_nil {D : Type} {P : Program} {H : AHeap} {avs : List AV} (h : GoodArgs (D := D) P H [] avs []) : avs = [] := by
  cases avs with
  | nil => rfl
  | cons a rest => exact h.elim
theorem dg_list {D : Type} {H : AHeap} {n : Nat} : ∀ (ds : List (DataW D)) (cells : List AC), goodL (AI.Good Try.prog H n) 77 3 cells ds → ∃ l : List NRow, l.length = ds.length ∧ cells = (nodeRows l).flatten
  | [], cells, h => ⟨[], rfl, h⟩
  | d :: ds, cells, h => by
    obtain ⟨h1, h2⟩ := h
    obtain ⟨m, ds', rfl, rfl, hF⟩ := good_struct Try.underlying77 h1
    obtain ⟨d1, ds1, a1, b1, rfl, e1, g1, hF⟩ := goodF_cons hF
    obtain ⟨d2, ds2, a2, b2, rfl, rfl, g2, hF⟩ := goodF_cons hF
    obtain ⟨d3, ds3, a3, b3, rfl, rfl, g3, hF⟩ := goodF_cons hF
    obtain ⟨rfl, rfl⟩ := goodF_nil hF
    obtain ⟨x, rfl, _⟩ := good_int Try.underlying3 g1
    obtain ⟨y, rfl, _⟩ := good_int Try.underlying3 g2
    obtain ⟨z, rfl, _⟩ := good_int Try.underlying3 g3
    obtain ⟨l, e2, e3⟩ := dg_list ds _ h2
    refine ⟨(x, y, z) :: l, by simp [e2], ?_⟩
    show cells = [.int .i64 x, .int .i64 y, .int .i64 z] ++ (nodeRows l).flatten
    rw [← e3]
    have : cells.take 3 = [.int .i64 x, .int .i64 y, .int .i64 z] := by rw [e1]; rfl
    rw [← this, List.take_append_drop]
theorem good_dg {D : Type} {H : AHeap} (n : Nat) (cs : List AC) (d : DataW D) (h : AI.Good Try.prog H n 27 cs d) : ∃ s r l, cs = [s, .int .i64 r] ∧ SlR H s 3 (nodeRows l) := by
  obtain ⟨m, ds, rfl, rfl, hF⟩ := good_struct Try.underlying27 h
  obtain ⟨d1, ds1, a1, b1, rfl, rfl, g1, hF⟩ := goodF_cons hF
  obtain ⟨d2, ds2, a2, b2, rfl, rfl, g2, hF⟩ := goodF_cons hF
  obtain ⟨rfl, rfl⟩ := goodF_nil hF
  obtain ⟨r, rfl, _⟩ := good_int Try.underlying3 g2
  rcases good_slice Try.underlying25 g1 with ⟨rfl, rfl⟩ | ⟨k, b, ds, rest, cells, rfl, rfl, rfl, hg, hl, _⟩
  · exact ⟨_, r, [], rfl, SlR.nil _ _⟩
  · rw [cells77] at hl ⊢
    obtain ⟨l, e1, rfl⟩ := dg_list ds cells hl
    refine ⟨_, r, l, rfl, some (b, 0), 3, none, by rw [nodeRows_len, e1], fun i r hr => ⟨rfl, b, 0, rfl, ?_⟩⟩
    have hlt := (List.getElem?_eq_some_iff.1 hr).1
    have hall : ∀ r ∈ nodeRows l, r.length = 3 := by
      intro r hr
      obtain ⟨x, _, rfl⟩ := List.mem_map.1 hr
      rfl
    have hfl := flatten_len hall
    have hm : (i + 1) * 3 ≤ (nodeRows l).length * 3 := Nat.mul_le_mul_right _ (by omega)
    rw [Nat.zero_add, load_of hg (by omega), flatten_row hall hr]
end Go.Proofs.Ytanaaabejeeakaa
end
section
namespace Go.Proofs.Ytanaaabejeeakaa
open Go.AI Go.AI.DT
def ERes (H0 H : AHeap) (bad : Int) (g : (Nat → Bool) → Bool) (ns : AC) (root err : Int) : Prop :=
  (bad ≠ 0 ∧ err = bad ∧ root = 0 ∧ SlR H ns 3 []) ∨ (bad = 0 ∧ ∃ x : DT, x.RO ∧ (∀ ρ, x.eval ρ = g ρ) ∧ DResN H0 H x ns root err)
theorem emp {H H' : AHeap} {s : AC} {sz : Nat} (h : SlR H s sz []) : SlR H' s sz [] := by
  obtain ⟨a, z, cap, e, _⟩ := h.ex
  exact ⟨a, z, cap, e, fun i r hr => by simp at hr⟩
theorem ERes.keep {S : Nat → Prop} {H0 H H' : AHeap} {bad : Int} {g : (Nat → Bool) → Bool} {ns : AC} {root err : Int} (h : ERes H0 H bad g ns root err) (k : Keep S H H') (hS : ∀ y, S y → y < H0.size) : ERes H0 H' bad g ns root err := by
  rcases h with ⟨a, b, c, d⟩ | ⟨a, x, b, c, d⟩
  · exact .inl ⟨a, b, c, emp d⟩
  · exact .inr ⟨a, x, b, c, d.keep k hS⟩
theorem ERes.kp {H0 H H' : AHeap} {bad : Int} {g : (Nat → Bool) → Bool} {ns : AC} {root err : Int} (h : ERes H0 H bad g ns root err) (k : Kp H H') : ERes H0 H' bad g ns root err := h.keep k fun _ h => h.elim
theorem ERes.from {H0 H1 H : AHeap} {bad : Int} {g : (Nat → Bool) → Bool} {ns : AC} {root err : Int} (h : ERes H1 H bad g ns root err) (hs : H0.size ≤ H1.size) : ERes H0 H bad g ns root err := by
  rcases h with ⟨a, b, c, d⟩ | ⟨a, x, b, c, d⟩
  · exact .inl ⟨a, b, c, d⟩
  · exact .inr ⟨a, x, b, c, d.from hs⟩
theorem ERes.same {H0 H0' H : AHeap} {bad : Int} {g g' : (Nat → Bool) → Bool} {ns ns' : AC} {r r' e e' : Int} (h : ERes H0 H bad g ns r e) (h' : ERes H0' H bad g' ns' r' e') (hg : bad = 0 → ∀ ρ, g ρ = g' ρ) : e = e' ∧ r = r' ∧ ∃ l : List NRow, l.length ≤ 2000 ∧ SlR H ns 3 (nodeRows l) ∧ SlR H ns' 3 (nodeRows l) := by
  rcases h with ⟨a, rfl, rfl, d⟩ | ⟨a, x, b, c, d⟩ <;> rcases h' with ⟨a', rfl, rfl, d'⟩ | ⟨a', x', b', c', d'⟩
  · exact ⟨rfl, rfl, [], by simp, d, d'⟩
  · exact absurd a' a
  · exact absurd a a'
  · have : x = x' := canon' b b' fun ρ => (c ρ).trans ((hg a ρ).trans (c' ρ).symm)
    subst this
    exact d.res.same d'.res
def dVal (l : List NRow) (r : Int) (ρ : Nat → Bool) : Bool := (atR (bld l) r).eval ρ
def opB (op : Int) (a b : Bool) : Bool := if op = 4 then a && b else if op = 5 then a || b else a != b
open Classical in
noncomputable def applyFault (op : Int) (la : List NRow) (ra : Int) (lb : List NRow) (rb : Int) : Int :=
  if op ≠ 4 ∧ op ≠ 5 ∧ op ≠ 6 then 7 else if dFault la ra ≠ 0 then dFault la ra else dFault lb rb
theorem Apply_c {op ra rb : Int} {sa sb : AC} {la lb : List NRow} {H : AHeap} (ha : SlR H sa 3 (nodeRows la)) (hb : SlR H sb 3 (nodeRows lb)) :
    Fn.Z12 op sa ra sb rb H fun H' ns root err => ERes H H' (applyFault op la ra lb rb) (fun ρ => opB op (dVal la ra ρ) (dVal lb rb ρ)) ns root err ∧ Kp H H' := by
  refine Z12.run ?_
  unfold Z12.W
  refine New.own fun b1 H1 hb1 hs1 o1 k1 => New.own fun b2 H2 hb2 hs2 o2 k2 => New.own fun b3 H3 hb3 hs3 o3 k3 => ?_
  have kk := (k1.trans k2).trans k3
  have hz := kk.size
  have o13 := (o1.kp k2).kp k3
  have o23 := o2.kp k3
  -- an answer with a fault
  have fail : ∀ (H4 : AHeap) (e : Int), Kp H H4 → Own H4 b3 [.sl none 0 0 (some 0), .int .i64 0] → e = applyFault op la ra lb rb → e ≠ 0 →
      Sto H4 (.ptr (some (b3, 0))) [(.sl none 0 0 (some 0)), (.int .i64 0)] fun H_1 => Ld [.ac, .int .i64] H_1 (.ptr (some (b3, 0))) fun (r0_2 : AC) (r1_3 : Int) =>
        ERes H H_1 (applyFault op la ra lb rb) (fun ρ => opB op (dVal la ra ρ) (dVal lb rb ρ)) r0_2 r1_3 e ∧ Kp H H_1 := by
    intro H4 e k4 o4 he h0
    refine Sto.own o4 (Nat.le_refl 2) fun H5 o5 k5 hs5 => ?_
    exact Ld.o2 o5 (.sl none 0 0 (some 0)) (0 : Int) rfl ⟨.inl ⟨by rw [← he]; exact h0, he, rfl, SlR.nil _ _⟩, k4.fresh k5 fun y e => by have e' : y = b3 := e; omega⟩
  have bad : op ≠ 4 ∧ op ≠ 5 ∧ op ≠ 6 → Z12.p5 (fun H' ns root err => ERes H H' (applyFault op la ra lb rb) (fun ρ => opB op (dVal la ra ρ) (dVal lb rb ρ)) ns root err ∧ Kp H H') op (.ptr (some (b1, 0))) (.ptr (some (b2, 0))) (.ptr (some (b3, 0))) true H3 := by
    intro h
    unfold Z12.p5
    exact CondB.pos rfl (fail H3 7 kk o3 (by unfold applyFault; rw [if_pos h]) (by omega))
  have good : ¬ (op ≠ 4 ∧ op ≠ 5 ∧ op ≠ 6) → Z12.p5 (fun H' ns root err => ERes H H' (applyFault op la ra lb rb) (fun ρ => opB op (dVal la ra ρ) (dVal lb rb ρ)) ns root err ∧ Kp H H') op (.ptr (some (b1, 0))) (.ptr (some (b2, 0))) (.ptr (some (b3, 0))) false H3 := by
    intro hop
    have hfault : applyFault op la ra lb rb = if dFault la ra ≠ 0 then dFault la ra else dFault lb rb := by unfold applyFault; rw [if_neg hop]
    unfold Z12.p5
    refine CondB.neg rfl (Ld.o2 o13 sa ra rfl (Ld.o2 o23 sb rb rfl (NewS.own fun ab H4 hab hs4 oa k4 => LenS.mk ?_)))
    have kk4 := kk.trans k4
    unfold Z12.l14
    refine LoopT.rule (fun m s0 H5 => ∃ k : Nat, k ≤ 2 ∧ m = 2 - k ∧ s0 = (op, .ptr (some (b1, 0)), .ptr (some (b2, 0)), .ptr (some (b3, 0)), .sl (some (ab, 0)) 2 2 (some 2), (2 : Int), (k : Int), ()) ∧
      Kp H4 H5 ∧ (0 < k → dFault la ra = 0) ∧ (1 < k → dFault lb rb = 0)) 2 ⟨0, by omega, rfl, rfl, Kp.refl _, fun h => by omega, fun h => by omega⟩ ?_
    rintro m s0 H5 back ⟨k, hk, rfl, rfl, k5, h1, h2⟩ hback
    simp only [Z12.b14]
    have kk5 := kk4.trans k5
    have o15 := (o13.kp k4).kp k5
    have o25 := (o23.kp k4).kp k5
    have o35 := (o3.kp k4).kp k5
    refine CondB.dec (fun hlt => ?_) fun hge => ?_
    · have chk : ∀ (j : Nat) (sx : AC) (rx : Int) (lx : List NRow), H5.load (ab, 0 + j * 2) 2 = some [sx, .int .i64 rx] → SlR H sx 3 (nodeRows lx) → (dFault lx rx ≠ 0 → applyFault op la ra lb rb = dFault lx rx) →
          (dFault lx rx = 0 → ∀ H6, Kp H4 H6 → back (op, .ptr (some (b1, 0)), .ptr (some (b2, 0)), .ptr (some (b3, 0)), .sl (some (ab, 0)) 2 2 (some 2), (2 : Int), IntKind.wrap .i64 ((k : Int) + 1), ()) H6) →
          Ld [.ac, .int .i64] H5 (.ptr (some (ab, 0 + j * 2))) fun (v_2 : AC) (v_3 : Int) =>
            New 27 [(.sl none 0 0 (some 0)), (.int .i64 0)] H5 fun p_4 H_5 =>
            Sto H_5 p_4 [v_2, (.int .i64 v_3)] fun H_6 =>
            Ld [.ac, .int .i64] H_6 p_4 fun (v_7 : AC) (v_8 : Int) =>
            Fn.Z15 v_7 v_8 H_6 fun H_9 (v_10 : Int) =>
            CondB (v_10 != 0)
              (Sto H_9 (.ptr (some (b3, 0))) [(.sl none 0 0 (some 0)), (.int .i64 0)] fun H_11 =>
              Ld [.ac, .int .i64] H_11 (.ptr (some (b3, 0))) fun (r0_12 : AC) (r1_13 : Int) =>
              ERes H H_11 (applyFault op la ra lb rb) (fun ρ => opB op (dVal la ra ρ) (dVal lb rb ρ)) r0_12 r1_13 v_10 ∧ Kp H H_11)
              (back (op, .ptr (some (b1, 0)), .ptr (some (b2, 0)), .ptr (some (b3, 0)), .sl (some (ab, 0)) 2 2 (some 2), (2 : Int), IntKind.wrap .i64 ((k : Int) + 1), ()) H_9) := by
        intro j sx rx lx hld hx hf hgo
        refine Ld.a2 hld sx rx rfl rfl (NewSto.own rfl fun nb H6 hnb hs6 on k6 => Ld.o2 on sx rx rfl (RunT.imp ?_ (CheckDiagram_c (hx.kp (kk5.trans k6)))))
        rintro H7 (q : Int) ⟨rfl, k7⟩
        have k67 := k6.trans k7
        refine CondB.ne (fun hne => ?_) fun he => hgo he H7 (k5.trans k67)
        exact fail H7 _ (kk5.trans k67) (o35.kp k67) (hf hne).symm hne
      refine IA.mk (by omega) (by omega) ?_
      have hk' : k = 0 ∨ k = 1 := by omega
      rcases hk' with rfl | rfl
      · exact chk 0 sa ra la (by have := (oa.kp k5).load (o := 0) (n := 2) (by simp); simpa using this) ha (by rw [hfault]; intro h; rw [if_pos h]) fun h3 H6 k6 => hback 1 _ _ (by omega) ⟨1, by omega, rfl, by trivial, k6, fun _ => h3, fun h => by omega⟩
      · exact chk 1 sb rb lb (by have := (oa.kp k5).load (o := 2) (n := 2) (by simp); simpa using this) hb (by rw [hfault]; intro h; rw [if_neg (by have := h1 (by omega); omega)]) fun h3 H6 k6 => hback 0 _ _ (by omega) ⟨2, by omega, rfl, by trivial, k6, fun _ => h1 (by omega), fun _ => h3⟩
    · have h1' := h1 (by omega)
      have h2' := h2 (by omega)
      obtain ⟨l1, c1⟩ := dFault_len h1'
      obtain ⟨l2, c2⟩ := dFault_len h2'
      have hb0 : applyFault op la ra lb rb = 0 := by rw [hfault, if_neg (by omega), h2']
      refine RunT.imp ?_ newManager_c
      rintro H6 m ⟨⟨F, hm, hF⟩, k6⟩
      have kk6 := kk5.trans k6
      have hz5 := kk5.size
      have hb15 := o15.lt
      have hb25 := o25.lt
      have hb35 := o35.lt
      refine Ld.o2 (o15.kp k6) sa ra rfl (RunT.imp ?_ (add_c ha (Kp.old kk6) hm (fun x h => by have := hF x h; omega) c1.of.1 c1.of.2.1 c1.of.2.2.1 l1 (by simp)))
      rintro H7 qa ⟨F7, ts7, af7, in7, rfl⟩
      have k57 : Kp H5 H7 := k6.fresh af7.keep fun x h => hF x h
      have kk7 := kk5.trans k57
      have hz7 := k57.size
      have hl7 := af7.len
      have hF7 : ∀ x, F7 x → H5.size ≤ x := fun x h => (af7.fresh x h).elim (hF x) fun h => by have := k6.size; omega
      refine Ld.o2 (o25.kp k57) sb rb rfl (RunT.imp ?_ (add_c hb (Kp.old kk7) af7.mgr (fun x h => by have := hF7 x h; omega) c2.of.1 c2.of.2.1 c2.of.2.2.1 l2 (by simp at hl7 ⊢; omega)))
      rintro H8 qb ⟨F8, ts8, af8, in8, rfl⟩
      have k58 : Kp H5 H8 := k57.fresh af8.keep fun x h => hF7 x h
      have hF8 : ∀ x, F8 x → H5.size ≤ x := fun x h => (af8.fresh x h).elim (hF7 x) fun h => by omega
      have hl8 := af8.len
      have in7' := in7.mono af8.pre
      refine ⟨Same2.mk (((o25.kp k6).all).trans ((o25.kp k57).all).symm), ?_⟩
      rw [← ref_mono in7 af8.pre]
      -- the end, once for all
      have fin : ∀ (N : Nat) (val : (Nat → Bool) → Bool) (H9 : AHeap) (q : Int), N ≤ 200000 → (∀ ρ, val ρ = opB op (dVal la ra ρ) (dVal lb rb ρ)) → OpRes H8 m F8 ts8 N val H9 q →
          Fn.Z36 m q H9 fun H_26 (v_27 : AC) (v_28 : Int) (v_29 : Int) => Sto H_26 (.ptr (some (b3, 0))) [v_27, (.int .i64 v_28)] fun H_30 => Ld [.ac, .int .i64] H_30 (.ptr (some (b3, 0))) fun (r0_31 : AC) (r1_32 : Int) =>
            ERes H H_30 (applyFault op la ra lb rb) (fun ρ => opB op (dVal la ra ρ) (dVal lb rb ρ)) r0_31 r1_32 v_29 ∧ Kp H H_30 := by
        rintro N val H9 q hN hv ⟨F9, ts9, r, af9, in9, rfl, hev⟩
        have hl9 := af9.len
        have k59 : Kp H5 H9 := k58.fresh af9.keep fun x h => hF8 x h
        refine RunT.imp ?_ (result_c af9.mgr in9 (by simp at hl7; omega))
        rintro H10 (ns : AC) (root : Int) (err : Int) ⟨hres, k10⟩
        have hz9 := k59.size
        have kk10 := (kk5.trans k59).trans k10
        refine Sto.own ((o35.kp k59).kp k10) (Nat.le_refl 2) fun H11 o11 k11 hs11 => Ld.o2 o11 ns root rfl ⟨.inr ⟨hb0, r, af9.mgr.fin.ro in9, fun ρ => (hev ρ).trans (hv ρ), ?_⟩, kk10.fresh k11 fun y e => by have e' : y = b3 := e; omega⟩
        exact (hres.keep k11 fun y e => by have e' : y = b3 := e; omega).from (by have := kk5.size; omega)
      simp only [List.length_nil, Nat.zero_add] at hl7
      refine CondB.eq (fun h4 => ?_) fun h4 => CondB.eq (fun h5 => ?_) fun h5 => ?_
      · refine RunT.imp ?_ (and_c af8.mgr in7' in8 (by omega))
        intro H9 q hq
        exact fin 65535 _ H9 q (by omega) (fun ρ => by unfold opB; rw [if_pos h4]; rfl) hq
      · refine RunT.imp ?_ (or_c af8.mgr in7' in8 (by omega))
        intro H9 q hq
        exact fin 65535 _ H9 q (by omega) (fun ρ => by unfold opB; rw [if_neg h4, if_pos h5]; rfl) hq
      · refine RunT.imp ?_ (xor_c af8.mgr in7' in8 (by omega))
        intro H9 q hq
        exact fin 131070 _ H9 q (by omega) (fun ρ => by unfold opB; rw [if_neg h4, if_neg h5]; rfl) hq
  refine CondB.ne (fun h4 => CondB.ne (fun h5 => ?_) fun h5 => ?_) fun h4 => ?_
  · by_cases h6 : op = 6
    · have := good (fun h => h.2.2 h6)
      rw [show (op != 6) = false from by rw [h6]; rfl]
      exact this
    · rw [show (op != 6) = true from by simpa using h6]
      exact bad ⟨h4, h5, h6⟩
  · exact good (fun h => h.2.1 h5)
  · exact good (fun h => h.1 h4)
end Go.Proofs.Ytanaaabejeeakaa
end
section
namespace Go.Proofs.Ytanaaabejeeakaa
open Go.AI Go.AI.DT
theorem Not_c {ra : Int} {sa : AC} {la : List NRow} {H : AHeap} (ha : SlR H sa 3 (nodeRows la)) :
    Fn.Z20 sa ra H fun H' ns root err => ERes H H' (dFault la ra) (fun ρ => !dVal la ra ρ) ns root err ∧ Kp H H' := by
  refine Z20.run ?_
  unfold Z20.W
  refine New.own fun b1 H1 hb1 hs1 o1 k1 => New.own fun b3 H3 hb3 hs3 o3 k3 => Ld.o2 (o1.kp k3) sa ra rfl ?_
  have kk := k1.trans k3
  refine RunT.imp ?_ (CheckDiagram_c (ha.kp kk))
  rintro H4 (q : Int) ⟨rfl, k4⟩
  have kk4 := kk.trans k4
  have hz4 := kk4.size
  refine CondB.ne (fun hne => ?_) fun he => ?_
  · refine Sto.own (o3.kp k4) (Nat.le_refl 2) fun H5 o5 k5 hs5 => ?_
    exact Ld.o2 o5 (.sl none 0 0 (some 0)) (0 : Int) rfl ⟨.inl ⟨hne, rfl, rfl, SlR.nil _ _⟩, kk4.fresh k5 fun y e => by have e' : y = b3 := e; omega⟩
  · obtain ⟨l1, c1⟩ := dFault_len he
    have hb14 := ((o1.kp k3).kp k4).lt
    have hb34 := (o3.kp k4).lt
    refine RunT.imp ?_ newManager_c
    rintro H6 m ⟨⟨F, hm, hF⟩, k6⟩
    have kk6 := kk4.trans k6
    refine Ld.o2 (((o1.kp k3).kp k4).kp k6) sa ra rfl (RunT.imp ?_ (add_c ha (Kp.old kk6) hm (fun x h => by have := hF x h; omega) c1.of.1 c1.of.2.1 c1.of.2.2.1 l1 (by simp)))
    rintro H7 qa ⟨F7, ts7, af7, in7, rfl⟩
    have k47 : Kp H4 H7 := k6.fresh af7.keep fun x h => hF x h
    have hl7 := af7.len
    have hF7 : ∀ x, F7 x → H4.size ≤ x := fun x h => (af7.fresh x h).elim (hF x) fun h => by have := k6.size; omega
    simp only [List.length_nil, Nat.zero_add] at hl7
    refine RunT.imp ?_ (not_c af7.mgr in7 (by omega))
    rintro H9 q ⟨F9, ts9, r, af9, in9, rfl, hev⟩
    have hl9 := af9.len
    have k49 : Kp H4 H9 := k47.fresh af9.keep fun x h => hF7 x h
    refine RunT.imp ?_ (result_c af9.mgr in9 (by omega))
    rintro H10 (ns : AC) (root : Int) (err : Int) ⟨hres, k10⟩
    have hz9 := k49.size
    have kk10 := (kk4.trans k49).trans k10
    refine Sto.own (((o3.kp k4).kp k49).kp k10) (Nat.le_refl 2) fun H11 o11 k11 hs11 => Ld.o2 o11 ns root rfl ⟨.inr ⟨he, r, af9.mgr.fin.ro in9, hev, ?_⟩, kk10.fresh k11 fun y e => by have e' : y = b3 := e; omega⟩
    exact (hres.keep k11 fun y e => by have e' : y = b3 := e; omega).from (by omega)
theorem Build_e {op var : Int} {s : AC} {f : Fm} {H : AHeap} (hmax : f.size < 4611686018427387904) (hf : FmB H.size H op var s f) :
    Fn.Z13 op var s H fun H' ns root err => ERes H H' (boolFaultOf f) f.val ns root err ∧ Kp H H' := Build_c hmax hf
theorem ERes.diag {H0 H : AHeap} {bad : Int} {g : (Nat → Bool) → Bool} {ns : AC} {root err : Int} (h : ERes H0 H bad g ns root err) (he : err = 0) : bad = 0 ∧ ∃ l : List NRow, SlR H ns 3 (nodeRows l) ∧ dFault l root = 0 ∧ l.length ≤ 2000 ∧ ∀ ρ, dVal l root ρ = g ρ := by
  rcases h with ⟨a, b, _, _⟩ | ⟨a, x, b, c, d⟩
  · exact absurd (b.symm.trans he) a
  · rcases d.res with ⟨_, d2, _⟩ | ⟨d1, _, rfl, d4⟩
    · rw [d2] at he; cases he
    · have hcan : CanonD (rowsOf x) (ref (ser x []) x) := ⟨x, b, rfl, rfl⟩
      have hl : (rowsOf x).length ≤ 2000 := by rw [List.length_map]; exact d1
      refine ⟨a, _, d4, dFault_zero hl hcan, hl, fun ρ => ?_⟩
      unfold dVal
      rw [bld_rows (ser_seq x [] b Seq.nil), atR_ref (ser_in x [])]
      exact c ρ
theorem ERes.zero {H0 H : AHeap} {bad : Int} {g : (Nat → Bool) → Bool} {ns : AC} {root err : Int} (h : ERes H0 H bad g ns root err) (he : err = 0) : bad = 0 := (h.diag he).1
end Go.Proofs.Ytanaaabejeeakaa
end
section
namespace Go.Proofs.Ytanaaabejeeakaa
open Go.AI Go.AI.DT
end Go.Proofs.Ytanaaabejeeakaa
end
section
namespace Go.AI
open DT
theorem ser_last {v : Nat} {l h : DT} : ∃ st, ser (nd v l h) [] = st ++ [nd v l h] ∧ nd v l h ∉ st := by
  refine ⟨ser h (ser l []), ?_, ser_new (by simp)⟩
  simp only [ser]
  rw [if_neg (by simp)]
theorem CanonD.root {l : List NRow} {r : Int} (h : CanonD l r) : if l = [] then r = -1 ∨ r = -2 else r = (l.length : Int) - 1 := by
  obtain ⟨x, hx, rfl, rfl⟩ := h
  cases x with
  | leaf b => cases b <;> simp [ser, ref]
  | nd v a b =>
    obtain ⟨st, e, hn⟩ := ser_last (v := v) (l := a) (h := b)
    rw [e, if_neg (by simp), ref_new hn]
    simp
end Go.AI
end
section
namespace Go.Proofs.Ytanaaabejeeakaa
open Go.AI Go.AI.DT
end Go.Proofs.Ytanaaabejeeakaa
end
section
namespace Go.Proofs.Ytanaaabejeeakaa
open Go.AI Go.AI.DT
theorem dTree {l : List NRow} {r : Int} (h : dFault l r = 0) : ∃ x : DT, x.RO ∧ (ser x []).length ≤ 2000 ∧ l = rowsOf x ∧ r = ref (ser x []) x ∧ ∀ ρ, dVal l r ρ = x.eval ρ := by
  obtain ⟨h1, h2⟩ := dFault_len h
  have hx := h2.of
  refine ⟨atR (bld l) r, hx.2.2.2.1, ?_, hx.2.2.2.2.1, hx.2.2.2.2.2, fun ρ => rfl⟩
  have := congrArg List.length hx.2.2.2.2.1
  rw [List.length_map] at this
  omega
end Go.Proofs.Ytanaaabejeeakaa
end
section
namespace Go.Proofs.Ytanaaabejeeakaa
open Go.AI Go.AI.DT
end Go.Proofs.Ytanaaabejeeakaa
end
section
namespace Go.Proofs.Ytanaaabejeeakaa
open Go.AI Go.AI.DT
def intRows (l : List Int) : List (List AC) := l.map fun n => [AC.int .i64 n]
structure LL (H : AHeap) (s : AC) (Fo Gi : Nat → Prop) (L : List (List Int)) : Prop where
  ex : ∃ ss : List AC, OwnS H s 1 Fo (ss.map fun c => [c]) ∧ ss.length = L.length ∧ ∀ (i : Nat) (c : AC) (l : List Int), ss[i]? = some c → L[i]? = some l → SlR H c 1 (intRows l) ∧ ∀ b o z m cap, c = .sl (some (b, o)) z m cap → Gi b
  sep : ∀ y, Gi y → y < H.size ∧ ¬ Fo y
theorem LL.keep {S Fo Gi : Nat → Prop} {H H' : AHeap} {s : AC} {L : List (List Int)} (h : LL H s Fo Gi L) (k : Keep S H H') (hd : ∀ y, S y → ¬ Fo y ∧ ¬ Gi y) : LL H' s Fo Gi L := by
  obtain ⟨ss, h1, h2, h3⟩ := h.ex
  refine ⟨⟨ss, h1.keep k fun y hy => (hd y hy).1, h2, fun i c l hc hl => ?_⟩, fun y hy => ⟨Nat.lt_of_lt_of_le (h.sep y hy).1 k.size, (h.sep y hy).2⟩⟩
  obtain ⟨g1, g2⟩ := h3 i c l hc hl
  exact ⟨g1.keep k fun b o m cap z e hS => (hd b hS).2 (g2 b o _ _ _ e), g2⟩
theorem LL.kp {Fo Gi : Nat → Prop} {H H' : AHeap} {s : AC} {L : List (List Int)} (h : LL H s Fo Gi L) (k : Kp H H') : LL H' s Fo Gi L := h.keep k fun _ h => h.elim
theorem LL.nil (H : AHeap) : LL H (.sl none 0 0 (some 0)) (fun _ => False) (fun _ => False) [] := ⟨⟨[], OwnS.nil _ _, rfl, fun i c l h => by simp at h⟩, fun _ h => h.elim⟩
theorem LL.lt {Fo Gi : Nat → Prop} {H : AHeap} {s : AC} {L : List (List Int)} (h : LL H s Fo Gi L) : ∀ y, Fo y → y < H.size := by
  obtain ⟨ss, h1, _⟩ := h.ex
  exact h1.lt
theorem LL.len {Fo Gi : Nat → Prop} {H : AHeap} {s : AC} {L : List (List Int)} (h : LL H s Fo Gi L) {k : Int → Prop} (q : k (L.length : Int)) : LenS s k := by
  obtain ⟨ss, h1, h2, _⟩ := h.ex
  refine LenS.of h1.slr ?_
  rw [List.length_map, h2]
  exact q
theorem LL.app {Fo Gi G : Nat → Prop} {H : AHeap} {s x c : AC} {L : List (List Int)} {l : List Int} {e : Nat} {K : AC → AHeap → Prop} (h : LL H s Fo Gi L) (hx : ∃ p cap, x = .sl (some (p, 0)) 1 1 cap ∧ H.load (p, 0) 1 = some [c])
    (hc : SlR H c 1 (intRows l)) (hG : ∀ b o z m cap, c = .sl (some (b, o)) z m cap → G b) (hGl : ∀ y, G y → y < H.size ∧ ¬ Fo y) (hl : L.length ≤ 65536)
    (q : ∀ s' H', LL H' s' (fun y => Fo y ∨ y = H.size) (fun y => Gi y ∨ G y) (L ++ [l]) → Keep Fo H H' → H'.size = H.size + 1 → K s' H') : App e 1 24 s x H K := by
  obtain ⟨ss, h1, h2, h3⟩ := h.ex
  refine App.own h1 (r := [c]) hx rfl (by rw [List.length_map]; omega) (by rw [List.length_map]; omega) fun s' H' sl' k' hs' => q s' H' ⟨⟨ss ++ [c], ?_, by simp [h2], fun i d m hd hm => ?_⟩, fun y hy => ?_⟩ k' hs'
  · rw [List.map_append]
    exact sl'
  · by_cases hi : i < L.length
    · rw [List.getElem?_append_left (by omega)] at hd hm
      obtain ⟨g1, g2⟩ := h3 i d m hd hm
      exact ⟨g1.keep k' fun b o m cap z e hF => (h.sep b (g2 b o _ _ _ e)).2 hF, fun b o z m cap e => .inl (g2 b o z m cap e)⟩
    · have hi' : i = L.length := by
        have := (List.getElem?_eq_some_iff.1 hm).1
        simp at this; omega
      subst hi'
      rw [List.getElem?_append_right (by omega)] at hd hm
      simp [h2] at hd hm
      subst hd hm
      exact ⟨hc.keep k' fun b o m cap z e hF => (hGl b (hG b o _ _ _ e)).2 hF, fun b o z m cap e => .inr (hG b o z m cap e)⟩
  · have hy' : y < H.size ∧ ¬ Fo y := hy.elim (h.sep y) (hGl y)
    exact ⟨by omega, fun e => e.elim hy'.2 fun e => by omega⟩
end Go.Proofs.Ytanaaabejeeakaa
end
section
namespace Go.AI
open DT
def asg (n i : Nat) : Nat → Bool := fun w => decide (w < n) && i.testBit (n - 1 - w)
def neg : DT → DT
  | leaf b => leaf (!b)
  | nd v l h => nd v (neg l) (neg h)
end Go.AI
end
section
namespace Go.Proofs.Ytanaaabejeeakaa
open Go.AI Go.AI.DT
end Go.Proofs.Ytanaaabejeeakaa
end
section
namespace Go.Proofs.Ytanaaabejeeakaa
open Go.AI Go.AI.DT
end Go.Proofs.Ytanaaabejeeakaa
end
section
namespace Go.AI
open DT
end Go.AI
end
section
namespace Go.Proofs.Ytanaaabejeeakaa
open Go.AI Go.AI.DT
structure MP where
  (ob mb nb vb xb sb cb : Nat)
def MP.loc (p : MP) (y : Nat) : Prop := y = p.ob ∨ y = p.mb ∨ y = p.nb ∨ y = p.vb ∨ y = p.xb ∨ y = p.sb ∨ y = p.cb
structure MS (H : AHeap) (p : MP) (s : AC) (r0 : Int) (n : Nat) (most : Int) (Fo Gi : Nat → Prop) (L : List (List Int)) (cs : List Int) : Prop where
  o1 : ∃ out, Own H p.ob [out] ∧ LL H out Fo Gi L
  o2 : Own H p.mb [.int .i64 most]
  o3 : Own H p.nb [.int .i64 (n : Int)]
  o4 : Own H p.vb [.sl (some (p.cb, 0)) 1 n (some n)]
  o5 : Own H p.xb [s, .int .i64 r0]
  o6 : Own H p.sb [.fn 59 [] [(p.ob, 0), (p.mb, 0), (p.nb, 0), (p.vb, 0), (p.xb, 0), (p.sb, 0)]]
  oc : Own H p.cb (cs.map (AC.int .i64))
  len : cs.length = n
  d : ∀ y, Fo y ∨ Gi y → ¬ p.loc y
  ne1 : p.ob ≠ p.mb ∧ p.ob ≠ p.nb ∧ p.ob ≠ p.vb ∧ p.ob ≠ p.xb ∧ p.ob ≠ p.sb ∧ p.ob ≠ p.cb
  ne2 : p.cb ≠ p.mb ∧ p.cb ≠ p.nb ∧ p.cb ≠ p.vb ∧ p.cb ≠ p.xb ∧ p.cb ≠ p.sb
theorem MS.kp {H H' : AHeap} {p : MP} {s : AC} {r0 : Int} {n : Nat} {most : Int} {Fo Gi : Nat → Prop} {L : List (List Int)} {cs : List Int} (h : MS H p s r0 n most Fo Gi L cs) (k : Kp H H') : MS H' p s r0 n most Fo Gi L cs :=
  ⟨let ⟨o, a, b⟩ := h.o1; ⟨o, a.kp k, b.kp k⟩, h.o2.kp k, h.o3.kp k, h.o4.kp k, h.o5.kp k, h.o6.kp k, h.oc.kp k, h.len, h.d, h.ne1, h.ne2⟩
theorem MS.lt {H : AHeap} {p : MP} {s : AC} {r0 : Int} {n : Nat} {most : Int} {Fo Gi : Nat → Prop} {L : List (List Int)} {cs : List Int} (h : MS H p s r0 n most Fo Gi L cs) : ∀ y, p.loc y → y < H.size := by
  obtain ⟨out, a, _⟩ := h.o1
  rintro y (e | e | e | e | e | e | e)
  · rw [e]; exact a.lt
  · rw [e]; exact h.o2.lt
  · rw [e]; exact h.o3.lt
  · rw [e]; exact h.o4.lt
  · rw [e]; exact h.o5.lt
  · rw [e]; exact h.o6.lt
  · rw [e]; exact h.oc.lt
theorem MS.put {H : AHeap} {p : MP} {s : AC} {r0 : Int} {n : Nat} {most : Int} {Fo Gi : Nat → Prop} {L : List (List Int)} {cs : List Int} (h : MS H p s r0 n most Fo Gi L cs) {v : Nat} (hv : v < n) {b : Int} {K : AHeap → Prop}
    (q : ∀ H', MS H' p s r0 n most Fo Gi L (cs.set v b) → Keep (fun y => y = p.cb) H H' → H'.size = H.size → K H') : Sto H (.ptr (some (p.cb, 0 + (v : Int).toNat * 1))) [.int .i64 b] K := by
  have hcl := h.len
  refine Sto.cell h.oc (by simp [hcl]; omega) fun H' oc' k' hs' => q H' ?_ k' hs'
  obtain ⟨out, a, b'⟩ := h.o1
  have hcb : p.loc p.cb := .inr (.inr (.inr (.inr (.inr (.inr rfl)))))
  refine ⟨⟨out, a.keep k' (fun e => h.ne1.2.2.2.2.2 e), b'.keep k' fun y e => ?_⟩, h.o2.keep k' (fun e => h.ne2.1 e.symm), h.o3.keep k' (fun e => h.ne2.2.1 e.symm), h.o4.keep k' (fun e => h.ne2.2.2.1 e.symm), h.o5.keep k' (fun e => h.ne2.2.2.2.1 e.symm), h.o6.keep k' (fun e => h.ne2.2.2.2.2 e.symm), ?_, by rw [List.length_set, hcl], h.d, h.ne1, h.ne2⟩
  · subst e
    exact ⟨fun e => h.d _ (.inl e) hcb, fun e => h.d _ (.inr e) hcb⟩
  · rw [List.map_set]
    simpa using oc'
end Go.Proofs.Ytanaaabejeeakaa
end
section
namespace Go.Proofs.Ytanaaabejeeakaa
open Go.AI Go.AI.DT
end Go.Proofs.Ytanaaabejeeakaa
end
section
namespace Go.Proofs.Ytanaaabejeeakaa
open Go.AI Go.AI.DT
end Go.Proofs.Ytanaaabejeeakaa
end
section
namespace Go.AI
open Go.Lib
theorem callE_told {P : Program} [BaseC P] {f : FuncId} {args : List AV} {H : AHeap} {r} (hb : BaseC.has P f = true) (h : BaseC.call P f args H = some r) : callE P f args H = some r := by
  refine callE_some.2 ⟨1, ?_⟩
  unfold callA
  rw [if_pos hb, h]
theorem runT_told {P : Program} [BaseC P] {rs : List (Bool × List CT)} {f : FuncId} {args : List AV} {H H' : AHeap} {v : AV} {K : AHeap → Cur (flat rs)} (hb : BaseC.has P f = true) (h : BaseC.call P f args H = some (v, H')) (xs : Tup (flat rs)) (hv : v = joinR (splitP rs (cellsOf (flat rs) xs)))
    (k : app (flat rs) (K H') xs) : RunT P rs f args H K := ⟨v, H', callE_told hb h, xs, hv, k⟩
def iRows (l : List Int) : List (List AC) := l.map fun n => [AC.int .i64 n]
theorem iRows_flat : ∀ l : List Int, (iRows l).flatten = l.map (AC.int .i64)
  | [] => rfl
  | a :: l => by
    have := iRows_flat l
    unfold iRows at this ⊢
    rw [List.map_cons, List.flatten_cons, this]
    rfl
theorem iRows_len (l : List Int) : (iRows l).length = l.length := by unfold iRows; rw [List.length_map]
theorem OwnS.turn {H : AHeap} {s : AC} {F : Nat → Prop} {l l' : List Int} (h : OwnS H s 1 F (iRows l)) (hw : GW H) (hl : l'.length = l.length) :
    s = .sl none 0 0 (some 0) ∧ l = [] ∨ ∃ b cap H', s = .sl (some (b, 0)) 1 l.length cap ∧ H.load (b, 0) l.length = some (l.map (AC.int .i64)) ∧ H.store (b, 0) (l'.map (AC.int .i64)) = some H' ∧ OwnS H' s 1 F (iRows l') ∧ Keep F H H' ∧ H'.size = H.size := by
  rcases h.ex with ⟨h1, h2⟩ | ⟨b, e, g, st, cap, h1, hg, h3, h4, h5, h6⟩
  · refine .inl ⟨h1, ?_⟩
    have := congrArg List.length h2
    rw [iRows_len] at this
    exact List.eq_nil_of_length_eq_zero this
  · rw [iRows_len] at h1
    rw [iRows_flat] at hg
    have hblt := AHeap.get_lt hg
    obtain ⟨H', hH'⟩ : ∃ H', H' = H.stores b e g st 0 ((l.map (AC.int .i64)).map some) ((l'.map (AC.int .i64)).map some) := ⟨_, rfl⟩
    have hst : H.store (b, 0) (l'.map (AC.int .i64)) = some H' := by
      unfold AHeap.store
      simp only [hg]
      rw [if_pos (by simp [hl]), hH']
    have hsz : H'.size = H.size := by rw [hH']; exact AHeap.size_stores _ _ _ _ _ _ _ _
    have hext : ∀ k, H'.ext k = H.ext k := fun k => by rw [hH']; exact AHeap.ext_stores _ _ _ _ _ _ _ _ _
    have hnew : splice ((l.map (AC.int .i64)).map some) 0 ((l'.map (AC.int .i64)).map some) = (l'.map (AC.int .i64)).map some := by
      rw [splice_map _ _ 0 (by simp [hl]), List.take_zero, List.nil_append, List.drop_eq_nil_of_le (by simp [hl]), List.append_nil]
    -- what each block holds behind it
    have hget : ∀ m, H'.get m = if m = b then some (.row e g st false ((l'.map (AC.int .i64)).map some)) else if (H.ext g).2 = true ∧ ¬ (H.ext g).1 ≤ st + 0 then (H.get m).map (blot g (st + 0) (st + 0 + l'.length)) else H.get m := by
      intro m
      rw [hH']
      unfold AHeap.stores
      rw [AHeap.get_set, hnew]
      have hlt' : b < (if (H.ext g).2 = true then H.blotGroup g (st + 0) (st + 0 + ((l'.map (AC.int .i64)).map some).length) else H).size := by
        split
        · rw [AHeap.size_blotGroup]; exact hblt
        · exact hblt
      by_cases hm : m = b
      · rw [if_pos ⟨hm, hlt'⟩, if_pos hm]
      · rw [if_neg (fun k => hm k.1), if_neg hm]
        by_cases hx : (H.ext g).2 = true
        · rw [if_pos hx]
          unfold AHeap.blotGroup
          by_cases hy : (H.ext g).1 ≤ st + 0
          · rw [if_pos hy, if_neg (fun k => k.2 hy)]
          · rw [if_neg hy, if_pos ⟨hx, hy⟩, AHeap.get_blotAll]
            by_cases hml : m < H.size
            · rw [if_pos hml]; simp
            · rw [if_neg hml]
              have : H.get m = none := by unfold AHeap.get; rw [if_neg hml]
              rw [this]; rfl
        · rw [if_neg hx, if_neg (fun k => hx k.1)]
    -- rows keep their groups
    have rowOf : ∀ x e' g' st' ro' cs', H'.get x = some (.row e' g' st' ro' cs') → ∃ e1 st1 ro1 cs1, H.get x = some (.row e1 g' st1 ro1 cs1) := by
      intro x e' g' st' ro' cs' hx
      rw [hget] at hx
      split at hx
      · next hxb => cases hx; subst hxb; exact ⟨_, _, _, _, hg⟩
      split at hx
      · obtain ⟨o, ho, hb⟩ := Option.map_eq_some_iff.1 hx
        cases o with
        | map _ => cases hb
        | loop => cases hb
        | row e1 g1 st1 ro1 cs1 =>
          simp only [blot] at hb
          split at hb
          · cases hb; exact ⟨_, _, _, _, ho⟩
          · cases hb; exact ⟨_, _, _, _, ho⟩
      · exact ⟨_, _, _, _, hx⟩
    have rowTo : ∀ x e' g' st' ro' cs', H.get x = some (.row e' g' st' ro' cs') → ∃ e1 st1 ro1 cs1, H'.get x = some (.row e1 g' st1 ro1 cs1) := by
      intro x e' g' st' ro' cs' hx
      rw [hget]
      split
      · next hxb => subst hxb; rw [hg] at hx; cases hx; exact ⟨_, _, _, _, rfl⟩
      split
      · rw [hx]
        simp only [Option.map_some, blot]
        split
        · exact ⟨_, _, _, _, rfl⟩
        · exact ⟨_, _, _, _, rfl⟩
      · exact ⟨_, _, _, _, hx⟩
    have keep : Keep F H H' := by
      refine ⟨by omega, fun x hx hn => ?_, fun x hx hn => hext x, ⟨fun hw' x e' g' st' ro' cs' hx => ?_, fun hw' x e' g' st' ro' cs' hx => ?_⟩, fun x e' g' st' ro' cs' hx _ _ => rowOf x _ _ _ _ _ hx⟩
      · rw [hget, if_neg (fun k => hn (by rw [k]; exact h5))]
        split
        · cases ho : H.get x with
          | none => rfl
          | some o =>
            cases o with
            | map _ => rfl
            | loop => rfl
            | row e1 g1 st1 ro1 cs1 =>
              simp only [Option.map_some, blot]
              rw [if_neg]
              rintro rfl
              exact hn (h.grp hw _ _ _ _ _ _ _ _ _ _ _ _ _ _ _ h1 hg ho)
        · rfl
      · obtain ⟨_, _, _, _, hx'⟩ := rowOf _ _ _ _ _ _ hx
        exact hw' _ _ _ _ _ _ hx'
      · obtain ⟨_, _, _, _, hx'⟩ := rowTo _ _ _ _ _ _ hx
        exact hw' _ _ _ _ _ _ hx'
    refine .inr ⟨b, cap, H', h1, ?_, hst, ⟨fun r hr => ?_, fun x hx => by have := h.lt x hx; omega, .inr ⟨b, e, g, st, cap, by rw [iRows_len, hl]; exact h1, ?_, ?_, ?_, h5, h6⟩, fun hw' b' o z n cap' e' g' st' ro cs x e2 st2 ro2 cs2 hs hb hx => ?_⟩, keep, hsz⟩
    · rw [load_of hg (by simp), List.drop_zero, List.take_of_length_le (by simp)]
    · unfold iRows at hr
      obtain ⟨n, _, rfl⟩ := List.mem_map.1 hr
      rfl
    · rw [hget, if_pos rfl, iRows_flat]
    · rw [hext, iRows_flat, List.length_map, hl]
      rw [iRows_flat, List.length_map] at h3
      exact h3
    · rw [iRows_len, hl]
      rw [iRows_len] at h4
      exact h4
    · rw [h1] at hs
      cases hs
      rw [hget, if_pos rfl] at hb
      cases hb
      obtain ⟨_, _, _, _, hx'⟩ := rowOf _ _ _ _ _ _ hx
      exact h.grp hw _ _ _ _ _ _ _ _ _ _ _ _ _ _ _ h1 hg hx'
end Go.AI
end
section
namespace Go.AI
open Go.Lib
theorem compact_asc {d : Array Int} (hs : ∀ i j, i ≤ j → j < d.size → d[i]! ≤ d[j]!) : ∀ m, m ≤ d.size → (compactUpTo d m).Pairwise (· < ·) ∧ ∀ x, x ∈ compactUpTo d m ↔ ∃ j, j < m ∧ d[j]! = x
  | 0, _ => by
    have e : compactUpTo d 0 = [] := rfl
    rw [e]
    exact ⟨List.Pairwise.nil, fun x => ⟨fun h => (List.not_mem_nil h).elim, fun ⟨j, h, _⟩ => by omega⟩⟩
  | m + 1, hm => by
    obtain ⟨h1, h2⟩ := compact_asc hs m (by omega)
    rw [compactUpTo_succ]
    by_cases hk : keeps d m = true
    · rw [if_pos hk]
      refine ⟨List.pairwise_append.2 ⟨h1, List.pairwise_singleton _ _, fun a ha b hb => ?_⟩, fun x => ?_⟩
      · obtain rfl := List.mem_singleton.1 hb
        obtain ⟨j, hj, rfl⟩ := (h2 a).1 ha
        have e1 := hs j (m - 1) (by omega) (by omega)
        have e2 := hs (m - 1) m (by omega) (by omega)
        have : d[m]! ≠ d[m - 1]! := fun e => by
          rw [keeps_neg (by omega) e] at hk; cases hk
        omega
      · rw [List.mem_append, h2, List.mem_singleton]
        constructor
        · rintro (⟨j, hj, e⟩ | e)
          · exact ⟨j, by omega, e⟩
          · exact ⟨m, by omega, e.symm⟩
        · rintro ⟨j, hj, e⟩
          by_cases hjm : j = m
          · subst hjm; exact .inr e.symm
          · exact .inl ⟨j, by omega, e⟩
    · rw [if_neg hk, List.append_nil]
      have hm0 : 0 < m := by
        rcases Nat.eq_zero_or_pos m with e | e
        · subst e; exact absurd (keeps_lt_one d 0 (by omega)) hk
        · exact e
      have he : d[m]! = d[m - 1]! := Decidable.by_contra fun h => hk (keeps_pos h)
      refine ⟨h1, fun x => ?_⟩
      rw [h2]
      constructor
      · rintro ⟨j, hj, e⟩
        exact ⟨j, by omega, e⟩
      · rintro ⟨j, hj, e⟩
        by_cases hjm : j = m
        · subst hjm; exact ⟨j - 1, by omega, by rw [← he, e]⟩
        · exact ⟨j, by omega, e⟩
theorem compact_sort (l : List Int) : (compact (l.mergeSort fun x y => decide (x ≤ y))).Pairwise (· < ·) ∧ ∀ x, x ∈ compact (l.mergeSort fun x y => decide (x ≤ y)) ↔ x ∈ l := by
  obtain ⟨z, hz⟩ : ∃ z, z = l.mergeSort fun x y => decide (x ≤ y) := ⟨_, rfl⟩
  have hp : z.Pairwise fun x y => decide (x ≤ y) = true := by
    rw [hz]
    refine List.pairwise_mergeSort (fun a b c h1 h2 => ?_) (fun a b => ?_) l
    · simp only [decide_eq_true_eq] at h1 h2 ⊢; omega
    · simp only [Bool.or_eq_true, decide_eq_true_eq]; omega
  have hmem : ∀ x, x ∈ z ↔ x ∈ l := fun x => by rw [hz]; exact List.mem_mergeSort
  rw [← hz]
  have get : ∀ j, j < z.length → z.toArray[j]! = z[j]! := fun j hj => by simp
  have hs : ∀ i j, i ≤ j → j < z.toArray.size → z.toArray[i]! ≤ z.toArray[j]! := by
    intro i j hij hj
    have hj' : j < z.length := by simpa using hj
    rw [get i (by omega), get j hj']
    by_cases e : i = j
    · subst e; omega
    · have := List.pairwise_iff_getElem.1 hp i j (by omega) hj' (by omega)
      simp only [decide_eq_true_eq] at this
      rw [getElem!_pos z i (by omega), getElem!_pos z j hj']
      exact this
  obtain ⟨h1, h2⟩ := compact_asc hs z.length (by simp)
  refine ⟨h1, fun x => ?_⟩
  rw [← hmem x]
  refine (h2 x).trans ⟨?_, fun h => ?_⟩
  · rintro ⟨j, hj, rfl⟩
    rw [get j hj, getElem!_pos z j hj]
    exact List.getElem_mem _
  · obtain ⟨j, hj, e⟩ := List.getElem_of_mem h
    exact ⟨j, hj, by rw [get j hj, getElem!_pos z j hj, e]⟩
end Go.AI
end
section
namespace Go.Proofs.Ytanaaabejeeakaa
open Go.AI Go.AI.DT Go.Lib
def sortI (l : List Int) : List Int := l.mergeSort fun x y => decide (x ≤ y)
theorem Sort_o {s : AC} {F : Nat → Prop} {l : List Int} {H : AHeap} (h : OwnS H s 1 F (iRows l)) (hw : GW H) (hl : l.length < 4611686018427387904) :
    Fn.slices_Sort_int_int s H fun H' => OwnS H' s 1 F (iRows (sortI l)) ∧ Keep F H H' := by
  unfold Fn.slices_Sort_int_int
  rcases h.turn (l' := sortI l) hw (List.length_mergeSort _) with ⟨rfl, rfl⟩ | ⟨b, cap, H', rfl, h1, h2, h3, h4, _⟩
  · exact runT_told (v := .tup []) (H' := H) rfl rfl () rfl ⟨by simpa [sortI] using h, Keep.refl _ _⟩
  · by_cases h0 : l.length = 0
    · have hl0 := List.eq_nil_of_length_eq_zero h0
      subst hl0
      exact runT_told (v := .tup []) (H' := H) rfl rfl () rfl ⟨by simpa [sortI] using h, Keep.refl _ _⟩
    · refine runT_told (v := .tup []) (H' := H') rfl ?_ () rfl ⟨h3, h4⟩
      show sortB H [.one (.sl (some (b, 0)) 1 l.length cap)] = _
      simp only [sortB, if_neg h0, if_neg (show ¬ l.length ≥ 4611686018427387904 by omega), h1, Option.bind_some, intsOf_map]
      show (H.store (b, 0) ((sortI l).map (AC.int .i64))).map _ = _
      rw [h2]
      rfl
theorem slr_take {H : AHeap} {b n m : Nat} {cap : Option Nat} {rows : List (List AC)} (h : SlR H (.sl (some (b, 0)) 1 n cap) 1 rows) (hm : m ≤ n) : SlR H (.sl (some (b, 0)) 1 m cap) 1 (rows.take m) := by
  obtain ⟨a, z, cap', e, hr⟩ := h.ex
  cases e
  refine ⟨_, 1, cap, by rw [List.length_take, Nat.min_eq_left hm], fun i r hi => ?_⟩
  rw [List.getElem?_take] at hi
  split at hi
  · obtain ⟨_, b', o', e, hl⟩ := hr i r hi
    exact ⟨rfl, b', o', e, hl⟩
  · cases hi
theorem Compact_o {s : AC} {F : Nat → Prop} {l : List Int} {H : AHeap} (h : OwnS H s 1 F (iRows l)) (hw : GW H) (hl : l.length < 4611686018427387904) :
    Fn.slices_Compact_int_int s H fun H' q => SlR H' q 1 (iRows (compact l)) ∧ (∀ b o z m cap, q = .sl (some (b, o)) z m cap → F b) ∧ Keep F H H' := by
  have hcl := compact_length_le l
  unfold Fn.slices_Compact_int_int
  rcases h.turn (l' := compact l ++ List.replicate (l.length - (compact l).length) 0) hw (by rw [List.length_append, List.length_replicate]; omega) with ⟨rfl, rfl⟩ | ⟨b, cap, H', rfl, h1, h2, h3, h4, _⟩
  · exact runT_told (v := .one (.sl none 0 0 (some 0))) (H' := H) rfl rfl (AC.sl none 0 0 (some 0), ()) rfl ⟨h.slr, fun b o z m cap e => (by cases e), Keep.refl _ _⟩
  · have hF : F b := by
      rcases h.ex with ⟨e, _⟩ | ⟨b', _, _, _, _, e, _, _, _, h5, _⟩
      · cases e
      · have e2 : b = b' := congrArg (fun c => match c with | AC.sl (some p) _ _ _ => p.1 | _ => 0) e
        rw [e2]; exact h5
    by_cases h0 : l.length = 0
    · have hl0 := List.eq_nil_of_length_eq_zero h0
      subst hl0
      exact runT_told (v := .one (.sl (some (b, 0)) 1 0 cap)) (H' := H) rfl rfl (AC.sl (some (b, 0)) 1 0 cap, ()) rfl ⟨h.slr, fun b' o z m cap' e => (by cases e; exact hF), Keep.refl _ _⟩
    · refine runT_told (v := .one (.sl (some (b, 0)) 1 (compact l).length cap)) (H' := H') rfl ?_ (AC.sl (some (b, 0)) 1 (compact l).length cap, ()) rfl ⟨?_, fun b' o z m cap' e => (by cases e; exact hF), h4⟩
      · show compactB H [.one (.sl (some (b, 0)) 1 l.length cap)] = _
        simp only [compactB, if_neg h0, if_neg (show ¬ l.length ≥ 4611686018427387904 by omega), h1, Option.bind_some, intsOf_map, h2, Option.map_some]
      · have := slr_take h3.slr hcl
        have e : (iRows (compact l ++ List.replicate (l.length - (compact l).length) 0)).take (compact l).length = iRows (compact l) := by
          unfold iRows
          rw [List.map_append, List.take_append_of_le_length (by rw [List.length_map]; exact Nat.le_refl _), List.take_of_length_le (by rw [List.length_map]; exact Nat.le_refl _)]
        rwa [e] at this
end Go.Proofs.Ytanaaabejeeakaa
end
