/- Joined by a program: what the proof of the law leans on, part 4. -/
import Derived.Test.YtanaaabejeeakaaA3
set_option linter.unusedVariables false
set_option linter.unusedSimpArgs false
section
/- Printed by a program: functions and what must hold ahead of them. -/
namespace Go.Proofs.Ytanaaabejeeakaa
open Go.AI
set_option maxRecDepth 100000
set_option maxHeartbeats 2000000
set_option linter.unusedVariables false
attribute [local irreducible] Ld Sto New NewS NewM NN NZ GE0 FA IA IAP LenS Slc App Cpy Clr MkS Fnc NilQ IxS Look MSet Run CV RunT CVT LoopT Same1 Same2 wpC wpOs wpT wpO wpOp

def solve_manager_build.c69 : RC := (.seq (.ops [.put 81 (.cm .lt (.tm 80) (.tm 79))]) (.seq (.cond 81 .skip (.exit 3)) (.seq (.block 4 (.seq (.ops [.put 82 (.ia 1 (.tm 78) (.tm 80)),
    .put 83 (.ld false [.int .i64] (.tm 82)),
    .put 11 (.mov (.tm 83))]) (.ops [.put 84 (.mov (.tm 9)),
    .put 85 (.mov (.tm 8)),
    .put 86 (.mov (.tm 11)),
    .put 87 (.callv (.tm 84) [(.tm 85), (.tm 86)]),
    .put 8 (.mov (.tm 87))]))) (.ops [.put 88 (.ar .add (.tm 80) (.ct (.one (.int .i64 1)))),
    .put 80 (.mov (.tm 88))]))))
def solve_manager_build.c64 : RC := (.seq (.seq (.ops [.put 78 (.mov (.tm 5)),
    .put 79 (.lens (.tm 78)),
    .put 80 (.mov (.ct (.one (.int .i64 0))))]) (.block 3 (.loop solve_manager_build.c69))) (.seq (.ops [.put 89 (.mov (.tm 8)),
    .put 4 (.mov (.tm 89))]) .ret))
def solve_manager_build.c9 : RC := (.seq (.ops [.put 16 (.cm .lt (.tm 15) (.tm 14))]) (.seq (.cond 16 .skip (.exit 0)) (.seq (.block 1 (.seq (.ops [.put 17 (.ia 3 (.tm 13) (.tm 15)),
    .put 18 (.ld true [.int .i64, .int .i64, .ac] (.tm 17)),
    .put 7 (.new 24 [(.int .i64 0), (.int .i64 0), (.sl none 0 0 (some 0))]),
    .run (.st 3 (.tm 7) (.tm 18))]) (.ops [.put 19 (.mov (.tm 5)),
    .put 20 (.mov (.tm 0)),
    .put 21 (.ld true [.int .i64, .int .i64, .ac] (.tm 7)),
    .put 22 (.call 43 [(.tm 20), (.tm 21)]),
    .put 23 (.blds 3 1 1 [(.int .i64 0)] [(0, 1, (.tm 22))]),
    .put 24 (.app 3 1 8 (.tm 19) (.tm 23)),
    .put 5 (.mov (.tm 24))]))) (.ops [.put 25 (.ar .add (.tm 15) (.ct (.one (.int .i64 1)))),
    .put 15 (.mov (.tm 25))]))))
def solve_manager_build.c : RC := (.seq (.ops [.put 3 (.box 24 (.tm 1)),
    .put 4 (.mov (.ct (.one (.int .i64 0))))]) (.seq (.ops [.put 5 (.mov (.ct (.one (.sl none 0 0 (some 0)))))]) (.seq (.seq (.ops [.put 12 (.fa 2 (.tm 3)),
    .put 13 (.ld false [.ac] (.tm 12)),
    .put 14 (.lens (.tm 13)),
    .put 15 (.mov (.ct (.one (.int .i64 0))))]) (.block 0 (.loop solve_manager_build.c9))) (.seq (.seq (.ops [.put 26 (.fa 0 (.tm 3)),
    .put 27 (.ld false [.int .i64] (.tm 26))]) (.block 2 (.seq (.ops [.put 29 (.cm .eq (.tm 27) (.ct (.one (.int .i64 1)))),
    .put 28 (.mov (.tm 29))]) (.cond 28 (.seq (.ops [.put 30 (.mov (.tm 0)),
    .put 31 (.fa 1 (.tm 3)),
    .put 32 (.ld false [.int .i64] (.tm 31)),
    .put 33 (.call 80 [(.tm 30), (.tm 32), (.ct (.one (.int .i64 (-1)))), (.ct (.one (.int .i64 (-2))))]),
    .put 4 (.mov (.tm 33))]) .ret) (.seq (.ops [.put 35 (.cm .eq (.tm 27) (.ct (.one (.int .i64 2)))),
    .put 34 (.mov (.tm 35))]) (.cond 34 (.seq (.ops [.put 36 (.blds 3 1 2 [(.int .i64 0), (.int .i64 0)] [(0, 1, (.ct (.one (.int .i64 (-1))))), (1, 1, (.ct (.one (.int .i64 (-2)))))]),
    .put 37 (.fa 1 (.tm 3)),
    .put 38 (.ld false [.int .i64] (.tm 37)),
    .put 39 (.ia 1 (.tm 36) (.tm 38)),
    .put 40 (.ld false [.int .i64] (.tm 39)),
    .put 4 (.mov (.tm 40))]) .ret) (.seq (.ops [.put 42 (.cm .eq (.tm 27) (.ct (.one (.int .i64 3)))),
    .put 41 (.mov (.tm 42))]) (.cond 41 (.seq (.ops [.put 43 (.mov (.tm 0)),
    .put 44 (.mov (.tm 5)),
    .put 45 (.ia 1 (.tm 44) (.ct (.one (.int .i64 0)))),
    .put 46 (.ld false [.int .i64] (.tm 45)),
    .put 47 (.call 56 [(.tm 43), (.tm 46)]),
    .put 4 (.mov (.tm 47))]) .ret) (.seq (.ops [.put 49 (.cm .eq (.tm 27) (.ct (.one (.int .i64 6)))),
    .put 48 (.mov (.tm 49))]) (.cond 48 (.seq (.ops [.put 50 (.mov (.tm 0)),
    .put 51 (.mov (.tm 5)),
    .put 52 (.ia 1 (.tm 51) (.ct (.one (.int .i64 0)))),
    .put 53 (.ld false [.int .i64] (.tm 52)),
    .put 54 (.mov (.tm 5)),
    .put 55 (.ia 1 (.tm 54) (.ct (.one (.int .i64 1)))),
    .put 56 (.ld false [.int .i64] (.tm 55)),
    .put 57 (.call 54 [(.tm 50), (.tm 53), (.tm 56)]),
    .put 4 (.mov (.tm 57))]) .ret) (.seq (.ops [.put 59 (.cm .eq (.tm 27) (.ct (.one (.int .i64 7)))),
    .put 58 (.mov (.tm 59))]) (.cond 58 (.seq (.ops [.put 60 (.mov (.tm 0)),
    .put 61 (.mov (.tm 5)),
    .put 62 (.ia 1 (.tm 61) (.ct (.one (.int .i64 0)))),
    .put 63 (.ld false [.int .i64] (.tm 62)),
    .put 64 (.mov (.tm 5)),
    .put 65 (.ia 1 (.tm 64) (.ct (.one (.int .i64 1)))),
    .put 66 (.ld false [.int .i64] (.tm 65)),
    .put 67 (.mov (.tm 5)),
    .put 68 (.ia 1 (.tm 67) (.ct (.one (.int .i64 2)))),
    .put 69 (.ld false [.int .i64] (.tm 68)),
    .put 70 (.call 81 [(.tm 60), (.tm 63), (.tm 66), (.tm 69)]),
    .put 4 (.mov (.tm 70))]) .ret) .skip)))))))))))) (.seq (.ops [.put 71 (.mov (.tm 0)),
    .put 72 (.fn 52 [(.tm 71)] []),
    .put 8 (.mov (.ct (.one (.int .i64 (-2))))),
    .put 9 (.mov (.tm 72))]) (.seq (.seq (.ops [.put 73 (.fa 0 (.tm 3)),
    .put 74 (.ld false [.int .i64] (.tm 73)),
    .put 75 (.cm .eq (.tm 74) (.ct (.one (.int .i64 5))))]) (.cond 75 (.ops [.put 76 (.mov (.tm 0)),
    .put 77 (.fn 53 [(.tm 76)] []),
    .put 8 (.mov (.ct (.one (.int .i64 (-1))))),
    .put 9 (.mov (.tm 77))]) .skip)) solve_manager_build.c64))))))
abbrev solve_manager_build.KQ (Q : AHeap → Int → Prop) : AV → AHeap → Prop := fun v H => ∃ xs : Tup (flat [(false, [.int .i64])]), v = joinR (splitP [(false, [.int .i64])] (cellsOf (flat [(false, [.int .i64])]) xs)) ∧ app (flat [(false, [.int .i64])]) (Q H) xs
abbrev solve_manager_build.K (Q : AHeap → Int → Prop) : Ex → Env → AHeap → Prop := kTop [.tm 4] (solve_manager_build.KQ Q)
abbrev solve_manager_build.k5 (Q : AHeap → Int → Prop) : Ex → Env → AHeap → Prop := kSeq (fun t H => wpC Try.prog (.seq (.seq (.ops [.put 26 (.fa 0 (.tm 3)),
    .put 27 (.ld false [.int .i64] (.tm 26))]) (.block 2 (.seq (.ops [.put 29 (.cm .eq (.tm 27) (.ct (.one (.int .i64 1)))),
    .put 28 (.mov (.tm 29))]) (.cond 28 (.seq (.ops [.put 30 (.mov (.tm 0)),
    .put 31 (.fa 1 (.tm 3)),
    .put 32 (.ld false [.int .i64] (.tm 31)),
    .put 33 (.call 80 [(.tm 30), (.tm 32), (.ct (.one (.int .i64 (-1)))), (.ct (.one (.int .i64 (-2))))]),
    .put 4 (.mov (.tm 33))]) .ret) (.seq (.ops [.put 35 (.cm .eq (.tm 27) (.ct (.one (.int .i64 2)))),
    .put 34 (.mov (.tm 35))]) (.cond 34 (.seq (.ops [.put 36 (.blds 3 1 2 [(.int .i64 0), (.int .i64 0)] [(0, 1, (.ct (.one (.int .i64 (-1))))), (1, 1, (.ct (.one (.int .i64 (-2)))))]),
    .put 37 (.fa 1 (.tm 3)),
    .put 38 (.ld false [.int .i64] (.tm 37)),
    .put 39 (.ia 1 (.tm 36) (.tm 38)),
    .put 40 (.ld false [.int .i64] (.tm 39)),
    .put 4 (.mov (.tm 40))]) .ret) (.seq (.ops [.put 42 (.cm .eq (.tm 27) (.ct (.one (.int .i64 3)))),
    .put 41 (.mov (.tm 42))]) (.cond 41 (.seq (.ops [.put 43 (.mov (.tm 0)),
    .put 44 (.mov (.tm 5)),
    .put 45 (.ia 1 (.tm 44) (.ct (.one (.int .i64 0)))),
    .put 46 (.ld false [.int .i64] (.tm 45)),
    .put 47 (.call 56 [(.tm 43), (.tm 46)]),
    .put 4 (.mov (.tm 47))]) .ret) (.seq (.ops [.put 49 (.cm .eq (.tm 27) (.ct (.one (.int .i64 6)))),
    .put 48 (.mov (.tm 49))]) (.cond 48 (.seq (.ops [.put 50 (.mov (.tm 0)),
    .put 51 (.mov (.tm 5)),
    .put 52 (.ia 1 (.tm 51) (.ct (.one (.int .i64 0)))),
    .put 53 (.ld false [.int .i64] (.tm 52)),
    .put 54 (.mov (.tm 5)),
    .put 55 (.ia 1 (.tm 54) (.ct (.one (.int .i64 1)))),
    .put 56 (.ld false [.int .i64] (.tm 55)),
    .put 57 (.call 54 [(.tm 50), (.tm 53), (.tm 56)]),
    .put 4 (.mov (.tm 57))]) .ret) (.seq (.ops [.put 59 (.cm .eq (.tm 27) (.ct (.one (.int .i64 7)))),
    .put 58 (.mov (.tm 59))]) (.cond 58 (.seq (.ops [.put 60 (.mov (.tm 0)),
    .put 61 (.mov (.tm 5)),
    .put 62 (.ia 1 (.tm 61) (.ct (.one (.int .i64 0)))),
    .put 63 (.ld false [.int .i64] (.tm 62)),
    .put 64 (.mov (.tm 5)),
    .put 65 (.ia 1 (.tm 64) (.ct (.one (.int .i64 1)))),
    .put 66 (.ld false [.int .i64] (.tm 65)),
    .put 67 (.mov (.tm 5)),
    .put 68 (.ia 1 (.tm 67) (.ct (.one (.int .i64 2)))),
    .put 69 (.ld false [.int .i64] (.tm 68)),
    .put 70 (.call 81 [(.tm 60), (.tm 63), (.tm 66), (.tm 69)]),
    .put 4 (.mov (.tm 70))]) .ret) .skip)))))))))))) (.seq (.ops [.put 71 (.mov (.tm 0)),
    .put 72 (.fn 52 [(.tm 71)] []),
    .put 8 (.mov (.ct (.one (.int .i64 (-2))))),
    .put 9 (.mov (.tm 72))]) (.seq (.seq (.ops [.put 73 (.fa 0 (.tm 3)),
    .put 74 (.ld false [.int .i64] (.tm 73)),
    .put 75 (.cm .eq (.tm 74) (.ct (.one (.int .i64 5))))]) (.cond 75 (.ops [.put 76 (.mov (.tm 0)),
    .put 77 (.fn 53 [(.tm 76)] []),
    .put 8 (.mov (.ct (.one (.int .i64 (-1))))),
    .put 9 (.mov (.tm 77))]) .skip)) solve_manager_build.c64))) t H (solve_manager_build.K Q)) (solve_manager_build.K Q)
abbrev solve_manager_build.k65 (Q : AHeap → Int → Prop) : Ex → Env → AHeap → Prop := kSeq (fun t H => wpC Try.prog (.seq (.ops [.put 89 (.mov (.tm 8)),
    .put 4 (.mov (.tm 89))]) .ret) t H (solve_manager_build.K Q)) (solve_manager_build.K Q)
def solve_manager_build.R68 (s : Tup [.int .i64, .ac, .ac, .int .i64, .int .i64]) (t : Env) : Prop := t 8 = (.one (.int .i64 (s.1))) ∧ t 9 = (.one (s.2.1)) ∧ t 78 = (.one (s.2.2.1)) ∧ t 79 = (.one (.int .i64 (s.2.2.2.1))) ∧ t 80 = (.one (.int .i64 (s.2.2.2.2.1))) ∧ True
def solve_manager_build.R8 (s : Tup [.ac, .ac, .ac, .ac, .int .i64, .int .i64]) (t : Env) : Prop := t 0 = (.one (s.1)) ∧ t 3 = (.one (s.2.1)) ∧ t 5 = (.one (s.2.2.1)) ∧ t 13 = (.one (s.2.2.2.1)) ∧ t 14 = (.one (.int .i64 (s.2.2.2.2.1))) ∧ t 15 = (.one (.int .i64 (s.2.2.2.2.2.1))) ∧ True
def solve_manager_build.b68 (Q : AHeap → Int → Prop) (Y68 : Tup [.int .i64, .ac, .ac, .int .i64, .int .i64] → AHeap → Prop) (x8 : Int) (x9 : AC) (x78 : AC) (x79 : Int) (x80 : Int) (H : AHeap) : Prop :=
  CondB (decide (x80 < x79))
    (IA 1 x78 x80 fun q_1 =>
    Ld [.int .i64] H q_1 fun (v_2 : Int) =>
    CVT Try.prog [(false, [.int .i64])] x9 [(.one (.int .i64 x8)), (.one (.int .i64 v_2))] H fun H_3 (v_4 : Int) =>
    Y68 ((v_4 : Int), x9, x78, (x79 : Int), ((IntKind.wrap .i64 (x80 + 1)) : Int), ()) H_3)
    (Q H x8)
def solve_manager_build.l68 (Q : AHeap → Int → Prop) (x8 : Int) (x9 : AC) (x78 : AC) (x79 : Int) (x80 : Int) (H : AHeap) : Prop := LoopT (Tup [.int .i64, .ac, .ac, .int .i64, .int .i64]) (fun Y s H => solve_manager_build.b68 Q Y (s.1) (s.2.1) (s.2.2.1) (s.2.2.2.1) (s.2.2.2.2.1) H) (x8, x9, x78, x79, x80, ()) H
def solve_manager_build.p64 (Q : AHeap → Int → Prop) (x5 : AC) (x8 : Int) (x9 : AC) (H : AHeap) : Prop :=
  LenS x5 fun n_1 =>
  solve_manager_build.l68 Q x8 x9 x5 n_1 0 H
def solve_manager_build.b8 (Q : AHeap → Int → Prop) (Y8 : Tup [.ac, .ac, .ac, .ac, .int .i64, .int .i64] → AHeap → Prop) (x0 : AC) (x3 : AC) (x5 : AC) (x13 : AC) (x14 : Int) (x15 : Int) (H : AHeap) : Prop :=
  CondB (decide (x15 < x14))
    (IA 3 x13 x15 fun q_1 =>
    Ld [.int .i64, .int .i64, .ac] H q_1 fun (v_2 : Int) (v_3 : Int) (v_4 : AC) =>
    New 24 [(.int .i64 0), (.int .i64 0), (.sl none 0 0 (some 0))] H fun p_5 H_6 =>
    Sto H_6 p_5 [(.int .i64 v_2), (.int .i64 v_3), v_4] fun H_7 =>
    Ld [.int .i64, .int .i64, .ac] H_7 p_5 fun (v_8 : Int) (v_9 : Int) (v_10 : AC) =>
    Fn.solve_manager_build x0 v_8 v_9 v_10 H_7 fun H_11 (v_12 : Int) =>
    NewS 3 1 1 [(.int .i64 v_12)] H_11 fun p_13 H_14 =>
    App 3 1 8 x5 p_13 H_14 fun s_15 H_16 =>
    Y8 (x0, x3, s_15, x13, (x14 : Int), ((IntKind.wrap .i64 (x15 + 1)) : Int), ()) H_16)
    (FA 0 x3 fun q_17 =>
    Ld [.int .i64] H q_17 fun (v_18 : Int) =>
    CondB (v_18 == 1)
      (FA 1 x3 fun q_19 =>
      Ld [.int .i64] H q_19 fun (v_20 : Int) =>
      Fn.solve_manager_node x0 v_20 (-1) (-2) H fun H_21 (v_22 : Int) =>
      Q H_21 v_22)
      (CondB (v_18 == 2)
        (NewS 3 1 2 [(.int .i64 (-1)), (.int .i64 (-2))] H fun p_23 H_24 =>
        FA 1 x3 fun q_25 =>
        Ld [.int .i64] H_24 q_25 fun (v_26 : Int) =>
        IA 1 p_23 v_26 fun q_27 =>
        Ld [.int .i64] H_24 q_27 fun (v_28 : Int) =>
        Q H_24 v_28)
        (CondB (v_18 == 3)
          (IA 1 x5 0 fun q_29 =>
          Ld [.int .i64] H q_29 fun (v_30 : Int) =>
          Fn.solve_manager_not x0 v_30 H fun H_31 (v_32 : Int) =>
          Q H_31 v_32)
          (CondB (v_18 == 6)
            (IA 1 x5 0 fun q_33 =>
            Ld [.int .i64] H q_33 fun (v_34 : Int) =>
            IA 1 x5 1 fun q_35 =>
            Ld [.int .i64] H q_35 fun (v_36 : Int) =>
            Fn.solve_manager_xor x0 v_34 v_36 H fun H_37 (v_38 : Int) =>
            Q H_37 v_38)
            (CondB (v_18 == 7)
              (IA 1 x5 0 fun q_39 =>
              Ld [.int .i64] H q_39 fun (v_40 : Int) =>
              IA 1 x5 1 fun q_41 =>
              Ld [.int .i64] H q_41 fun (v_42 : Int) =>
              IA 1 x5 2 fun q_43 =>
              Ld [.int .i64] H q_43 fun (v_44 : Int) =>
              Fn.solve_manager_ite x0 v_40 v_42 v_44 H fun H_45 (v_46 : Int) =>
              Q H_45 v_46)
              (Fnc 52 [x0] [] fun f_47 =>
              FA 0 x3 fun q_48 =>
              Ld [.int .i64] H q_48 fun (v_49 : Int) =>
              CondB (v_49 == 5)
                (Fnc 53 [x0] [] fun f_50 =>
                solve_manager_build.p64 Q x5 (-1) f_50 H)
                (solve_manager_build.p64 Q x5 (-2) f_47 H)))))))
def solve_manager_build.l8 (Q : AHeap → Int → Prop) (x0 : AC) (x3 : AC) (x5 : AC) (x13 : AC) (x14 : Int) (x15 : Int) (H : AHeap) : Prop := LoopT (Tup [.ac, .ac, .ac, .ac, .int .i64, .int .i64]) (fun Y s H => solve_manager_build.b8 Q Y (s.1) (s.2.1) (s.2.2.1) (s.2.2.2.1) (s.2.2.2.2.1) (s.2.2.2.2.2.1) H) (x0, x3, x5, x13, x14, x15, ()) H
def solve_manager_build.W (a0 : AC) (a1_0 : Int) (a1_1 : Int) (a1_2 : AC) (H : AHeap) (Q : AHeap → Int → Prop) : Prop :=
  New 24 [(.int .i64 a1_0), (.int .i64 a1_1), a1_2] H fun p_1 H_2 =>
  FA 2 p_1 fun q_3 =>
  Ld [.ac] H_2 q_3 fun (v_4 : AC) =>
  LenS v_4 fun n_5 =>
  solve_manager_build.l8 Q a0 p_1 (.sl none 0 0 (some 0)) v_4 n_5 0 H_2
theorem solve_manager_build.b68_ok (Q : AHeap → Int → Prop) (Y68 : Tup [.int .i64, .ac, .ac, .int .i64, .int .i64] → AHeap → Prop) (X68 : Env → AHeap → Prop) (hX68 : ∀ s t H, solve_manager_build.R68 s t → Y68 s H → X68 t H) {x8 : Int} {x9 : AC} {x78 : AC} {x79 : Int} {x80 : Int} {H : AHeap} (j : Env) : solve_manager_build.b68 Q Y68 x8 x9 x78 x79 x80 H → wpC Try.prog solve_manager_build.c69 (upd (upd (upd (upd (upd j 8 (.one (.int .i64 x8))) 9 (.one x9)) 78 (.one x78)) 79 (.one (.int .i64 x79))) 80 (.one (.int .i64 x80))) H (kSeq X68 (kBlk 3 (solve_manager_build.k65 Q))) := c_seq (c_ops (s_cons (w_put (o_lt rfl rfl (s_nil (k_seq (c_seq (c_if rfl (c_skip (k_seq (c_seq (c_blk (c_seq (c_ops (s_cons (w_put (o_ia rfl rfl (fun q_1 => s_cons (w_put (o_ld1 rfl (fun (v_2 : Int) => s_cons (w_put (o_mov rfl (s_nil (k_seq (c_ops (s_cons (w_put (o_mov rfl (s_cons (w_put (o_mov rfl (s_cons (w_put (o_mov rfl (s_cons (w_put (o_callv rfl rfl (cu_1 (fun H_3 (v_4 : Int) => s_cons (w_put (o_mov rfl (s_nil (k_blk (k_seq (c_ops (s_cons (w_put (o_add rfl rfl (s_cons (w_put (o_mov rfl (s_nil (k_seq (hX68 _ _ _ ⟨rfl, rfl, rfl, rfl, rfl, trivial⟩))))))))))))))))))))))))))))))))))))))))))))))) (c_exit (k_seqE (k_seqE (k_blkH (k_seq (c_seq (c_ops (s_cons (w_put (o_mov rfl (s_cons (w_put (o_mov rfl (s_nil (k_seq (c_ret (k_topR (r_one rfl (r_nil (fun h => ⟨((x8 : Int), ()), rfl, h⟩))))))))))))))))))))))))))))
theorem solve_manager_build.l68_ok (Q : AHeap → Int → Prop) {x8 : Int} {x9 : AC} {x78 : AC} {x79 : Int} {x80 : Int} {H : AHeap} {t : Env} (h8 : t 8 = (.one (.int .i64 x8))) (h9 : t 9 = (.one x9)) (h78 : t 78 = (.one x78)) (h79 : t 79 = (.one (.int .i64 x79))) (h80 : t 80 = (.one (.int .i64 x80))) : solve_manager_build.l68 Q x8 x9 x78 x79 x80 H → wpC Try.prog (.loop solve_manager_build.c69) t H (kBlk 3 (solve_manager_build.k65 Q)) :=
  m_loop solve_manager_build.R68 ⟨h8, h9, h78, h79, h80, trivial⟩ fun X Y hX s t H hR hB => by
    have g := solve_manager_build.b68_ok Q Y X hX t hB
    rw [upd_self hR.1] at g
    rw [upd_self hR.2.1] at g
    rw [upd_self hR.2.2.1] at g
    rw [upd_self hR.2.2.2.1] at g
    rw [upd_self hR.2.2.2.2.1] at g
    exact g
theorem solve_manager_build.p64_okE (Q : AHeap → Int → Prop) {x5 : AC} {x8 : Int} {x9 : AC} {H : AHeap} (j : Env) : solve_manager_build.p64 Q x5 x8 x9 H → wpC Try.prog solve_manager_build.c64 (upd (upd (upd j 5 (.one x5)) 8 (.one (.int .i64 x8))) 9 (.one x9)) H (solve_manager_build.K Q) := c_seq (c_seq (c_ops (s_cons (w_put (o_mov rfl (s_cons (w_put (o_lens rfl (fun n_1 => s_cons (w_put (o_mov rfl (s_nil (k_seq (c_blk (solve_manager_build.l68_ok Q rfl rfl rfl rfl rfl)))))))))))))))
theorem solve_manager_build.p64_ok (Q : AHeap → Int → Prop) {x5 : AC} {x8 : Int} {x9 : AC} {H : AHeap} {t : Env} (h5 : t 5 = (.one x5)) (h8 : t 8 = (.one (.int .i64 x8))) (h9 : t 9 = (.one x9)) (h : solve_manager_build.p64 Q x5 x8 x9 H) : wpC Try.prog solve_manager_build.c64 t H (solve_manager_build.K Q) := by
  have g := solve_manager_build.p64_okE Q t h
  rw [upd_self h5] at g
  rw [upd_self h8] at g
  rw [upd_self h9] at g
  exact g
theorem solve_manager_build.b8_ok (Q : AHeap → Int → Prop) (Y8 : Tup [.ac, .ac, .ac, .ac, .int .i64, .int .i64] → AHeap → Prop) (X8 : Env → AHeap → Prop) (hX8 : ∀ s t H, solve_manager_build.R8 s t → Y8 s H → X8 t H) {x0 : AC} {x3 : AC} {x5 : AC} {x13 : AC} {x14 : Int} {x15 : Int} {H : AHeap} (j : Env) : solve_manager_build.b8 Q Y8 x0 x3 x5 x13 x14 x15 H → wpC Try.prog solve_manager_build.c9 (upd (upd (upd (upd (upd (upd j 0 (.one x0)) 3 (.one x3)) 5 (.one x5)) 13 (.one x13)) 14 (.one (.int .i64 x14))) 15 (.one (.int .i64 x15))) H (kSeq X8 (kBlk 0 (solve_manager_build.k5 Q))) := c_seq (c_ops (s_cons (w_put (o_lt rfl rfl (s_nil (k_seq (c_seq (c_if rfl (c_skip (k_seq (c_seq (c_blk (c_seq (c_ops (s_cons (w_put (o_ia rfl rfl (fun q_1 => s_cons (w_put (o_ld3 rfl (fun (v_2 : Int) (v_3 : Int) (v_4 : AC) => s_cons (w_put (o_new (fun p_5 H_6 => s_cons (w_run (o_st rfl rfl rfl (fun H_7 => s_nil (k_seq (c_ops (s_cons (w_put (o_mov rfl (s_cons (w_put (o_mov rfl (s_cons (w_put (o_ld3 rfl (fun (v_8 : Int) (v_9 : Int) (v_10 : AC) => s_cons (w_put (o_call rfl (cv_1 (fun H_11 (v_12 : Int) => s_cons (w_put (o_blds rfl (fun p_13 H_14 => s_cons (w_put (o_app rfl rfl (fun s_15 H_16 => s_cons (w_put (o_mov rfl (s_nil (k_blk (k_seq (c_ops (s_cons (w_put (o_add rfl rfl (s_cons (w_put (o_mov rfl (s_nil (k_seq (hX8 _ _ _ ⟨rfl, rfl, rfl, rfl, rfl, rfl, trivial⟩)))))))))))))))))))))))))))))))))))))))))))))))))))))))) (c_exit (k_seqE (k_seqE (k_blkH (k_seq (c_seq (c_seq (c_ops (s_cons (w_put (o_fa rfl (fun q_17 => s_cons (w_put (o_ld1 rfl (fun (v_18 : Int) => s_nil (k_seq (c_blk (c_seq (c_ops (s_cons (w_put (o_eq rfl rfl (s_cons (w_put (o_mov rfl (s_nil (k_seq (c_if rfl (c_seq (c_ops (s_cons (w_put (o_mov rfl (s_cons (w_put (o_fa rfl (fun q_19 => s_cons (w_put (o_ld1 rfl (fun (v_20 : Int) => s_cons (w_put (o_call rfl (cv_1 (fun H_21 (v_22 : Int) => s_cons (w_put (o_mov rfl (s_nil (k_seq (c_ret (k_blkR (k_seqR (k_topR (r_one rfl (r_nil (fun h => ⟨((v_22 : Int), ()), rfl, h⟩))))))))))))))))))))))))))) (c_seq (c_ops (s_cons (w_put (o_eq rfl rfl (s_cons (w_put (o_mov rfl (s_nil (k_seq (c_if rfl (c_seq (c_ops (s_cons (w_put (o_blds rfl (fun p_23 H_24 => s_cons (w_put (o_fa rfl (fun q_25 => s_cons (w_put (o_ld1 rfl (fun (v_26 : Int) => s_cons (w_put (o_ia rfl rfl (fun q_27 => s_cons (w_put (o_ld1 rfl (fun (v_28 : Int) => s_cons (w_put (o_mov rfl (s_nil (k_seq (c_ret (k_blkR (k_seqR (k_topR (r_one rfl (r_nil (fun h => ⟨((v_28 : Int), ()), rfl, h⟩))))))))))))))))))))))))))))) (c_seq (c_ops (s_cons (w_put (o_eq rfl rfl (s_cons (w_put (o_mov rfl (s_nil (k_seq (c_if rfl (c_seq (c_ops (s_cons (w_put (o_mov rfl (s_cons (w_put (o_mov rfl (s_cons (w_put (o_ia rfl rfl (fun q_29 => s_cons (w_put (o_ld1 rfl (fun (v_30 : Int) => s_cons (w_put (o_call rfl (cv_1 (fun H_31 (v_32 : Int) => s_cons (w_put (o_mov rfl (s_nil (k_seq (c_ret (k_blkR (k_seqR (k_topR (r_one rfl (r_nil (fun h => ⟨((v_32 : Int), ()), rfl, h⟩)))))))))))))))))))))))))))))) (c_seq (c_ops (s_cons (w_put (o_eq rfl rfl (s_cons (w_put (o_mov rfl (s_nil (k_seq (c_if rfl (c_seq (c_ops (s_cons (w_put (o_mov rfl (s_cons (w_put (o_mov rfl (s_cons (w_put (o_ia rfl rfl (fun q_33 => s_cons (w_put (o_ld1 rfl (fun (v_34 : Int) => s_cons (w_put (o_mov rfl (s_cons (w_put (o_ia rfl rfl (fun q_35 => s_cons (w_put (o_ld1 rfl (fun (v_36 : Int) => s_cons (w_put (o_call rfl (cv_1 (fun H_37 (v_38 : Int) => s_cons (w_put (o_mov rfl (s_nil (k_seq (c_ret (k_blkR (k_seqR (k_topR (r_one rfl (r_nil (fun h => ⟨((v_38 : Int), ()), rfl, h⟩))))))))))))))))))))))))))))))))))))))) (c_seq (c_ops (s_cons (w_put (o_eq rfl rfl (s_cons (w_put (o_mov rfl (s_nil (k_seq (c_if rfl (c_seq (c_ops (s_cons (w_put (o_mov rfl (s_cons (w_put (o_mov rfl (s_cons (w_put (o_ia rfl rfl (fun q_39 => s_cons (w_put (o_ld1 rfl (fun (v_40 : Int) => s_cons (w_put (o_mov rfl (s_cons (w_put (o_ia rfl rfl (fun q_41 => s_cons (w_put (o_ld1 rfl (fun (v_42 : Int) => s_cons (w_put (o_mov rfl (s_cons (w_put (o_ia rfl rfl (fun q_43 => s_cons (w_put (o_ld1 rfl (fun (v_44 : Int) => s_cons (w_put (o_call rfl (cv_1 (fun H_45 (v_46 : Int) => s_cons (w_put (o_mov rfl (s_nil (k_seq (c_ret (k_blkR (k_seqR (k_topR (r_one rfl (r_nil (fun h => ⟨((v_46 : Int), ()), rfl, h⟩)))))))))))))))))))))))))))))))))))))))))))))))) (c_skip (k_blk (k_seq (c_seq (c_ops (s_cons (w_put (o_mov rfl (s_cons (w_put (o_fn rfl rfl (fun f_47 => s_cons (w_put (o_mov rfl (s_cons (w_put (o_mov rfl (s_nil (k_seq (c_seq (c_seq (c_ops (s_cons (w_put (o_fa rfl (fun q_48 => s_cons (w_put (o_ld1 rfl (fun (v_49 : Int) => s_cons (w_put (o_eq rfl rfl (s_nil (k_seq (c_if rfl (c_ops (s_cons (w_put (o_mov rfl (s_cons (w_put (o_fn rfl rfl (fun f_50 => s_cons (w_put (o_mov rfl (s_cons (w_put (o_mov rfl (s_nil (k_seq (solve_manager_build.p64_ok Q rfl rfl rfl)))))))))))))))) (c_skip (k_seq (solve_manager_build.p64_ok Q rfl rfl rfl)))))))))))))))))))))))))))))))))))))))))))))))))))))))))))))))))))))))))))))))))))))))))))))))))))))))))))))))))))))
theorem solve_manager_build.l8_ok (Q : AHeap → Int → Prop) {x0 : AC} {x3 : AC} {x5 : AC} {x13 : AC} {x14 : Int} {x15 : Int} {H : AHeap} {t : Env} (h0 : t 0 = (.one x0)) (h3 : t 3 = (.one x3)) (h5 : t 5 = (.one x5)) (h13 : t 13 = (.one x13)) (h14 : t 14 = (.one (.int .i64 x14))) (h15 : t 15 = (.one (.int .i64 x15))) : solve_manager_build.l8 Q x0 x3 x5 x13 x14 x15 H → wpC Try.prog (.loop solve_manager_build.c9) t H (kBlk 0 (solve_manager_build.k5 Q)) :=
  m_loop solve_manager_build.R8 ⟨h0, h3, h5, h13, h14, h15, trivial⟩ fun X Y hX s t H hR hB => by
    have g := solve_manager_build.b8_ok Q Y X hX t hB
    rw [upd_self hR.1] at g
    rw [upd_self hR.2.1] at g
    rw [upd_self hR.2.2.1] at g
    rw [upd_self hR.2.2.2.1] at g
    rw [upd_self hR.2.2.2.2.1] at g
    rw [upd_self hR.2.2.2.2.2.1] at g
    exact g
theorem solve_manager_build.ok {a0 : AC} {a1_0 : Int} {a1_1 : Int} {a1_2 : AC} {H : AHeap} (Q : AHeap → Int → Prop) : solve_manager_build.W a0 a1_0 a1_1 a1_2 H Q → wpF Try.prog solve_manager_build.c [.tm 4] (envOf [(.one a0), (.agg [(.int .i64 a1_0), (.int .i64 a1_1), a1_2])]) H (solve_manager_build.KQ Q) := c_seq (c_ops (s_cons (w_put (o_box rfl (fun p_1 H_2 => s_cons (w_put (o_mov rfl (s_nil (k_seq (c_seq (c_ops (s_cons (w_put (o_mov rfl (s_nil (k_seq (c_seq (c_seq (c_ops (s_cons (w_put (o_fa rfl (fun q_3 => s_cons (w_put (o_ld1 rfl (fun (v_4 : AC) => s_cons (w_put (o_lens rfl (fun n_5 => s_cons (w_put (o_mov rfl (s_nil (k_seq (c_blk (solve_manager_build.l8_ok Q rfl rfl rfl rfl rfl rfl)))))))))))))))))))))))))))))))))))
theorem solve_manager_build.slimOk : slimOk [(15, []), (17, [])] (Try.f43.body.getD .skip) = true := by kernel_rfl
theorem solve_manager_build.resC : resC Try.prog aggs Try.f43.ntmps (slim [(15, []), (17, [])] (Try.f43.body.getD .skip)) = some solve_manager_build.c := by kernel_rfl
theorem solve_manager_build.resR : resR Try.prog Try.f43.results.toList = some [.tm 4] := by kernel_rfl
theorem solve_manager_build.bodyEq : Try.f43.body = some (Try.f43.body.getD .skip) := by kernel_rfl
theorem solve_manager_build.run {a0 : AC} {a1_0 : Int} {a1_1 : Int} {a1_2 : AC} {H : AHeap} {Q : AHeap → Int → Prop} (h : solve_manager_build.W a0 a1_0 a1_1 a1_2 H Q) : Fn.solve_manager_build a0 a1_0 a1_1 a1_2 H Q := by
  unfold Fn.solve_manager_build RunT
  exact run_of aggs_ok [(15, []), (17, [])] Try.func43 solve_manager_build.bodyEq solve_manager_build.slimOk solve_manager_build.resC solve_manager_build.resR (Nat.le_of_ble_eq_true (by kernel_rfl)) (solve_manager_build.ok Q h)

end Go.Proofs.Ytanaaabejeeakaa
end
section
/- What the functions on formulas come to. -/
namespace Go.Proofs.Ytanaaabejeeakaa
open Go.AI

end Go.Proofs.Ytanaaabejeeakaa
end
section
/- Printed by a program: functions and what must hold ahead of them. -/
namespace Go.Proofs.Ytanaaabejeeakaa
open Go.AI
set_option maxRecDepth 100000
set_option maxHeartbeats 2000000
set_option linter.unusedVariables false
attribute [local irreducible] Ld Sto New NewS NewM NN NZ GE0 FA IA IAP LenS Slc App Cpy Clr MkS Fnc NilQ IxS Look MSet Run CV RunT CVT LoopT Same1 Same2 wpC wpOs wpT wpO wpOp

def solve_Build.c : RC := (.seq (.ops [.put 1 (.box 24 (.tm 0)),
    .put 2 (.new 27 [(.sl none 0 0 (some 0)), (.int .i64 0)]),
    .put 3 (.mov (.ct (.one (.int .i64 0))))]) (.seq (.seq (.ops [.put 6 (.ld true [.int .i64, .int .i64, .ac] (.tm 1)),
    .put 7 (.call 15 [(.tm 6)]),
    .put 4 (.mov (.tm 7))]) (.seq (.ops [.put 8 (.mov (.tm 4)),
    .put 9 (.cm .ne (.tm 8) (.ct (.one (.int .i64 0))))]) (.cond 9 (.seq (.ops [.put 10 (.bld [(.sl none 0 0 (some 0)), (.int .i64 0)] []),
    .put 11 (.mov (.tm 4)),
    .run (.st 2 (.tm 2) (.tm 10)),
    .put 3 (.mov (.tm 11))]) .ret) .skip))) (.seq (.ops [.put 12 (.call 41 []),
    .put 5 (.mov (.tm 12))]) (.seq (.ops [.put 13 (.mov (.tm 5)),
    .put 14 (.mov (.tm 5)),
    .put 15 (.ld true [.int .i64, .int .i64, .ac] (.tm 1)),
    .put 16 (.call 43 [(.tm 14), (.tm 15)]),
    .put 17 (.call 42 [(.tm 13), (.tm 16)]),
    .put 18 (.ex (.tm 17) 0),
    .put 19 (.ex (.tm 17) 1),
    .run (.st 2 (.tm 2) (.tm 18)),
    .put 3 (.mov (.tm 19))]) .ret))))
abbrev solve_Build.KQ (Q : AHeap → AC → Int → Int → Prop) : AV → AHeap → Prop := fun v H => ∃ xs : Tup (flat [(true, [.ac, .int .i64]), (false, [.int .i64])]), v = joinR (splitP [(true, [.ac, .int .i64]), (false, [.int .i64])] (cellsOf (flat [(true, [.ac, .int .i64]), (false, [.int .i64])]) xs)) ∧ app (flat [(true, [.ac, .int .i64]), (false, [.int .i64])]) (Q H) xs
abbrev solve_Build.K (Q : AHeap → AC → Int → Int → Prop) : Ex → Env → AHeap → Prop := kTop [.cell 2 true [.ac, .int .i64], .tm 3] (solve_Build.KQ Q)
def solve_Build.W (a0_0 : Int) (a0_1 : Int) (a0_2 : AC) (H : AHeap) (Q : AHeap → AC → Int → Int → Prop) : Prop :=
  New 24 [(.int .i64 a0_0), (.int .i64 a0_1), a0_2] H fun p_1 H_2 =>
  New 27 [(.sl none 0 0 (some 0)), (.int .i64 0)] H_2 fun p_3 H_4 =>
  Ld [.int .i64, .int .i64, .ac] H_4 p_1 fun (v_5 : Int) (v_6 : Int) (v_7 : AC) =>
  Fn.solve_CheckBool v_5 v_6 v_7 H_4 fun H_8 (v_9 : Int) =>
  CondB (v_9 != 0)
    (Sto H_8 p_3 [(.sl none 0 0 (some 0)), (.int .i64 0)] fun H_10 =>
    Ld [.ac, .int .i64] H_10 p_3 fun (r0_11 : AC) (r1_12 : Int) =>
    Q H_10 r0_11 r1_12 v_9)
    (Fn.solve_newManager  H_8 fun H_13 (v_14 : AC) =>
    Ld [.int .i64, .int .i64, .ac] H_13 p_1 fun (v_15 : Int) (v_16 : Int) (v_17 : AC) =>
    Fn.solve_manager_build v_14 v_15 v_16 v_17 H_13 fun H_18 (v_19 : Int) =>
    Fn.solve_manager_result v_14 v_19 H_18 fun H_20 (v_21 : AC) (v_22 : Int) (v_23 : Int) =>
    Sto H_20 p_3 [v_21, (.int .i64 v_22)] fun H_24 =>
    Ld [.ac, .int .i64] H_24 p_3 fun (r0_25 : AC) (r1_26 : Int) =>
    Q H_24 r0_25 r1_26 v_23)
theorem solve_Build.ok {a0_0 : Int} {a0_1 : Int} {a0_2 : AC} {H : AHeap} (Q : AHeap → AC → Int → Int → Prop) : solve_Build.W a0_0 a0_1 a0_2 H Q → wpF Try.prog solve_Build.c [.cell 2 true [.ac, .int .i64], .tm 3] (envOf [(.agg [(.int .i64 a0_0), (.int .i64 a0_1), a0_2])]) H (solve_Build.KQ Q) := c_seq (c_ops (s_cons (w_put (o_box rfl (fun p_1 H_2 => s_cons (w_put (o_new (fun p_3 H_4 => s_cons (w_put (o_mov rfl (s_nil (k_seq (c_seq (c_seq (c_ops (s_cons (w_put (o_ld3 rfl (fun (v_5 : Int) (v_6 : Int) (v_7 : AC) => s_cons (w_put (o_call rfl (cv_1 (fun H_8 (v_9 : Int) => s_cons (w_put (o_mov rfl (s_nil (k_seq (c_seq (c_ops (s_cons (w_put (o_mov rfl (s_cons (w_put (o_ne rfl rfl (s_nil (k_seq (c_if rfl (c_seq (c_ops (s_cons (w_put (o_bld rfl (s_cons (w_put (o_mov rfl (s_cons (w_run (o_st rfl rfl rfl (fun H_10 => s_cons (w_put (o_mov rfl (s_nil (k_seq (c_ret (k_seqR (k_topR (r_cell2 rfl (fun (r0_11 : AC) (r1_12 : Int) => r_one rfl (r_nil (fun h => ⟨(r0_11, (r1_12 : Int), (v_9 : Int), ()), rfl, h⟩))))))))))))))))))))))) (c_skip (k_seq (c_seq (c_ops (s_cons (w_put (o_call rfl (cv_1 (fun H_13 (v_14 : AC) => s_cons (w_put (o_mov rfl (s_nil (k_seq (c_seq (c_ops (s_cons (w_put (o_mov rfl (s_cons (w_put (o_mov rfl (s_cons (w_put (o_ld3 rfl (fun (v_15 : Int) (v_16 : Int) (v_17 : AC) => s_cons (w_put (o_call rfl (cv_1 (fun H_18 (v_19 : Int) => s_cons (w_put (o_call rfl (cv_a2_o1 (fun H_20 (v_21 : AC) (v_22 : Int) (v_23 : Int) => s_cons (w_put (o_ex rfl rfl rfl (s_cons (w_put (o_ex rfl rfl rfl (s_cons (w_run (o_st rfl rfl rfl (fun H_24 => s_cons (w_put (o_mov rfl (s_nil (k_seq (c_ret (k_topR (r_cell2 rfl (fun (r0_25 : AC) (r1_26 : Int) => r_one rfl (r_nil (fun h => ⟨(r0_25, (r1_26 : Int), (v_23 : Int), ()), rfl, h⟩))))))))))))))))))))))))))))))))))))))))))))))))))))))))))))))))))))))))))))))))))))))))))
theorem solve_Build.slimOk : slimOk [] (Try.f13.body.getD .skip) = true := by kernel_rfl
theorem solve_Build.resC : resC Try.prog aggs Try.f13.ntmps (slim [] (Try.f13.body.getD .skip)) = some solve_Build.c := by kernel_rfl
theorem solve_Build.resR : resR Try.prog Try.f13.results.toList = some [.cell 2 true [.ac, .int .i64], .tm 3] := by kernel_rfl
theorem solve_Build.bodyEq : Try.f13.body = some (Try.f13.body.getD .skip) := by kernel_rfl
theorem solve_Build.run {a0_0 : Int} {a0_1 : Int} {a0_2 : AC} {H : AHeap} {Q : AHeap → AC → Int → Int → Prop} (h : solve_Build.W a0_0 a0_1 a0_2 H Q) : Fn.solve_Build a0_0 a0_1 a0_2 H Q := by
  unfold Fn.solve_Build RunT
  exact run_of aggs_ok [] Try.func13 solve_Build.bodyEq solve_Build.slimOk solve_Build.resC solve_Build.resR (Nat.le_of_ble_eq_true (by kernel_rfl)) (solve_Build.ok Q h)

def solve_CheckBool.c : RC := (.seq (.ops [.put 1 (.box 24 (.tm 0)),
    .put 2 (.mov (.ct (.one (.int .i64 0))))]) (.seq (.seq (.ops [.put 3 (.ld true [.int .i64, .int .i64, .ac] (.tm 1)),
    .put 4 (.call 46 [(.tm 3), (.ct (.one (.int .i64 300)))]),
    .put 5 (.cm .gt (.tm 4) (.ct (.one (.int .i64 300))))]) (.cond 5 (.seq (.ops [.put 2 (.mov (.ct (.one (.int .i64 3))))]) .ret) .skip)) (.seq (.ops [.put 6 (.ld true [.int .i64, .int .i64, .ac] (.tm 1)),
    .put 7 (.call 47 [(.tm 6)]),
    .put 2 (.mov (.tm 7))]) .ret)))
abbrev solve_CheckBool.KQ (Q : AHeap → Int → Prop) : AV → AHeap → Prop := fun v H => ∃ xs : Tup (flat [(false, [.int .i64])]), v = joinR (splitP [(false, [.int .i64])] (cellsOf (flat [(false, [.int .i64])]) xs)) ∧ app (flat [(false, [.int .i64])]) (Q H) xs
abbrev solve_CheckBool.K (Q : AHeap → Int → Prop) : Ex → Env → AHeap → Prop := kTop [.tm 2] (solve_CheckBool.KQ Q)
def solve_CheckBool.W (a0_0 : Int) (a0_1 : Int) (a0_2 : AC) (H : AHeap) (Q : AHeap → Int → Prop) : Prop :=
  New 24 [(.int .i64 a0_0), (.int .i64 a0_1), a0_2] H fun p_1 H_2 =>
  Ld [.int .i64, .int .i64, .ac] H_2 p_1 fun (v_3 : Int) (v_4 : Int) (v_5 : AC) =>
  Fn.solve_nodes v_3 v_4 v_5 300 H_2 fun H_6 (v_7 : Int) =>
  CondB (decide (v_7 > 300))
    (Q H_6 3)
    (Ld [.int .i64, .int .i64, .ac] H_6 p_1 fun (v_8 : Int) (v_9 : Int) (v_10 : AC) =>
    Fn.solve_boolFault v_8 v_9 v_10 H_6 fun H_11 (v_12 : Int) =>
    Q H_11 v_12)
theorem solve_CheckBool.ok {a0_0 : Int} {a0_1 : Int} {a0_2 : AC} {H : AHeap} (Q : AHeap → Int → Prop) : solve_CheckBool.W a0_0 a0_1 a0_2 H Q → wpF Try.prog solve_CheckBool.c [.tm 2] (envOf [(.agg [(.int .i64 a0_0), (.int .i64 a0_1), a0_2])]) H (solve_CheckBool.KQ Q) := c_seq (c_ops (s_cons (w_put (o_box rfl (fun p_1 H_2 => s_cons (w_put (o_mov rfl (s_nil (k_seq (c_seq (c_seq (c_ops (s_cons (w_put (o_ld3 rfl (fun (v_3 : Int) (v_4 : Int) (v_5 : AC) => s_cons (w_put (o_call rfl (cv_1 (fun H_6 (v_7 : Int) => s_cons (w_put (o_gt rfl rfl (s_nil (k_seq (c_if rfl (c_seq (c_ops (s_cons (w_put (o_mov rfl (s_nil (k_seq (c_ret (k_seqR (k_topR (r_one rfl (r_nil (fun h => ⟨((3 : Int), ()), rfl, h⟩))))))))))))) (c_skip (k_seq (c_seq (c_ops (s_cons (w_put (o_ld3 rfl (fun (v_8 : Int) (v_9 : Int) (v_10 : AC) => s_cons (w_put (o_call rfl (cv_1 (fun H_11 (v_12 : Int) => s_cons (w_put (o_mov rfl (s_nil (k_seq (c_ret (k_topR (r_one rfl (r_nil (fun h => ⟨((v_12 : Int), ()), rfl, h⟩))))))))))))))))))))))))))))))))))))))))))))))
theorem solve_CheckBool.slimOk : slimOk [] (Try.f15.body.getD .skip) = true := by kernel_rfl
theorem solve_CheckBool.resC : resC Try.prog aggs Try.f15.ntmps (slim [] (Try.f15.body.getD .skip)) = some solve_CheckBool.c := by kernel_rfl
theorem solve_CheckBool.resR : resR Try.prog Try.f15.results.toList = some [.tm 2] := by kernel_rfl
theorem solve_CheckBool.bodyEq : Try.f15.body = some (Try.f15.body.getD .skip) := by kernel_rfl
theorem solve_CheckBool.run {a0_0 : Int} {a0_1 : Int} {a0_2 : AC} {H : AHeap} {Q : AHeap → Int → Prop} (h : solve_CheckBool.W a0_0 a0_1 a0_2 H Q) : Fn.solve_CheckBool a0_0 a0_1 a0_2 H Q := by
  unfold Fn.solve_CheckBool RunT
  exact run_of aggs_ok [] Try.func15 solve_CheckBool.bodyEq solve_CheckBool.slimOk solve_CheckBool.resC solve_CheckBool.resR (Nat.le_of_ble_eq_true (by kernel_rfl)) (solve_CheckBool.ok Q h)

def fetterlockref6_OfTable.c : RC := (.seq (.ops [.put 2 (.new 27 [(.sl none 0 0 (some 0)), (.int .i64 0)]),
    .put 3 (.mov (.ct (.one (.int .i64 0))))]) (.seq (.ops [.put 7 (.bld [(.sl none 0 0 (some 0)), (.sl none 0 0 (some 0)), (.bool false)] []),
    .put 8 (.mov (.tm 0)),
    .put 9 (.call 48 [(.tm 7), (.tm 8), (.ct (.one (.int .i64 0)))]),
    .put 6 (.mov (.tm 9)),
    .put 10 (.ex (.tm 6) 0),
    .put 11 (.ex (.tm 6) 1),
    .put 4 (.new 71 [(.sl none 0 0 (some 0)), (.sl none 0 0 (some 0)), (.bool false)]),
    .run (.st 3 (.tm 4) (.tm 10)),
    .put 5 (.mov (.tm 11))]) (.seq (.seq (.ops [.put 12 (.fa 2 (.tm 4)),
    .put 13 (.ld false [.bool] (.tm 12))]) (.cond 13 (.seq (.ops [.put 14 (.bld [(.sl none 0 0 (some 0)), (.int .i64 0)] []),
    .run (.st 2 (.tm 2) (.tm 14)),
    .put 3 (.mov (.ct (.one (.int .i64 3))))]) .ret) .skip)) (.seq (.ops [.put 15 (.fa 0 (.tm 4)),
    .put 16 (.ld false [.ac] (.tm 15)),
    .put 17 (.mov (.tm 5)),
    .put 18 (.bld [(.sl none 0 0 (some 0)), (.int .i64 0)] [(0, 1, (.tm 16)), (1, 1, (.tm 17))]),
    .run (.st 2 (.tm 2) (.tm 18)),
    .put 3 (.mov (.ct (.one (.int .i64 0))))]) .ret))))
abbrev fetterlockref6_OfTable.KQ (Q : AHeap → AC → Int → Int → Prop) : AV → AHeap → Prop := fun v H => ∃ xs : Tup (flat [(true, [.ac, .int .i64]), (false, [.int .i64])]), v = joinR (splitP [(true, [.ac, .int .i64]), (false, [.int .i64])] (cellsOf (flat [(true, [.ac, .int .i64]), (false, [.int .i64])]) xs)) ∧ app (flat [(true, [.ac, .int .i64]), (false, [.int .i64])]) (Q H) xs
abbrev fetterlockref6_OfTable.K (Q : AHeap → AC → Int → Int → Prop) : Ex → Env → AHeap → Prop := kTop [.cell 2 true [.ac, .int .i64], .tm 3] (fetterlockref6_OfTable.KQ Q)
def fetterlockref6_OfTable.W (a0 : AC) (H : AHeap) (Q : AHeap → AC → Int → Int → Prop) : Prop :=
  New 27 [(.sl none 0 0 (some 0)), (.int .i64 0)] H fun p_1 H_2 =>
  Fn.fetterlockref6_walk (.sl none 0 0 (some 0)) (.sl none 0 0 (some 0)) false a0 0 H_2 fun H_3 (v_4 : AC) (v_5 : AC) (v_6 : Bool) (v_7 : Int) =>
  New 71 [(.sl none 0 0 (some 0)), (.sl none 0 0 (some 0)), (.bool false)] H_3 fun p_8 H_9 =>
  Sto H_9 p_8 [v_4, v_5, (.bool v_6)] fun H_10 =>
  FA 2 p_8 fun q_11 =>
  Ld [.bool] H_10 q_11 fun (v_12 : Bool) =>
  CondB v_12
    (Sto H_10 p_1 [(.sl none 0 0 (some 0)), (.int .i64 0)] fun H_13 =>
    Ld [.ac, .int .i64] H_13 p_1 fun (r0_14 : AC) (r1_15 : Int) =>
    Q H_13 r0_14 r1_15 3)
    (FA 0 p_8 fun q_16 =>
    Ld [.ac] H_10 q_16 fun (v_17 : AC) =>
    Sto H_10 p_1 [v_17, (.int .i64 v_7)] fun H_18 =>
    Ld [.ac, .int .i64] H_18 p_1 fun (r0_19 : AC) (r1_20 : Int) =>
    Q H_18 r0_19 r1_20 0)
theorem fetterlockref6_OfTable.ok {a0 : AC} {H : AHeap} (Q : AHeap → AC → Int → Int → Prop) : fetterlockref6_OfTable.W a0 H Q → wpF Try.prog fetterlockref6_OfTable.c [.cell 2 true [.ac, .int .i64], .tm 3] (envOf [(.one a0)]) H (fetterlockref6_OfTable.KQ Q) := c_seq (c_ops (s_cons (w_put (o_new (fun p_1 H_2 => s_cons (w_put (o_mov rfl (s_nil (k_seq (c_seq (c_ops (s_cons (w_put (o_bld rfl (s_cons (w_put (o_mov rfl (s_cons (w_put (o_call rfl (cv_a3_o1 (fun H_3 (v_4 : AC) (v_5 : AC) (v_6 : Bool) (v_7 : Int) => s_cons (w_put (o_mov rfl (s_cons (w_put (o_ex rfl rfl rfl (s_cons (w_put (o_ex rfl rfl rfl (s_cons (w_put (o_new (fun p_8 H_9 => s_cons (w_run (o_st rfl rfl rfl (fun H_10 => s_cons (w_put (o_mov rfl (s_nil (k_seq (c_seq (c_seq (c_ops (s_cons (w_put (o_fa rfl (fun q_11 => s_cons (w_put (o_ld1 rfl (fun (v_12 : Bool) => s_nil (k_seq (c_if rfl (c_seq (c_ops (s_cons (w_put (o_bld rfl (s_cons (w_run (o_st rfl rfl rfl (fun H_13 => s_cons (w_put (o_mov rfl (s_nil (k_seq (c_ret (k_seqR (k_topR (r_cell2 rfl (fun (r0_14 : AC) (r1_15 : Int) => r_one rfl (r_nil (fun h => ⟨(r0_14, (r1_15 : Int), (3 : Int), ()), rfl, h⟩)))))))))))))))))))) (c_skip (k_seq (c_seq (c_ops (s_cons (w_put (o_fa rfl (fun q_16 => s_cons (w_put (o_ld1 rfl (fun (v_17 : AC) => s_cons (w_put (o_mov rfl (s_cons (w_put (o_bld rfl (s_cons (w_run (o_st rfl rfl rfl (fun H_18 => s_cons (w_put (o_mov rfl (s_nil (k_seq (c_ret (k_topR (r_cell2 rfl (fun (r0_19 : AC) (r1_20 : Int) => r_one rfl (r_nil (fun h => ⟨(r0_19, (r1_20 : Int), (0 : Int), ()), rfl, h⟩)))))))))))))))))))))))))))))))))))))))))))))))))))))))))))))))))))))))))))))))))))
theorem fetterlockref6_OfTable.slimOk : slimOk [] (Try.f16.body.getD .skip) = true := by kernel_rfl
theorem fetterlockref6_OfTable.resC : resC Try.prog aggs Try.f16.ntmps (slim [] (Try.f16.body.getD .skip)) = some fetterlockref6_OfTable.c := by kernel_rfl
theorem fetterlockref6_OfTable.resR : resR Try.prog Try.f16.results.toList = some [.cell 2 true [.ac, .int .i64], .tm 3] := by kernel_rfl
theorem fetterlockref6_OfTable.bodyEq : Try.f16.body = some (Try.f16.body.getD .skip) := by kernel_rfl
theorem fetterlockref6_OfTable.run {a0 : AC} {H : AHeap} {Q : AHeap → AC → Int → Int → Prop} (h : fetterlockref6_OfTable.W a0 H Q) : Fn.fetterlockref6_OfTable a0 H Q := by
  unfold Fn.fetterlockref6_OfTable RunT
  exact run_of aggs_ok [] Try.func16 fetterlockref6_OfTable.bodyEq fetterlockref6_OfTable.slimOk fetterlockref6_OfTable.resC fetterlockref6_OfTable.resR (Nat.le_of_ble_eq_true (by kernel_rfl)) (fetterlockref6_OfTable.ok Q h)

def fetterlockref6_SameDiagram.c15 : RC := (.seq (.seq (.ops [.put 20 (.mov (.tm 5)),
    .put 21 (.fa 0 (.tm 2)),
    .put 22 (.ld false [.ac] (.tm 21)),
    .put 23 (.lens (.tm 22)),
    .put 24 (.cm .lt (.tm 20) (.tm 23))]) (.cond 24 .skip (.exit 0))) (.seq (.block 1 (.seq (.ops [.put 27 (.fa 0 (.tm 2)),
    .put 28 (.ld false [.ac] (.tm 27)),
    .put 29 (.mov (.tm 5)),
    .put 30 (.ia 3 (.tm 28) (.tm 29)),
    .put 31 (.ld true [.int .i64, .int .i64, .int .i64] (.tm 30)),
    .put 32 (.fa 0 (.tm 3)),
    .put 33 (.ld false [.ac] (.tm 32)),
    .put 34 (.mov (.tm 5)),
    .put 35 (.ia 3 (.tm 33) (.tm 34)),
    .put 36 (.ld true [.int .i64, .int .i64, .int .i64] (.tm 35)),
    .put 37 (.eqa true 3 (.tm 31) (.tm 36))]) (.cond 37 (.seq (.ops [.put 4 (.mov (.ct (.one (.bool false))))]) .ret) .skip))) (.ops [.put 25 (.mov (.tm 5)),
    .put 26 (.ar .add (.tm 25) (.ct (.one (.int .i64 1)))),
    .put 5 (.mov (.tm 26))])))
def fetterlockref6_SameDiagram.c5 : RC := (.cond 19 (.seq (.ops [.put 4 (.mov (.ct (.one (.bool false))))]) .ret) .skip)
def fetterlockref6_SameDiagram.c : RC := (.seq (.ops [.put 2 (.box 27 (.tm 0)),
    .put 3 (.box 27 (.tm 1)),
    .put 4 (.mov (.ct (.one (.bool false))))]) (.seq (.seq (.ops [.put 6 (.fa 0 (.tm 2)),
    .put 7 (.ld false [.ac] (.tm 6)),
    .put 8 (.lens (.tm 7)),
    .put 9 (.fa 0 (.tm 3)),
    .put 10 (.ld false [.ac] (.tm 9)),
    .put 11 (.lens (.tm 10)),
    .put 12 (.cm .ne (.tm 8) (.tm 11)),
    .put 13 (.mov (.tm 12)),
    .gput 14 13 false (.fa 1 (.tm 2)),
    .gput 15 13 false (.ld false [.int .i64] (.tm 14)),
    .gput 16 13 false (.fa 1 (.tm 3)),
    .gput 17 13 false (.ld false [.int .i64] (.tm 16)),
    .gput 18 13 false (.cm .ne (.tm 15) (.tm 17)),
    .put 19 (.pick (.tm 13) (.ct (.one (.bool true))) (.tm 18))]) fetterlockref6_SameDiagram.c5) (.seq (.seq (.ops [.put 5 (.mov (.ct (.one (.int .i64 0))))]) (.block 0 (.loop fetterlockref6_SameDiagram.c15))) (.seq (.ops [.put 4 (.mov (.ct (.one (.bool true))))]) .ret))))
abbrev fetterlockref6_SameDiagram.KQ (Q : AHeap → Bool → Prop) : AV → AHeap → Prop := fun v H => ∃ xs : Tup (flat [(false, [.bool])]), v = joinR (splitP [(false, [.bool])] (cellsOf (flat [(false, [.bool])]) xs)) ∧ app (flat [(false, [.bool])]) (Q H) xs
abbrev fetterlockref6_SameDiagram.K (Q : AHeap → Bool → Prop) : Ex → Env → AHeap → Prop := kTop [.tm 4] (fetterlockref6_SameDiagram.KQ Q)
abbrev fetterlockref6_SameDiagram.k3 (Q : AHeap → Bool → Prop) : Ex → Env → AHeap → Prop := kSeq (fun t H => wpC Try.prog (.seq (.seq (.ops [.put 5 (.mov (.ct (.one (.int .i64 0))))]) (.block 0 (.loop fetterlockref6_SameDiagram.c15))) (.seq (.ops [.put 4 (.mov (.ct (.one (.bool true))))]) .ret)) t H (fetterlockref6_SameDiagram.K Q)) (fetterlockref6_SameDiagram.K Q)
abbrev fetterlockref6_SameDiagram.k11 (Q : AHeap → Bool → Prop) : Ex → Env → AHeap → Prop := kSeq (fun t H => wpC Try.prog (.seq (.ops [.put 4 (.mov (.ct (.one (.bool true))))]) .ret) t H (fetterlockref6_SameDiagram.K Q)) (fetterlockref6_SameDiagram.K Q)
def fetterlockref6_SameDiagram.R14 (s : Tup [.ac, .ac, .int .i64]) (t : Env) : Prop := t 2 = (.one (s.1)) ∧ t 3 = (.one (s.2.1)) ∧ t 5 = (.one (.int .i64 (s.2.2.1))) ∧ True
def fetterlockref6_SameDiagram.b14 (Q : AHeap → Bool → Prop) (Y14 : Tup [.ac, .ac, .int .i64] → AHeap → Prop) (x2 : AC) (x3 : AC) (x5 : Int) (H : AHeap) : Prop :=
  FA 0 x2 fun q_1 =>
  Ld [.ac] H q_1 fun (v_2 : AC) =>
  LenS v_2 fun n_3 =>
  CondB (decide (x5 < n_3))
    (FA 0 x2 fun q_4 =>
    Ld [.ac] H q_4 fun (v_5 : AC) =>
    IA 3 v_5 x5 fun q_6 =>
    Ld [.int .i64, .int .i64, .int .i64] H q_6 fun (v_7 : Int) (v_8 : Int) (v_9 : Int) =>
    FA 0 x3 fun q_10 =>
    Ld [.ac] H q_10 fun (v_11 : AC) =>
    IA 3 v_11 x5 fun q_12 =>
    Ld [.int .i64, .int .i64, .int .i64] H q_12 fun (v_13 : Int) (v_14 : Int) (v_15 : Int) =>
    CondB (!(decide (([v_7, v_8, v_9] : List Int) = ([v_13, v_14, v_15] : List Int))))
      (Q H false)
      (Y14 (x2, x3, ((IntKind.wrap .i64 (x5 + 1)) : Int), ()) H))
    (Q H true)
def fetterlockref6_SameDiagram.l14 (Q : AHeap → Bool → Prop) (x2 : AC) (x3 : AC) (x5 : Int) (H : AHeap) : Prop := LoopT (Tup [.ac, .ac, .int .i64]) (fun Y s H => fetterlockref6_SameDiagram.b14 Q Y (s.1) (s.2.1) (s.2.2.1) H) (x2, x3, x5, ()) H
def fetterlockref6_SameDiagram.p5 (Q : AHeap → Bool → Prop) (x2 : AC) (x3 : AC) (x19 : Bool) (H : AHeap) : Prop :=
  CondB x19
    (Q H false)
    (fetterlockref6_SameDiagram.l14 Q x2 x3 0 H)
def fetterlockref6_SameDiagram.W (a0_0 : AC) (a0_1 : Int) (a1_0 : AC) (a1_1 : Int) (H : AHeap) (Q : AHeap → Bool → Prop) : Prop :=
  New 27 [a0_0, (.int .i64 a0_1)] H fun p_1 H_2 =>
  New 27 [a1_0, (.int .i64 a1_1)] H_2 fun p_3 H_4 =>
  FA 0 p_1 fun q_5 =>
  Ld [.ac] H_4 q_5 fun (v_6 : AC) =>
  LenS v_6 fun n_7 =>
  FA 0 p_3 fun q_8 =>
  Ld [.ac] H_4 q_8 fun (v_9 : AC) =>
  LenS v_9 fun n_10 =>
  CondB (n_7 != n_10)
    (fetterlockref6_SameDiagram.p5 Q p_1 p_3 true H_4)
    (FA 1 p_1 fun q_11 =>
    Ld [.int .i64] H_4 q_11 fun (v_12 : Int) =>
    FA 1 p_3 fun q_13 =>
    Ld [.int .i64] H_4 q_13 fun (v_14 : Int) =>
    fetterlockref6_SameDiagram.p5 Q p_1 p_3 (v_12 != v_14) H_4)
theorem fetterlockref6_SameDiagram.b14_ok (Q : AHeap → Bool → Prop) (Y14 : Tup [.ac, .ac, .int .i64] → AHeap → Prop) (X14 : Env → AHeap → Prop) (hX14 : ∀ s t H, fetterlockref6_SameDiagram.R14 s t → Y14 s H → X14 t H) {x2 : AC} {x3 : AC} {x5 : Int} {H : AHeap} (j : Env) : fetterlockref6_SameDiagram.b14 Q Y14 x2 x3 x5 H → wpC Try.prog fetterlockref6_SameDiagram.c15 (upd (upd (upd j 2 (.one x2)) 3 (.one x3)) 5 (.one (.int .i64 x5))) H (kSeq X14 (kBlk 0 (fetterlockref6_SameDiagram.k11 Q))) := c_seq (c_seq (c_ops (s_cons (w_put (o_mov rfl (s_cons (w_put (o_fa rfl (fun q_1 => s_cons (w_put (o_ld1 rfl (fun (v_2 : AC) => s_cons (w_put (o_lens rfl (fun n_3 => s_cons (w_put (o_lt rfl rfl (s_nil (k_seq (c_if rfl (c_skip (k_seq (c_seq (c_blk (c_seq (c_ops (s_cons (w_put (o_fa rfl (fun q_4 => s_cons (w_put (o_ld1 rfl (fun (v_5 : AC) => s_cons (w_put (o_mov rfl (s_cons (w_put (o_ia rfl rfl (fun q_6 => s_cons (w_put (o_ld3 rfl (fun (v_7 : Int) (v_8 : Int) (v_9 : Int) => s_cons (w_put (o_fa rfl (fun q_10 => s_cons (w_put (o_ld1 rfl (fun (v_11 : AC) => s_cons (w_put (o_mov rfl (s_cons (w_put (o_ia rfl rfl (fun q_12 => s_cons (w_put (o_ld3 rfl (fun (v_13 : Int) (v_14 : Int) (v_15 : Int) => s_cons (w_put (o_nea rfl rfl rfl rfl rfl (s_nil (k_seq (c_if rfl (c_seq (c_ops (s_cons (w_put (o_mov rfl (s_nil (k_seq (c_ret (k_blkR (k_seqR (k_seqR (k_blkR (k_seqR (k_topR (r_one rfl (r_nil (fun h => ⟨((false : Bool), ()), rfl, h⟩))))))))))))))))) (c_skip (k_blk (k_seq (c_ops (s_cons (w_put (o_mov rfl (s_cons (w_put (o_add rfl rfl (s_cons (w_put (o_mov rfl (s_nil (k_seq (hX14 _ _ _ ⟨rfl, rfl, rfl, trivial⟩)))))))))))))))))))))))))))))))))))))))))))))))))))))))))) (c_exit (k_seqE (k_seqE (k_blkH (k_seq (c_seq (c_ops (s_cons (w_put (o_mov rfl (s_nil (k_seq (c_ret (k_topR (r_one rfl (r_nil (fun h => ⟨((true : Bool), ()), rfl, h⟩)))))))))))))))))))))))))))))))))))))
theorem fetterlockref6_SameDiagram.l14_ok (Q : AHeap → Bool → Prop) {x2 : AC} {x3 : AC} {x5 : Int} {H : AHeap} {t : Env} (h2 : t 2 = (.one x2)) (h3 : t 3 = (.one x3)) (h5 : t 5 = (.one (.int .i64 x5))) : fetterlockref6_SameDiagram.l14 Q x2 x3 x5 H → wpC Try.prog (.loop fetterlockref6_SameDiagram.c15) t H (kBlk 0 (fetterlockref6_SameDiagram.k11 Q)) :=
  m_loop fetterlockref6_SameDiagram.R14 ⟨h2, h3, h5, trivial⟩ fun X Y hX s t H hR hB => by
    have g := fetterlockref6_SameDiagram.b14_ok Q Y X hX t hB
    rw [upd_self hR.1] at g
    rw [upd_self hR.2.1] at g
    rw [upd_self hR.2.2.1] at g
    exact g
theorem fetterlockref6_SameDiagram.p5_okE (Q : AHeap → Bool → Prop) {x2 : AC} {x3 : AC} {x19 : Bool} {H : AHeap} (j : Env) : fetterlockref6_SameDiagram.p5 Q x2 x3 x19 H → wpC Try.prog fetterlockref6_SameDiagram.c5 (upd (upd (upd j 2 (.one x2)) 3 (.one x3)) 19 (.one (.bool x19))) H (fetterlockref6_SameDiagram.k3 Q) := c_if rfl (c_seq (c_ops (s_cons (w_put (o_mov rfl (s_nil (k_seq (c_ret (k_seqR (k_topR (r_one rfl (r_nil (fun h => ⟨((false : Bool), ()), rfl, h⟩))))))))))))) (c_skip (k_seq (c_seq (c_seq (c_ops (s_cons (w_put (o_mov rfl (s_nil (k_seq (c_blk (fetterlockref6_SameDiagram.l14_ok Q rfl rfl rfl))))))))))))
theorem fetterlockref6_SameDiagram.p5_ok (Q : AHeap → Bool → Prop) {x2 : AC} {x3 : AC} {x19 : Bool} {H : AHeap} {t : Env} (h2 : t 2 = (.one x2)) (h3 : t 3 = (.one x3)) (h19 : t 19 = (.one (.bool x19))) (h : fetterlockref6_SameDiagram.p5 Q x2 x3 x19 H) : wpC Try.prog fetterlockref6_SameDiagram.c5 t H (fetterlockref6_SameDiagram.k3 Q) := by
  have g := fetterlockref6_SameDiagram.p5_okE Q t h
  rw [upd_self h2] at g
  rw [upd_self h3] at g
  rw [upd_self h19] at g
  exact g
theorem fetterlockref6_SameDiagram.ok {a0_0 : AC} {a0_1 : Int} {a1_0 : AC} {a1_1 : Int} {H : AHeap} (Q : AHeap → Bool → Prop) : fetterlockref6_SameDiagram.W a0_0 a0_1 a1_0 a1_1 H Q → wpF Try.prog fetterlockref6_SameDiagram.c [.tm 4] (envOf [(.agg [a0_0, (.int .i64 a0_1)]), (.agg [a1_0, (.int .i64 a1_1)])]) H (fetterlockref6_SameDiagram.KQ Q) := c_seq (c_ops (s_cons (w_put (o_box rfl (fun p_1 H_2 => s_cons (w_put (o_box rfl (fun p_3 H_4 => s_cons (w_put (o_mov rfl (s_nil (k_seq (c_seq (c_seq (c_ops (s_cons (w_put (o_fa rfl (fun q_5 => s_cons (w_put (o_ld1 rfl (fun (v_6 : AC) => s_cons (w_put (o_lens rfl (fun n_7 => s_cons (w_put (o_fa rfl (fun q_8 => s_cons (w_put (o_ld1 rfl (fun (v_9 : AC) => s_cons (w_put (o_lens rfl (fun n_10 => s_cons (w_put (o_ne rfl rfl (s_cons (w_put (o_mov rfl (s_cons (w_gputF rfl (s_cons (w_gputN rfl (s_cons (w_gputN rfl (s_cons (w_gputN rfl (s_cons (w_gputN rfl (s_cons (w_put (o_pickT rfl rfl (s_nil (k_seq (fetterlockref6_SameDiagram.p5_ok Q rfl rfl rfl)))))))))))))) (o_fa rfl (fun q_11 => s_cons (w_gputY rfl (o_ld1 rfl (fun (v_12 : Int) => s_cons (w_gputY rfl (o_fa rfl (fun q_13 => s_cons (w_gputY rfl (o_ld1 rfl (fun (v_14 : Int) => s_cons (w_gputY rfl (o_ne rfl rfl (s_cons (w_put (o_pickF rfl rfl (s_nil (k_seq (fetterlockref6_SameDiagram.p5_ok Q rfl rfl rfl))))))))))))))))))))))))))))))))))))))))))))))))))))))))))))
theorem fetterlockref6_SameDiagram.slimOk : slimOk [(6, [])] (Try.f18.body.getD .skip) = true := by kernel_rfl
theorem fetterlockref6_SameDiagram.resC : resC Try.prog aggs Try.f18.ntmps (slim [(6, [])] (Try.f18.body.getD .skip)) = some fetterlockref6_SameDiagram.c := by kernel_rfl
theorem fetterlockref6_SameDiagram.resR : resR Try.prog Try.f18.results.toList = some [.tm 4] := by kernel_rfl
theorem fetterlockref6_SameDiagram.bodyEq : Try.f18.body = some (Try.f18.body.getD .skip) := by kernel_rfl
theorem fetterlockref6_SameDiagram.run {a0_0 : AC} {a0_1 : Int} {a1_0 : AC} {a1_1 : Int} {H : AHeap} {Q : AHeap → Bool → Prop} (h : fetterlockref6_SameDiagram.W a0_0 a0_1 a1_0 a1_1 H Q) : Fn.fetterlockref6_SameDiagram a0_0 a0_1 a1_0 a1_1 H Q := by
  unfold Fn.fetterlockref6_SameDiagram RunT
  exact run_of aggs_ok [(6, [])] Try.func18 fetterlockref6_SameDiagram.bodyEq fetterlockref6_SameDiagram.slimOk fetterlockref6_SameDiagram.resC fetterlockref6_SameDiagram.resR (Nat.le_of_ble_eq_true (by kernel_rfl)) (fetterlockref6_SameDiagram.ok Q h)

def fetterlocklaw6_built.c11 : RC := (.cond 29 (.seq (.ops [.put 0 (.mov (.ct (.one (.bool false))))]) .ret) .skip)
def fetterlocklaw6_built.c : RC := (.seq (.ops [.put 0 (.mov (.ct (.one (.bool false))))]) (.seq (.ops [.put 7 (.bld [(.int .i64 0), (.int .i64 0), (.sl none 0 0 (some 0))] [(0, 1, (.ct (.one (.int .i64 1))))]),
    .put 1 (.new 24 [(.int .i64 0), (.int .i64 0), (.sl none 0 0 (some 0))]),
    .run (.st 3 (.tm 1) (.tm 7))]) (.seq (.ops [.put 8 (.bld [(.int .i64 0), (.int .i64 0), (.sl none 0 0 (some 0))] [(0, 1, (.ct (.one (.int .i64 1)))), (1, 1, (.ct (.one (.int .i64 2))))]),
    .put 2 (.new 24 [(.int .i64 0), (.int .i64 0), (.sl none 0 0 (some 0))]),
    .run (.st 3 (.tm 2) (.tm 8))]) (.seq (.ops [.put 10 (.ld true [.int .i64, .int .i64, .ac] (.tm 1)),
    .put 11 (.ld true [.int .i64, .int .i64, .ac] (.tm 2)),
    .put 12 (.blds 24 3 2 [(.int .i64 0), (.int .i64 0), (.sl none 0 0 (some 0)), (.int .i64 0), (.int .i64 0), (.sl none 0 0 (some 0))] [(0, 3, (.tm 10)), (3, 3, (.tm 11))]),
    .put 13 (.bld [(.int .i64 0), (.int .i64 0), (.sl none 0 0 (some 0))] [(0, 1, (.ct (.one (.int .i64 4)))), (2, 1, (.tm 12))]),
    .put 14 (.call 13 [(.tm 13)]),
    .put 9 (.mov (.tm 14)),
    .put 15 (.ex (.tm 9) 0),
    .put 16 (.ex (.tm 9) 1),
    .put 3 (.new 27 [(.sl none 0 0 (some 0)), (.int .i64 0)]),
    .run (.st 2 (.tm 3) (.tm 15)),
    .put 4 (.mov (.tm 16))]) (.seq (.seq (.ops [.put 17 (.mov (.tm 4)),
    .put 18 (.cm .ne (.tm 17) (.ct (.one (.int .i64 0)))),
    .put 19 (.mov (.tm 18)),
    .gput 20 19 false (.fa 1 (.tm 3)),
    .gput 21 19 false (.ld false [.int .i64] (.tm 20)),
    .gput 22 19 false (.cm .ne (.tm 21) (.ct (.one (.int .i64 1)))),
    .put 23 (.pick (.tm 19) (.ct (.one (.bool true))) (.tm 22)),
    .put 24 (.mov (.tm 23)),
    .gput 25 24 false (.fa 0 (.tm 3)),
    .gput 26 24 false (.ld false [.ac] (.tm 25)),
    .gput 27 24 false (.lens (.tm 26)),
    .gput 28 24 false (.cm .ne (.tm 27) (.ct (.one (.int .i64 2)))),
    .put 29 (.pick (.tm 24) (.ct (.one (.bool true))) (.tm 28))]) fetterlocklaw6_built.c11) (.seq (.ops [.put 31 (.ld true [.ac, .int .i64] (.tm 3)),
    .put 32 (.call 24 [(.tm 31), (.ct (.one (.int .i64 3)))]),
    .put 30 (.mov (.tm 32)),
    .put 33 (.ex (.tm 30) 0),
    .put 34 (.ex (.tm 30) 1),
    .put 5 (.mov (.tm 33)),
    .put 6 (.mov (.tm 34))]) (.seq (.ops [.put 35 (.fa 0 (.tm 3)),
    .put 36 (.ld false [.ac] (.tm 35)),
    .put 37 (.ia 3 (.tm 36) (.ct (.one (.int .i64 0)))),
    .put 38 (.ld true [.int .i64, .int .i64, .int .i64] (.tm 37)),
    .put 39 (.bld [(.int .i64 0), (.int .i64 0), (.int .i64 0)] [(0, 1, (.ct (.one (.int .i64 2)))), (1, 1, (.ct (.one (.int .i64 (-1))))), (2, 1, (.ct (.one (.int .i64 (-2)))))]),
    .put 40 (.eqa false 3 (.tm 38) (.tm 39)),
    .put 41 (.mov (.tm 40)),
    .gput 42 41 true (.fa 0 (.tm 3)),
    .gput 43 41 true (.ld false [.ac] (.tm 42)),
    .gput 44 41 true (.ia 3 (.tm 43) (.ct (.one (.int .i64 1)))),
    .gput 45 41 true (.ld true [.int .i64, .int .i64, .int .i64] (.tm 44)),
    .gput 46 41 true (.bld [(.int .i64 0), (.int .i64 0), (.int .i64 0)] [(0, 1, (.ct (.one (.int .i64 0)))), (1, 1, (.ct (.one (.int .i64 (-1))))), (2, 1, (.ct (.one (.int .i64 0))))]),
    .gput 47 41 true (.eqa false 3 (.tm 45) (.tm 46)),
    .put 48 (.pick (.tm 41) (.tm 47) (.ct (.one (.bool false)))),
    .put 49 (.mov (.tm 48)),
    .gput 50 49 true (.mov (.tm 6)),
    .gput 51 49 true (.cm .eq (.tm 50) (.ct (.one (.int .i64 0)))),
    .put 52 (.pick (.tm 49) (.tm 51) (.ct (.one (.bool false)))),
    .put 53 (.mov (.tm 52)),
    .gput 54 53 true (.mov (.tm 5)),
    .gput 55 53 true (.cm .eq (.tm 54) (.ct (.one (.int .i64 2)))),
    .put 56 (.pick (.tm 53) (.tm 55) (.ct (.one (.bool false)))),
    .put 0 (.mov (.tm 56))]) .ret)))))))
abbrev fetterlocklaw6_built.KQ (Q : AHeap → Bool → Prop) : AV → AHeap → Prop := fun v H => ∃ xs : Tup (flat [(false, [.bool])]), v = joinR (splitP [(false, [.bool])] (cellsOf (flat [(false, [.bool])]) xs)) ∧ app (flat [(false, [.bool])]) (Q H) xs
abbrev fetterlocklaw6_built.K (Q : AHeap → Bool → Prop) : Ex → Env → AHeap → Prop := kTop [.tm 0] (fetterlocklaw6_built.KQ Q)
abbrev fetterlocklaw6_built.k9 (Q : AHeap → Bool → Prop) : Ex → Env → AHeap → Prop := kSeq (fun t H => wpC Try.prog (.seq (.ops [.put 31 (.ld true [.ac, .int .i64] (.tm 3)),
    .put 32 (.call 24 [(.tm 31), (.ct (.one (.int .i64 3)))]),
    .put 30 (.mov (.tm 32)),
    .put 33 (.ex (.tm 30) 0),
    .put 34 (.ex (.tm 30) 1),
    .put 5 (.mov (.tm 33)),
    .put 6 (.mov (.tm 34))]) (.seq (.ops [.put 35 (.fa 0 (.tm 3)),
    .put 36 (.ld false [.ac] (.tm 35)),
    .put 37 (.ia 3 (.tm 36) (.ct (.one (.int .i64 0)))),
    .put 38 (.ld true [.int .i64, .int .i64, .int .i64] (.tm 37)),
    .put 39 (.bld [(.int .i64 0), (.int .i64 0), (.int .i64 0)] [(0, 1, (.ct (.one (.int .i64 2)))), (1, 1, (.ct (.one (.int .i64 (-1))))), (2, 1, (.ct (.one (.int .i64 (-2)))))]),
    .put 40 (.eqa false 3 (.tm 38) (.tm 39)),
    .put 41 (.mov (.tm 40)),
    .gput 42 41 true (.fa 0 (.tm 3)),
    .gput 43 41 true (.ld false [.ac] (.tm 42)),
    .gput 44 41 true (.ia 3 (.tm 43) (.ct (.one (.int .i64 1)))),
    .gput 45 41 true (.ld true [.int .i64, .int .i64, .int .i64] (.tm 44)),
    .gput 46 41 true (.bld [(.int .i64 0), (.int .i64 0), (.int .i64 0)] [(0, 1, (.ct (.one (.int .i64 0)))), (1, 1, (.ct (.one (.int .i64 (-1))))), (2, 1, (.ct (.one (.int .i64 0))))]),
    .gput 47 41 true (.eqa false 3 (.tm 45) (.tm 46)),
    .put 48 (.pick (.tm 41) (.tm 47) (.ct (.one (.bool false)))),
    .put 49 (.mov (.tm 48)),
    .gput 50 49 true (.mov (.tm 6)),
    .gput 51 49 true (.cm .eq (.tm 50) (.ct (.one (.int .i64 0)))),
    .put 52 (.pick (.tm 49) (.tm 51) (.ct (.one (.bool false)))),
    .put 53 (.mov (.tm 52)),
    .gput 54 53 true (.mov (.tm 5)),
    .gput 55 53 true (.cm .eq (.tm 54) (.ct (.one (.int .i64 2)))),
    .put 56 (.pick (.tm 53) (.tm 55) (.ct (.one (.bool false)))),
    .put 0 (.mov (.tm 56))]) .ret)) t H (fetterlocklaw6_built.K Q)) (fetterlocklaw6_built.K Q)
def fetterlocklaw6_built.p11 (Q : AHeap → Bool → Prop) (x3 : AC) (x29 : Bool) (H : AHeap) : Prop :=
  CondB x29
    (Q H false)
    (Ld [.ac, .int .i64] H x3 fun (v_1 : AC) (v_2 : Int) =>
    Fn.solve_Count v_1 v_2 3 H fun H_3 (v_4 : Int) (v_5 : Int) =>
    FA 0 x3 fun q_6 =>
    Ld [.ac] H_3 q_6 fun (v_7 : AC) =>
    IA 3 v_7 0 fun q_8 =>
    Ld [.int .i64, .int .i64, .int .i64] H_3 q_8 fun (v_9 : Int) (v_10 : Int) (v_11 : Int) =>
    CondB (decide (([v_9, v_10, v_11] : List Int) = ([2, (-1), (-2)] : List Int)))
      (FA 0 x3 fun q_12 =>
      Ld [.ac] H_3 q_12 fun (v_13 : AC) =>
      IA 3 v_13 1 fun q_14 =>
      Ld [.int .i64, .int .i64, .int .i64] H_3 q_14 fun (v_15 : Int) (v_16 : Int) (v_17 : Int) =>
      CondB (decide (([v_15, v_16, v_17] : List Int) = ([0, (-1), 0] : List Int)))
        (CondB (v_5 == 0)
          (Q H_3 (v_4 == 2))
          (Q H_3 false))
        (Q H_3 false))
      (Q H_3 false))
def fetterlocklaw6_built.W (H : AHeap) (Q : AHeap → Bool → Prop) : Prop :=
  New 24 [(.int .i64 0), (.int .i64 0), (.sl none 0 0 (some 0))] H fun p_1 H_2 =>
  Sto H_2 p_1 [(.int .i64 1), (.int .i64 0), (.sl none 0 0 (some 0))] fun H_3 =>
  New 24 [(.int .i64 0), (.int .i64 0), (.sl none 0 0 (some 0))] H_3 fun p_4 H_5 =>
  Sto H_5 p_4 [(.int .i64 1), (.int .i64 2), (.sl none 0 0 (some 0))] fun H_6 =>
  Ld [.int .i64, .int .i64, .ac] H_6 p_1 fun (v_7 : Int) (v_8 : Int) (v_9 : AC) =>
  Ld [.int .i64, .int .i64, .ac] H_6 p_4 fun (v_10 : Int) (v_11 : Int) (v_12 : AC) =>
  NewS 24 3 2 [(.int .i64 v_7), (.int .i64 v_8), v_9, (.int .i64 v_10), (.int .i64 v_11), v_12] H_6 fun p_13 H_14 =>
  Fn.solve_Build 4 0 p_13 H_14 fun H_15 (v_16 : AC) (v_17 : Int) (v_18 : Int) =>
  New 27 [(.sl none 0 0 (some 0)), (.int .i64 0)] H_15 fun p_19 H_20 =>
  Sto H_20 p_19 [v_16, (.int .i64 v_17)] fun H_21 =>
  CondB (v_18 != 0)
    (fetterlocklaw6_built.p11 Q p_19 true H_21)
    (FA 1 p_19 fun q_22 =>
    Ld [.int .i64] H_21 q_22 fun (v_23 : Int) =>
    CondB (v_23 != 1)
      (fetterlocklaw6_built.p11 Q p_19 true H_21)
      (FA 0 p_19 fun q_24 =>
      Ld [.ac] H_21 q_24 fun (v_25 : AC) =>
      LenS v_25 fun n_26 =>
      fetterlocklaw6_built.p11 Q p_19 (n_26 != 2) H_21))
theorem fetterlocklaw6_built.p11_okE (Q : AHeap → Bool → Prop) {x3 : AC} {x29 : Bool} {H : AHeap} (j : Env) : fetterlocklaw6_built.p11 Q x3 x29 H → wpC Try.prog fetterlocklaw6_built.c11 (upd (upd j 3 (.one x3)) 29 (.one (.bool x29))) H (fetterlocklaw6_built.k9 Q) := c_if rfl (c_seq (c_ops (s_cons (w_put (o_mov rfl (s_nil (k_seq (c_ret (k_seqR (k_topR (r_one rfl (r_nil (fun h => ⟨((false : Bool), ()), rfl, h⟩))))))))))))) (c_skip (k_seq (c_seq (c_ops (s_cons (w_put (o_ld2 rfl (fun (v_1 : AC) (v_2 : Int) => s_cons (w_put (o_call rfl (cv_o1_o1 (fun H_3 (v_4 : Int) (v_5 : Int) => s_cons (w_put (o_mov rfl (s_cons (w_put (o_ex rfl rfl rfl (s_cons (w_put (o_ex rfl rfl rfl (s_cons (w_put (o_mov rfl (s_cons (w_put (o_mov rfl (s_nil (k_seq (c_seq (c_ops (s_cons (w_put (o_fa rfl (fun q_6 => s_cons (w_put (o_ld1 rfl (fun (v_7 : AC) => s_cons (w_put (o_ia rfl rfl (fun q_8 => s_cons (w_put (o_ld3 rfl (fun (v_9 : Int) (v_10 : Int) (v_11 : Int) => s_cons (w_put (o_bld rfl (s_cons (w_put (o_eqa rfl rfl rfl rfl rfl (s_cons (w_put (o_mov rfl (s_cons (w_gputT rfl (o_fa rfl (fun q_12 => s_cons (w_gputY rfl (o_ld1 rfl (fun (v_13 : AC) => s_cons (w_gputY rfl (o_ia rfl rfl (fun q_14 => s_cons (w_gputY rfl (o_ld3 rfl (fun (v_15 : Int) (v_16 : Int) (v_17 : Int) => s_cons (w_gputY rfl (o_bld rfl (s_cons (w_gputY rfl (o_eqa rfl rfl rfl rfl rfl (s_cons (w_put (o_pickT rfl rfl (s_cons (w_put (o_mov rfl (s_cons (w_gputT rfl (o_mov rfl (s_cons (w_gputY rfl (o_eq rfl rfl (s_cons (w_put (o_pickT rfl rfl (s_cons (w_put (o_mov rfl (s_cons (w_gputT rfl (o_mov rfl (s_cons (w_gputY rfl (o_eq rfl rfl (s_cons (w_put (o_pickT rfl rfl (s_cons (w_put (o_mov rfl (s_nil (k_seq (c_ret (k_topR (r_one rfl (r_nil (fun h => ⟨(((v_4 == 2) : Bool), ()), rfl, h⟩))))))))))))))))) (s_cons (w_gputN rfl (s_cons (w_put (o_pickF rfl rfl (s_cons (w_put (o_mov rfl (s_nil (k_seq (c_ret (k_topR (r_one rfl (r_nil (fun h => ⟨((false : Bool), ()), rfl, h⟩))))))))))))))))))))))))))) (s_cons (w_gputN rfl (s_cons (w_put (o_pickF rfl rfl (s_cons (w_put (o_mov rfl (s_cons (w_gputN rfl (s_cons (w_gputN rfl (s_cons (w_put (o_pickF rfl rfl (s_cons (w_put (o_mov rfl (s_nil (k_seq (c_ret (k_topR (r_one rfl (r_nil (fun h => ⟨((false : Bool), ()), rfl, h⟩))))))))))))))))))))))))))))))))))))))))))))))))) (s_cons (w_gputN rfl (s_cons (w_gputN rfl (s_cons (w_gputN rfl (s_cons (w_gputN rfl (s_cons (w_gputN rfl (s_cons (w_put (o_pickF rfl rfl (s_cons (w_put (o_mov rfl (s_cons (w_gputN rfl (s_cons (w_gputN rfl (s_cons (w_put (o_pickF rfl rfl (s_cons (w_put (o_mov rfl (s_cons (w_gputN rfl (s_cons (w_gputN rfl (s_cons (w_put (o_pickF rfl rfl (s_cons (w_put (o_mov rfl (s_nil (k_seq (c_ret (k_topR (r_one rfl (r_nil (fun h => ⟨((false : Bool), ()), rfl, h⟩))))))))))))))))))))))))))))))))))))))))))))))))))))))))))))))))))))))))))))))))))))))))))))))))
theorem fetterlocklaw6_built.p11_ok (Q : AHeap → Bool → Prop) {x3 : AC} {x29 : Bool} {H : AHeap} {t : Env} (h3 : t 3 = (.one x3)) (h29 : t 29 = (.one (.bool x29))) (h : fetterlocklaw6_built.p11 Q x3 x29 H) : wpC Try.prog fetterlocklaw6_built.c11 t H (fetterlocklaw6_built.k9 Q) := by
  have g := fetterlocklaw6_built.p11_okE Q t h
  rw [upd_self h3] at g
  rw [upd_self h29] at g
  exact g
theorem fetterlocklaw6_built.ok {H : AHeap} (Q : AHeap → Bool → Prop) : fetterlocklaw6_built.W H Q → wpF Try.prog fetterlocklaw6_built.c [.tm 0] (envOf []) H (fetterlocklaw6_built.KQ Q) := c_seq (c_ops (s_cons (w_put (o_mov rfl (s_nil (k_seq (c_seq (c_ops (s_cons (w_put (o_bld rfl (s_cons (w_put (o_new (fun p_1 H_2 => s_cons (w_run (o_st rfl rfl rfl (fun H_3 => s_nil (k_seq (c_seq (c_ops (s_cons (w_put (o_bld rfl (s_cons (w_put (o_new (fun p_4 H_5 => s_cons (w_run (o_st rfl rfl rfl (fun H_6 => s_nil (k_seq (c_seq (c_ops (s_cons (w_put (o_ld3 rfl (fun (v_7 : Int) (v_8 : Int) (v_9 : AC) => s_cons (w_put (o_ld3 rfl (fun (v_10 : Int) (v_11 : Int) (v_12 : AC) => s_cons (w_put (o_blds rfl (fun p_13 H_14 => s_cons (w_put (o_bld rfl (s_cons (w_put (o_call rfl (cv_a2_o1 (fun H_15 (v_16 : AC) (v_17 : Int) (v_18 : Int) => s_cons (w_put (o_mov rfl (s_cons (w_put (o_ex rfl rfl rfl (s_cons (w_put (o_ex rfl rfl rfl (s_cons (w_put (o_new (fun p_19 H_20 => s_cons (w_run (o_st rfl rfl rfl (fun H_21 => s_cons (w_put (o_mov rfl (s_nil (k_seq (c_seq (c_seq (c_ops (s_cons (w_put (o_mov rfl (s_cons (w_put (o_ne rfl rfl (s_cons (w_put (o_mov rfl (s_cons (w_gputF rfl (s_cons (w_gputN rfl (s_cons (w_gputN rfl (s_cons (w_put (o_pickT rfl rfl (s_cons (w_put (o_mov rfl (s_cons (w_gputN rfl (s_cons (w_gputN rfl (s_cons (w_gputN rfl (s_cons (w_gputN rfl (s_cons (w_put (o_pickT rfl rfl (s_nil (k_seq (fetterlocklaw6_built.p11_ok Q rfl rfl)))))))))))))))))))))))) (o_fa rfl (fun q_22 => s_cons (w_gputY rfl (o_ld1 rfl (fun (v_23 : Int) => s_cons (w_gputY rfl (o_ne rfl rfl (s_cons (w_put (o_pickF rfl rfl (s_cons (w_put (o_mov rfl (s_cons (w_gputF rfl (s_cons (w_gputN rfl (s_cons (w_gputN rfl (s_cons (w_gputN rfl (s_cons (w_put (o_pickT rfl rfl (s_nil (k_seq (fetterlocklaw6_built.p11_ok Q rfl rfl)))))))))))) (o_fa rfl (fun q_24 => s_cons (w_gputY rfl (o_ld1 rfl (fun (v_25 : AC) => s_cons (w_gputY rfl (o_lens rfl (fun n_26 => s_cons (w_gputY rfl (o_ne rfl rfl (s_cons (w_put (o_pickF rfl rfl (s_nil (k_seq (fetterlocklaw6_built.p11_ok Q rfl rfl)))))))))))))))))))))))))))))))))))))))))))))))))))))))))))))))))))))))))))))))))))))))))))))))))))))))))))))))))))
theorem fetterlocklaw6_built.slimOk : slimOk [] (Try.f19.body.getD .skip) = true := by kernel_rfl
theorem fetterlocklaw6_built.resC : resC Try.prog aggs Try.f19.ntmps (slim [] (Try.f19.body.getD .skip)) = some fetterlocklaw6_built.c := by kernel_rfl
theorem fetterlocklaw6_built.resR : resR Try.prog Try.f19.results.toList = some [.tm 0] := by kernel_rfl
theorem fetterlocklaw6_built.bodyEq : Try.f19.body = some (Try.f19.body.getD .skip) := by kernel_rfl
theorem fetterlocklaw6_built.run {H : AHeap} {Q : AHeap → Bool → Prop} (h : fetterlocklaw6_built.W H Q) : Fn.fetterlocklaw6_built H Q := by
  unfold Fn.fetterlocklaw6_built RunT
  exact run_of aggs_ok [] Try.func19 fetterlocklaw6_built.bodyEq fetterlocklaw6_built.slimOk fetterlocklaw6_built.resC fetterlocklaw6_built.resR (Nat.le_of_ble_eq_true (by kernel_rfl)) (fetterlocklaw6_built.ok Q h)
end Go.Proofs.Ytanaaabejeeakaa
end
section
/- Printed by a program: functions and what must hold ahead of them. -/
namespace Go.Proofs.Ytanaaabejeeakaa
open Go.AI
set_option maxRecDepth 100000
set_option maxHeartbeats 2000000
set_option linter.unusedVariables false
attribute [local irreducible] Ld Sto New NewS NewM NN NZ GE0 FA IA IAP LenS Slc App Cpy Clr MkS Fnc NilQ IxS Look MSet Run CV RunT CVT LoopT Same1 Same2 wpC wpOs wpT wpO wpOp

def solve_nodes.c27 : RC := (.seq (.ops [.put 26 (.mov (.tm 5)),
    .put 27 (.mov (.tm 1)),
    .put 28 (.ar .add (.tm 27) (.ct (.one (.int .i64 1)))),
    .put 29 (.min2 (.tm 26) (.tm 28)),
    .put 4 (.mov (.tm 29))]) .ret)
def solve_nodes.c9 : RC := (.seq (.ops [.put 12 (.cm .lt (.tm 11) (.tm 10))]) (.seq (.cond 12 .skip (.exit 0)) (.seq (.block 1 (.seq (.ops [.put 13 (.ia 3 (.tm 9) (.tm 11)),
    .put 14 (.ld true [.int .i64, .int .i64, .ac] (.tm 13)),
    .put 7 (.new 24 [(.int .i64 0), (.int .i64 0), (.sl none 0 0 (some 0))]),
    .run (.st 3 (.tm 7) (.tm 14))]) (.seq (.seq (.ops [.put 15 (.mov (.tm 5)),
    .put 16 (.mov (.tm 1)),
    .put 17 (.cm .gt (.tm 15) (.tm 16))]) (.cond 17 (.exit 0) .skip)) (.ops [.put 18 (.mov (.tm 5)),
    .put 19 (.ld true [.int .i64, .int .i64, .ac] (.tm 7)),
    .put 20 (.mov (.tm 1)),
    .put 21 (.mov (.tm 5)),
    .put 22 (.ar .sub (.tm 20) (.tm 21)),
    .put 23 (.call 46 [(.tm 19), (.tm 22)]),
    .put 24 (.ar .add (.tm 18) (.tm 23)),
    .put 5 (.mov (.tm 24))])))) (.ops [.put 25 (.ar .add (.tm 11) (.ct (.one (.int .i64 1)))),
    .put 11 (.mov (.tm 25))]))))
def solve_nodes.c : RC := (.seq (.ops [.put 2 (.box 24 (.tm 0)),
    .put 4 (.mov (.ct (.one (.int .i64 0))))]) (.seq (.ops [.put 5 (.mov (.ct (.one (.int .i64 1))))]) (.seq (.seq (.ops [.put 8 (.fa 2 (.tm 2)),
    .put 9 (.ld false [.ac] (.tm 8)),
    .put 10 (.lens (.tm 9)),
    .put 11 (.mov (.ct (.one (.int .i64 0))))]) (.block 0 (.loop solve_nodes.c9))) solve_nodes.c27)))
abbrev solve_nodes.KQ (Q : AHeap → Int → Prop) : AV → AHeap → Prop := fun v H => ∃ xs : Tup (flat [(false, [.int .i64])]), v = joinR (splitP [(false, [.int .i64])] (cellsOf (flat [(false, [.int .i64])]) xs)) ∧ app (flat [(false, [.int .i64])]) (Q H) xs
abbrev solve_nodes.K (Q : AHeap → Int → Prop) : Ex → Env → AHeap → Prop := kTop [.tm 4] (solve_nodes.KQ Q)
abbrev solve_nodes.k5 (Q : AHeap → Int → Prop) : Ex → Env → AHeap → Prop := kSeq (fun t H => wpC Try.prog solve_nodes.c27 t H (solve_nodes.K Q)) (solve_nodes.K Q)
def solve_nodes.R8 (s : Tup [.int .i64, .int .i64, .ac, .int .i64, .int .i64]) (t : Env) : Prop := t 1 = (.one (.int .i64 (s.1))) ∧ t 5 = (.one (.int .i64 (s.2.1))) ∧ t 9 = (.one (s.2.2.1)) ∧ t 10 = (.one (.int .i64 (s.2.2.2.1))) ∧ t 11 = (.one (.int .i64 (s.2.2.2.2.1))) ∧ True
def solve_nodes.p27 (Q : AHeap → Int → Prop) (x1 : Int) (x5 : Int) (H : AHeap) : Prop :=
  Q H (if (IntKind.wrap .i64 (x1 + 1)) < x5 then (IntKind.wrap .i64 (x1 + 1)) else x5)
def solve_nodes.b8 (Q : AHeap → Int → Prop) (Y8 : Tup [.int .i64, .int .i64, .ac, .int .i64, .int .i64] → AHeap → Prop) (x1 : Int) (x5 : Int) (x9 : AC) (x10 : Int) (x11 : Int) (H : AHeap) : Prop :=
  CondB (decide (x11 < x10))
    (IA 3 x9 x11 fun q_1 =>
    Ld [.int .i64, .int .i64, .ac] H q_1 fun (v_2 : Int) (v_3 : Int) (v_4 : AC) =>
    New 24 [(.int .i64 0), (.int .i64 0), (.sl none 0 0 (some 0))] H fun p_5 H_6 =>
    Sto H_6 p_5 [(.int .i64 v_2), (.int .i64 v_3), v_4] fun H_7 =>
    CondB (decide (x5 > x1))
      (solve_nodes.p27 Q x1 x5 H_7)
      (Ld [.int .i64, .int .i64, .ac] H_7 p_5 fun (v_8 : Int) (v_9 : Int) (v_10 : AC) =>
      Fn.solve_nodes v_8 v_9 v_10 (IntKind.wrap .i64 (x1 - x5)) H_7 fun H_11 (v_12 : Int) =>
      Y8 ((x1 : Int), ((IntKind.wrap .i64 (x5 + v_12)) : Int), x9, (x10 : Int), ((IntKind.wrap .i64 (x11 + 1)) : Int), ()) H_11))
    (solve_nodes.p27 Q x1 x5 H)
def solve_nodes.l8 (Q : AHeap → Int → Prop) (x1 : Int) (x5 : Int) (x9 : AC) (x10 : Int) (x11 : Int) (H : AHeap) : Prop := LoopT (Tup [.int .i64, .int .i64, .ac, .int .i64, .int .i64]) (fun Y s H => solve_nodes.b8 Q Y (s.1) (s.2.1) (s.2.2.1) (s.2.2.2.1) (s.2.2.2.2.1) H) (x1, x5, x9, x10, x11, ()) H
def solve_nodes.W (a0_0 : Int) (a0_1 : Int) (a0_2 : AC) (a1 : Int) (H : AHeap) (Q : AHeap → Int → Prop) : Prop :=
  New 24 [(.int .i64 a0_0), (.int .i64 a0_1), a0_2] H fun p_1 H_2 =>
  FA 2 p_1 fun q_3 =>
  Ld [.ac] H_2 q_3 fun (v_4 : AC) =>
  LenS v_4 fun n_5 =>
  solve_nodes.l8 Q a1 1 v_4 n_5 0 H_2
theorem solve_nodes.p27_okE (Q : AHeap → Int → Prop) {x1 : Int} {x5 : Int} {H : AHeap} (j : Env) : solve_nodes.p27 Q x1 x5 H → wpC Try.prog solve_nodes.c27 (upd (upd j 1 (.one (.int .i64 x1))) 5 (.one (.int .i64 x5))) H (solve_nodes.K Q) := c_seq (c_ops (s_cons (w_put (o_mov rfl (s_cons (w_put (o_mov rfl (s_cons (w_put (o_add rfl rfl (s_cons (w_put (o_min2 rfl rfl (s_cons (w_put (o_mov rfl (s_nil (k_seq (c_ret (k_topR (r_one rfl (r_nil (fun h => ⟨(((if (IntKind.wrap .i64 (x1 + 1)) < x5 then (IntKind.wrap .i64 (x1 + 1)) else x5) : Int), ()), rfl, h⟩)))))))))))))))))))))))
theorem solve_nodes.p27_ok (Q : AHeap → Int → Prop) {x1 : Int} {x5 : Int} {H : AHeap} {t : Env} (h1 : t 1 = (.one (.int .i64 x1))) (h5 : t 5 = (.one (.int .i64 x5))) (h : solve_nodes.p27 Q x1 x5 H) : wpC Try.prog solve_nodes.c27 t H (solve_nodes.K Q) := by
  have g := solve_nodes.p27_okE Q t h
  rw [upd_self h1] at g
  rw [upd_self h5] at g
  exact g
theorem solve_nodes.b8_ok (Q : AHeap → Int → Prop) (Y8 : Tup [.int .i64, .int .i64, .ac, .int .i64, .int .i64] → AHeap → Prop) (X8 : Env → AHeap → Prop) (hX8 : ∀ s t H, solve_nodes.R8 s t → Y8 s H → X8 t H) {x1 : Int} {x5 : Int} {x9 : AC} {x10 : Int} {x11 : Int} {H : AHeap} (j : Env) : solve_nodes.b8 Q Y8 x1 x5 x9 x10 x11 H → wpC Try.prog solve_nodes.c9 (upd (upd (upd (upd (upd j 1 (.one (.int .i64 x1))) 5 (.one (.int .i64 x5))) 9 (.one x9)) 10 (.one (.int .i64 x10))) 11 (.one (.int .i64 x11))) H (kSeq X8 (kBlk 0 (solve_nodes.k5 Q))) := c_seq (c_ops (s_cons (w_put (o_lt rfl rfl (s_nil (k_seq (c_seq (c_if rfl (c_skip (k_seq (c_seq (c_blk (c_seq (c_ops (s_cons (w_put (o_ia rfl rfl (fun q_1 => s_cons (w_put (o_ld3 rfl (fun (v_2 : Int) (v_3 : Int) (v_4 : AC) => s_cons (w_put (o_new (fun p_5 H_6 => s_cons (w_run (o_st rfl rfl rfl (fun H_7 => s_nil (k_seq (c_seq (c_seq (c_ops (s_cons (w_put (o_mov rfl (s_cons (w_put (o_mov rfl (s_cons (w_put (o_gt rfl rfl (s_nil (k_seq (c_if rfl (c_exit (k_seqE (k_blkP rfl (k_seqE (k_seqE (k_blkH (k_seq (solve_nodes.p27_ok Q rfl rfl)))))))) (c_skip (k_seq (c_ops (s_cons (w_put (o_mov rfl (s_cons (w_put (o_ld3 rfl (fun (v_8 : Int) (v_9 : Int) (v_10 : AC) => s_cons (w_put (o_mov rfl (s_cons (w_put (o_mov rfl (s_cons (w_put (o_sub rfl rfl (s_cons (w_put (o_call rfl (cv_1 (fun H_11 (v_12 : Int) => s_cons (w_put (o_add rfl rfl (s_cons (w_put (o_mov rfl (s_nil (k_blk (k_seq (c_ops (s_cons (w_put (o_add rfl rfl (s_cons (w_put (o_mov rfl (s_nil (k_seq (hX8 _ _ _ ⟨rfl, rfl, rfl, rfl, rfl, trivial⟩)))))))))))))))))))))))))))))))))))))))))))))))))))))))))))))))))))))))))))) (c_exit (k_seqE (k_seqE (k_blkH (k_seq (solve_nodes.p27_ok Q rfl rfl))))))))))))))
theorem solve_nodes.l8_ok (Q : AHeap → Int → Prop) {x1 : Int} {x5 : Int} {x9 : AC} {x10 : Int} {x11 : Int} {H : AHeap} {t : Env} (h1 : t 1 = (.one (.int .i64 x1))) (h5 : t 5 = (.one (.int .i64 x5))) (h9 : t 9 = (.one x9)) (h10 : t 10 = (.one (.int .i64 x10))) (h11 : t 11 = (.one (.int .i64 x11))) : solve_nodes.l8 Q x1 x5 x9 x10 x11 H → wpC Try.prog (.loop solve_nodes.c9) t H (kBlk 0 (solve_nodes.k5 Q)) :=
  m_loop solve_nodes.R8 ⟨h1, h5, h9, h10, h11, trivial⟩ fun X Y hX s t H hR hB => by
    have g := solve_nodes.b8_ok Q Y X hX t hB
    rw [upd_self hR.1] at g
    rw [upd_self hR.2.1] at g
    rw [upd_self hR.2.2.1] at g
    rw [upd_self hR.2.2.2.1] at g
    rw [upd_self hR.2.2.2.2.1] at g
    exact g
theorem solve_nodes.ok {a0_0 : Int} {a0_1 : Int} {a0_2 : AC} {a1 : Int} {H : AHeap} (Q : AHeap → Int → Prop) : solve_nodes.W a0_0 a0_1 a0_2 a1 H Q → wpF Try.prog solve_nodes.c [.tm 4] (envOf [(.agg [(.int .i64 a0_0), (.int .i64 a0_1), a0_2]), (.one (.int .i64 a1))]) H (solve_nodes.KQ Q) := c_seq (c_ops (s_cons (w_put (o_box rfl (fun p_1 H_2 => s_cons (w_put (o_mov rfl (s_nil (k_seq (c_seq (c_ops (s_cons (w_put (o_mov rfl (s_nil (k_seq (c_seq (c_seq (c_ops (s_cons (w_put (o_fa rfl (fun q_3 => s_cons (w_put (o_ld1 rfl (fun (v_4 : AC) => s_cons (w_put (o_lens rfl (fun n_5 => s_cons (w_put (o_mov rfl (s_nil (k_seq (c_blk (solve_nodes.l8_ok Q rfl rfl rfl rfl rfl)))))))))))))))))))))))))))))))))))
theorem solve_nodes.slimOk : slimOk [] (Try.f46.body.getD .skip) = true := by kernel_rfl
theorem solve_nodes.resC : resC Try.prog aggs Try.f46.ntmps (slim [] (Try.f46.body.getD .skip)) = some solve_nodes.c := by kernel_rfl
theorem solve_nodes.resR : resR Try.prog Try.f46.results.toList = some [.tm 4] := by kernel_rfl
theorem solve_nodes.bodyEq : Try.f46.body = some (Try.f46.body.getD .skip) := by kernel_rfl
theorem solve_nodes.run {a0_0 : Int} {a0_1 : Int} {a0_2 : AC} {a1 : Int} {H : AHeap} {Q : AHeap → Int → Prop} (h : solve_nodes.W a0_0 a0_1 a0_2 a1 H Q) : Fn.solve_nodes a0_0 a0_1 a0_2 a1 H Q := by
  unfold Fn.solve_nodes RunT
  exact run_of aggs_ok [] Try.func46 solve_nodes.bodyEq solve_nodes.slimOk solve_nodes.resC solve_nodes.resR (Nat.le_of_ble_eq_true (by kernel_rfl)) (solve_nodes.ok Q h)

def solve_boolFault.c59 : RC := (.seq (.ops [.put 47 (.cm .lt (.tm 46) (.tm 45))]) (.seq (.cond 47 .skip (.exit 2)) (.seq (.block 3 (.seq (.ops [.put 48 (.ia 3 (.tm 44) (.tm 46)),
    .put 49 (.ld true [.int .i64, .int .i64, .ac] (.tm 48)),
    .put 6 (.new 24 [(.int .i64 0), (.int .i64 0), (.sl none 0 0 (some 0))]),
    .run (.st 3 (.tm 6) (.tm 49))]) (.seq (.ops [.put 50 (.ld true [.int .i64, .int .i64, .ac] (.tm 6)),
    .put 51 (.call 47 [(.tm 50)]),
    .put 7 (.mov (.tm 51))]) (.seq (.ops [.put 52 (.mov (.tm 7)),
    .put 53 (.cm .ne (.tm 52) (.ct (.one (.int .i64 0))))]) (.cond 53 (.seq (.ops [.put 54 (.mov (.tm 7)),
    .put 2 (.mov (.tm 54))]) .ret) .skip))))) (.ops [.put 55 (.ar .add (.tm 46) (.ct (.one (.int .i64 1)))),
    .put 46 (.mov (.tm 55))]))))
def solve_boolFault.c49 : RC := (.cond 33 (.seq (.ops [.put 2 (.mov (.ct (.one (.int .i64 1))))]) .ret) .skip)
def solve_boolFault.c43 : RC := (.cond 23 (.seq (.ops [.put 2 (.mov (.ct (.one (.int .i64 2))))]) .ret) (.seq (.ops [.put 34 (.fa 1 (.tm 1)),
    .put 35 (.ld false [.int .i64] (.tm 34)),
    .put 36 (.cm .lt (.tm 35) (.ct (.one (.int .i64 0)))),
    .put 37 (.mov (.tm 36)),
    .gput 38 37 false (.fa 1 (.tm 1)),
    .gput 39 37 false (.ld false [.int .i64] (.tm 38)),
    .gput 40 37 false (.mov (.tm 4)),
    .gput 41 37 false (.cm .gt (.tm 39) (.tm 40)),
    .put 42 (.pick (.tm 37) (.ct (.one (.bool true))) (.tm 41)),
    .put 33 (.mov (.tm 42))]) solve_boolFault.c49))
def solve_boolFault.c39 : RC := (.seq (.block 1 (.seq (.ops [.put 24 (.mov (.tm 3)),
    .put 25 (.cm .ge (.tm 24) (.ct (.one (.int .i64 0)))),
    .put 26 (.mov (.tm 25)),
    .gput 27 26 true (.fa 2 (.tm 1)),
    .gput 28 26 true (.ld false [.ac] (.tm 27)),
    .gput 29 26 true (.lens (.tm 28)),
    .gput 30 26 true (.mov (.tm 3)),
    .gput 31 26 true (.cm .ne (.tm 29) (.tm 30)),
    .put 32 (.pick (.tm 26) (.tm 31) (.ct (.one (.bool false)))),
    .put 23 (.mov (.tm 32))]) solve_boolFault.c43)) (.seq (.seq (.ops [.put 43 (.fa 2 (.tm 1)),
    .put 44 (.ld false [.ac] (.tm 43)),
    .put 45 (.lens (.tm 44)),
    .put 46 (.mov (.ct (.one (.int .i64 0))))]) (.block 2 (.loop solve_boolFault.c59))) (.seq (.ops [.put 2 (.mov (.ct (.one (.int .i64 0))))]) .ret)))
def solve_boolFault.c34 : RC := (.cond 20 .skip (.seq (.ops [.put 2 (.mov (.ct (.one (.int .i64 7))))]) .ret))
def solve_boolFault.c : RC := (.seq (.ops [.put 1 (.box 24 (.tm 0)),
    .put 2 (.mov (.ct (.one (.int .i64 0))))]) (.seq (.ops [.put 3 (.mov (.ct (.one (.int .i64 (-1))))),
    .put 4 (.mov (.ct (.one (.int .i64 0))))]) (.seq (.seq (.ops [.put 8 (.fa 0 (.tm 1)),
    .put 9 (.ld false [.int .i64] (.tm 8))]) (.block 0 (.seq (.ops [.put 11 (.cm .eq (.tm 9) (.ct (.one (.int .i64 1)))),
    .put 10 (.mov (.tm 11))]) (.cond 10 (.ops [.put 3 (.mov (.ct (.one (.int .i64 0)))),
    .put 4 (.mov (.ct (.one (.int .i64 15))))]) (.seq (.ops [.put 13 (.cm .eq (.tm 9) (.ct (.one (.int .i64 2)))),
    .put 12 (.mov (.tm 13))]) (.cond 12 (.ops [.put 3 (.mov (.ct (.one (.int .i64 0)))),
    .put 4 (.mov (.ct (.one (.int .i64 1))))]) (.seq (.ops [.put 15 (.cm .eq (.tm 9) (.ct (.one (.int .i64 3)))),
    .put 14 (.mov (.tm 15))]) (.cond 14 (.ops [.put 3 (.mov (.ct (.one (.int .i64 1))))]) (.seq (.ops [.put 17 (.cm .eq (.tm 9) (.ct (.one (.int .i64 6)))),
    .put 16 (.mov (.tm 17))]) (.cond 16 (.ops [.put 3 (.mov (.ct (.one (.int .i64 2))))]) (.seq (.ops [.put 19 (.cm .eq (.tm 9) (.ct (.one (.int .i64 7)))),
    .put 18 (.mov (.tm 19))]) (.cond 18 (.ops [.put 3 (.mov (.ct (.one (.int .i64 3))))]) (.seq (.seq (.ops [.put 21 (.cm .eq (.tm 9) (.ct (.one (.int .i64 4)))),
    .put 20 (.mov (.tm 21))]) (.cond 20 .skip (.ops [.put 22 (.cm .eq (.tm 9) (.ct (.one (.int .i64 5)))),
    .put 20 (.mov (.tm 22))]))) solve_boolFault.c34))))))))))))) solve_boolFault.c39)))
abbrev solve_boolFault.KQ (Q : AHeap → Int → Prop) : AV → AHeap → Prop := fun v H => ∃ xs : Tup (flat [(false, [.int .i64])]), v = joinR (splitP [(false, [.int .i64])] (cellsOf (flat [(false, [.int .i64])]) xs)) ∧ app (flat [(false, [.int .i64])]) (Q H) xs
abbrev solve_boolFault.K (Q : AHeap → Int → Prop) : Ex → Env → AHeap → Prop := kTop [.tm 2] (solve_boolFault.KQ Q)
abbrev solve_boolFault.k5 (Q : AHeap → Int → Prop) : Ex → Env → AHeap → Prop := kSeq (fun t H => wpC Try.prog solve_boolFault.c39 t H (solve_boolFault.K Q)) (solve_boolFault.K Q)
abbrev solve_boolFault.k40 (Q : AHeap → Int → Prop) : Ex → Env → AHeap → Prop := kSeq (fun t H => wpC Try.prog (.seq (.seq (.ops [.put 43 (.fa 2 (.tm 1)),
    .put 44 (.ld false [.ac] (.tm 43)),
    .put 45 (.lens (.tm 44)),
    .put 46 (.mov (.ct (.one (.int .i64 0))))]) (.block 2 (.loop solve_boolFault.c59))) (.seq (.ops [.put 2 (.mov (.ct (.one (.int .i64 0))))]) .ret)) t H (solve_boolFault.K Q)) (solve_boolFault.K Q)
abbrev solve_boolFault.k55 (Q : AHeap → Int → Prop) : Ex → Env → AHeap → Prop := kSeq (fun t H => wpC Try.prog (.seq (.ops [.put 2 (.mov (.ct (.one (.int .i64 0))))]) .ret) t H (solve_boolFault.K Q)) (solve_boolFault.K Q)
def solve_boolFault.R58 (s : Tup [.ac, .int .i64, .int .i64]) (t : Env) : Prop := t 44 = (.one (s.1)) ∧ t 45 = (.one (.int .i64 (s.2.1))) ∧ t 46 = (.one (.int .i64 (s.2.2.1))) ∧ True
def solve_boolFault.b58 (Q : AHeap → Int → Prop) (Y58 : Tup [.ac, .int .i64, .int .i64] → AHeap → Prop) (x44 : AC) (x45 : Int) (x46 : Int) (H : AHeap) : Prop :=
  CondB (decide (x46 < x45))
    (IA 3 x44 x46 fun q_1 =>
    Ld [.int .i64, .int .i64, .ac] H q_1 fun (v_2 : Int) (v_3 : Int) (v_4 : AC) =>
    New 24 [(.int .i64 0), (.int .i64 0), (.sl none 0 0 (some 0))] H fun p_5 H_6 =>
    Sto H_6 p_5 [(.int .i64 v_2), (.int .i64 v_3), v_4] fun H_7 =>
    Ld [.int .i64, .int .i64, .ac] H_7 p_5 fun (v_8 : Int) (v_9 : Int) (v_10 : AC) =>
    Fn.solve_boolFault v_8 v_9 v_10 H_7 fun H_11 (v_12 : Int) =>
    CondB (v_12 != 0)
      (Q H_11 v_12)
      (Y58 (x44, (x45 : Int), ((IntKind.wrap .i64 (x46 + 1)) : Int), ()) H_11))
    (Q H 0)
def solve_boolFault.l58 (Q : AHeap → Int → Prop) (x44 : AC) (x45 : Int) (x46 : Int) (H : AHeap) : Prop := LoopT (Tup [.ac, .int .i64, .int .i64]) (fun Y s H => solve_boolFault.b58 Q Y (s.1) (s.2.1) (s.2.2.1) H) (x44, x45, x46, ()) H
def solve_boolFault.p49 (Q : AHeap → Int → Prop) (x1 : AC) (x33 : Bool) (H : AHeap) : Prop :=
  CondB x33
    (Q H 1)
    (FA 2 x1 fun q_1 =>
    Ld [.ac] H q_1 fun (v_2 : AC) =>
    LenS v_2 fun n_3 =>
    solve_boolFault.l58 Q v_2 n_3 0 H)
def solve_boolFault.p43 (Q : AHeap → Int → Prop) (x1 : AC) (x4 : Int) (x23 : Bool) (H : AHeap) : Prop :=
  CondB x23
    (Q H 2)
    (FA 1 x1 fun q_1 =>
    Ld [.int .i64] H q_1 fun (v_2 : Int) =>
    CondB (decide (v_2 < 0))
      (solve_boolFault.p49 Q x1 true H)
      (FA 1 x1 fun q_3 =>
      Ld [.int .i64] H q_3 fun (v_4 : Int) =>
      solve_boolFault.p49 Q x1 (decide (v_4 > x4)) H))
def solve_boolFault.p39 (Q : AHeap → Int → Prop) (x1 : AC) (x3 : Int) (x4 : Int) (H : AHeap) : Prop :=
  CondB (decide (x3 ≥ 0))
    (FA 2 x1 fun q_1 =>
    Ld [.ac] H q_1 fun (v_2 : AC) =>
    LenS v_2 fun n_3 =>
    solve_boolFault.p43 Q x1 x4 (n_3 != x3) H)
    (solve_boolFault.p43 Q x1 x4 false H)
def solve_boolFault.p34 (Q : AHeap → Int → Prop) (x1 : AC) (x3 : Int) (x4 : Int) (x20 : Bool) (H : AHeap) : Prop :=
  CondB x20
    (solve_boolFault.p39 Q x1 x3 x4 H)
    (Q H 7)
def solve_boolFault.W (a0_0 : Int) (a0_1 : Int) (a0_2 : AC) (H : AHeap) (Q : AHeap → Int → Prop) : Prop :=
  New 24 [(.int .i64 a0_0), (.int .i64 a0_1), a0_2] H fun p_1 H_2 =>
  FA 0 p_1 fun q_3 =>
  Ld [.int .i64] H_2 q_3 fun (v_4 : Int) =>
  CondB (v_4 == 1)
    (solve_boolFault.p39 Q p_1 0 15 H_2)
    (CondB (v_4 == 2)
      (solve_boolFault.p39 Q p_1 0 1 H_2)
      (CondB (v_4 == 3)
        (solve_boolFault.p39 Q p_1 1 0 H_2)
        (CondB (v_4 == 6)
          (solve_boolFault.p39 Q p_1 2 0 H_2)
          (CondB (v_4 == 7)
            (solve_boolFault.p39 Q p_1 3 0 H_2)
            (CondB (v_4 == 4)
              (solve_boolFault.p34 Q p_1 (-1) 0 true H_2)
              (solve_boolFault.p34 Q p_1 (-1) 0 (v_4 == 5) H_2))))))
theorem solve_boolFault.b58_ok (Q : AHeap → Int → Prop) (Y58 : Tup [.ac, .int .i64, .int .i64] → AHeap → Prop) (X58 : Env → AHeap → Prop) (hX58 : ∀ s t H, solve_boolFault.R58 s t → Y58 s H → X58 t H) {x44 : AC} {x45 : Int} {x46 : Int} {H : AHeap} (j : Env) : solve_boolFault.b58 Q Y58 x44 x45 x46 H → wpC Try.prog solve_boolFault.c59 (upd (upd (upd j 44 (.one x44)) 45 (.one (.int .i64 x45))) 46 (.one (.int .i64 x46))) H (kSeq X58 (kBlk 2 (solve_boolFault.k55 Q))) := c_seq (c_ops (s_cons (w_put (o_lt rfl rfl (s_nil (k_seq (c_seq (c_if rfl (c_skip (k_seq (c_seq (c_blk (c_seq (c_ops (s_cons (w_put (o_ia rfl rfl (fun q_1 => s_cons (w_put (o_ld3 rfl (fun (v_2 : Int) (v_3 : Int) (v_4 : AC) => s_cons (w_put (o_new (fun p_5 H_6 => s_cons (w_run (o_st rfl rfl rfl (fun H_7 => s_nil (k_seq (c_seq (c_ops (s_cons (w_put (o_ld3 rfl (fun (v_8 : Int) (v_9 : Int) (v_10 : AC) => s_cons (w_put (o_call rfl (cv_1 (fun H_11 (v_12 : Int) => s_cons (w_put (o_mov rfl (s_nil (k_seq (c_seq (c_ops (s_cons (w_put (o_mov rfl (s_cons (w_put (o_ne rfl rfl (s_nil (k_seq (c_if rfl (c_seq (c_ops (s_cons (w_put (o_mov rfl (s_cons (w_put (o_mov rfl (s_nil (k_seq (c_ret (k_blkR (k_seqR (k_seqR (k_blkR (k_seqR (k_topR (r_one rfl (r_nil (fun h => ⟨((v_12 : Int), ()), rfl, h⟩)))))))))))))))))))) (c_skip (k_blk (k_seq (c_ops (s_cons (w_put (o_add rfl rfl (s_cons (w_put (o_mov rfl (s_nil (k_seq (hX58 _ _ _ ⟨rfl, rfl, rfl, trivial⟩)))))))))))))))))))))))))))))))))))))))))))))))))))))))))) (c_exit (k_seqE (k_seqE (k_blkH (k_seq (c_seq (c_ops (s_cons (w_put (o_mov rfl (s_nil (k_seq (c_ret (k_topR (r_one rfl (r_nil (fun h => ⟨((0 : Int), ()), rfl, h⟩)))))))))))))))))))))))))
theorem solve_boolFault.l58_ok (Q : AHeap → Int → Prop) {x44 : AC} {x45 : Int} {x46 : Int} {H : AHeap} {t : Env} (h44 : t 44 = (.one x44)) (h45 : t 45 = (.one (.int .i64 x45))) (h46 : t 46 = (.one (.int .i64 x46))) : solve_boolFault.l58 Q x44 x45 x46 H → wpC Try.prog (.loop solve_boolFault.c59) t H (kBlk 2 (solve_boolFault.k55 Q)) :=
  m_loop solve_boolFault.R58 ⟨h44, h45, h46, trivial⟩ fun X Y hX s t H hR hB => by
    have g := solve_boolFault.b58_ok Q Y X hX t hB
    rw [upd_self hR.1] at g
    rw [upd_self hR.2.1] at g
    rw [upd_self hR.2.2.1] at g
    exact g
theorem solve_boolFault.p49_okE (Q : AHeap → Int → Prop) {x1 : AC} {x33 : Bool} {H : AHeap} (j : Env) : solve_boolFault.p49 Q x1 x33 H → wpC Try.prog solve_boolFault.c49 (upd (upd j 1 (.one x1)) 33 (.one (.bool x33))) H (kBlk 1 (solve_boolFault.k40 Q)) := c_if rfl (c_seq (c_ops (s_cons (w_put (o_mov rfl (s_nil (k_seq (c_ret (k_blkR (k_seqR (k_topR (r_one rfl (r_nil (fun h => ⟨((1 : Int), ()), rfl, h⟩)))))))))))))) (c_skip (k_blk (k_seq (c_seq (c_seq (c_ops (s_cons (w_put (o_fa rfl (fun q_1 => s_cons (w_put (o_ld1 rfl (fun (v_2 : AC) => s_cons (w_put (o_lens rfl (fun n_3 => s_cons (w_put (o_mov rfl (s_nil (k_seq (c_blk (solve_boolFault.l58_ok Q rfl rfl rfl))))))))))))))))))))))
theorem solve_boolFault.p49_ok (Q : AHeap → Int → Prop) {x1 : AC} {x33 : Bool} {H : AHeap} {t : Env} (h1 : t 1 = (.one x1)) (h33 : t 33 = (.one (.bool x33))) (h : solve_boolFault.p49 Q x1 x33 H) : wpC Try.prog solve_boolFault.c49 t H (kBlk 1 (solve_boolFault.k40 Q)) := by
  have g := solve_boolFault.p49_okE Q t h
  rw [upd_self h1] at g
  rw [upd_self h33] at g
  exact g
theorem solve_boolFault.p43_okE (Q : AHeap → Int → Prop) {x1 : AC} {x4 : Int} {x23 : Bool} {H : AHeap} (j : Env) : solve_boolFault.p43 Q x1 x4 x23 H → wpC Try.prog solve_boolFault.c43 (upd (upd (upd j 1 (.one x1)) 4 (.one (.int .i64 x4))) 23 (.one (.bool x23))) H (kBlk 1 (solve_boolFault.k40 Q)) := c_if rfl (c_seq (c_ops (s_cons (w_put (o_mov rfl (s_nil (k_seq (c_ret (k_blkR (k_seqR (k_topR (r_one rfl (r_nil (fun h => ⟨((2 : Int), ()), rfl, h⟩)))))))))))))) (c_seq (c_ops (s_cons (w_put (o_fa rfl (fun q_1 => s_cons (w_put (o_ld1 rfl (fun (v_2 : Int) => s_cons (w_put (o_lt rfl rfl (s_cons (w_put (o_mov rfl (s_cons (w_gputF rfl (s_cons (w_gputN rfl (s_cons (w_gputN rfl (s_cons (w_gputN rfl (s_cons (w_put (o_pickT rfl rfl (s_cons (w_put (o_mov rfl (s_nil (k_seq (solve_boolFault.p49_ok Q rfl rfl))))))))))))))) (o_fa rfl (fun q_3 => s_cons (w_gputY rfl (o_ld1 rfl (fun (v_4 : Int) => s_cons (w_gputY rfl (o_mov rfl (s_cons (w_gputY rfl (o_gt rfl rfl (s_cons (w_put (o_pickF rfl rfl (s_cons (w_put (o_mov rfl (s_nil (k_seq (solve_boolFault.p49_ok Q rfl rfl)))))))))))))))))))))))))))))))))))
theorem solve_boolFault.p43_ok (Q : AHeap → Int → Prop) {x1 : AC} {x4 : Int} {x23 : Bool} {H : AHeap} {t : Env} (h1 : t 1 = (.one x1)) (h4 : t 4 = (.one (.int .i64 x4))) (h23 : t 23 = (.one (.bool x23))) (h : solve_boolFault.p43 Q x1 x4 x23 H) : wpC Try.prog solve_boolFault.c43 t H (kBlk 1 (solve_boolFault.k40 Q)) := by
  have g := solve_boolFault.p43_okE Q t h
  rw [upd_self h1] at g
  rw [upd_self h4] at g
  rw [upd_self h23] at g
  exact g
theorem solve_boolFault.p39_okE (Q : AHeap → Int → Prop) {x1 : AC} {x3 : Int} {x4 : Int} {H : AHeap} (j : Env) : solve_boolFault.p39 Q x1 x3 x4 H → wpC Try.prog solve_boolFault.c39 (upd (upd (upd j 1 (.one x1)) 3 (.one (.int .i64 x3))) 4 (.one (.int .i64 x4))) H (solve_boolFault.K Q) := c_seq (c_blk (c_seq (c_ops (s_cons (w_put (o_mov rfl (s_cons (w_put (o_ge rfl rfl (s_cons (w_put (o_mov rfl (s_cons (w_gputT rfl (o_fa rfl (fun q_1 => s_cons (w_gputY rfl (o_ld1 rfl (fun (v_2 : AC) => s_cons (w_gputY rfl (o_lens rfl (fun n_3 => s_cons (w_gputY rfl (o_mov rfl (s_cons (w_gputY rfl (o_ne rfl rfl (s_cons (w_put (o_pickT rfl rfl (s_cons (w_put (o_mov rfl (s_nil (k_seq (solve_boolFault.p43_ok Q rfl rfl rfl)))))))))))))))))))))) (s_cons (w_gputN rfl (s_cons (w_gputN rfl (s_cons (w_gputN rfl (s_cons (w_gputN rfl (s_cons (w_put (o_pickF rfl rfl (s_cons (w_put (o_mov rfl (s_nil (k_seq (solve_boolFault.p43_ok Q rfl rfl rfl)))))))))))))))))))))))))))))))
theorem solve_boolFault.p39_ok (Q : AHeap → Int → Prop) {x1 : AC} {x3 : Int} {x4 : Int} {H : AHeap} {t : Env} (h1 : t 1 = (.one x1)) (h3 : t 3 = (.one (.int .i64 x3))) (h4 : t 4 = (.one (.int .i64 x4))) (h : solve_boolFault.p39 Q x1 x3 x4 H) : wpC Try.prog solve_boolFault.c39 t H (solve_boolFault.K Q) := by
  have g := solve_boolFault.p39_okE Q t h
  rw [upd_self h1] at g
  rw [upd_self h3] at g
  rw [upd_self h4] at g
  exact g
theorem solve_boolFault.p34_okE (Q : AHeap → Int → Prop) {x1 : AC} {x3 : Int} {x4 : Int} {x20 : Bool} {H : AHeap} (j : Env) : solve_boolFault.p34 Q x1 x3 x4 x20 H → wpC Try.prog solve_boolFault.c34 (upd (upd (upd (upd j 1 (.one x1)) 3 (.one (.int .i64 x3))) 4 (.one (.int .i64 x4))) 20 (.one (.bool x20))) H (kBlk 0 (solve_boolFault.k5 Q)) := c_if rfl (c_skip (k_blk (k_seq (solve_boolFault.p39_ok Q rfl rfl rfl)))) (c_seq (c_ops (s_cons (w_put (o_mov rfl (s_nil (k_seq (c_ret (k_blkR (k_seqR (k_topR (r_one rfl (r_nil (fun h => ⟨((7 : Int), ()), rfl, h⟩))))))))))))))
theorem solve_boolFault.p34_ok (Q : AHeap → Int → Prop) {x1 : AC} {x3 : Int} {x4 : Int} {x20 : Bool} {H : AHeap} {t : Env} (h1 : t 1 = (.one x1)) (h3 : t 3 = (.one (.int .i64 x3))) (h4 : t 4 = (.one (.int .i64 x4))) (h20 : t 20 = (.one (.bool x20))) (h : solve_boolFault.p34 Q x1 x3 x4 x20 H) : wpC Try.prog solve_boolFault.c34 t H (kBlk 0 (solve_boolFault.k5 Q)) := by
  have g := solve_boolFault.p34_okE Q t h
  rw [upd_self h1] at g
  rw [upd_self h3] at g
  rw [upd_self h4] at g
  rw [upd_self h20] at g
  exact g
theorem solve_boolFault.ok {a0_0 : Int} {a0_1 : Int} {a0_2 : AC} {H : AHeap} (Q : AHeap → Int → Prop) : solve_boolFault.W a0_0 a0_1 a0_2 H Q → wpF Try.prog solve_boolFault.c [.tm 2] (envOf [(.agg [(.int .i64 a0_0), (.int .i64 a0_1), a0_2])]) H (solve_boolFault.KQ Q) := c_seq (c_ops (s_cons (w_put (o_box rfl (fun p_1 H_2 => s_cons (w_put (o_mov rfl (s_nil (k_seq (c_seq (c_ops (s_cons (w_put (o_mov rfl (s_cons (w_put (o_mov rfl (s_nil (k_seq (c_seq (c_seq (c_ops (s_cons (w_put (o_fa rfl (fun q_3 => s_cons (w_put (o_ld1 rfl (fun (v_4 : Int) => s_nil (k_seq (c_blk (c_seq (c_ops (s_cons (w_put (o_eq rfl rfl (s_cons (w_put (o_mov rfl (s_nil (k_seq (c_if rfl (c_ops (s_cons (w_put (o_mov rfl (s_cons (w_put (o_mov rfl (s_nil (k_blk (k_seq (solve_boolFault.p39_ok Q rfl rfl rfl))))))))))) (c_seq (c_ops (s_cons (w_put (o_eq rfl rfl (s_cons (w_put (o_mov rfl (s_nil (k_seq (c_if rfl (c_ops (s_cons (w_put (o_mov rfl (s_cons (w_put (o_mov rfl (s_nil (k_blk (k_seq (solve_boolFault.p39_ok Q rfl rfl rfl))))))))))) (c_seq (c_ops (s_cons (w_put (o_eq rfl rfl (s_cons (w_put (o_mov rfl (s_nil (k_seq (c_if rfl (c_ops (s_cons (w_put (o_mov rfl (s_nil (k_blk (k_seq (solve_boolFault.p39_ok Q rfl rfl rfl)))))))) (c_seq (c_ops (s_cons (w_put (o_eq rfl rfl (s_cons (w_put (o_mov rfl (s_nil (k_seq (c_if rfl (c_ops (s_cons (w_put (o_mov rfl (s_nil (k_blk (k_seq (solve_boolFault.p39_ok Q rfl rfl rfl)))))))) (c_seq (c_ops (s_cons (w_put (o_eq rfl rfl (s_cons (w_put (o_mov rfl (s_nil (k_seq (c_if rfl (c_ops (s_cons (w_put (o_mov rfl (s_nil (k_blk (k_seq (solve_boolFault.p39_ok Q rfl rfl rfl)))))))) (c_seq (c_seq (c_ops (s_cons (w_put (o_eq rfl rfl (s_cons (w_put (o_mov rfl (s_nil (k_seq (c_if rfl (c_skip (k_seq (solve_boolFault.p34_ok Q rfl rfl rfl rfl))) (c_ops (s_cons (w_put (o_eq rfl rfl (s_cons (w_put (o_mov rfl (s_nil (k_seq (solve_boolFault.p34_ok Q rfl rfl rfl rfl))))))))))))))))))))))))))))))))))))))))))))))))))))))))))))))))))))))))))))))))))))))))))))))))))))))))))))
theorem solve_boolFault.slimOk : slimOk [] (Try.f47.body.getD .skip) = true := by kernel_rfl
theorem solve_boolFault.resC : resC Try.prog aggs Try.f47.ntmps (slim [] (Try.f47.body.getD .skip)) = some solve_boolFault.c := by kernel_rfl
theorem solve_boolFault.resR : resR Try.prog Try.f47.results.toList = some [.tm 2] := by kernel_rfl
theorem solve_boolFault.bodyEq : Try.f47.body = some (Try.f47.body.getD .skip) := by kernel_rfl
theorem solve_boolFault.run {a0_0 : Int} {a0_1 : Int} {a0_2 : AC} {H : AHeap} {Q : AHeap → Int → Prop} (h : solve_boolFault.W a0_0 a0_1 a0_2 H Q) : Fn.solve_boolFault a0_0 a0_1 a0_2 H Q := by
  unfold Fn.solve_boolFault RunT
  exact run_of aggs_ok [] Try.func47 solve_boolFault.bodyEq solve_boolFault.slimOk solve_boolFault.resC solve_boolFault.resR (Nat.le_of_ble_eq_true (by kernel_rfl)) (solve_boolFault.ok Q h)
end Go.Proofs.Ytanaaabejeeakaa
end
section
/- Printed by a program: functions and what must hold ahead of them. -/
namespace Go.Proofs.Ytanaaabejeeakaa
open Go.AI
set_option maxRecDepth 100000
set_option maxHeartbeats 2000000
set_option linter.unusedVariables false
attribute [local irreducible] Ld Sto New NewS NewM NN NZ GE0 FA IA IAP LenS Slc App Cpy Clr MkS Fnc NilQ IxS Look MSet Run CV RunT CVT LoopT Same1 Same2 wpC wpOs wpT wpO wpOp

def fetterlockref6_walk.c67 : RC := (.cond 90 (.seq (.ops [.put 91 (.fa 2 (.tm 3)),
    .run (.st 1 (.tm 91) (.ct (.one (.bool true))))]) (.seq (.ops [.put 92 (.ld true [.ac, .ac, .bool] (.tm 3)),
    .run (.st 3 (.tm 6) (.tm 92)),
    .put 7 (.mov (.ct (.one (.int .i64 0))))]) .ret)) .skip)
def fetterlockref6_walk.c50 : RC := (.cond 60 (.seq (.ops [.put 61 (.ld true [.ac, .ac, .bool] (.tm 3)),
    .put 62 (.mov (.tm 9)),
    .run (.st 3 (.tm 6) (.tm 61)),
    .put 7 (.mov (.tm 62))]) .ret) .skip)
def fetterlockref6_walk.c40 : RC := (.seq (.seq (.ops [.put 37 (.mov (.tm 9)),
    .put 38 (.fa 0 (.tm 3)),
    .put 39 (.ld false [.ac] (.tm 38)),
    .put 40 (.lens (.tm 39)),
    .put 41 (.cm .lt (.tm 37) (.tm 40))]) (.cond 41 .skip (.exit 2))) (.seq (.block 3 (.seq (.ops [.put 44 (.fa 0 (.tm 3)),
    .put 45 (.ld false [.ac] (.tm 44)),
    .put 46 (.mov (.tm 9)),
    .put 47 (.ia 3 (.tm 45) (.tm 46)),
    .put 48 (.fa 0 (.tm 47)),
    .put 49 (.ld false [.int .i64] (.tm 48)),
    .put 50 (.mov (.tm 2)),
    .put 51 (.cm .eq (.tm 49) (.tm 50)),
    .put 52 (.mov (.tm 51)),
    .gput 53 52 true (.fa 1 (.tm 3)),
    .gput 54 52 true (.ld false [.ac] (.tm 53)),
    .gput 55 52 true (.mov (.tm 9)),
    .gput 56 52 true (.ia 1 (.tm 54) (.tm 55)),
    .gput 57 52 true (.ld false [.ac] (.tm 56)),
    .gput 58 52 true (.mov (.tm 1)),
    .gput 59 52 true (.call 83 [(.tm 57), (.tm 58)]),
    .put 60 (.pick (.tm 52) (.tm 59) (.ct (.one (.bool false))))]) fetterlockref6_walk.c50)) (.ops [.put 42 (.mov (.tm 9)),
    .put 43 (.ar .add (.tm 42) (.ct (.one (.int .i64 1)))),
    .put 9 (.mov (.tm 43))])))
def fetterlockref6_walk.c23 : RC := (.seq (.seq (.ops [.put 22 (.mov (.tm 1)),
    .put 23 (.mov (.tm 8)),
    .put 24 (.slc 1 (.tm 22) none (some (.tm 23))),
    .put 25 (.mov (.tm 1)),
    .put 26 (.mov (.tm 8)),
    .put 27 (.slc 1 (.tm 25) (some (.tm 26)) none),
    .put 28 (.call 83 [(.tm 24), (.tm 27)])]) (.cond 28 .skip (.exit 0))) (.block 1 (.seq (.ops [.put 29 (.mov (.tm 1)),
    .put 30 (.mov (.tm 8)),
    .put 31 (.slc 1 (.tm 29) none (some (.tm 30))),
    .put 1 (.mov (.tm 31))]) (.seq (.ops [.put 32 (.mov (.tm 1)),
    .put 33 (.lens (.tm 32)),
    .put 34 (.ar .quo (.tm 33) (.ct (.one (.int .i64 2)))),
    .put 8 (.mov (.tm 34))]) (.ops [.put 35 (.mov (.tm 2)),
    .put 36 (.ar .add (.tm 35) (.ct (.one (.int .i64 1)))),
    .put 2 (.mov (.tm 36))])))))
def fetterlockref6_walk.c : RC := (.seq (.ops [.put 3 (.box 71 (.tm 0)),
    .put 6 (.new 71 [(.sl none 0 0 (some 0)), (.sl none 0 0 (some 0)), (.bool false)]),
    .put 7 (.mov (.ct (.one (.int .i64 0))))]) (.seq (.seq (.ops [.put 12 (.mov (.tm 1)),
    .put 13 (.call 82 [(.tm 12)])]) (.cond 13 (.seq (.seq (.ops [.put 14 (.mov (.tm 1)),
    .put 15 (.ia 1 (.tm 14) (.ct (.one (.int .i64 0)))),
    .put 16 (.ld false [.bool] (.tm 15))]) (.cond 16 (.seq (.ops [.put 17 (.ld true [.ac, .ac, .bool] (.tm 3)),
    .run (.st 3 (.tm 6) (.tm 17)),
    .put 7 (.mov (.ct (.one (.int .i64 (-2)))))]) .ret) .skip)) (.seq (.ops [.put 18 (.ld true [.ac, .ac, .bool] (.tm 3)),
    .run (.st 3 (.tm 6) (.tm 18)),
    .put 7 (.mov (.ct (.one (.int .i64 (-1)))))]) .ret)) .skip)) (.seq (.ops [.put 19 (.mov (.tm 1)),
    .put 20 (.lens (.tm 19)),
    .put 21 (.ar .quo (.tm 20) (.ct (.one (.int .i64 2)))),
    .put 8 (.mov (.tm 21))]) (.seq (.block 0 (.loop fetterlockref6_walk.c23)) (.seq (.seq (.ops [.put 9 (.mov (.ct (.one (.int .i64 0))))]) (.block 2 (.loop fetterlockref6_walk.c40))) (.seq (.ops [.put 10 (.mov (.ct (.one (.int .i64 0))))]) (.seq (.ops [.put 11 (.mov (.ct (.one (.int .i64 0))))]) (.seq (.ops [.put 64 (.ld true [.ac, .ac, .bool] (.tm 3)),
    .put 65 (.mov (.tm 1)),
    .put 66 (.mov (.tm 8)),
    .put 67 (.slc 1 (.tm 65) none (some (.tm 66))),
    .put 68 (.mov (.tm 2)),
    .put 69 (.ar .add (.tm 68) (.ct (.one (.int .i64 1)))),
    .put 70 (.call 48 [(.tm 64), (.tm 67), (.tm 69)]),
    .put 63 (.mov (.tm 70)),
    .put 71 (.ex (.tm 63) 0),
    .put 72 (.ex (.tm 63) 1),
    .run (.st 3 (.tm 3) (.tm 71)),
    .put 10 (.mov (.tm 72))]) (.seq (.ops [.put 74 (.ld true [.ac, .ac, .bool] (.tm 3)),
    .put 75 (.mov (.tm 1)),
    .put 76 (.mov (.tm 8)),
    .put 77 (.slc 1 (.tm 75) (some (.tm 76)) none),
    .put 78 (.mov (.tm 2)),
    .put 79 (.ar .add (.tm 78) (.ct (.one (.int .i64 1)))),
    .put 80 (.call 48 [(.tm 74), (.tm 77), (.tm 79)]),
    .put 73 (.mov (.tm 80)),
    .put 81 (.ex (.tm 73) 0),
    .put 82 (.ex (.tm 73) 1),
    .run (.st 3 (.tm 3) (.tm 81)),
    .put 11 (.mov (.tm 82))]) (.seq (.seq (.ops [.put 83 (.fa 2 (.tm 3)),
    .put 84 (.ld false [.bool] (.tm 83)),
    .put 85 (.mov (.tm 84)),
    .gput 86 85 false (.fa 0 (.tm 3)),
    .gput 87 85 false (.ld false [.ac] (.tm 86)),
    .gput 88 85 false (.lens (.tm 87)),
    .gput 89 85 false (.cm .eq (.tm 88) (.ct (.one (.int .i64 2000)))),
    .put 90 (.pick (.tm 85) (.ct (.one (.bool true))) (.tm 89))]) fetterlockref6_walk.c67) (.seq (.ops [.put 93 (.fa 0 (.tm 3)),
    .put 94 (.ld false [.ac] (.tm 93)),
    .put 95 (.mov (.tm 2)),
    .put 96 (.mov (.tm 10)),
    .put 97 (.mov (.tm 11)),
    .put 98 (.bld [(.int .i64 0), (.int .i64 0), (.int .i64 0)] [(0, 1, (.tm 95)), (1, 1, (.tm 96)), (2, 1, (.tm 97))]),
    .put 99 (.blds 77 3 1 [(.int .i64 0), (.int .i64 0), (.int .i64 0)] [(0, 3, (.tm 98))]),
    .put 100 (.app 77 3 24 (.tm 94) (.tm 99)),
    .put 101 (.fa 0 (.tm 3)),
    .run (.st 1 (.tm 101) (.tm 100))]) (.seq (.ops [.put 102 (.fa 1 (.tm 3)),
    .put 103 (.ld false [.ac] (.tm 102)),
    .put 104 (.mov (.tm 1)),
    .put 105 (.blds 33 1 1 [(.sl none 0 0 (some 0))] [(0, 1, (.tm 104))]),
    .put 106 (.app 33 1 24 (.tm 103) (.tm 105)),
    .put 107 (.fa 1 (.tm 3)),
    .run (.st 1 (.tm 107) (.tm 106))]) (.seq (.held [.put 108 (.ld true [.ac, .ac, .bool] (.tm 3)),
    .put 109 (.fa 0 (.tm 3)),
    .put 110 (.ld false [.ac] (.tm 109)),
    .put 111 (.lens (.tm 110)),
    .put 112 (.ar .sub (.tm 111) (.ct (.one (.int .i64 1)))),
    .run (.st 3 (.tm 6) (.tm 108)),
    .put 7 (.mov (.tm 112))] [(2, 5), (3, 5)]) .ret)))))))))))))
abbrev fetterlockref6_walk.KQ (Q : AHeap → AC → AC → Bool → Int → Prop) : AV → AHeap → Prop := fun v H => ∃ xs : Tup (flat [(true, [.ac, .ac, .bool]), (false, [.int .i64])]), v = joinR (splitP [(true, [.ac, .ac, .bool]), (false, [.int .i64])] (cellsOf (flat [(true, [.ac, .ac, .bool]), (false, [.int .i64])]) xs)) ∧ app (flat [(true, [.ac, .ac, .bool]), (false, [.int .i64])]) (Q H) xs
abbrev fetterlockref6_walk.K (Q : AHeap → AC → AC → Bool → Int → Prop) : Ex → Env → AHeap → Prop := kTop [.cell 6 true [.ac, .ac, .bool], .tm 7] (fetterlockref6_walk.KQ Q)
abbrev fetterlockref6_walk.k21 (Q : AHeap → AC → AC → Bool → Int → Prop) : Ex → Env → AHeap → Prop := kSeq (fun t H => wpC Try.prog (.seq (.seq (.ops [.put 9 (.mov (.ct (.one (.int .i64 0))))]) (.block 2 (.loop fetterlockref6_walk.c40))) (.seq (.ops [.put 10 (.mov (.ct (.one (.int .i64 0))))]) (.seq (.ops [.put 11 (.mov (.ct (.one (.int .i64 0))))]) (.seq (.ops [.put 64 (.ld true [.ac, .ac, .bool] (.tm 3)),
    .put 65 (.mov (.tm 1)),
    .put 66 (.mov (.tm 8)),
    .put 67 (.slc 1 (.tm 65) none (some (.tm 66))),
    .put 68 (.mov (.tm 2)),
    .put 69 (.ar .add (.tm 68) (.ct (.one (.int .i64 1)))),
    .put 70 (.call 48 [(.tm 64), (.tm 67), (.tm 69)]),
    .put 63 (.mov (.tm 70)),
    .put 71 (.ex (.tm 63) 0),
    .put 72 (.ex (.tm 63) 1),
    .run (.st 3 (.tm 3) (.tm 71)),
    .put 10 (.mov (.tm 72))]) (.seq (.ops [.put 74 (.ld true [.ac, .ac, .bool] (.tm 3)),
    .put 75 (.mov (.tm 1)),
    .put 76 (.mov (.tm 8)),
    .put 77 (.slc 1 (.tm 75) (some (.tm 76)) none),
    .put 78 (.mov (.tm 2)),
    .put 79 (.ar .add (.tm 78) (.ct (.one (.int .i64 1)))),
    .put 80 (.call 48 [(.tm 74), (.tm 77), (.tm 79)]),
    .put 73 (.mov (.tm 80)),
    .put 81 (.ex (.tm 73) 0),
    .put 82 (.ex (.tm 73) 1),
    .run (.st 3 (.tm 3) (.tm 81)),
    .put 11 (.mov (.tm 82))]) (.seq (.seq (.ops [.put 83 (.fa 2 (.tm 3)),
    .put 84 (.ld false [.bool] (.tm 83)),
    .put 85 (.mov (.tm 84)),
    .gput 86 85 false (.fa 0 (.tm 3)),
    .gput 87 85 false (.ld false [.ac] (.tm 86)),
    .gput 88 85 false (.lens (.tm 87)),
    .gput 89 85 false (.cm .eq (.tm 88) (.ct (.one (.int .i64 2000)))),
    .put 90 (.pick (.tm 85) (.ct (.one (.bool true))) (.tm 89))]) fetterlockref6_walk.c67) (.seq (.ops [.put 93 (.fa 0 (.tm 3)),
    .put 94 (.ld false [.ac] (.tm 93)),
    .put 95 (.mov (.tm 2)),
    .put 96 (.mov (.tm 10)),
    .put 97 (.mov (.tm 11)),
    .put 98 (.bld [(.int .i64 0), (.int .i64 0), (.int .i64 0)] [(0, 1, (.tm 95)), (1, 1, (.tm 96)), (2, 1, (.tm 97))]),
    .put 99 (.blds 77 3 1 [(.int .i64 0), (.int .i64 0), (.int .i64 0)] [(0, 3, (.tm 98))]),
    .put 100 (.app 77 3 24 (.tm 94) (.tm 99)),
    .put 101 (.fa 0 (.tm 3)),
    .run (.st 1 (.tm 101) (.tm 100))]) (.seq (.ops [.put 102 (.fa 1 (.tm 3)),
    .put 103 (.ld false [.ac] (.tm 102)),
    .put 104 (.mov (.tm 1)),
    .put 105 (.blds 33 1 1 [(.sl none 0 0 (some 0))] [(0, 1, (.tm 104))]),
    .put 106 (.app 33 1 24 (.tm 103) (.tm 105)),
    .put 107 (.fa 1 (.tm 3)),
    .run (.st 1 (.tm 107) (.tm 106))]) (.seq (.held [.put 108 (.ld true [.ac, .ac, .bool] (.tm 3)),
    .put 109 (.fa 0 (.tm 3)),
    .put 110 (.ld false [.ac] (.tm 109)),
    .put 111 (.lens (.tm 110)),
    .put 112 (.ar .sub (.tm 111) (.ct (.one (.int .i64 1)))),
    .run (.st 3 (.tm 6) (.tm 108)),
    .put 7 (.mov (.tm 112))] [(2, 5), (3, 5)]) .ret))))))))) t H (fetterlockref6_walk.K Q)) (fetterlockref6_walk.K Q)
abbrev fetterlockref6_walk.k36 (Q : AHeap → AC → AC → Bool → Int → Prop) : Ex → Env → AHeap → Prop := kSeq (fun t H => wpC Try.prog (.seq (.ops [.put 10 (.mov (.ct (.one (.int .i64 0))))]) (.seq (.ops [.put 11 (.mov (.ct (.one (.int .i64 0))))]) (.seq (.ops [.put 64 (.ld true [.ac, .ac, .bool] (.tm 3)),
    .put 65 (.mov (.tm 1)),
    .put 66 (.mov (.tm 8)),
    .put 67 (.slc 1 (.tm 65) none (some (.tm 66))),
    .put 68 (.mov (.tm 2)),
    .put 69 (.ar .add (.tm 68) (.ct (.one (.int .i64 1)))),
    .put 70 (.call 48 [(.tm 64), (.tm 67), (.tm 69)]),
    .put 63 (.mov (.tm 70)),
    .put 71 (.ex (.tm 63) 0),
    .put 72 (.ex (.tm 63) 1),
    .run (.st 3 (.tm 3) (.tm 71)),
    .put 10 (.mov (.tm 72))]) (.seq (.ops [.put 74 (.ld true [.ac, .ac, .bool] (.tm 3)),
    .put 75 (.mov (.tm 1)),
    .put 76 (.mov (.tm 8)),
    .put 77 (.slc 1 (.tm 75) (some (.tm 76)) none),
    .put 78 (.mov (.tm 2)),
    .put 79 (.ar .add (.tm 78) (.ct (.one (.int .i64 1)))),
    .put 80 (.call 48 [(.tm 74), (.tm 77), (.tm 79)]),
    .put 73 (.mov (.tm 80)),
    .put 81 (.ex (.tm 73) 0),
    .put 82 (.ex (.tm 73) 1),
    .run (.st 3 (.tm 3) (.tm 81)),
    .put 11 (.mov (.tm 82))]) (.seq (.seq (.ops [.put 83 (.fa 2 (.tm 3)),
    .put 84 (.ld false [.bool] (.tm 83)),
    .put 85 (.mov (.tm 84)),
    .gput 86 85 false (.fa 0 (.tm 3)),
    .gput 87 85 false (.ld false [.ac] (.tm 86)),
    .gput 88 85 false (.lens (.tm 87)),
    .gput 89 85 false (.cm .eq (.tm 88) (.ct (.one (.int .i64 2000)))),
    .put 90 (.pick (.tm 85) (.ct (.one (.bool true))) (.tm 89))]) fetterlockref6_walk.c67) (.seq (.ops [.put 93 (.fa 0 (.tm 3)),
    .put 94 (.ld false [.ac] (.tm 93)),
    .put 95 (.mov (.tm 2)),
    .put 96 (.mov (.tm 10)),
    .put 97 (.mov (.tm 11)),
    .put 98 (.bld [(.int .i64 0), (.int .i64 0), (.int .i64 0)] [(0, 1, (.tm 95)), (1, 1, (.tm 96)), (2, 1, (.tm 97))]),
    .put 99 (.blds 77 3 1 [(.int .i64 0), (.int .i64 0), (.int .i64 0)] [(0, 3, (.tm 98))]),
    .put 100 (.app 77 3 24 (.tm 94) (.tm 99)),
    .put 101 (.fa 0 (.tm 3)),
    .run (.st 1 (.tm 101) (.tm 100))]) (.seq (.ops [.put 102 (.fa 1 (.tm 3)),
    .put 103 (.ld false [.ac] (.tm 102)),
    .put 104 (.mov (.tm 1)),
    .put 105 (.blds 33 1 1 [(.sl none 0 0 (some 0))] [(0, 1, (.tm 104))]),
    .put 106 (.app 33 1 24 (.tm 103) (.tm 105)),
    .put 107 (.fa 1 (.tm 3)),
    .run (.st 1 (.tm 107) (.tm 106))]) (.seq (.held [.put 108 (.ld true [.ac, .ac, .bool] (.tm 3)),
    .put 109 (.fa 0 (.tm 3)),
    .put 110 (.ld false [.ac] (.tm 109)),
    .put 111 (.lens (.tm 110)),
    .put 112 (.ar .sub (.tm 111) (.ct (.one (.int .i64 1)))),
    .run (.st 3 (.tm 6) (.tm 108)),
    .put 7 (.mov (.tm 112))] [(2, 5), (3, 5)]) .ret)))))))) t H (fetterlockref6_walk.K Q)) (fetterlockref6_walk.K Q)
abbrev fetterlockref6_walk.k47 (Q : AHeap → AC → AC → Bool → Int → Prop) (X39 : Env → AHeap → Prop) : Ex → Env → AHeap → Prop := kSeq (fun t H => wpC Try.prog (.ops [.put 42 (.mov (.tm 9)),
    .put 43 (.ar .add (.tm 42) (.ct (.one (.int .i64 1)))),
    .put 9 (.mov (.tm 43))]) t H (kSeq X39 (kBlk 2 (fetterlockref6_walk.k36 Q)))) (kSeq X39 (kBlk 2 (fetterlockref6_walk.k36 Q)))
abbrev fetterlockref6_walk.k65 (Q : AHeap → AC → AC → Bool → Int → Prop) : Ex → Env → AHeap → Prop := kSeq (fun t H => wpC Try.prog (.seq (.ops [.put 93 (.fa 0 (.tm 3)),
    .put 94 (.ld false [.ac] (.tm 93)),
    .put 95 (.mov (.tm 2)),
    .put 96 (.mov (.tm 10)),
    .put 97 (.mov (.tm 11)),
    .put 98 (.bld [(.int .i64 0), (.int .i64 0), (.int .i64 0)] [(0, 1, (.tm 95)), (1, 1, (.tm 96)), (2, 1, (.tm 97))]),
    .put 99 (.blds 77 3 1 [(.int .i64 0), (.int .i64 0), (.int .i64 0)] [(0, 3, (.tm 98))]),
    .put 100 (.app 77 3 24 (.tm 94) (.tm 99)),
    .put 101 (.fa 0 (.tm 3)),
    .run (.st 1 (.tm 101) (.tm 100))]) (.seq (.ops [.put 102 (.fa 1 (.tm 3)),
    .put 103 (.ld false [.ac] (.tm 102)),
    .put 104 (.mov (.tm 1)),
    .put 105 (.blds 33 1 1 [(.sl none 0 0 (some 0))] [(0, 1, (.tm 104))]),
    .put 106 (.app 33 1 24 (.tm 103) (.tm 105)),
    .put 107 (.fa 1 (.tm 3)),
    .run (.st 1 (.tm 107) (.tm 106))]) (.seq (.held [.put 108 (.ld true [.ac, .ac, .bool] (.tm 3)),
    .put 109 (.fa 0 (.tm 3)),
    .put 110 (.ld false [.ac] (.tm 109)),
    .put 111 (.lens (.tm 110)),
    .put 112 (.ar .sub (.tm 111) (.ct (.one (.int .i64 1)))),
    .run (.st 3 (.tm 6) (.tm 108)),
    .put 7 (.mov (.tm 112))] [(2, 5), (3, 5)]) .ret))) t H (fetterlockref6_walk.K Q)) (fetterlockref6_walk.K Q)
def fetterlockref6_walk.R39 (s : Tup [.ac, .int .i64, .ac, .ac, .int .i64, .int .i64]) (t : Env) : Prop := t 1 = (.one (s.1)) ∧ t 2 = (.one (.int .i64 (s.2.1))) ∧ t 3 = (.one (s.2.2.1)) ∧ t 6 = (.one (s.2.2.2.1)) ∧ t 8 = (.one (.int .i64 (s.2.2.2.2.1))) ∧ t 9 = (.one (.int .i64 (s.2.2.2.2.2.1))) ∧ True
def fetterlockref6_walk.R22 (s : Tup [.ac, .int .i64, .ac, .ac, .int .i64]) (t : Env) : Prop := t 1 = (.one (s.1)) ∧ t 2 = (.one (.int .i64 (s.2.1))) ∧ t 3 = (.one (s.2.2.1)) ∧ t 6 = (.one (s.2.2.2.1)) ∧ t 8 = (.one (.int .i64 (s.2.2.2.2.1))) ∧ True
def fetterlockref6_walk.p67 (Q : AHeap → AC → AC → Bool → Int → Prop) (x1 : AC) (x2 : Int) (x3 : AC) (x6 : AC) (x10 : Int) (x11 : Int) (x90 : Bool) (H : AHeap) : Prop :=
  CondB x90
    (FA 2 x3 fun q_1 =>
    Sto H q_1 [(.bool true)] fun H_2 =>
    Ld [.ac, .ac, .bool] H_2 x3 fun (v_3 : AC) (v_4 : AC) (v_5 : Bool) =>
    Sto H_2 x6 [v_3, v_4, (.bool v_5)] fun H_6 =>
    Ld [.ac, .ac, .bool] H_6 x6 fun (r0_7 : AC) (r1_8 : AC) (r2_9 : Bool) =>
    Q H_6 r0_7 r1_8 r2_9 0)
    (FA 0 x3 fun q_10 =>
    Ld [.ac] H q_10 fun (v_11 : AC) =>
    NewS 77 3 1 [(.int .i64 x2), (.int .i64 x10), (.int .i64 x11)] H fun p_12 H_13 =>
    App 77 3 24 v_11 p_12 H_13 fun s_14 H_15 =>
    FA 0 x3 fun q_16 =>
    Sto H_15 q_16 [s_14] fun H_17 =>
    FA 1 x3 fun q_18 =>
    Ld [.ac] H_17 q_18 fun (v_19 : AC) =>
    NewS 33 1 1 [x1] H_17 fun p_20 H_21 =>
    App 33 1 24 v_19 p_20 H_21 fun s_22 H_23 =>
    FA 1 x3 fun q_24 =>
    Sto H_23 q_24 [s_22] fun H_25 =>
    Ld [.ac, .ac, .bool] H_25 x3 fun (v_26 : AC) (v_27 : AC) (v_28 : Bool) =>
    FA 0 x3 fun q_29 =>
    Ld [.ac] H_25 q_29 fun (v_30 : AC) =>
    LenS v_30 fun n_31 =>
    Sto H_25 x6 [v_26, v_27, (.bool v_28)] fun H_32 =>
    Same1 H_25 H_32 q_29 1 ∧
    Ld [.ac, .ac, .bool] H_32 x6 fun (r0_33 : AC) (r1_34 : AC) (r2_35 : Bool) =>
    Q H_32 r0_33 r1_34 r2_35 (IntKind.wrap .i64 (n_31 - 1)))
def fetterlockref6_walk.p50 (Q : AHeap → AC → AC → Bool → Int → Prop) (Y39 : Tup [.ac, .int .i64, .ac, .ac, .int .i64, .int .i64] → AHeap → Prop) (x1 : AC) (x2 : Int) (x3 : AC) (x6 : AC) (x8 : Int) (x9 : Int) (x60 : Bool) (H : AHeap) : Prop :=
  CondB x60
    (Ld [.ac, .ac, .bool] H x3 fun (v_1 : AC) (v_2 : AC) (v_3 : Bool) =>
    Sto H x6 [v_1, v_2, (.bool v_3)] fun H_4 =>
    Ld [.ac, .ac, .bool] H_4 x6 fun (r0_5 : AC) (r1_6 : AC) (r2_7 : Bool) =>
    Q H_4 r0_5 r1_6 r2_7 x9)
    (Y39 (x1, (x2 : Int), x3, x6, (x8 : Int), ((IntKind.wrap .i64 (x9 + 1)) : Int), ()) H)
def fetterlockref6_walk.b39 (Q : AHeap → AC → AC → Bool → Int → Prop) (Y39 : Tup [.ac, .int .i64, .ac, .ac, .int .i64, .int .i64] → AHeap → Prop) (x1 : AC) (x2 : Int) (x3 : AC) (x6 : AC) (x8 : Int) (x9 : Int) (H : AHeap) : Prop :=
  FA 0 x3 fun q_1 =>
  Ld [.ac] H q_1 fun (v_2 : AC) =>
  LenS v_2 fun n_3 =>
  CondB (decide (x9 < n_3))
    (FA 0 x3 fun q_4 =>
    Ld [.ac] H q_4 fun (v_5 : AC) =>
    IA 3 v_5 x9 fun q_6 =>
    FA 0 q_6 fun q_7 =>
    Ld [.int .i64] H q_7 fun (v_8 : Int) =>
    CondB (v_8 == x2)
      (FA 1 x3 fun q_9 =>
      Ld [.ac] H q_9 fun (v_10 : AC) =>
      IA 1 v_10 x9 fun q_11 =>
      Ld [.ac] H q_11 fun (v_12 : AC) =>
      Fn.fetterlockref6_alike v_12 x1 H fun H_13 (v_14 : Bool) =>
      fetterlockref6_walk.p50 Q Y39 x1 x2 x3 x6 x8 x9 v_14 H_13)
      (fetterlockref6_walk.p50 Q Y39 x1 x2 x3 x6 x8 x9 false H))
    (Ld [.ac, .ac, .bool] H x3 fun (v_15 : AC) (v_16 : AC) (v_17 : Bool) =>
    Slc 1 x1 none (some x8) fun s_18 =>
    Fn.fetterlockref6_walk v_15 v_16 v_17 s_18 (IntKind.wrap .i64 (x2 + 1)) H fun H_19 (v_20 : AC) (v_21 : AC) (v_22 : Bool) (v_23 : Int) =>
    Sto H_19 x3 [v_20, v_21, (.bool v_22)] fun H_24 =>
    Ld [.ac, .ac, .bool] H_24 x3 fun (v_25 : AC) (v_26 : AC) (v_27 : Bool) =>
    Slc 1 x1 (some x8) none fun s_28 =>
    Fn.fetterlockref6_walk v_25 v_26 v_27 s_28 (IntKind.wrap .i64 (x2 + 1)) H_24 fun H_29 (v_30 : AC) (v_31 : AC) (v_32 : Bool) (v_33 : Int) =>
    Sto H_29 x3 [v_30, v_31, (.bool v_32)] fun H_34 =>
    FA 2 x3 fun q_35 =>
    Ld [.bool] H_34 q_35 fun (v_36 : Bool) =>
    CondB v_36
      (fetterlockref6_walk.p67 Q x1 x2 x3 x6 v_23 v_33 true H_34)
      (FA 0 x3 fun q_37 =>
      Ld [.ac] H_34 q_37 fun (v_38 : AC) =>
      LenS v_38 fun n_39 =>
      fetterlockref6_walk.p67 Q x1 x2 x3 x6 v_23 v_33 (n_39 == 2000) H_34))
def fetterlockref6_walk.l39 (Q : AHeap → AC → AC → Bool → Int → Prop) (x1 : AC) (x2 : Int) (x3 : AC) (x6 : AC) (x8 : Int) (x9 : Int) (H : AHeap) : Prop := LoopT (Tup [.ac, .int .i64, .ac, .ac, .int .i64, .int .i64]) (fun Y s H => fetterlockref6_walk.b39 Q Y (s.1) (s.2.1) (s.2.2.1) (s.2.2.2.1) (s.2.2.2.2.1) (s.2.2.2.2.2.1) H) (x1, x2, x3, x6, x8, x9, ()) H
def fetterlockref6_walk.b22 (Q : AHeap → AC → AC → Bool → Int → Prop) (Y22 : Tup [.ac, .int .i64, .ac, .ac, .int .i64] → AHeap → Prop) (x1 : AC) (x2 : Int) (x3 : AC) (x6 : AC) (x8 : Int) (H : AHeap) : Prop :=
  Slc 1 x1 none (some x8) fun s_1 =>
  Slc 1 x1 (some x8) none fun s_2 =>
  Fn.fetterlockref6_alike s_1 s_2 H fun H_3 (v_4 : Bool) =>
  CondB v_4
    (Slc 1 x1 none (some x8) fun s_5 =>
    LenS s_5 fun n_6 =>
    NZ 2 <|
    Y22 (s_5, ((IntKind.wrap .i64 (x2 + 1)) : Int), x3, x6, ((IntKind.wrap .i64 (Int.tdiv n_6 2)) : Int), ()) H_3)
    (fetterlockref6_walk.l39 Q x1 x2 x3 x6 x8 0 H_3)
def fetterlockref6_walk.l22 (Q : AHeap → AC → AC → Bool → Int → Prop) (x1 : AC) (x2 : Int) (x3 : AC) (x6 : AC) (x8 : Int) (H : AHeap) : Prop := LoopT (Tup [.ac, .int .i64, .ac, .ac, .int .i64]) (fun Y s H => fetterlockref6_walk.b22 Q Y (s.1) (s.2.1) (s.2.2.1) (s.2.2.2.1) (s.2.2.2.2.1) H) (x1, x2, x3, x6, x8, ()) H
def fetterlockref6_walk.W (a0_0 : AC) (a0_1 : AC) (a0_2 : Bool) (a1 : AC) (a2 : Int) (H : AHeap) (Q : AHeap → AC → AC → Bool → Int → Prop) : Prop :=
  New 71 [a0_0, a0_1, (.bool a0_2)] H fun p_1 H_2 =>
  New 71 [(.sl none 0 0 (some 0)), (.sl none 0 0 (some 0)), (.bool false)] H_2 fun p_3 H_4 =>
  Fn.fetterlockref6_uniform a1 H_4 fun H_5 (v_6 : Bool) =>
  CondB v_6
    (IA 1 a1 0 fun q_7 =>
    Ld [.bool] H_5 q_7 fun (v_8 : Bool) =>
    CondB v_8
      (Ld [.ac, .ac, .bool] H_5 p_1 fun (v_9 : AC) (v_10 : AC) (v_11 : Bool) =>
      Sto H_5 p_3 [v_9, v_10, (.bool v_11)] fun H_12 =>
      Ld [.ac, .ac, .bool] H_12 p_3 fun (r0_13 : AC) (r1_14 : AC) (r2_15 : Bool) =>
      Q H_12 r0_13 r1_14 r2_15 (-2))
      (Ld [.ac, .ac, .bool] H_5 p_1 fun (v_16 : AC) (v_17 : AC) (v_18 : Bool) =>
      Sto H_5 p_3 [v_16, v_17, (.bool v_18)] fun H_19 =>
      Ld [.ac, .ac, .bool] H_19 p_3 fun (r0_20 : AC) (r1_21 : AC) (r2_22 : Bool) =>
      Q H_19 r0_20 r1_21 r2_22 (-1)))
    (LenS a1 fun n_23 =>
    NZ 2 <|
    fetterlockref6_walk.l22 Q a1 a2 p_1 p_3 (IntKind.wrap .i64 (Int.tdiv n_23 2)) H_5)
theorem fetterlockref6_walk.p67_okE (Q : AHeap → AC → AC → Bool → Int → Prop) {x1 : AC} {x2 : Int} {x3 : AC} {x6 : AC} {x10 : Int} {x11 : Int} {x90 : Bool} {H : AHeap} (j : Env) : fetterlockref6_walk.p67 Q x1 x2 x3 x6 x10 x11 x90 H → wpC Try.prog fetterlockref6_walk.c67 (upd (upd (upd (upd (upd (upd (upd j 1 (.one x1)) 2 (.one (.int .i64 x2))) 3 (.one x3)) 6 (.one x6)) 10 (.one (.int .i64 x10))) 11 (.one (.int .i64 x11))) 90 (.one (.bool x90))) H (fetterlockref6_walk.k65 Q) := c_if rfl (c_seq (c_ops (s_cons (w_put (o_fa rfl (fun q_1 => s_cons (w_run (o_st rfl rfl rfl (fun H_2 => s_nil (k_seq (c_seq (c_ops (s_cons (w_put (o_ld3 rfl (fun (v_3 : AC) (v_4 : AC) (v_5 : Bool) => s_cons (w_run (o_st rfl rfl rfl (fun H_6 => s_cons (w_put (o_mov rfl (s_nil (k_seq (c_ret (k_seqR (k_topR (r_cell3 rfl (fun (r0_7 : AC) (r1_8 : AC) (r2_9 : Bool) => r_one rfl (r_nil (fun h => ⟨(r0_7, r1_8, (r2_9 : Bool), (0 : Int), ()), rfl, h⟩)))))))))))))))))))))))))))))) (c_skip (k_seq (c_seq (c_ops (s_cons (w_put (o_fa rfl (fun q_10 => s_cons (w_put (o_ld1 rfl (fun (v_11 : AC) => s_cons (w_put (o_mov rfl (s_cons (w_put (o_mov rfl (s_cons (w_put (o_mov rfl (s_cons (w_put (o_bld rfl (s_cons (w_put (o_blds rfl (fun p_12 H_13 => s_cons (w_put (o_app rfl rfl (fun s_14 H_15 => s_cons (w_put (o_fa rfl (fun q_16 => s_cons (w_run (o_st rfl rfl rfl (fun H_17 => s_nil (k_seq (c_seq (c_ops (s_cons (w_put (o_fa rfl (fun q_18 => s_cons (w_put (o_ld1 rfl (fun (v_19 : AC) => s_cons (w_put (o_mov rfl (s_cons (w_put (o_blds rfl (fun p_20 H_21 => s_cons (w_put (o_app rfl rfl (fun s_22 H_23 => s_cons (w_put (o_fa rfl (fun q_24 => s_cons (w_run (o_st rfl rfl rfl (fun H_25 => s_nil (k_seq (c_seq (c_held (t_cons (w_put (o_ld3 rfl (fun (v_26 : AC) (v_27 : AC) (v_28 : Bool) => t_cons (w_put (o_fa rfl (fun q_29 => t_cons (w_put (o_ld1 rfl (fun (v_30 : AC) => t_cons (w_put (o_lens rfl (fun n_31 => t_cons (w_put (o_sub rfl rfl (t_cons (w_run (o_st rfl rfl rfl (fun H_32 => t_cons (w_put (o_mov rfl (t_nil (p_one rfl rfl rfl rfl rfl rfl rfl rfl (p_skip trivial (p_nil (k_seq (c_ret (k_topR (r_cell3 rfl (fun (r0_33 : AC) (r1_34 : AC) (r2_35 : Bool) => r_one rfl (r_nil (fun h => ⟨(r0_33, r1_34, (r2_35 : Bool), ((IntKind.wrap .i64 (n_31 - 1)) : Int), ()), rfl, h⟩)))))))))))))))))))))))))))))))))))))))))))))))))))))))))))))))))))))))))))))))))))))))))))))))
theorem fetterlockref6_walk.p67_ok (Q : AHeap → AC → AC → Bool → Int → Prop) {x1 : AC} {x2 : Int} {x3 : AC} {x6 : AC} {x10 : Int} {x11 : Int} {x90 : Bool} {H : AHeap} {t : Env} (h1 : t 1 = (.one x1)) (h2 : t 2 = (.one (.int .i64 x2))) (h3 : t 3 = (.one x3)) (h6 : t 6 = (.one x6)) (h10 : t 10 = (.one (.int .i64 x10))) (h11 : t 11 = (.one (.int .i64 x11))) (h90 : t 90 = (.one (.bool x90))) (h : fetterlockref6_walk.p67 Q x1 x2 x3 x6 x10 x11 x90 H) : wpC Try.prog fetterlockref6_walk.c67 t H (fetterlockref6_walk.k65 Q) := by
  have g := fetterlockref6_walk.p67_okE Q t h
  rw [upd_self h1] at g
  rw [upd_self h2] at g
  rw [upd_self h3] at g
  rw [upd_self h6] at g
  rw [upd_self h10] at g
  rw [upd_self h11] at g
  rw [upd_self h90] at g
  exact g
theorem fetterlockref6_walk.p50_okE (Q : AHeap → AC → AC → Bool → Int → Prop) (Y39 : Tup [.ac, .int .i64, .ac, .ac, .int .i64, .int .i64] → AHeap → Prop) (X39 : Env → AHeap → Prop) (hX39 : ∀ s t H, fetterlockref6_walk.R39 s t → Y39 s H → X39 t H) {x1 : AC} {x2 : Int} {x3 : AC} {x6 : AC} {x8 : Int} {x9 : Int} {x60 : Bool} {H : AHeap} (j : Env) : fetterlockref6_walk.p50 Q Y39 x1 x2 x3 x6 x8 x9 x60 H → wpC Try.prog fetterlockref6_walk.c50 (upd (upd (upd (upd (upd (upd (upd j 1 (.one x1)) 2 (.one (.int .i64 x2))) 3 (.one x3)) 6 (.one x6)) 8 (.one (.int .i64 x8))) 9 (.one (.int .i64 x9))) 60 (.one (.bool x60))) H (kBlk 3 (fetterlockref6_walk.k47 Q X39)) := c_if rfl (c_seq (c_ops (s_cons (w_put (o_ld3 rfl (fun (v_1 : AC) (v_2 : AC) (v_3 : Bool) => s_cons (w_put (o_mov rfl (s_cons (w_run (o_st rfl rfl rfl (fun H_4 => s_cons (w_put (o_mov rfl (s_nil (k_seq (c_ret (k_blkR (k_seqR (k_seqR (k_blkR (k_seqR (k_topR (r_cell3 rfl (fun (r0_5 : AC) (r1_6 : AC) (r2_7 : Bool) => r_one rfl (r_nil (fun h => ⟨(r0_5, r1_6, (r2_7 : Bool), (x9 : Int), ()), rfl, h⟩))))))))))))))))))))))))))) (c_skip (k_blk (k_seq (c_ops (s_cons (w_put (o_mov rfl (s_cons (w_put (o_add rfl rfl (s_cons (w_put (o_mov rfl (s_nil (k_seq (hX39 _ _ _ ⟨rfl, rfl, rfl, rfl, rfl, rfl, trivial⟩))))))))))))))))
theorem fetterlockref6_walk.p50_ok (Q : AHeap → AC → AC → Bool → Int → Prop) (Y39 : Tup [.ac, .int .i64, .ac, .ac, .int .i64, .int .i64] → AHeap → Prop) (X39 : Env → AHeap → Prop) (hX39 : ∀ s t H, fetterlockref6_walk.R39 s t → Y39 s H → X39 t H) {x1 : AC} {x2 : Int} {x3 : AC} {x6 : AC} {x8 : Int} {x9 : Int} {x60 : Bool} {H : AHeap} {t : Env} (h1 : t 1 = (.one x1)) (h2 : t 2 = (.one (.int .i64 x2))) (h3 : t 3 = (.one x3)) (h6 : t 6 = (.one x6)) (h8 : t 8 = (.one (.int .i64 x8))) (h9 : t 9 = (.one (.int .i64 x9))) (h60 : t 60 = (.one (.bool x60))) (h : fetterlockref6_walk.p50 Q Y39 x1 x2 x3 x6 x8 x9 x60 H) : wpC Try.prog fetterlockref6_walk.c50 t H (kBlk 3 (fetterlockref6_walk.k47 Q X39)) := by
  have g := fetterlockref6_walk.p50_okE Q Y39 X39 hX39 t h
  rw [upd_self h1] at g
  rw [upd_self h2] at g
  rw [upd_self h3] at g
  rw [upd_self h6] at g
  rw [upd_self h8] at g
  rw [upd_self h9] at g
  rw [upd_self h60] at g
  exact g
theorem fetterlockref6_walk.b39_ok (Q : AHeap → AC → AC → Bool → Int → Prop) (Y39 : Tup [.ac, .int .i64, .ac, .ac, .int .i64, .int .i64] → AHeap → Prop) (X39 : Env → AHeap → Prop) (hX39 : ∀ s t H, fetterlockref6_walk.R39 s t → Y39 s H → X39 t H) {x1 : AC} {x2 : Int} {x3 : AC} {x6 : AC} {x8 : Int} {x9 : Int} {H : AHeap} (j : Env) : fetterlockref6_walk.b39 Q Y39 x1 x2 x3 x6 x8 x9 H → wpC Try.prog fetterlockref6_walk.c40 (upd (upd (upd (upd (upd (upd j 1 (.one x1)) 2 (.one (.int .i64 x2))) 3 (.one x3)) 6 (.one x6)) 8 (.one (.int .i64 x8))) 9 (.one (.int .i64 x9))) H (kSeq X39 (kBlk 2 (fetterlockref6_walk.k36 Q))) := c_seq (c_seq (c_ops (s_cons (w_put (o_mov rfl (s_cons (w_put (o_fa rfl (fun q_1 => s_cons (w_put (o_ld1 rfl (fun (v_2 : AC) => s_cons (w_put (o_lens rfl (fun n_3 => s_cons (w_put (o_lt rfl rfl (s_nil (k_seq (c_if rfl (c_skip (k_seq (c_seq (c_blk (c_seq (c_ops (s_cons (w_put (o_fa rfl (fun q_4 => s_cons (w_put (o_ld1 rfl (fun (v_5 : AC) => s_cons (w_put (o_mov rfl (s_cons (w_put (o_ia rfl rfl (fun q_6 => s_cons (w_put (o_fa rfl (fun q_7 => s_cons (w_put (o_ld1 rfl (fun (v_8 : Int) => s_cons (w_put (o_mov rfl (s_cons (w_put (o_eq rfl rfl (s_cons (w_put (o_mov rfl (s_cons (w_gputT rfl (o_fa rfl (fun q_9 => s_cons (w_gputY rfl (o_ld1 rfl (fun (v_10 : AC) => s_cons (w_gputY rfl (o_mov rfl (s_cons (w_gputY rfl (o_ia rfl rfl (fun q_11 => s_cons (w_gputY rfl (o_ld1 rfl (fun (v_12 : AC) => s_cons (w_gputY rfl (o_mov rfl (s_cons (w_gputY rfl (o_call rfl (cv_1 (fun H_13 (v_14 : Bool) => s_cons (w_put (o_pickT rfl rfl (s_nil (k_seq (fetterlockref6_walk.p50_ok Q Y39 X39 hX39 rfl rfl rfl rfl rfl rfl rfl)))))))))))))))))))))))))) (s_cons (w_gputN rfl (s_cons (w_gputN rfl (s_cons (w_gputN rfl (s_cons (w_gputN rfl (s_cons (w_gputN rfl (s_cons (w_gputN rfl (s_cons (w_put (o_pickF rfl rfl (s_nil (k_seq (fetterlockref6_walk.p50_ok Q Y39 X39 hX39 rfl rfl rfl rfl rfl rfl rfl))))))))))))))))))))))))))))))))))))))))))))))))))))) (c_exit (k_seqE (k_seqE (k_blkH (k_seq (c_seq (c_ops (s_cons (w_put (o_mov rfl (s_nil (k_seq (c_seq (c_ops (s_cons (w_put (o_mov rfl (s_nil (k_seq (c_seq (c_ops (s_cons (w_put (o_ld3 rfl (fun (v_15 : AC) (v_16 : AC) (v_17 : Bool) => s_cons (w_put (o_mov rfl (s_cons (w_put (o_mov rfl (s_cons (w_put (o_slc rfl rfl rfl (fun s_18 => s_cons (w_put (o_mov rfl (s_cons (w_put (o_add rfl rfl (s_cons (w_put (o_call rfl (cv_a3_o1 (fun H_19 (v_20 : AC) (v_21 : AC) (v_22 : Bool) (v_23 : Int) => s_cons (w_put (o_mov rfl (s_cons (w_put (o_ex rfl rfl rfl (s_cons (w_put (o_ex rfl rfl rfl (s_cons (w_run (o_st rfl rfl rfl (fun H_24 => s_cons (w_put (o_mov rfl (s_nil (k_seq (c_seq (c_ops (s_cons (w_put (o_ld3 rfl (fun (v_25 : AC) (v_26 : AC) (v_27 : Bool) => s_cons (w_put (o_mov rfl (s_cons (w_put (o_mov rfl (s_cons (w_put (o_slc rfl rfl rfl (fun s_28 => s_cons (w_put (o_mov rfl (s_cons (w_put (o_add rfl rfl (s_cons (w_put (o_call rfl (cv_a3_o1 (fun H_29 (v_30 : AC) (v_31 : AC) (v_32 : Bool) (v_33 : Int) => s_cons (w_put (o_mov rfl (s_cons (w_put (o_ex rfl rfl rfl (s_cons (w_put (o_ex rfl rfl rfl (s_cons (w_run (o_st rfl rfl rfl (fun H_34 => s_cons (w_put (o_mov rfl (s_nil (k_seq (c_seq (c_seq (c_ops (s_cons (w_put (o_fa rfl (fun q_35 => s_cons (w_put (o_ld1 rfl (fun (v_36 : Bool) => s_cons (w_put (o_mov rfl (s_cons (w_gputF rfl (s_cons (w_gputN rfl (s_cons (w_gputN rfl (s_cons (w_gputN rfl (s_cons (w_put (o_pickT rfl rfl (s_nil (k_seq (fetterlockref6_walk.p67_ok Q rfl rfl rfl rfl rfl rfl rfl)))))))))))) (o_fa rfl (fun q_37 => s_cons (w_gputY rfl (o_ld1 rfl (fun (v_38 : AC) => s_cons (w_gputY rfl (o_lens rfl (fun n_39 => s_cons (w_gputY rfl (o_eq rfl rfl (s_cons (w_put (o_pickF rfl rfl (s_nil (k_seq (fetterlockref6_walk.p67_ok Q rfl rfl rfl rfl rfl rfl rfl)))))))))))))))))))))))))))))))))))))))))))))))))))))))))))))))))))))))))))))))))))))))))))))))))))))))))))))))))))))))))))))))))))))))))))))))))))))))
theorem fetterlockref6_walk.l39_ok (Q : AHeap → AC → AC → Bool → Int → Prop) {x1 : AC} {x2 : Int} {x3 : AC} {x6 : AC} {x8 : Int} {x9 : Int} {H : AHeap} {t : Env} (h1 : t 1 = (.one x1)) (h2 : t 2 = (.one (.int .i64 x2))) (h3 : t 3 = (.one x3)) (h6 : t 6 = (.one x6)) (h8 : t 8 = (.one (.int .i64 x8))) (h9 : t 9 = (.one (.int .i64 x9))) : fetterlockref6_walk.l39 Q x1 x2 x3 x6 x8 x9 H → wpC Try.prog (.loop fetterlockref6_walk.c40) t H (kBlk 2 (fetterlockref6_walk.k36 Q)) :=
  m_loop fetterlockref6_walk.R39 ⟨h1, h2, h3, h6, h8, h9, trivial⟩ fun X Y hX s t H hR hB => by
    have g := fetterlockref6_walk.b39_ok Q Y X hX t hB
    rw [upd_self hR.1] at g
    rw [upd_self hR.2.1] at g
    rw [upd_self hR.2.2.1] at g
    rw [upd_self hR.2.2.2.1] at g
    rw [upd_self hR.2.2.2.2.1] at g
    rw [upd_self hR.2.2.2.2.2.1] at g
    exact g
theorem fetterlockref6_walk.b22_ok (Q : AHeap → AC → AC → Bool → Int → Prop) (Y22 : Tup [.ac, .int .i64, .ac, .ac, .int .i64] → AHeap → Prop) (X22 : Env → AHeap → Prop) (hX22 : ∀ s t H, fetterlockref6_walk.R22 s t → Y22 s H → X22 t H) {x1 : AC} {x2 : Int} {x3 : AC} {x6 : AC} {x8 : Int} {H : AHeap} (j : Env) : fetterlockref6_walk.b22 Q Y22 x1 x2 x3 x6 x8 H → wpC Try.prog fetterlockref6_walk.c23 (upd (upd (upd (upd (upd j 1 (.one x1)) 2 (.one (.int .i64 x2))) 3 (.one x3)) 6 (.one x6)) 8 (.one (.int .i64 x8))) H (kSeq X22 (kBlk 0 (fetterlockref6_walk.k21 Q))) := c_seq (c_seq (c_ops (s_cons (w_put (o_mov rfl (s_cons (w_put (o_mov rfl (s_cons (w_put (o_slc rfl rfl rfl (fun s_1 => s_cons (w_put (o_mov rfl (s_cons (w_put (o_mov rfl (s_cons (w_put (o_slc rfl rfl rfl (fun s_2 => s_cons (w_put (o_call rfl (cv_1 (fun H_3 (v_4 : Bool) => s_nil (k_seq (c_if rfl (c_skip (k_seq (c_blk (c_seq (c_ops (s_cons (w_put (o_mov rfl (s_cons (w_put (o_mov rfl (s_cons (w_put (o_slc rfl rfl rfl (fun s_5 => s_cons (w_put (o_mov rfl (s_nil (k_seq (c_seq (c_ops (s_cons (w_put (o_mov rfl (s_cons (w_put (o_lens rfl (fun n_6 => s_cons (w_put (o_quo rfl rfl (s_cons (w_put (o_mov rfl (s_nil (k_seq (c_ops (s_cons (w_put (o_mov rfl (s_cons (w_put (o_add rfl rfl (s_cons (w_put (o_mov rfl (s_nil (k_blk (k_seq (hX22 _ _ _ ⟨rfl, rfl, rfl, rfl, rfl, trivial⟩))))))))))))))))))))))))))))))))))))))))))))))))) (c_exit (k_seqE (k_seqE (k_blkH (k_seq (c_seq (c_seq (c_ops (s_cons (w_put (o_mov rfl (s_nil (k_seq (c_blk (fetterlockref6_walk.l39_ok Q rfl rfl rfl rfl rfl rfl))))))))))))))))))))))))))))))))))))))))))
theorem fetterlockref6_walk.l22_ok (Q : AHeap → AC → AC → Bool → Int → Prop) {x1 : AC} {x2 : Int} {x3 : AC} {x6 : AC} {x8 : Int} {H : AHeap} {t : Env} (h1 : t 1 = (.one x1)) (h2 : t 2 = (.one (.int .i64 x2))) (h3 : t 3 = (.one x3)) (h6 : t 6 = (.one x6)) (h8 : t 8 = (.one (.int .i64 x8))) : fetterlockref6_walk.l22 Q x1 x2 x3 x6 x8 H → wpC Try.prog (.loop fetterlockref6_walk.c23) t H (kBlk 0 (fetterlockref6_walk.k21 Q)) :=
  m_loop fetterlockref6_walk.R22 ⟨h1, h2, h3, h6, h8, trivial⟩ fun X Y hX s t H hR hB => by
    have g := fetterlockref6_walk.b22_ok Q Y X hX t hB
    rw [upd_self hR.1] at g
    rw [upd_self hR.2.1] at g
    rw [upd_self hR.2.2.1] at g
    rw [upd_self hR.2.2.2.1] at g
    rw [upd_self hR.2.2.2.2.1] at g
    exact g
theorem fetterlockref6_walk.ok {a0_0 : AC} {a0_1 : AC} {a0_2 : Bool} {a1 : AC} {a2 : Int} {H : AHeap} (Q : AHeap → AC → AC → Bool → Int → Prop) : fetterlockref6_walk.W a0_0 a0_1 a0_2 a1 a2 H Q → wpF Try.prog fetterlockref6_walk.c [.cell 6 true [.ac, .ac, .bool], .tm 7] (envOf [(.agg [a0_0, a0_1, (.bool a0_2)]), (.one a1), (.one (.int .i64 a2))]) H (fetterlockref6_walk.KQ Q) := c_seq (c_ops (s_cons (w_put (o_box rfl (fun p_1 H_2 => s_cons (w_put (o_new (fun p_3 H_4 => s_cons (w_put (o_mov rfl (s_nil (k_seq (c_seq (c_seq (c_ops (s_cons (w_put (o_mov rfl (s_cons (w_put (o_call rfl (cv_1 (fun H_5 (v_6 : Bool) => s_nil (k_seq (c_if rfl (c_seq (c_seq (c_ops (s_cons (w_put (o_mov rfl (s_cons (w_put (o_ia rfl rfl (fun q_7 => s_cons (w_put (o_ld1 rfl (fun (v_8 : Bool) => s_nil (k_seq (c_if rfl (c_seq (c_ops (s_cons (w_put (o_ld3 rfl (fun (v_9 : AC) (v_10 : AC) (v_11 : Bool) => s_cons (w_run (o_st rfl rfl rfl (fun H_12 => s_cons (w_put (o_mov rfl (s_nil (k_seq (c_ret (k_seqR (k_seqR (k_topR (r_cell3 rfl (fun (r0_13 : AC) (r1_14 : AC) (r2_15 : Bool) => r_one rfl (r_nil (fun h => ⟨(r0_13, r1_14, (r2_15 : Bool), ((-2) : Int), ()), rfl, h⟩))))))))))))))))))))) (c_skip (k_seq (c_seq (c_ops (s_cons (w_put (o_ld3 rfl (fun (v_16 : AC) (v_17 : AC) (v_18 : Bool) => s_cons (w_run (o_st rfl rfl rfl (fun H_19 => s_cons (w_put (o_mov rfl (s_nil (k_seq (c_ret (k_seqR (k_topR (r_cell3 rfl (fun (r0_20 : AC) (r1_21 : AC) (r2_22 : Bool) => r_one rfl (r_nil (fun h => ⟨(r0_20, r1_21, (r2_22 : Bool), ((-1) : Int), ()), rfl, h⟩))))))))))))))))))))))))))))))))))))) (c_skip (k_seq (c_seq (c_ops (s_cons (w_put (o_mov rfl (s_cons (w_put (o_lens rfl (fun n_23 => s_cons (w_put (o_quo rfl rfl (s_cons (w_put (o_mov rfl (s_nil (k_seq (c_seq (c_blk (fetterlockref6_walk.l22_ok Q rfl rfl rfl rfl rfl))))))))))))))))))))))))))))))))))))))))))))))
theorem fetterlockref6_walk.slimOk : slimOk [(6, []), (17, []), (18, []), (24, [(2, 5), (3, 5)])] (Try.f48.body.getD .skip) = true := by kernel_rfl
theorem fetterlockref6_walk.resC : resC Try.prog aggs Try.f48.ntmps (slim [(6, []), (17, []), (18, []), (24, [(2, 5), (3, 5)])] (Try.f48.body.getD .skip)) = some fetterlockref6_walk.c := by kernel_rfl
theorem fetterlockref6_walk.resR : resR Try.prog Try.f48.results.toList = some [.cell 6 true [.ac, .ac, .bool], .tm 7] := by kernel_rfl
theorem fetterlockref6_walk.bodyEq : Try.f48.body = some (Try.f48.body.getD .skip) := by kernel_rfl
theorem fetterlockref6_walk.run {a0_0 : AC} {a0_1 : AC} {a0_2 : Bool} {a1 : AC} {a2 : Int} {H : AHeap} {Q : AHeap → AC → AC → Bool → Int → Prop} (h : fetterlockref6_walk.W a0_0 a0_1 a0_2 a1 a2 H Q) : Fn.fetterlockref6_walk a0_0 a0_1 a0_2 a1 a2 H Q := by
  unfold Fn.fetterlockref6_walk RunT
  exact run_of aggs_ok [(6, []), (17, []), (18, []), (24, [(2, 5), (3, 5)])] Try.func48 fetterlockref6_walk.bodyEq fetterlockref6_walk.slimOk fetterlockref6_walk.resC fetterlockref6_walk.resR (Nat.le_of_ble_eq_true (by kernel_rfl)) (fetterlockref6_walk.ok Q h)

end Go.Proofs.Ytanaaabejeeakaa
end
section
/- What the functions on formulas come to: the checks, the value. -/
namespace Go.Proofs.Ytanaaabejeeakaa
open Go.AI

/-- The parts of a formula in a place. -/
theorem kid_at {rows : List (Int × Int × AC)} {kids : List Fm} (hl : rows.length = kids.length) {i : Nat} (hi : i < kids.length) : ∃ r k, rows[i]? = some r ∧ kids[i]? = some k ∧ (rows.map fun r : Int × Int × AC => ([.int .i64 r.1, .int .i64 r.2.1, r.2.2] : List AC))[i]? = some [.int .i64 r.1, .int .i64 r.2.1, r.2.2] := by
  refine ⟨rows[i], kids[i], List.getElem?_eq_getElem (by omega), List.getElem?_eq_getElem hi, ?_⟩
  rw [List.getElem?_map, List.getElem?_eq_getElem (by omega)]; rfl

theorem pnodes_c : ∀ (n : Nat) {op var : Int} {s : AC} {f : Fm} {H : AHeap} {most : Int}, f.size ≤ n → f.size < 4611686018427387904 → 0 ≤ most → most < 4611686018427387904 → FmAt H op var s f →
    Fn.solve_nodes op var s most H fun H' r => r = min (f.size : Int) (most + 1) ∧ Kp H H' := by
  intro n
  induction n with
  | zero => intro op var s f H most hn; have := f.size_pos; omega
  | succ n ih =>
    intro op var s f H most hn hmax hm0 hm1 hf
    obtain ⟨kids, rows, rfl, hl, hs, hk⟩ := hf.inv
    have hsz : Fm.size (.mk op var kids) = Fm.sizes kids + 1 := by rw [Fm.size]
    have hlen := Fm.sizes_len kids
    refine solve_nodes.run ?_
    unfold solve_nodes.W
    refine New.own fun b H1 hb hs1 ho hkp => ?_
    refine FA.mk (Ld.oc ho rfl (LenS.of (hs.kp hkp) ?_))
    rw [List.length_map, hl]
    unfold solve_nodes.l8
    have fin : ∀ (i : Nat) (x : Int) (H2 : AHeap), Kp H H2 → (x ≤ most ∧ x = ((Fm.sizes (kids.take i) + 1 : Nat) : Int)) ∨ (x = most + 1 ∧ most < ((Fm.sizes (kids.take i) + 1 : Nat) : Int)) → (most < x ∨ kids.length ≤ i) →
        solve_nodes.p27 (fun H' r => r = min ((Fm.size (.mk op var kids) : Nat) : Int) (most + 1) ∧ Kp H H') most x H2 := by
      intro i x H2 hkp2 hx hor
      unfold solve_nodes.p27
      refine ⟨?_, hkp2⟩
      have hle := Fm.sizes_le kids i
      have hw : IntKind.wrap .i64 (most + 1) = most + 1 := wrap64 (by omega) (by omega)
      rw [hw, hsz]
      have hall : kids.length ≤ i → Fm.sizes (kids.take i) = Fm.sizes kids := fun h => by rw [List.take_of_length_le h]
      split <;> rcases hx with ⟨h1, h2⟩ | ⟨h1, h2⟩ <;> rcases hor with h3 | h3 <;> (try have := hall h3) <;> omega
    refine LoopT.rule (fun m s0 H2 => ∃ (i : Nat) (x : Int), i ≤ kids.length ∧ m = kids.length - i ∧ s0 = (most, x, s, (kids.length : Int), (i : Int), ()) ∧ Kp H H2 ∧
      ((x ≤ most ∧ x = ((Fm.sizes (kids.take i) + 1 : Nat) : Int)) ∨ (x = most + 1 ∧ most < ((Fm.sizes (kids.take i) + 1 : Nat) : Int)))) kids.length ⟨0, 1, by omega, by omega, rfl, hkp, ?_⟩ ?_
    · simp only [List.take_zero, Fm.sizes]; omega
    rintro m s0 H2 back ⟨i, x, hi, rfl, rfl, hkp2, hx⟩ hback
    simp only [solve_nodes.b8]
    refine CondB.dec (fun hlt => ?_) fun hge => fin i x H2 hkp2 hx (.inr (by omega))
    have hlt' : i < kids.length := by omega
    obtain ⟨r, k, hri, hki, hro⟩ := kid_at hl hlt'
    refine IA.of (hs.kp hkp2) (by omega) (by rw [Int.toNat_natCast]; exact hro) fun b' o' hld => ?_
    refine Ld.a3 hld r.1 r.2.1 r.2.2 rfl rfl ?_
    refine NewSto.own rfl fun p H3 hp hs3 hbox hk3 => ?_
    have hle := Fm.size_mem kids i k hki
    have htk := Fm.sizes_take kids i k hki
    have htl := Fm.sizes_le kids (i + 1)
    refine CondB.dec (fun hgt => fin i x H3 (hkp2.trans hk3) hx (.inl hgt)) fun hng => ?_
    refine Ld.o3 hbox r.1 r.2.1 r.2.2 rfl ?_
    have hw : IntKind.wrap .i64 (most - x) = most - x := wrap64 (by omega) (by omega)
    rw [hw]
    refine RunT.imp ?_ (ih (by omega) (by omega) (by omega) (by omega) ((hk i r k hri hki).kp (hkp2.trans hk3)))
    rintro H4 v ⟨rfl, hkp4⟩
    refine hback (kids.length - (i + 1)) _ _ (by omega) ⟨i + 1, x + min (k.size : Int) (most - x + 1), by omega, rfl, ?_, (hkp2.trans hk3).trans hkp4, ?_⟩
    · exact tc rfl (tc (wrap64 (by omega) (by omega)) (tc rfl (tc rfl (tc ((wrap64 (by omega) (by omega)).trans (by omega)) rfl))))
    · rw [htk]; omega

theorem boolFault_c : ∀ (n : Nat) {op var : Int} {s : AC} {f : Fm} {H : AHeap}, f.size ≤ n → f.size < 4611686018427387904 → FmAt H op var s f →
    Fn.solve_boolFault op var s H fun H' r => r = f.fault ∧ Kp H H' := by
  intro n
  induction n with
  | zero => intro op var s f H hn; have := f.size_pos; omega
  | succ n ih =>
    intro op var s f H hn hmax hf
    obtain ⟨kids, rows, rfl, hl, hs, hk⟩ := hf.inv
    have hsz : Fm.size (.mk op var kids) = Fm.sizes kids + 1 := by rw [Fm.size]
    have hlen := Fm.sizes_len kids
    refine solve_boolFault.run ?_
    unfold solve_boolFault.W
    refine New.own fun b H1 hb hs1 ho hkp => ?_
    refine FA.mk (Ld.oi ho rfl ?_)
    have hf0 := Fm.fault.eq_1 op var kids
    -- the kids
    have kidsOk : ∀ g : Int, g = Fm.faults kids → solve_boolFault.l58 (fun H' r => r = g ∧ Kp H H') s kids.length 0 H1 := by
      rintro g rfl
      unfold solve_boolFault.l58
      refine LoopT.rule (fun m s0 H2 => ∃ (i : Nat), i ≤ kids.length ∧ m = kids.length - i ∧ s0 = (s, (kids.length : Int), (i : Int), ()) ∧ Kp H H2 ∧ Fm.faults kids = Fm.faults (kids.drop i)) kids.length ⟨0, by omega, by omega, rfl, hkp, by simp⟩ ?_
      rintro m s0 H2 back ⟨i, hi, rfl, rfl, hkp2, hx⟩ hback
      simp only [solve_boolFault.b58]
      refine CondB.dec (fun hlt => ?_) fun hge => ?_
      · have hlt' : i < kids.length := by omega
        obtain ⟨r, k, hri, hki, hro⟩ := kid_at hl hlt'
        refine IA.of (hs.kp hkp2) (by omega) (by rw [Int.toNat_natCast]; exact hro) fun b' o' hld => ?_
        refine Ld.a3 hld r.1 r.2.1 r.2.2 rfl rfl ?_
        refine NewSto.own rfl fun p H3 hp hs3 hbox hk3 => ?_
        refine Ld.o3 hbox r.1 r.2.1 r.2.2 rfl ?_
        have hle := Fm.size_mem kids i k hki
        refine RunT.imp ?_ (ih (by omega) (by omega) ((hk i r k hri hki).kp (hkp2.trans hk3)))
        rintro H4 v ⟨rfl, hkp4⟩
        have hdr := Fm.faults_drop kids i k hki
        refine CondB.ne (fun hne => ⟨?_, (hkp2.trans hk3).trans hkp4⟩) fun he => ?_
        · rw [hx, hdr, if_pos hne]
        · refine hback (kids.length - (i + 1)) _ _ (by omega) ⟨i + 1, by omega, rfl, ?_, (hkp2.trans hk3).trans hkp4, by rw [hx, hdr, if_neg (by omega)]⟩
          exact tc rfl (tc rfl (tc ((wrap64 (by omega) (by omega)).trans (by omega)) rfl))
      · refine ⟨?_, hkp2⟩
        rw [hx, List.drop_eq_nil_of_le (by omega)]; rfl
    have p49 : ∀ (x : Bool), 1 ≤ op → op ≤ 7 → (kids.length : Int) = Fm.want op kids.length → x = decide (var < 0 ∨ Fm.most op < var) → solve_boolFault.p49 (fun H' r => r = Fm.fault (.mk op var kids) ∧ Kp H H') (.ptr (some (b, 0))) x H1 := by
      intro x h1 h2 h3 hx
      unfold solve_boolFault.p49
      refine CondB.mk (fun e => ⟨?_, hkp⟩) fun e => ?_
      · rw [e] at hx
        rw [hf0, if_neg (by omega), if_neg (by omega), if_pos (of_decide_eq_true hx.symm)]
      · rw [e] at hx
        refine FA.mk (Ld.oc ho rfl (LenS.of (hs.kp hkp) ?_))
        rw [List.length_map, hl]
        exact kidsOk _ (by rw [hf0, if_neg (by omega), if_neg (by omega), if_neg (of_decide_eq_false hx.symm)])
    have p43 : ∀ (x : Bool), 1 ≤ op → op ≤ 7 → x = decide ((kids.length : Int) ≠ Fm.want op kids.length) → solve_boolFault.p43 (fun H' r => r = Fm.fault (.mk op var kids) ∧ Kp H H') (.ptr (some (b, 0))) (Fm.most op) x H1 := by
      intro x h1 h2 hx
      unfold solve_boolFault.p43
      refine CondB.mk (fun e => ⟨?_, hkp⟩) fun e => ?_
      · rw [e] at hx
        rw [hf0, if_neg (by omega), if_pos (of_decide_eq_true hx.symm)]
      · rw [e] at hx
        have h3 := of_decide_eq_false hx.symm
        refine FA.mk (Ld.oi ho rfl (CondB.dec (fun hlt => p49 _ h1 h2 (by omega) ?_) fun hge => FA.mk (Ld.oi ho rfl (p49 _ h1 h2 (by omega) ?_))))
        · simp [hlt]
        · rw [Bool.eq_iff_iff]; simp; omega
    have p39 : ∀ (y : Int), 1 ≤ op → op ≤ 7 → (y = Fm.want op kids.length ∧ 0 ≤ y ∨ y < 0 ∧ Fm.want op kids.length = kids.length) → solve_boolFault.p39 (fun H' r => r = Fm.fault (.mk op var kids) ∧ Kp H H') (.ptr (some (b, 0))) y (Fm.most op) H1 := by
      intro y h1 h2 hy
      unfold solve_boolFault.p39
      refine CondB.dec (fun hge => ?_) fun hlt => p43 _ h1 h2 ?_
      · refine FA.mk (Ld.oc ho rfl (LenS.of (hs.kp hkp) (p43 _ h1 h2 ?_)))
        rw [List.length_map, hl, Bool.eq_iff_iff]
        simp only [bne_iff_ne, ne_eq, decide_eq_true_eq]
        rcases hy with ⟨h, _⟩ | ⟨h, _⟩
        · rw [h]
        · omega
      · rcases hy with ⟨_, h⟩ | ⟨_, h⟩
        · omega
        · simp [h]
    have hop : ∀ (y z : Int), op = z → z = 1 ∨ z = 2 ∨ z = 3 ∨ z = 6 ∨ z = 7 → y = Fm.want z kids.length → 0 ≤ y → ∀ mo, mo = Fm.most z → solve_boolFault.p39 (fun H' r => r = Fm.fault (.mk op var kids) ∧ Kp H H') (.ptr (some (b, 0))) y mo H1 := by
      rintro y z rfl hz hy h0 mo rfl
      exact p39 y (by omega) (by omega) (.inl ⟨hy, h0⟩)
    refine CondB.eq (fun e => hop 0 1 e (by omega) (by simp [Fm.want]) (by omega) _ (by simp [Fm.most])) fun e1 => ?_
    refine CondB.eq (fun e => hop 0 2 e (by omega) (by simp [Fm.want]) (by omega) _ (by simp [Fm.most])) fun e2 => ?_
    refine CondB.eq (fun e => hop 1 3 e (by omega) (by simp [Fm.want]) (by omega) _ (by simp [Fm.most])) fun e3 => ?_
    refine CondB.eq (fun e => hop 2 6 e (by omega) (by simp [Fm.want]) (by omega) _ (by simp [Fm.most])) fun e6 => ?_
    refine CondB.eq (fun e => hop 3 7 e (by omega) (by simp [Fm.want]) (by omega) _ (by simp [Fm.most])) fun e7 => ?_
    have hw : Fm.want op kids.length = kids.length := by simp [Fm.want, e1, e2, e3, e6, e7]
    have hmo : Fm.most op = 0 := by simp [Fm.most, e1, e2]
    refine CondB.eq (fun e => ?_) fun e4 => ?_
    · unfold solve_boolFault.p34
      have := p39 (-1) (by omega) (by omega) (.inr ⟨by omega, hw⟩)
      rw [hmo] at this
      exact CondB.pos rfl this
    · unfold solve_boolFault.p34
      refine CondB.eq (fun e => ?_) fun e5 => ⟨?_, hkp⟩
      · have := p39 (-1) (by omega) (by omega) (.inr ⟨by omega, hw⟩)
        rw [hmo] at this
        exact this
      · rw [hf0, if_pos (by omega)]

/-- What both checks of a formula say. -/
def boolFaultOf (f : Fm) : Int := if 300 < f.size then 3 else f.fault
theorem CheckBool_c {op var : Int} {s : AC} {f : Fm} {H : AHeap} (hmax : f.size < 4611686018427387904) (hf : FmAt H op var s f) :
    Fn.solve_CheckBool op var s H fun H' r => r = boolFaultOf f ∧ Kp H H' := by
  refine solve_CheckBool.run ?_
  unfold solve_CheckBool.W
  refine New.own fun b H1 hb hs1 ho hkp => ?_
  refine Ld.o3 ho op var s rfl ?_
  refine RunT.imp ?_ (pnodes_c f.size (Nat.le_refl _) hmax (by omega) (by omega) (hf.kp hkp))
  rintro H2 r ⟨rfl, hkp2⟩
  unfold boolFaultOf
  refine CondB.dec (fun h => ⟨by rw [if_pos (by omega)], hkp.trans hkp2⟩) fun h => ?_
  refine Ld.o3 (ho.kp hkp2) op var s rfl ?_
  refine RunT.imp ?_ (boolFault_c f.size (Nat.le_refl _) hmax (hf.kp (hkp.trans hkp2)))
  rintro H3 r ⟨rfl, hkp3⟩
  exact ⟨by rw [if_neg (by omega)], (hkp.trans hkp2).trans hkp3⟩
end Go.Proofs.Ytanaaabejeeakaa
end
section
/- Printed by a program: functions and what must hold ahead of them. -/
namespace Go.Proofs.Ytanaaabejeeakaa
open Go.AI
set_option maxRecDepth 100000
set_option maxHeartbeats 2000000
set_option linter.unusedVariables false
attribute [local irreducible] Ld Sto New NewS NewM NN NZ GE0 FA IA IAP LenS Slc App Cpy Clr MkS Fnc NilQ IxS Look MSet Run CV RunT CVT LoopT Same1 Same2 wpC wpOs wpT wpO wpOp

def solve_manager_node.c : RC := (.seq (.ops [.put 8 (.mov (.ct (.one (.int .i64 0))))]) (.seq (.seq (.ops [.put 12 (.mov (.tm 2)),
    .put 13 (.mov (.tm 3)),
    .put 14 (.cm .eq (.tm 12) (.tm 13))]) (.cond 14 (.seq (.ops [.put 15 (.mov (.tm 2)),
    .put 8 (.mov (.tm 15))]) .ret) .skip)) (.seq (.ops [.put 16 (.mov (.tm 1)),
    .put 17 (.mov (.tm 2)),
    .put 18 (.mov (.tm 3)),
    .put 19 (.bld [(.int .i64 0), (.int .i64 0), (.int .i64 0)] [(0, 1, (.tm 16)), (1, 1, (.tm 17)), (2, 1, (.tm 18))]),
    .put 9 (.new 77 [(.int .i64 0), (.int .i64 0), (.int .i64 0)]),
    .run (.st 3 (.tm 9) (.tm 19))]) (.seq (.ops [.put 21 (.mov (.tm 0)),
    .put 22 (.nn (.tm 21)),
    .put 23 (.fa 1 (.tm 22)),
    .put 24 (.ld false [.ac] (.tm 23)),
    .put 25 (.ld true [.int .i64, .int .i64, .int .i64] (.tm 9)),
    .put 26 (.look (some 3) false [.int .i64] [(.int .i64 0)] true (.tm 24) (.tm 25)),
    .put 20 (.mov (.tm 26)),
    .put 27 (.ex (.tm 20) 0),
    .put 28 (.ex (.tm 20) 1),
    .put 10 (.mov (.tm 27)),
    .put 11 (.mov (.tm 28))]) (.seq (.seq (.ops [.put 29 (.mov (.tm 11)),
    .put 30 (.not (.tm 29))]) (.cond 30 (.seq (.ops [.put 31 (.mov (.tm 0)),
    .put 32 (.nn (.tm 31)),
    .put 33 (.fa 0 (.tm 32)),
    .put 34 (.ld false [.ac] (.tm 33)),
    .put 35 (.lens (.tm 34)),
    .put 10 (.mov (.tm 35))]) (.seq (.ops [.put 36 (.mov (.tm 0)),
    .put 37 (.mov (.tm 0)),
    .put 38 (.nn (.tm 37)),
    .put 39 (.fa 0 (.tm 38)),
    .put 40 (.ld false [.ac] (.tm 39)),
    .put 41 (.ld true [.int .i64, .int .i64, .int .i64] (.tm 9)),
    .put 42 (.blds 77 3 1 [(.int .i64 0), (.int .i64 0), (.int .i64 0)] [(0, 3, (.tm 41))]),
    .put 43 (.app 77 3 24 (.tm 40) (.tm 42)),
    .put 44 (.nn (.tm 36)),
    .put 45 (.fa 0 (.tm 44)),
    .run (.st 1 (.tm 45) (.tm 43))]) (.ops [.put 46 (.mov (.tm 0)),
    .put 47 (.nn (.tm 46)),
    .put 48 (.fa 1 (.tm 47)),
    .put 49 (.ld false [.ac] (.tm 48)),
    .put 50 (.ld true [.int .i64, .int .i64, .int .i64] (.tm 9)),
    .put 51 (.mov (.tm 10)),
    .run (.mset (some 3) (.tm 49) (.tm 50) (.tm 51))]))) .skip)) (.seq (.ops [.put 52 (.mov (.tm 10)),
    .put 8 (.mov (.tm 52))]) .ret))))))
abbrev solve_manager_node.KQ (Q : AHeap → Int → Prop) : AV → AHeap → Prop := fun v H => ∃ xs : Tup (flat [(false, [.int .i64])]), v = joinR (splitP [(false, [.int .i64])] (cellsOf (flat [(false, [.int .i64])]) xs)) ∧ app (flat [(false, [.int .i64])]) (Q H) xs
abbrev solve_manager_node.K (Q : AHeap → Int → Prop) : Ex → Env → AHeap → Prop := kTop [.tm 8] (solve_manager_node.KQ Q)
def solve_manager_node.W (a0 : AC) (a1 : Int) (a2 : Int) (a3 : Int) (H : AHeap) (Q : AHeap → Int → Prop) : Prop :=
  CondB (a2 == a3)
    (Q H a2)
    (New 77 [(.int .i64 0), (.int .i64 0), (.int .i64 0)] H fun p_1 H_2 =>
    Sto H_2 p_1 [(.int .i64 a1), (.int .i64 a2), (.int .i64 a3)] fun H_3 =>
    NN a0 <|
    FA 1 a0 fun q_4 =>
    Ld [.ac] H_3 q_4 fun (v_5 : AC) =>
    Ld [.int .i64, .int .i64, .int .i64] H_3 p_1 fun (v_6 : Int) (v_7 : Int) (v_8 : Int) =>
    Look (some 3) false [.int .i64] [(.int .i64 0)] H_3 v_5 [v_6, v_7, v_8] fun b_9 (v_10 : Int) =>
    CondB (!b_9)
      (NN a0 <|
      FA 0 a0 fun q_11 =>
      Ld [.ac] H_3 q_11 fun (v_12 : AC) =>
      LenS v_12 fun n_13 =>
      NN a0 <|
      FA 0 a0 fun q_14 =>
      Ld [.ac] H_3 q_14 fun (v_15 : AC) =>
      Ld [.int .i64, .int .i64, .int .i64] H_3 p_1 fun (v_16 : Int) (v_17 : Int) (v_18 : Int) =>
      NewS 77 3 1 [(.int .i64 v_16), (.int .i64 v_17), (.int .i64 v_18)] H_3 fun p_19 H_20 =>
      App 77 3 24 v_15 p_19 H_20 fun s_21 H_22 =>
      NN a0 <|
      FA 0 a0 fun q_23 =>
      Sto H_22 q_23 [s_21] fun H_24 =>
      NN a0 <|
      FA 1 a0 fun q_25 =>
      Ld [.ac] H_24 q_25 fun (v_26 : AC) =>
      Ld [.int .i64, .int .i64, .int .i64] H_24 p_1 fun (v_27 : Int) (v_28 : Int) (v_29 : Int) =>
      MSet (some 3) H_24 v_26 [v_27, v_28, v_29] (.one (.int .i64 n_13)) fun H_30 =>
      Q H_30 n_13)
      (Q H_3 v_10))
theorem solve_manager_node.ok {a0 : AC} {a1 : Int} {a2 : Int} {a3 : Int} {H : AHeap} (Q : AHeap → Int → Prop) : solve_manager_node.W a0 a1 a2 a3 H Q → wpF Try.prog solve_manager_node.c [.tm 8] (envOf [(.one a0), (.one (.int .i64 a1)), (.one (.int .i64 a2)), (.one (.int .i64 a3))]) H (solve_manager_node.KQ Q) := c_seq (c_ops (s_cons (w_put (o_mov rfl (s_nil (k_seq (c_seq (c_seq (c_ops (s_cons (w_put (o_mov rfl (s_cons (w_put (o_mov rfl (s_cons (w_put (o_eq rfl rfl (s_nil (k_seq (c_if rfl (c_seq (c_ops (s_cons (w_put (o_mov rfl (s_cons (w_put (o_mov rfl (s_nil (k_seq (c_ret (k_seqR (k_topR (r_one rfl (r_nil (fun h => ⟨((a2 : Int), ()), rfl, h⟩)))))))))))))))) (c_skip (k_seq (c_seq (c_ops (s_cons (w_put (o_mov rfl (s_cons (w_put (o_mov rfl (s_cons (w_put (o_mov rfl (s_cons (w_put (o_bld rfl (s_cons (w_put (o_new (fun p_1 H_2 => s_cons (w_run (o_st rfl rfl rfl (fun H_3 => s_nil (k_seq (c_seq (c_ops (s_cons (w_put (o_mov rfl (s_cons (w_put (o_nn rfl (s_cons (w_put (o_fa rfl (fun q_4 => s_cons (w_put (o_ld1 rfl (fun (v_5 : AC) => s_cons (w_put (o_ld3 rfl (fun (v_6 : Int) (v_7 : Int) (v_8 : Int) => s_cons (w_put (o_look1 rfl rfl (fun b_9 (v_10 : Int) => s_cons (w_put (o_mov rfl (s_cons (w_put (o_ex rfl rfl rfl (s_cons (w_put (o_ex rfl rfl rfl (s_cons (w_put (o_mov rfl (s_cons (w_put (o_mov rfl (s_nil (k_seq (c_seq (c_seq (c_ops (s_cons (w_put (o_mov rfl (s_cons (w_put (o_not rfl (s_nil (k_seq (c_if rfl (c_seq (c_ops (s_cons (w_put (o_mov rfl (s_cons (w_put (o_nn rfl (s_cons (w_put (o_fa rfl (fun q_11 => s_cons (w_put (o_ld1 rfl (fun (v_12 : AC) => s_cons (w_put (o_lens rfl (fun n_13 => s_cons (w_put (o_mov rfl (s_nil (k_seq (c_seq (c_ops (s_cons (w_put (o_mov rfl (s_cons (w_put (o_mov rfl (s_cons (w_put (o_nn rfl (s_cons (w_put (o_fa rfl (fun q_14 => s_cons (w_put (o_ld1 rfl (fun (v_15 : AC) => s_cons (w_put (o_ld3 rfl (fun (v_16 : Int) (v_17 : Int) (v_18 : Int) => s_cons (w_put (o_blds rfl (fun p_19 H_20 => s_cons (w_put (o_app rfl rfl (fun s_21 H_22 => s_cons (w_put (o_nn rfl (s_cons (w_put (o_fa rfl (fun q_23 => s_cons (w_run (o_st rfl rfl rfl (fun H_24 => s_nil (k_seq (c_ops (s_cons (w_put (o_mov rfl (s_cons (w_put (o_nn rfl (s_cons (w_put (o_fa rfl (fun q_25 => s_cons (w_put (o_ld1 rfl (fun (v_26 : AC) => s_cons (w_put (o_ld3 rfl (fun (v_27 : Int) (v_28 : Int) (v_29 : Int) => s_cons (w_put (o_mov rfl (s_cons (w_run (o_mset rfl rfl rfl rfl (fun H_30 => s_nil (k_seq (c_seq (c_ops (s_cons (w_put (o_mov rfl (s_cons (w_put (o_mov rfl (s_nil (k_seq (c_ret (k_topR (r_one rfl (r_nil (fun h => ⟨((n_13 : Int), ()), rfl, h⟩)))))))))))))))))))))))))))))))))))))))))))))))))))))))))))))))))))))))))))))))))))))))))))))))))) (c_skip (k_seq (c_seq (c_ops (s_cons (w_put (o_mov rfl (s_cons (w_put (o_mov rfl (s_nil (k_seq (c_ret (k_topR (r_one rfl (r_nil (fun h => ⟨((v_10 : Int), ()), rfl, h⟩)))))))))))))))))))))))))))))))))))))))))))))))))))))))))))))))))))))))))))))))))))))))))))))))))))))))))))))))
theorem solve_manager_node.slimOk : slimOk [(4, []), (7, []), (8, [])] (Try.f80.body.getD .skip) = true := by kernel_rfl
theorem solve_manager_node.resC : resC Try.prog aggs Try.f80.ntmps (slim [(4, []), (7, []), (8, [])] (Try.f80.body.getD .skip)) = some solve_manager_node.c := by kernel_rfl
theorem solve_manager_node.resR : resR Try.prog Try.f80.results.toList = some [.tm 8] := by kernel_rfl
theorem solve_manager_node.bodyEq : Try.f80.body = some (Try.f80.body.getD .skip) := by kernel_rfl
theorem solve_manager_node.run {a0 : AC} {a1 : Int} {a2 : Int} {a3 : Int} {H : AHeap} {Q : AHeap → Int → Prop} (h : solve_manager_node.W a0 a1 a2 a3 H Q) : Fn.solve_manager_node a0 a1 a2 a3 H Q := by
  unfold Fn.solve_manager_node RunT
  exact run_of aggs_ok [(4, []), (7, []), (8, [])] Try.func80 solve_manager_node.bodyEq solve_manager_node.slimOk solve_manager_node.resC solve_manager_node.resR (Nat.le_of_ble_eq_true (by kernel_rfl)) (solve_manager_node.ok Q h)

def solve_manager_ite.c18 : RC := (.cond 34 (.seq (.ops [.put 41 (.mov (.tm 1)),
    .put 8 (.mov (.tm 41))]) .ret) .skip)
def solve_manager_ite.c6 : RC := (.cond 21 (.seq (.ops [.put 29 (.mov (.tm 2)),
    .put 8 (.mov (.tm 29))]) .ret) (.seq (.ops [.put 31 (.mov (.tm 1)),
    .put 32 (.cm .eq (.tm 31) (.ct (.one (.int .i64 (-1))))),
    .put 30 (.mov (.tm 32))]) (.cond 30 (.seq (.ops [.put 33 (.mov (.tm 3)),
    .put 8 (.mov (.tm 33))]) .ret) (.seq (.ops [.put 35 (.mov (.tm 2)),
    .put 36 (.cm .eq (.tm 35) (.ct (.one (.int .i64 (-2))))),
    .put 37 (.mov (.tm 36)),
    .gput 38 37 true (.mov (.tm 3)),
    .gput 39 37 true (.cm .eq (.tm 38) (.ct (.one (.int .i64 (-1))))),
    .put 40 (.pick (.tm 37) (.tm 39) (.ct (.one (.bool false)))),
    .put 34 (.mov (.tm 40))]) solve_manager_ite.c18))))
def solve_manager_ite.c : RC := (.seq (.ops [.put 8 (.mov (.ct (.one (.int .i64 0))))]) (.seq (.block 0 (.seq (.ops [.put 22 (.mov (.tm 1)),
    .put 23 (.cm .eq (.tm 22) (.ct (.one (.int .i64 (-2))))),
    .put 24 (.mov (.tm 23)),
    .gput 25 24 false (.mov (.tm 2)),
    .gput 26 24 false (.mov (.tm 3)),
    .gput 27 24 false (.cm .eq (.tm 25) (.tm 26)),
    .put 28 (.pick (.tm 24) (.ct (.one (.bool true))) (.tm 27)),
    .put 21 (.mov (.tm 28))]) solve_manager_ite.c6)) (.seq (.ops [.put 42 (.mov (.tm 1)),
    .put 43 (.mov (.tm 2)),
    .put 44 (.mov (.tm 3)),
    .put 45 (.bld [(.int .i64 0), (.int .i64 0), (.int .i64 0)] [(0, 1, (.tm 42)), (1, 1, (.tm 43)), (2, 1, (.tm 44))]),
    .put 9 (.new 115 [(.int .i64 0), (.int .i64 0), (.int .i64 0)]),
    .run (.st 3 (.tm 9) (.tm 45))]) (.seq (.seq (.ops [.put 47 (.mov (.tm 0)),
    .put 48 (.nn (.tm 47)),
    .put 49 (.fa 2 (.tm 48)),
    .put 50 (.ld false [.ac] (.tm 49)),
    .put 51 (.ld true [.int .i64, .int .i64, .int .i64] (.tm 9)),
    .put 52 (.look (some 3) false [.int .i64] [(.int .i64 0)] true (.tm 50) (.tm 51)),
    .put 46 (.mov (.tm 52)),
    .put 53 (.ex (.tm 46) 0),
    .put 54 (.ex (.tm 46) 1),
    .put 10 (.mov (.tm 53)),
    .put 11 (.mov (.tm 54))]) (.seq (.ops [.put 55 (.mov (.tm 11))]) (.cond 55 (.seq (.ops [.put 56 (.mov (.tm 10)),
    .put 8 (.mov (.tm 56))]) .ret) .skip))) (.seq (.ops [.put 57 (.mov (.tm 0)),
    .put 58 (.mov (.tm 1)),
    .put 59 (.call 90 [(.tm 57), (.tm 58)]),
    .put 60 (.mov (.tm 0)),
    .put 61 (.mov (.tm 2)),
    .put 62 (.call 90 [(.tm 60), (.tm 61)]),
    .put 63 (.mov (.tm 0)),
    .put 64 (.mov (.tm 3)),
    .put 65 (.call 90 [(.tm 63), (.tm 64)]),
    .put 66 (.min3 (.tm 59) (.tm 62) (.tm 65)),
    .put 12 (.mov (.tm 66))]) (.seq (.ops [.put 68 (.mov (.tm 0)),
    .put 69 (.mov (.tm 1)),
    .put 70 (.mov (.tm 12)),
    .put 71 (.call 98 [(.tm 68), (.tm 69), (.tm 70)]),
    .put 67 (.mov (.tm 71)),
    .put 72 (.ex (.tm 67) 0),
    .put 73 (.ex (.tm 67) 1),
    .put 13 (.mov (.tm 72)),
    .put 14 (.mov (.tm 73))]) (.seq (.ops [.put 75 (.mov (.tm 0)),
    .put 76 (.mov (.tm 2)),
    .put 77 (.mov (.tm 12)),
    .put 78 (.call 98 [(.tm 75), (.tm 76), (.tm 77)]),
    .put 74 (.mov (.tm 78)),
    .put 79 (.ex (.tm 74) 0),
    .put 80 (.ex (.tm 74) 1),
    .put 15 (.mov (.tm 79)),
    .put 16 (.mov (.tm 80))]) (.seq (.ops [.put 82 (.mov (.tm 0)),
    .put 83 (.mov (.tm 3)),
    .put 84 (.mov (.tm 12)),
    .put 85 (.call 98 [(.tm 82), (.tm 83), (.tm 84)]),
    .put 81 (.mov (.tm 85)),
    .put 86 (.ex (.tm 81) 0),
    .put 87 (.ex (.tm 81) 1),
    .put 17 (.mov (.tm 86)),
    .put 18 (.mov (.tm 87))]) (.seq (.ops [.put 88 (.mov (.tm 0)),
    .put 89 (.mov (.tm 13)),
    .put 90 (.mov (.tm 15)),
    .put 91 (.mov (.tm 17)),
    .put 92 (.call 81 [(.tm 88), (.tm 89), (.tm 90), (.tm 91)]),
    .put 19 (.mov (.tm 92))]) (.seq (.ops [.put 93 (.mov (.tm 0)),
    .put 94 (.mov (.tm 12)),
    .put 95 (.mov (.tm 19)),
    .put 96 (.mov (.tm 0)),
    .put 97 (.mov (.tm 14)),
    .put 98 (.mov (.tm 16)),
    .put 99 (.mov (.tm 18)),
    .put 100 (.call 81 [(.tm 96), (.tm 97), (.tm 98), (.tm 99)]),
    .put 101 (.call 80 [(.tm 93), (.tm 94), (.tm 95), (.tm 100)]),
    .put 20 (.mov (.tm 101))]) (.seq (.ops [.put 102 (.mov (.tm 0)),
    .put 103 (.nn (.tm 102)),
    .put 104 (.fa 2 (.tm 103)),
    .put 105 (.ld false [.ac] (.tm 104)),
    .put 106 (.ld true [.int .i64, .int .i64, .int .i64] (.tm 9)),
    .put 107 (.mov (.tm 20)),
    .run (.mset (some 3) (.tm 105) (.tm 106) (.tm 107))]) (.seq (.ops [.put 108 (.mov (.tm 20)),
    .put 8 (.mov (.tm 108))]) .ret))))))))))))
abbrev solve_manager_ite.KQ (Q : AHeap → Int → Prop) : AV → AHeap → Prop := fun v H => ∃ xs : Tup (flat [(false, [.int .i64])]), v = joinR (splitP [(false, [.int .i64])] (cellsOf (flat [(false, [.int .i64])]) xs)) ∧ app (flat [(false, [.int .i64])]) (Q H) xs
abbrev solve_manager_ite.K (Q : AHeap → Int → Prop) : Ex → Env → AHeap → Prop := kTop [.tm 8] (solve_manager_ite.KQ Q)
abbrev solve_manager_ite.k3 (Q : AHeap → Int → Prop) : Ex → Env → AHeap → Prop := kSeq (fun t H => wpC Try.prog (.seq (.ops [.put 42 (.mov (.tm 1)),
    .put 43 (.mov (.tm 2)),
    .put 44 (.mov (.tm 3)),
    .put 45 (.bld [(.int .i64 0), (.int .i64 0), (.int .i64 0)] [(0, 1, (.tm 42)), (1, 1, (.tm 43)), (2, 1, (.tm 44))]),
    .put 9 (.new 115 [(.int .i64 0), (.int .i64 0), (.int .i64 0)]),
    .run (.st 3 (.tm 9) (.tm 45))]) (.seq (.seq (.ops [.put 47 (.mov (.tm 0)),
    .put 48 (.nn (.tm 47)),
    .put 49 (.fa 2 (.tm 48)),
    .put 50 (.ld false [.ac] (.tm 49)),
    .put 51 (.ld true [.int .i64, .int .i64, .int .i64] (.tm 9)),
    .put 52 (.look (some 3) false [.int .i64] [(.int .i64 0)] true (.tm 50) (.tm 51)),
    .put 46 (.mov (.tm 52)),
    .put 53 (.ex (.tm 46) 0),
    .put 54 (.ex (.tm 46) 1),
    .put 10 (.mov (.tm 53)),
    .put 11 (.mov (.tm 54))]) (.seq (.ops [.put 55 (.mov (.tm 11))]) (.cond 55 (.seq (.ops [.put 56 (.mov (.tm 10)),
    .put 8 (.mov (.tm 56))]) .ret) .skip))) (.seq (.ops [.put 57 (.mov (.tm 0)),
    .put 58 (.mov (.tm 1)),
    .put 59 (.call 90 [(.tm 57), (.tm 58)]),
    .put 60 (.mov (.tm 0)),
    .put 61 (.mov (.tm 2)),
    .put 62 (.call 90 [(.tm 60), (.tm 61)]),
    .put 63 (.mov (.tm 0)),
    .put 64 (.mov (.tm 3)),
    .put 65 (.call 90 [(.tm 63), (.tm 64)]),
    .put 66 (.min3 (.tm 59) (.tm 62) (.tm 65)),
    .put 12 (.mov (.tm 66))]) (.seq (.ops [.put 68 (.mov (.tm 0)),
    .put 69 (.mov (.tm 1)),
    .put 70 (.mov (.tm 12)),
    .put 71 (.call 98 [(.tm 68), (.tm 69), (.tm 70)]),
    .put 67 (.mov (.tm 71)),
    .put 72 (.ex (.tm 67) 0),
    .put 73 (.ex (.tm 67) 1),
    .put 13 (.mov (.tm 72)),
    .put 14 (.mov (.tm 73))]) (.seq (.ops [.put 75 (.mov (.tm 0)),
    .put 76 (.mov (.tm 2)),
    .put 77 (.mov (.tm 12)),
    .put 78 (.call 98 [(.tm 75), (.tm 76), (.tm 77)]),
    .put 74 (.mov (.tm 78)),
    .put 79 (.ex (.tm 74) 0),
    .put 80 (.ex (.tm 74) 1),
    .put 15 (.mov (.tm 79)),
    .put 16 (.mov (.tm 80))]) (.seq (.ops [.put 82 (.mov (.tm 0)),
    .put 83 (.mov (.tm 3)),
    .put 84 (.mov (.tm 12)),
    .put 85 (.call 98 [(.tm 82), (.tm 83), (.tm 84)]),
    .put 81 (.mov (.tm 85)),
    .put 86 (.ex (.tm 81) 0),
    .put 87 (.ex (.tm 81) 1),
    .put 17 (.mov (.tm 86)),
    .put 18 (.mov (.tm 87))]) (.seq (.ops [.put 88 (.mov (.tm 0)),
    .put 89 (.mov (.tm 13)),
    .put 90 (.mov (.tm 15)),
    .put 91 (.mov (.tm 17)),
    .put 92 (.call 81 [(.tm 88), (.tm 89), (.tm 90), (.tm 91)]),
    .put 19 (.mov (.tm 92))]) (.seq (.ops [.put 93 (.mov (.tm 0)),
    .put 94 (.mov (.tm 12)),
    .put 95 (.mov (.tm 19)),
    .put 96 (.mov (.tm 0)),
    .put 97 (.mov (.tm 14)),
    .put 98 (.mov (.tm 16)),
    .put 99 (.mov (.tm 18)),
    .put 100 (.call 81 [(.tm 96), (.tm 97), (.tm 98), (.tm 99)]),
    .put 101 (.call 80 [(.tm 93), (.tm 94), (.tm 95), (.tm 100)]),
    .put 20 (.mov (.tm 101))]) (.seq (.ops [.put 102 (.mov (.tm 0)),
    .put 103 (.nn (.tm 102)),
    .put 104 (.fa 2 (.tm 103)),
    .put 105 (.ld false [.ac] (.tm 104)),
    .put 106 (.ld true [.int .i64, .int .i64, .int .i64] (.tm 9)),
    .put 107 (.mov (.tm 20)),
    .run (.mset (some 3) (.tm 105) (.tm 106) (.tm 107))]) (.seq (.ops [.put 108 (.mov (.tm 20)),
    .put 8 (.mov (.tm 108))]) .ret)))))))))) t H (solve_manager_ite.K Q)) (solve_manager_ite.K Q)
def solve_manager_ite.p18 (Q : AHeap → Int → Prop) (x0 : AC) (x1 : Int) (x2 : Int) (x3 : Int) (x34 : Bool) (H : AHeap) : Prop :=
  CondB x34
    (Q H x1)
    (New 115 [(.int .i64 0), (.int .i64 0), (.int .i64 0)] H fun p_1 H_2 =>
    Sto H_2 p_1 [(.int .i64 x1), (.int .i64 x2), (.int .i64 x3)] fun H_3 =>
    NN x0 <|
    FA 2 x0 fun q_4 =>
    Ld [.ac] H_3 q_4 fun (v_5 : AC) =>
    Ld [.int .i64, .int .i64, .int .i64] H_3 p_1 fun (v_6 : Int) (v_7 : Int) (v_8 : Int) =>
    Look (some 3) false [.int .i64] [(.int .i64 0)] H_3 v_5 [v_6, v_7, v_8] fun b_9 (v_10 : Int) =>
    CondB b_9
      (Q H_3 v_10)
      (Fn.solve_manager_top x0 x1 H_3 fun H_11 (v_12 : Int) =>
      Fn.solve_manager_top x0 x2 H_11 fun H_13 (v_14 : Int) =>
      Fn.solve_manager_top x0 x3 H_13 fun H_15 (v_16 : Int) =>
      Fn.solve_manager_split x0 x1 (if v_16 < (if v_14 < v_12 then v_14 else v_12) then v_16 else (if v_14 < v_12 then v_14 else v_12)) H_15 fun H_17 (v_18 : Int) (v_19 : Int) =>
      Fn.solve_manager_split x0 x2 (if v_16 < (if v_14 < v_12 then v_14 else v_12) then v_16 else (if v_14 < v_12 then v_14 else v_12)) H_17 fun H_20 (v_21 : Int) (v_22 : Int) =>
      Fn.solve_manager_split x0 x3 (if v_16 < (if v_14 < v_12 then v_14 else v_12) then v_16 else (if v_14 < v_12 then v_14 else v_12)) H_20 fun H_23 (v_24 : Int) (v_25 : Int) =>
      Fn.solve_manager_ite x0 v_18 v_21 v_24 H_23 fun H_26 (v_27 : Int) =>
      Fn.solve_manager_ite x0 v_19 v_22 v_25 H_26 fun H_28 (v_29 : Int) =>
      Fn.solve_manager_node x0 (if v_16 < (if v_14 < v_12 then v_14 else v_12) then v_16 else (if v_14 < v_12 then v_14 else v_12)) v_27 v_29 H_28 fun H_30 (v_31 : Int) =>
      NN x0 <|
      FA 2 x0 fun q_32 =>
      Ld [.ac] H_30 q_32 fun (v_33 : AC) =>
      Ld [.int .i64, .int .i64, .int .i64] H_30 p_1 fun (v_34 : Int) (v_35 : Int) (v_36 : Int) =>
      MSet (some 3) H_30 v_33 [v_34, v_35, v_36] (.one (.int .i64 v_31)) fun H_37 =>
      Q H_37 v_31))
def solve_manager_ite.p6 (Q : AHeap → Int → Prop) (x0 : AC) (x1 : Int) (x2 : Int) (x3 : Int) (x21 : Bool) (H : AHeap) : Prop :=
  CondB x21
    (Q H x2)
    (CondB (x1 == (-1))
      (Q H x3)
      (CondB (x2 == (-2))
        (solve_manager_ite.p18 Q x0 x1 x2 x3 (x3 == (-1)) H)
        (solve_manager_ite.p18 Q x0 x1 x2 x3 false H)))
def solve_manager_ite.W (a0 : AC) (a1 : Int) (a2 : Int) (a3 : Int) (H : AHeap) (Q : AHeap → Int → Prop) : Prop :=
  CondB (a1 == (-2))
    (solve_manager_ite.p6 Q a0 a1 a2 a3 true H)
    (solve_manager_ite.p6 Q a0 a1 a2 a3 (a2 == a3) H)
theorem solve_manager_ite.p18_okE (Q : AHeap → Int → Prop) {x0 : AC} {x1 : Int} {x2 : Int} {x3 : Int} {x34 : Bool} {H : AHeap} (j : Env) : solve_manager_ite.p18 Q x0 x1 x2 x3 x34 H → wpC Try.prog solve_manager_ite.c18 (upd (upd (upd (upd (upd j 0 (.one x0)) 1 (.one (.int .i64 x1))) 2 (.one (.int .i64 x2))) 3 (.one (.int .i64 x3))) 34 (.one (.bool x34))) H (kBlk 0 (solve_manager_ite.k3 Q)) := c_if rfl (c_seq (c_ops (s_cons (w_put (o_mov rfl (s_cons (w_put (o_mov rfl (s_nil (k_seq (c_ret (k_blkR (k_seqR (k_topR (r_one rfl (r_nil (fun h => ⟨((x1 : Int), ()), rfl, h⟩))))))))))))))))) (c_skip (k_blk (k_seq (c_seq (c_ops (s_cons (w_put (o_mov rfl (s_cons (w_put (o_mov rfl (s_cons (w_put (o_mov rfl (s_cons (w_put (o_bld rfl (s_cons (w_put (o_new (fun p_1 H_2 => s_cons (w_run (o_st rfl rfl rfl (fun H_3 => s_nil (k_seq (c_seq (c_seq (c_ops (s_cons (w_put (o_mov rfl (s_cons (w_put (o_nn rfl (s_cons (w_put (o_fa rfl (fun q_4 => s_cons (w_put (o_ld1 rfl (fun (v_5 : AC) => s_cons (w_put (o_ld3 rfl (fun (v_6 : Int) (v_7 : Int) (v_8 : Int) => s_cons (w_put (o_look1 rfl rfl (fun b_9 (v_10 : Int) => s_cons (w_put (o_mov rfl (s_cons (w_put (o_ex rfl rfl rfl (s_cons (w_put (o_ex rfl rfl rfl (s_cons (w_put (o_mov rfl (s_cons (w_put (o_mov rfl (s_nil (k_seq (c_seq (c_ops (s_cons (w_put (o_mov rfl (s_nil (k_seq (c_if rfl (c_seq (c_ops (s_cons (w_put (o_mov rfl (s_cons (w_put (o_mov rfl (s_nil (k_seq (c_ret (k_seqR (k_topR (r_one rfl (r_nil (fun h => ⟨((v_10 : Int), ()), rfl, h⟩)))))))))))))))) (c_skip (k_seq (c_seq (c_ops (s_cons (w_put (o_mov rfl (s_cons (w_put (o_mov rfl (s_cons (w_put (o_call rfl (cv_1 (fun H_11 (v_12 : Int) => s_cons (w_put (o_mov rfl (s_cons (w_put (o_mov rfl (s_cons (w_put (o_call rfl (cv_1 (fun H_13 (v_14 : Int) => s_cons (w_put (o_mov rfl (s_cons (w_put (o_mov rfl (s_cons (w_put (o_call rfl (cv_1 (fun H_15 (v_16 : Int) => s_cons (w_put (o_min3 rfl rfl rfl (s_cons (w_put (o_mov rfl (s_nil (k_seq (c_seq (c_ops (s_cons (w_put (o_mov rfl (s_cons (w_put (o_mov rfl (s_cons (w_put (o_mov rfl (s_cons (w_put (o_call rfl (cv_o1_o1 (fun H_17 (v_18 : Int) (v_19 : Int) => s_cons (w_put (o_mov rfl (s_cons (w_put (o_ex rfl rfl rfl (s_cons (w_put (o_ex rfl rfl rfl (s_cons (w_put (o_mov rfl (s_cons (w_put (o_mov rfl (s_nil (k_seq (c_seq (c_ops (s_cons (w_put (o_mov rfl (s_cons (w_put (o_mov rfl (s_cons (w_put (o_mov rfl (s_cons (w_put (o_call rfl (cv_o1_o1 (fun H_20 (v_21 : Int) (v_22 : Int) => s_cons (w_put (o_mov rfl (s_cons (w_put (o_ex rfl rfl rfl (s_cons (w_put (o_ex rfl rfl rfl (s_cons (w_put (o_mov rfl (s_cons (w_put (o_mov rfl (s_nil (k_seq (c_seq (c_ops (s_cons (w_put (o_mov rfl (s_cons (w_put (o_mov rfl (s_cons (w_put (o_mov rfl (s_cons (w_put (o_call rfl (cv_o1_o1 (fun H_23 (v_24 : Int) (v_25 : Int) => s_cons (w_put (o_mov rfl (s_cons (w_put (o_ex rfl rfl rfl (s_cons (w_put (o_ex rfl rfl rfl (s_cons (w_put (o_mov rfl (s_cons (w_put (o_mov rfl (s_nil (k_seq (c_seq (c_ops (s_cons (w_put (o_mov rfl (s_cons (w_put (o_mov rfl (s_cons (w_put (o_mov rfl (s_cons (w_put (o_mov rfl (s_cons (w_put (o_call rfl (cv_1 (fun H_26 (v_27 : Int) => s_cons (w_put (o_mov rfl (s_nil (k_seq (c_seq (c_ops (s_cons (w_put (o_mov rfl (s_cons (w_put (o_mov rfl (s_cons (w_put (o_mov rfl (s_cons (w_put (o_mov rfl (s_cons (w_put (o_mov rfl (s_cons (w_put (o_mov rfl (s_cons (w_put (o_mov rfl (s_cons (w_put (o_call rfl (cv_1 (fun H_28 (v_29 : Int) => s_cons (w_put (o_call rfl (cv_1 (fun H_30 (v_31 : Int) => s_cons (w_put (o_mov rfl (s_nil (k_seq (c_seq (c_ops (s_cons (w_put (o_mov rfl (s_cons (w_put (o_nn rfl (s_cons (w_put (o_fa rfl (fun q_32 => s_cons (w_put (o_ld1 rfl (fun (v_33 : AC) => s_cons (w_put (o_ld3 rfl (fun (v_34 : Int) (v_35 : Int) (v_36 : Int) => s_cons (w_put (o_mov rfl (s_cons (w_run (o_mset rfl rfl rfl rfl (fun H_37 => s_nil (k_seq (c_seq (c_ops (s_cons (w_put (o_mov rfl (s_cons (w_put (o_mov rfl (s_nil (k_seq (c_ret (k_topR (r_one rfl (r_nil (fun h => ⟨((v_31 : Int), ()), rfl, h⟩))))))))))))))))))))))))))))))))))))))))))))))))))))))))))))))))))))))))))))))))))))))))))))))))))))))))))))))))))))))))))))))))))))))))))))))))))))))))))))))))))))))))))))))))))))))))))))))))))))))))))))))))))))))))))))))))))))))))))))))))))))))))))))))))))))))))))))))))))))))))))))))))))))))))))))))))))))
theorem solve_manager_ite.p18_ok (Q : AHeap → Int → Prop) {x0 : AC} {x1 : Int} {x2 : Int} {x3 : Int} {x34 : Bool} {H : AHeap} {t : Env} (h0 : t 0 = (.one x0)) (h1 : t 1 = (.one (.int .i64 x1))) (h2 : t 2 = (.one (.int .i64 x2))) (h3 : t 3 = (.one (.int .i64 x3))) (h34 : t 34 = (.one (.bool x34))) (h : solve_manager_ite.p18 Q x0 x1 x2 x3 x34 H) : wpC Try.prog solve_manager_ite.c18 t H (kBlk 0 (solve_manager_ite.k3 Q)) := by
  have g := solve_manager_ite.p18_okE Q t h
  rw [upd_self h0] at g
  rw [upd_self h1] at g
  rw [upd_self h2] at g
  rw [upd_self h3] at g
  rw [upd_self h34] at g
  exact g
theorem solve_manager_ite.p6_okE (Q : AHeap → Int → Prop) {x0 : AC} {x1 : Int} {x2 : Int} {x3 : Int} {x21 : Bool} {H : AHeap} (j : Env) : solve_manager_ite.p6 Q x0 x1 x2 x3 x21 H → wpC Try.prog solve_manager_ite.c6 (upd (upd (upd (upd (upd j 0 (.one x0)) 1 (.one (.int .i64 x1))) 2 (.one (.int .i64 x2))) 3 (.one (.int .i64 x3))) 21 (.one (.bool x21))) H (kBlk 0 (solve_manager_ite.k3 Q)) := c_if rfl (c_seq (c_ops (s_cons (w_put (o_mov rfl (s_cons (w_put (o_mov rfl (s_nil (k_seq (c_ret (k_blkR (k_seqR (k_topR (r_one rfl (r_nil (fun h => ⟨((x2 : Int), ()), rfl, h⟩))))))))))))))))) (c_seq (c_ops (s_cons (w_put (o_mov rfl (s_cons (w_put (o_eq rfl rfl (s_cons (w_put (o_mov rfl (s_nil (k_seq (c_if rfl (c_seq (c_ops (s_cons (w_put (o_mov rfl (s_cons (w_put (o_mov rfl (s_nil (k_seq (c_ret (k_blkR (k_seqR (k_topR (r_one rfl (r_nil (fun h => ⟨((x3 : Int), ()), rfl, h⟩))))))))))))))))) (c_seq (c_ops (s_cons (w_put (o_mov rfl (s_cons (w_put (o_eq rfl rfl (s_cons (w_put (o_mov rfl (s_cons (w_gputT rfl (o_mov rfl (s_cons (w_gputY rfl (o_eq rfl rfl (s_cons (w_put (o_pickT rfl rfl (s_cons (w_put (o_mov rfl (s_nil (k_seq (solve_manager_ite.p18_ok Q rfl rfl rfl rfl rfl))))))))))))) (s_cons (w_gputN rfl (s_cons (w_put (o_pickF rfl rfl (s_cons (w_put (o_mov rfl (s_nil (k_seq (solve_manager_ite.p18_ok Q rfl rfl rfl rfl rfl))))))))))))))))))))))))))))))))))))))
theorem solve_manager_ite.p6_ok (Q : AHeap → Int → Prop) {x0 : AC} {x1 : Int} {x2 : Int} {x3 : Int} {x21 : Bool} {H : AHeap} {t : Env} (h0 : t 0 = (.one x0)) (h1 : t 1 = (.one (.int .i64 x1))) (h2 : t 2 = (.one (.int .i64 x2))) (h3 : t 3 = (.one (.int .i64 x3))) (h21 : t 21 = (.one (.bool x21))) (h : solve_manager_ite.p6 Q x0 x1 x2 x3 x21 H) : wpC Try.prog solve_manager_ite.c6 t H (kBlk 0 (solve_manager_ite.k3 Q)) := by
  have g := solve_manager_ite.p6_okE Q t h
  rw [upd_self h0] at g
  rw [upd_self h1] at g
  rw [upd_self h2] at g
  rw [upd_self h3] at g
  rw [upd_self h21] at g
  exact g
theorem solve_manager_ite.ok {a0 : AC} {a1 : Int} {a2 : Int} {a3 : Int} {H : AHeap} (Q : AHeap → Int → Prop) : solve_manager_ite.W a0 a1 a2 a3 H Q → wpF Try.prog solve_manager_ite.c [.tm 8] (envOf [(.one a0), (.one (.int .i64 a1)), (.one (.int .i64 a2)), (.one (.int .i64 a3))]) H (solve_manager_ite.KQ Q) := c_seq (c_ops (s_cons (w_put (o_mov rfl (s_nil (k_seq (c_seq (c_blk (c_seq (c_ops (s_cons (w_put (o_mov rfl (s_cons (w_put (o_eq rfl rfl (s_cons (w_put (o_mov rfl (s_cons (w_gputF rfl (s_cons (w_gputN rfl (s_cons (w_gputN rfl (s_cons (w_put (o_pickT rfl rfl (s_cons (w_put (o_mov rfl (s_nil (k_seq (solve_manager_ite.p6_ok Q rfl rfl rfl rfl rfl))))))))))))) (o_mov rfl (s_cons (w_gputY rfl (o_mov rfl (s_cons (w_gputY rfl (o_eq rfl rfl (s_cons (w_put (o_pickF rfl rfl (s_cons (w_put (o_mov rfl (s_nil (k_seq (solve_manager_ite.p6_ok Q rfl rfl rfl rfl rfl)))))))))))))))))))))))))))))))))))))
theorem solve_manager_ite.slimOk : slimOk [(8, []), (17, [])] (Try.f81.body.getD .skip) = true := by kernel_rfl
theorem solve_manager_ite.resC : resC Try.prog aggs Try.f81.ntmps (slim [(8, []), (17, [])] (Try.f81.body.getD .skip)) = some solve_manager_ite.c := by kernel_rfl
theorem solve_manager_ite.resR : resR Try.prog Try.f81.results.toList = some [.tm 8] := by kernel_rfl
theorem solve_manager_ite.bodyEq : Try.f81.body = some (Try.f81.body.getD .skip) := by kernel_rfl
theorem solve_manager_ite.run {a0 : AC} {a1 : Int} {a2 : Int} {a3 : Int} {H : AHeap} {Q : AHeap → Int → Prop} (h : solve_manager_ite.W a0 a1 a2 a3 H Q) : Fn.solve_manager_ite a0 a1 a2 a3 H Q := by
  unfold Fn.solve_manager_ite RunT
  exact run_of aggs_ok [(8, []), (17, [])] Try.func81 solve_manager_ite.bodyEq solve_manager_ite.slimOk solve_manager_ite.resC solve_manager_ite.resR (Nat.le_of_ble_eq_true (by kernel_rfl)) (solve_manager_ite.ok Q h)

def fetterlockref6_uniform.c7 : RC := (.seq (.seq (.ops [.put 4 (.mov (.tm 3)),
    .put 5 (.mov (.tm 0)),
    .put 6 (.lens (.tm 5)),
    .put 7 (.cm .lt (.tm 4) (.tm 6))]) (.cond 7 .skip (.exit 0))) (.seq (.block 1 (.seq (.ops [.put 10 (.mov (.tm 0)),
    .put 11 (.mov (.tm 3)),
    .put 12 (.ia 1 (.tm 10) (.tm 11)),
    .put 13 (.ld false [.bool] (.tm 12)),
    .put 14 (.mov (.tm 0)),
    .put 15 (.ia 1 (.tm 14) (.ct (.one (.int .i64 0)))),
    .put 16 (.ld false [.bool] (.tm 15)),
    .put 17 (.eqb true (.tm 13) (.tm 16))]) (.cond 17 (.seq (.ops [.put 2 (.mov (.ct (.one (.bool false))))]) .ret) .skip))) (.ops [.put 8 (.mov (.tm 3)),
    .put 9 (.ar .add (.tm 8) (.ct (.one (.int .i64 1)))),
    .put 3 (.mov (.tm 9))])))
def fetterlockref6_uniform.c : RC := (.seq (.ops [.put 2 (.mov (.ct (.one (.bool false))))]) (.seq (.seq (.ops [.put 3 (.mov (.ct (.one (.int .i64 1))))]) (.block 0 (.loop fetterlockref6_uniform.c7))) (.seq (.ops [.put 2 (.mov (.ct (.one (.bool true))))]) .ret)))
abbrev fetterlockref6_uniform.KQ (Q : AHeap → Bool → Prop) : AV → AHeap → Prop := fun v H => ∃ xs : Tup (flat [(false, [.bool])]), v = joinR (splitP [(false, [.bool])] (cellsOf (flat [(false, [.bool])]) xs)) ∧ app (flat [(false, [.bool])]) (Q H) xs
abbrev fetterlockref6_uniform.K (Q : AHeap → Bool → Prop) : Ex → Env → AHeap → Prop := kTop [.tm 2] (fetterlockref6_uniform.KQ Q)
abbrev fetterlockref6_uniform.k3 (Q : AHeap → Bool → Prop) : Ex → Env → AHeap → Prop := kSeq (fun t H => wpC Try.prog (.seq (.ops [.put 2 (.mov (.ct (.one (.bool true))))]) .ret) t H (fetterlockref6_uniform.K Q)) (fetterlockref6_uniform.K Q)
def fetterlockref6_uniform.R6 (s : Tup [.ac, .int .i64]) (t : Env) : Prop := t 0 = (.one (s.1)) ∧ t 3 = (.one (.int .i64 (s.2.1))) ∧ True
def fetterlockref6_uniform.b6 (Q : AHeap → Bool → Prop) (Y6 : Tup [.ac, .int .i64] → AHeap → Prop) (x0 : AC) (x3 : Int) (H : AHeap) : Prop :=
  LenS x0 fun n_1 =>
  CondB (decide (x3 < n_1))
    (IA 1 x0 x3 fun q_2 =>
    Ld [.bool] H q_2 fun (v_3 : Bool) =>
    IA 1 x0 0 fun q_4 =>
    Ld [.bool] H q_4 fun (v_5 : Bool) =>
    CondB (!(v_3 == v_5))
      (Q H false)
      (Y6 (x0, ((IntKind.wrap .i64 (x3 + 1)) : Int), ()) H))
    (Q H true)
def fetterlockref6_uniform.l6 (Q : AHeap → Bool → Prop) (x0 : AC) (x3 : Int) (H : AHeap) : Prop := LoopT (Tup [.ac, .int .i64]) (fun Y s H => fetterlockref6_uniform.b6 Q Y (s.1) (s.2.1) H) (x0, x3, ()) H
def fetterlockref6_uniform.W (a0 : AC) (H : AHeap) (Q : AHeap → Bool → Prop) : Prop :=
  fetterlockref6_uniform.l6 Q a0 1 H
theorem fetterlockref6_uniform.b6_ok (Q : AHeap → Bool → Prop) (Y6 : Tup [.ac, .int .i64] → AHeap → Prop) (X6 : Env → AHeap → Prop) (hX6 : ∀ s t H, fetterlockref6_uniform.R6 s t → Y6 s H → X6 t H) {x0 : AC} {x3 : Int} {H : AHeap} (j : Env) : fetterlockref6_uniform.b6 Q Y6 x0 x3 H → wpC Try.prog fetterlockref6_uniform.c7 (upd (upd j 0 (.one x0)) 3 (.one (.int .i64 x3))) H (kSeq X6 (kBlk 0 (fetterlockref6_uniform.k3 Q))) := c_seq (c_seq (c_ops (s_cons (w_put (o_mov rfl (s_cons (w_put (o_mov rfl (s_cons (w_put (o_lens rfl (fun n_1 => s_cons (w_put (o_lt rfl rfl (s_nil (k_seq (c_if rfl (c_skip (k_seq (c_seq (c_blk (c_seq (c_ops (s_cons (w_put (o_mov rfl (s_cons (w_put (o_mov rfl (s_cons (w_put (o_ia rfl rfl (fun q_2 => s_cons (w_put (o_ld1 rfl (fun (v_3 : Bool) => s_cons (w_put (o_mov rfl (s_cons (w_put (o_ia rfl rfl (fun q_4 => s_cons (w_put (o_ld1 rfl (fun (v_5 : Bool) => s_cons (w_put (o_neb rfl rfl (s_nil (k_seq (c_if rfl (c_seq (c_ops (s_cons (w_put (o_mov rfl (s_nil (k_seq (c_ret (k_blkR (k_seqR (k_seqR (k_blkR (k_seqR (k_topR (r_one rfl (r_nil (fun h => ⟨((false : Bool), ()), rfl, h⟩))))))))))))))))) (c_skip (k_blk (k_seq (c_ops (s_cons (w_put (o_mov rfl (s_cons (w_put (o_add rfl rfl (s_cons (w_put (o_mov rfl (s_nil (k_seq (hX6 _ _ _ ⟨rfl, rfl, trivial⟩))))))))))))))))))))))))))))))))))))))))))))))))) (c_exit (k_seqE (k_seqE (k_blkH (k_seq (c_seq (c_ops (s_cons (w_put (o_mov rfl (s_nil (k_seq (c_ret (k_topR (r_one rfl (r_nil (fun h => ⟨((true : Bool), ()), rfl, h⟩))))))))))))))))))))))))))))))))))
theorem fetterlockref6_uniform.l6_ok (Q : AHeap → Bool → Prop) {x0 : AC} {x3 : Int} {H : AHeap} {t : Env} (h0 : t 0 = (.one x0)) (h3 : t 3 = (.one (.int .i64 x3))) : fetterlockref6_uniform.l6 Q x0 x3 H → wpC Try.prog (.loop fetterlockref6_uniform.c7) t H (kBlk 0 (fetterlockref6_uniform.k3 Q)) :=
  m_loop fetterlockref6_uniform.R6 ⟨h0, h3, trivial⟩ fun X Y hX s t H hR hB => by
    have g := fetterlockref6_uniform.b6_ok Q Y X hX t hB
    rw [upd_self hR.1] at g
    rw [upd_self hR.2.1] at g
    exact g
theorem fetterlockref6_uniform.ok {a0 : AC} {H : AHeap} (Q : AHeap → Bool → Prop) : fetterlockref6_uniform.W a0 H Q → wpF Try.prog fetterlockref6_uniform.c [.tm 2] (envOf [(.one a0)]) H (fetterlockref6_uniform.KQ Q) := c_seq (c_ops (s_cons (w_put (o_mov rfl (s_nil (k_seq (c_seq (c_seq (c_ops (s_cons (w_put (o_mov rfl (s_nil (k_seq (c_blk (fetterlockref6_uniform.l6_ok Q rfl rfl))))))))))))))))
theorem fetterlockref6_uniform.slimOk : slimOk [(4, [])] (Try.f82.body.getD .skip) = true := by kernel_rfl
theorem fetterlockref6_uniform.resC : resC Try.prog aggs Try.f82.ntmps (slim [(4, [])] (Try.f82.body.getD .skip)) = some fetterlockref6_uniform.c := by kernel_rfl
theorem fetterlockref6_uniform.resR : resR Try.prog Try.f82.results.toList = some [.tm 2] := by kernel_rfl
theorem fetterlockref6_uniform.bodyEq : Try.f82.body = some (Try.f82.body.getD .skip) := by kernel_rfl
theorem fetterlockref6_uniform.run {a0 : AC} {H : AHeap} {Q : AHeap → Bool → Prop} (h : fetterlockref6_uniform.W a0 H Q) : Fn.fetterlockref6_uniform a0 H Q := by
  unfold Fn.fetterlockref6_uniform RunT
  exact run_of aggs_ok [(4, [])] Try.func82 fetterlockref6_uniform.bodyEq fetterlockref6_uniform.slimOk fetterlockref6_uniform.resC fetterlockref6_uniform.resR (Nat.le_of_ble_eq_true (by kernel_rfl)) (fetterlockref6_uniform.ok Q h)

def fetterlockref6_alike.c15 : RC := (.seq (.seq (.ops [.put 11 (.mov (.tm 5)),
    .put 12 (.mov (.tm 0)),
    .put 13 (.lens (.tm 12)),
    .put 14 (.cm .lt (.tm 11) (.tm 13))]) (.cond 14 .skip (.exit 0))) (.seq (.block 1 (.seq (.ops [.put 17 (.mov (.tm 0)),
    .put 18 (.mov (.tm 5)),
    .put 19 (.ia 1 (.tm 17) (.tm 18)),
    .put 20 (.ld false [.bool] (.tm 19)),
    .put 21 (.mov (.tm 1)),
    .put 22 (.mov (.tm 5)),
    .put 23 (.ia 1 (.tm 21) (.tm 22)),
    .put 24 (.ld false [.bool] (.tm 23)),
    .put 25 (.eqb true (.tm 20) (.tm 24))]) (.cond 25 (.seq (.ops [.put 4 (.mov (.ct (.one (.bool false))))]) .ret) .skip))) (.ops [.put 15 (.mov (.tm 5)),
    .put 16 (.ar .add (.tm 15) (.ct (.one (.int .i64 1)))),
    .put 5 (.mov (.tm 16))])))
def fetterlockref6_alike.c : RC := (.seq (.ops [.put 4 (.mov (.ct (.one (.bool false))))]) (.seq (.seq (.ops [.put 6 (.mov (.tm 0)),
    .put 7 (.lens (.tm 6)),
    .put 8 (.mov (.tm 1)),
    .put 9 (.lens (.tm 8)),
    .put 10 (.cm .ne (.tm 7) (.tm 9))]) (.cond 10 (.seq (.ops [.put 4 (.mov (.ct (.one (.bool false))))]) .ret) .skip)) (.seq (.seq (.ops [.put 5 (.mov (.ct (.one (.int .i64 0))))]) (.block 0 (.loop fetterlockref6_alike.c15))) (.seq (.ops [.put 4 (.mov (.ct (.one (.bool true))))]) .ret))))
abbrev fetterlockref6_alike.KQ (Q : AHeap → Bool → Prop) : AV → AHeap → Prop := fun v H => ∃ xs : Tup (flat [(false, [.bool])]), v = joinR (splitP [(false, [.bool])] (cellsOf (flat [(false, [.bool])]) xs)) ∧ app (flat [(false, [.bool])]) (Q H) xs
abbrev fetterlockref6_alike.K (Q : AHeap → Bool → Prop) : Ex → Env → AHeap → Prop := kTop [.tm 4] (fetterlockref6_alike.KQ Q)
abbrev fetterlockref6_alike.k11 (Q : AHeap → Bool → Prop) : Ex → Env → AHeap → Prop := kSeq (fun t H => wpC Try.prog (.seq (.ops [.put 4 (.mov (.ct (.one (.bool true))))]) .ret) t H (fetterlockref6_alike.K Q)) (fetterlockref6_alike.K Q)
def fetterlockref6_alike.R14 (s : Tup [.ac, .ac, .int .i64]) (t : Env) : Prop := t 0 = (.one (s.1)) ∧ t 1 = (.one (s.2.1)) ∧ t 5 = (.one (.int .i64 (s.2.2.1))) ∧ True
def fetterlockref6_alike.b14 (Q : AHeap → Bool → Prop) (Y14 : Tup [.ac, .ac, .int .i64] → AHeap → Prop) (x0 : AC) (x1 : AC) (x5 : Int) (H : AHeap) : Prop :=
  LenS x0 fun n_1 =>
  CondB (decide (x5 < n_1))
    (IA 1 x0 x5 fun q_2 =>
    Ld [.bool] H q_2 fun (v_3 : Bool) =>
    IA 1 x1 x5 fun q_4 =>
    Ld [.bool] H q_4 fun (v_5 : Bool) =>
    CondB (!(v_3 == v_5))
      (Q H false)
      (Y14 (x0, x1, ((IntKind.wrap .i64 (x5 + 1)) : Int), ()) H))
    (Q H true)
def fetterlockref6_alike.l14 (Q : AHeap → Bool → Prop) (x0 : AC) (x1 : AC) (x5 : Int) (H : AHeap) : Prop := LoopT (Tup [.ac, .ac, .int .i64]) (fun Y s H => fetterlockref6_alike.b14 Q Y (s.1) (s.2.1) (s.2.2.1) H) (x0, x1, x5, ()) H
def fetterlockref6_alike.W (a0 : AC) (a1 : AC) (H : AHeap) (Q : AHeap → Bool → Prop) : Prop :=
  LenS a0 fun n_1 =>
  LenS a1 fun n_2 =>
  CondB (n_1 != n_2)
    (Q H false)
    (fetterlockref6_alike.l14 Q a0 a1 0 H)
theorem fetterlockref6_alike.b14_ok (Q : AHeap → Bool → Prop) (Y14 : Tup [.ac, .ac, .int .i64] → AHeap → Prop) (X14 : Env → AHeap → Prop) (hX14 : ∀ s t H, fetterlockref6_alike.R14 s t → Y14 s H → X14 t H) {x0 : AC} {x1 : AC} {x5 : Int} {H : AHeap} (j : Env) : fetterlockref6_alike.b14 Q Y14 x0 x1 x5 H → wpC Try.prog fetterlockref6_alike.c15 (upd (upd (upd j 0 (.one x0)) 1 (.one x1)) 5 (.one (.int .i64 x5))) H (kSeq X14 (kBlk 0 (fetterlockref6_alike.k11 Q))) := c_seq (c_seq (c_ops (s_cons (w_put (o_mov rfl (s_cons (w_put (o_mov rfl (s_cons (w_put (o_lens rfl (fun n_1 => s_cons (w_put (o_lt rfl rfl (s_nil (k_seq (c_if rfl (c_skip (k_seq (c_seq (c_blk (c_seq (c_ops (s_cons (w_put (o_mov rfl (s_cons (w_put (o_mov rfl (s_cons (w_put (o_ia rfl rfl (fun q_2 => s_cons (w_put (o_ld1 rfl (fun (v_3 : Bool) => s_cons (w_put (o_mov rfl (s_cons (w_put (o_mov rfl (s_cons (w_put (o_ia rfl rfl (fun q_4 => s_cons (w_put (o_ld1 rfl (fun (v_5 : Bool) => s_cons (w_put (o_neb rfl rfl (s_nil (k_seq (c_if rfl (c_seq (c_ops (s_cons (w_put (o_mov rfl (s_nil (k_seq (c_ret (k_blkR (k_seqR (k_seqR (k_blkR (k_seqR (k_topR (r_one rfl (r_nil (fun h => ⟨((false : Bool), ()), rfl, h⟩))))))))))))))))) (c_skip (k_blk (k_seq (c_ops (s_cons (w_put (o_mov rfl (s_cons (w_put (o_add rfl rfl (s_cons (w_put (o_mov rfl (s_nil (k_seq (hX14 _ _ _ ⟨rfl, rfl, rfl, trivial⟩)))))))))))))))))))))))))))))))))))))))))))))))))))) (c_exit (k_seqE (k_seqE (k_blkH (k_seq (c_seq (c_ops (s_cons (w_put (o_mov rfl (s_nil (k_seq (c_ret (k_topR (r_one rfl (r_nil (fun h => ⟨((true : Bool), ()), rfl, h⟩))))))))))))))))))))))))))))))))))
theorem fetterlockref6_alike.l14_ok (Q : AHeap → Bool → Prop) {x0 : AC} {x1 : AC} {x5 : Int} {H : AHeap} {t : Env} (h0 : t 0 = (.one x0)) (h1 : t 1 = (.one x1)) (h5 : t 5 = (.one (.int .i64 x5))) : fetterlockref6_alike.l14 Q x0 x1 x5 H → wpC Try.prog (.loop fetterlockref6_alike.c15) t H (kBlk 0 (fetterlockref6_alike.k11 Q)) :=
  m_loop fetterlockref6_alike.R14 ⟨h0, h1, h5, trivial⟩ fun X Y hX s t H hR hB => by
    have g := fetterlockref6_alike.b14_ok Q Y X hX t hB
    rw [upd_self hR.1] at g
    rw [upd_self hR.2.1] at g
    rw [upd_self hR.2.2.1] at g
    exact g
theorem fetterlockref6_alike.ok {a0 : AC} {a1 : AC} {H : AHeap} (Q : AHeap → Bool → Prop) : fetterlockref6_alike.W a0 a1 H Q → wpF Try.prog fetterlockref6_alike.c [.tm 4] (envOf [(.one a0), (.one a1)]) H (fetterlockref6_alike.KQ Q) := c_seq (c_ops (s_cons (w_put (o_mov rfl (s_nil (k_seq (c_seq (c_seq (c_ops (s_cons (w_put (o_mov rfl (s_cons (w_put (o_lens rfl (fun n_1 => s_cons (w_put (o_mov rfl (s_cons (w_put (o_lens rfl (fun n_2 => s_cons (w_put (o_ne rfl rfl (s_nil (k_seq (c_if rfl (c_seq (c_ops (s_cons (w_put (o_mov rfl (s_nil (k_seq (c_ret (k_seqR (k_topR (r_one rfl (r_nil (fun h => ⟨((false : Bool), ()), rfl, h⟩))))))))))))) (c_skip (k_seq (c_seq (c_seq (c_ops (s_cons (w_put (o_mov rfl (s_nil (k_seq (c_blk (fetterlockref6_alike.l14_ok Q rfl rfl rfl)))))))))))))))))))))))))))))))))))))))
theorem fetterlockref6_alike.slimOk : slimOk [(6, [])] (Try.f83.body.getD .skip) = true := by kernel_rfl
theorem fetterlockref6_alike.resC : resC Try.prog aggs Try.f83.ntmps (slim [(6, [])] (Try.f83.body.getD .skip)) = some fetterlockref6_alike.c := by kernel_rfl
theorem fetterlockref6_alike.resR : resR Try.prog Try.f83.results.toList = some [.tm 4] := by kernel_rfl
theorem fetterlockref6_alike.bodyEq : Try.f83.body = some (Try.f83.body.getD .skip) := by kernel_rfl
theorem fetterlockref6_alike.run {a0 : AC} {a1 : AC} {H : AHeap} {Q : AHeap → Bool → Prop} (h : fetterlockref6_alike.W a0 a1 H Q) : Fn.fetterlockref6_alike a0 a1 H Q := by
  unfold Fn.fetterlockref6_alike RunT
  exact run_of aggs_ok [(6, [])] Try.func83 fetterlockref6_alike.bodyEq fetterlockref6_alike.slimOk fetterlockref6_alike.resC fetterlockref6_alike.resR (Nat.le_of_ble_eq_true (by kernel_rfl)) (fetterlockref6_alike.ok Q h)

def solve_manager_add_1.c : RC := (.seq (.ops [.put 3 (.mov (.ct (.one (.int .i64 0))))]) (.seq (.seq (.ops [.put 4 (.mov (.tm 0)),
    .put 5 (.cm .lt (.tm 4) (.ct (.one (.int .i64 0))))]) (.cond 5 (.seq (.ops [.put 6 (.mov (.tm 0)),
    .put 3 (.mov (.tm 6))]) .ret) .skip)) (.seq (.ops [.put 7 (.ld false [.ac] (.tm 1)),
    .put 8 (.mov (.tm 0)),
    .put 9 (.ia 1 (.tm 7) (.tm 8)),
    .put 10 (.ld false [.int .i64] (.tm 9)),
    .put 3 (.mov (.tm 10))]) .ret)))
abbrev solve_manager_add_1.KQ (Q : AHeap → Int → Prop) : AV → AHeap → Prop := fun v H => ∃ xs : Tup (flat [(false, [.int .i64])]), v = joinR (splitP [(false, [.int .i64])] (cellsOf (flat [(false, [.int .i64])]) xs)) ∧ app (flat [(false, [.int .i64])]) (Q H) xs
abbrev solve_manager_add_1.K (Q : AHeap → Int → Prop) : Ex → Env → AHeap → Prop := kTop [.tm 3] (solve_manager_add_1.KQ Q)
def solve_manager_add_1.W (a0 : Int) (a1 : AC) (H : AHeap) (Q : AHeap → Int → Prop) : Prop :=
  CondB (decide (a0 < 0))
    (Q H a0)
    (Ld [.ac] H a1 fun (v_1 : AC) =>
    IA 1 v_1 a0 fun q_2 =>
    Ld [.int .i64] H q_2 fun (v_3 : Int) =>
    Q H v_3)
theorem solve_manager_add_1.ok {a0 : Int} {a1 : AC} {H : AHeap} (Q : AHeap → Int → Prop) : solve_manager_add_1.W a0 a1 H Q → wpF Try.prog solve_manager_add_1.c [.tm 3] (envOf [(.one (.int .i64 a0)), (.one a1)]) H (solve_manager_add_1.KQ Q) := c_seq (c_ops (s_cons (w_put (o_mov rfl (s_nil (k_seq (c_seq (c_seq (c_ops (s_cons (w_put (o_mov rfl (s_cons (w_put (o_lt rfl rfl (s_nil (k_seq (c_if rfl (c_seq (c_ops (s_cons (w_put (o_mov rfl (s_cons (w_put (o_mov rfl (s_nil (k_seq (c_ret (k_seqR (k_topR (r_one rfl (r_nil (fun h => ⟨((a0 : Int), ()), rfl, h⟩)))))))))))))))) (c_skip (k_seq (c_seq (c_ops (s_cons (w_put (o_ld1 rfl (fun (v_1 : AC) => s_cons (w_put (o_mov rfl (s_cons (w_put (o_ia rfl rfl (fun q_2 => s_cons (w_put (o_ld1 rfl (fun (v_3 : Int) => s_cons (w_put (o_mov rfl (s_nil (k_seq (c_ret (k_topR (r_one rfl (r_nil (fun h => ⟨((v_3 : Int), ()), rfl, h⟩))))))))))))))))))))))))))))))))))))))))))))
theorem solve_manager_add_1.slimOk : slimOk [] (Try.f84.body.getD .skip) = true := by kernel_rfl
theorem solve_manager_add_1.resC : resC Try.prog aggs Try.f84.ntmps (slim [] (Try.f84.body.getD .skip)) = some solve_manager_add_1.c := by kernel_rfl
theorem solve_manager_add_1.resR : resR Try.prog Try.f84.results.toList = some [.tm 3] := by kernel_rfl
theorem solve_manager_add_1.bodyEq : Try.f84.body = some (Try.f84.body.getD .skip) := by kernel_rfl
theorem solve_manager_add_1.run {a0 : Int} {a1 : AC} {H : AHeap} {Q : AHeap → Int → Prop} (h : solve_manager_add_1.W a0 a1 H Q) : Fn.solve_manager_add_1 a0 a1 H Q := by
  unfold Fn.solve_manager_add_1 RunT
  exact run_of aggs_ok [] Try.func84 solve_manager_add_1.bodyEq solve_manager_add_1.slimOk solve_manager_add_1.resC solve_manager_add_1.resR (Nat.le_of_ble_eq_true (by kernel_rfl)) (solve_manager_add_1.ok Q h)

def slices_ContainsFunc_fetterlock_api_Node_fetterlock_api_Node.c : RC := (.seq (.ops [.put 4 (.mov (.ct (.one (.bool false))))]) (.seq (.ops [.put 5 (.mov (.tm 0)),
    .put 6 (.mov (.tm 1)),
    .put 7 (.call 99 [(.tm 5), (.tm 6)]),
    .put 8 (.cm .ge (.tm 7) (.ct (.one (.int .i64 0)))),
    .put 4 (.mov (.tm 8))]) .ret))
abbrev slices_ContainsFunc_fetterlock_api_Node_fetterlock_api_Node.KQ (Q : AHeap → Bool → Prop) : AV → AHeap → Prop := fun v H => ∃ xs : Tup (flat [(false, [.bool])]), v = joinR (splitP [(false, [.bool])] (cellsOf (flat [(false, [.bool])]) xs)) ∧ app (flat [(false, [.bool])]) (Q H) xs
abbrev slices_ContainsFunc_fetterlock_api_Node_fetterlock_api_Node.K (Q : AHeap → Bool → Prop) : Ex → Env → AHeap → Prop := kTop [.tm 4] (slices_ContainsFunc_fetterlock_api_Node_fetterlock_api_Node.KQ Q)
def slices_ContainsFunc_fetterlock_api_Node_fetterlock_api_Node.W (a0 : AC) (a1 : AC) (H : AHeap) (Q : AHeap → Bool → Prop) : Prop :=
  Fn.slices_IndexFunc_fetterlock_api_Node_fetterlock_api_Node a0 a1 H fun H_1 (v_2 : Int) =>
  Q H_1 (decide (v_2 ≥ 0))
theorem slices_ContainsFunc_fetterlock_api_Node_fetterlock_api_Node.ok {a0 : AC} {a1 : AC} {H : AHeap} (Q : AHeap → Bool → Prop) : slices_ContainsFunc_fetterlock_api_Node_fetterlock_api_Node.W a0 a1 H Q → wpF Try.prog slices_ContainsFunc_fetterlock_api_Node_fetterlock_api_Node.c [.tm 4] (envOf [(.one a0), (.one a1)]) H (slices_ContainsFunc_fetterlock_api_Node_fetterlock_api_Node.KQ Q) := c_seq (c_ops (s_cons (w_put (o_mov rfl (s_nil (k_seq (c_seq (c_ops (s_cons (w_put (o_mov rfl (s_cons (w_put (o_mov rfl (s_cons (w_put (o_call rfl (cv_1 (fun H_1 (v_2 : Int) => s_cons (w_put (o_ge rfl rfl (s_cons (w_put (o_mov rfl (s_nil (k_seq (c_ret (k_topR (r_one rfl (r_nil (fun h => ⟨(((decide (v_2 ≥ 0)) : Bool), ()), rfl, h⟩)))))))))))))))))))))))))))))))
theorem slices_ContainsFunc_fetterlock_api_Node_fetterlock_api_Node.slimOk : slimOk [] (Try.f85.body.getD .skip) = true := by kernel_rfl
theorem slices_ContainsFunc_fetterlock_api_Node_fetterlock_api_Node.resC : resC Try.prog aggs Try.f85.ntmps (slim [] (Try.f85.body.getD .skip)) = some slices_ContainsFunc_fetterlock_api_Node_fetterlock_api_Node.c := by kernel_rfl
theorem slices_ContainsFunc_fetterlock_api_Node_fetterlock_api_Node.resR : resR Try.prog Try.f85.results.toList = some [.tm 4] := by kernel_rfl
theorem slices_ContainsFunc_fetterlock_api_Node_fetterlock_api_Node.bodyEq : Try.f85.body = some (Try.f85.body.getD .skip) := by kernel_rfl
theorem slices_ContainsFunc_fetterlock_api_Node_fetterlock_api_Node.run {a0 : AC} {a1 : AC} {H : AHeap} {Q : AHeap → Bool → Prop} (h : slices_ContainsFunc_fetterlock_api_Node_fetterlock_api_Node.W a0 a1 H Q) : Fn.slices_ContainsFunc_fetterlock_api_Node_fetterlock_api_Node a0 a1 H Q := by
  unfold Fn.slices_ContainsFunc_fetterlock_api_Node_fetterlock_api_Node RunT
  exact run_of aggs_ok [] Try.func85 slices_ContainsFunc_fetterlock_api_Node_fetterlock_api_Node.bodyEq slices_ContainsFunc_fetterlock_api_Node_fetterlock_api_Node.slimOk slices_ContainsFunc_fetterlock_api_Node_fetterlock_api_Node.resC slices_ContainsFunc_fetterlock_api_Node_fetterlock_api_Node.resR (Nat.le_of_ble_eq_true (by kernel_rfl)) (slices_ContainsFunc_fetterlock_api_Node_fetterlock_api_Node.ok Q h)

def solve_varsFault_1.c : RC := (.seq (.ops [.put 2 (.box 77 (.tm 0)),
    .put 3 (.mov (.ct (.one (.bool false))))]) (.seq (.ops [.put 4 (.fa 0 (.tm 2)),
    .put 5 (.ld false [.int .i64] (.tm 4)),
    .put 6 (.ld false [.int .i64] (.tm 1)),
    .put 7 (.cm .ge (.tm 5) (.tm 6)),
    .put 3 (.mov (.tm 7))]) .ret))
abbrev solve_varsFault_1.KQ (Q : AHeap → Bool → Prop) : AV → AHeap → Prop := fun v H => ∃ xs : Tup (flat [(false, [.bool])]), v = joinR (splitP [(false, [.bool])] (cellsOf (flat [(false, [.bool])]) xs)) ∧ app (flat [(false, [.bool])]) (Q H) xs
abbrev solve_varsFault_1.K (Q : AHeap → Bool → Prop) : Ex → Env → AHeap → Prop := kTop [.tm 3] (solve_varsFault_1.KQ Q)
def solve_varsFault_1.W (a0_0 : Int) (a0_1 : Int) (a0_2 : Int) (a1 : AC) (H : AHeap) (Q : AHeap → Bool → Prop) : Prop :=
  New 77 [(.int .i64 a0_0), (.int .i64 a0_1), (.int .i64 a0_2)] H fun p_1 H_2 =>
  FA 0 p_1 fun q_3 =>
  Ld [.int .i64] H_2 q_3 fun (v_4 : Int) =>
  Ld [.int .i64] H_2 a1 fun (v_5 : Int) =>
  Q H_2 (decide (v_4 ≥ v_5))
theorem solve_varsFault_1.ok {a0_0 : Int} {a0_1 : Int} {a0_2 : Int} {a1 : AC} {H : AHeap} (Q : AHeap → Bool → Prop) : solve_varsFault_1.W a0_0 a0_1 a0_2 a1 H Q → wpF Try.prog solve_varsFault_1.c [.tm 3] (envOf [(.agg [(.int .i64 a0_0), (.int .i64 a0_1), (.int .i64 a0_2)]), (.one a1)]) H (solve_varsFault_1.KQ Q) := c_seq (c_ops (s_cons (w_put (o_box rfl (fun p_1 H_2 => s_cons (w_put (o_mov rfl (s_nil (k_seq (c_seq (c_ops (s_cons (w_put (o_fa rfl (fun q_3 => s_cons (w_put (o_ld1 rfl (fun (v_4 : Int) => s_cons (w_put (o_ld1 rfl (fun (v_5 : Int) => s_cons (w_put (o_ge rfl rfl (s_cons (w_put (o_mov rfl (s_nil (k_seq (c_ret (k_topR (r_one rfl (r_nil (fun h => ⟨(((decide (v_4 ≥ v_5)) : Bool), ()), rfl, h⟩)))))))))))))))))))))))))))))))))
theorem solve_varsFault_1.slimOk : slimOk [] (Try.f86.body.getD .skip) = true := by kernel_rfl
theorem solve_varsFault_1.resC : resC Try.prog aggs Try.f86.ntmps (slim [] (Try.f86.body.getD .skip)) = some solve_varsFault_1.c := by kernel_rfl
theorem solve_varsFault_1.resR : resR Try.prog Try.f86.results.toList = some [.tm 3] := by kernel_rfl
theorem solve_varsFault_1.bodyEq : Try.f86.body = some (Try.f86.body.getD .skip) := by kernel_rfl
theorem solve_varsFault_1.run {a0_0 : Int} {a0_1 : Int} {a0_2 : Int} {a1 : AC} {H : AHeap} {Q : AHeap → Bool → Prop} (h : solve_varsFault_1.W a0_0 a0_1 a0_2 a1 H Q) : Fn.solve_varsFault_1 a0_0 a0_1 a0_2 a1 H Q := by
  unfold Fn.solve_varsFault_1 RunT
  exact run_of aggs_ok [] Try.func86 solve_varsFault_1.bodyEq solve_varsFault_1.slimOk solve_varsFault_1.resC solve_varsFault_1.resR (Nat.le_of_ble_eq_true (by kernel_rfl)) (solve_varsFault_1.ok Q h)
end Go.Proofs.Ytanaaabejeeakaa
end
section
/- What the functions on tables come to: the table of a formula, uniform, alike. -/
namespace Go.Proofs.Ytanaaabejeeakaa
open Go.AI

/-- The function of an entry of a table. -/
def rho (i : Nat) : Nat → Bool := fun v => i.testBit (15 - v)
def boolRows (t : List Bool) : List (List AC) := t.map fun b => [.bool b]

end Go.Proofs.Ytanaaabejeeakaa
end
section
/- What the functions on tables come to: uniform, alike, and the comparison of diagrams. -/
namespace Go.Proofs.Ytanaaabejeeakaa
open Go.AI

theorem boolRow_at {t : List Bool} {i : Nat} {b : Bool} (h : t[i]? = some b) : (boolRows t)[i]? = some [.bool b] := by
  unfold boolRows; rw [List.getElem?_map, h]; rfl
theorem boolRows_len (t : List Bool) : (boolRows t).length = t.length := by unfold boolRows; rw [List.length_map]

theorem uniform_c {s : AC} {t : List Bool} {H : AHeap} (hs : SlR H s 1 (boolRows t)) (hlen : t.length < 4611686018427387904) :
    Fn.fetterlockref6_uniform s H fun H' r => H' = H ∧ r = t.all (· == t.headD false) := by
  refine fetterlockref6_uniform.run ?_
  unfold fetterlockref6_uniform.W fetterlockref6_uniform.l6
  refine LoopT.rule (fun m s0 H2 => ∃ i : Nat, 1 ≤ i ∧ m = t.length - i ∧ s0 = (s, (i : Int), ()) ∧ H2 = H ∧ ∀ j b, j < i → t[j]? = some b → b = t.headD false) (t.length - 1) ⟨1, by omega, rfl, rfl, rfl, fun j b hj hb => ?_⟩ ?_
  · have : j = 0 := by omega
    subst this
    cases t with
    | nil => simp at hb
    | cons x l => simp at hb; simp [hb]
  rintro m s0 H2 back ⟨i, hi, rfl, rfl, rfl, hall⟩ hback
  simp only [fetterlockref6_uniform.b6]
  refine LenS.of hs ?_
  rw [boolRows_len]
  refine CondB.dec (fun hlt => ?_) fun hge => ?_
  · have hi' : i < t.length := by omega
    obtain ⟨b, hb⟩ : ∃ b, t[i]? = some b := ⟨_, List.getElem?_eq_getElem hi'⟩
    obtain ⟨b0, hb0⟩ : ∃ b, t[0]? = some b := ⟨_, List.getElem?_eq_getElem (by omega)⟩
    have hd : t.headD false = b0 := by cases t with
      | nil => simp at hb0
      | cons x l => simp at hb0; simp [hb0]
    refine IA.of hs (by omega) (by rw [Int.toNat_natCast]; exact boolRow_at hb) fun b1 o1 hld => Ld.a1 hld b rfl rfl ?_
    refine IA.of hs (by omega) (by exact boolRow_at hb0) fun b1 o1 hld => Ld.a1 hld b0 rfl rfl ?_
    refine CondB.mk (fun hc => ⟨by trivial, ?_⟩) fun hc => ?_
    · symm
      rw [List.all_eq_false]
      refine ⟨b, List.mem_of_getElem? hb, ?_⟩
      rw [hd]
      simpa using hc
    · refine hback (t.length - (i + 1)) _ _ (by omega) ⟨i + 1, by omega, rfl, ?_, rfl, fun j b' hj hbj => ?_⟩
      · exact tc rfl (tc ((wrap64 (by omega) (by omega)).trans (by omega)) rfl)
      · by_cases hji : j = i
        · subst hji
          rw [hb] at hbj
          cases hbj
          rw [hd]
          simpa using hc
        · exact hall j b' (by omega) hbj
  · refine ⟨by trivial, ?_⟩
    symm
    rw [List.all_eq_true]
    intro b hb
    obtain ⟨j, hj⟩ := List.getElem?_of_mem hb
    have := (List.getElem?_eq_some_iff.1 hj).1
    rw [hall j b (by omega) hj]; simp

theorem alike_c {s s' : AC} {t t' : List Bool} {H : AHeap} (hs : SlR H s 1 (boolRows t)) (hs' : SlR H s' 1 (boolRows t')) (hlen : t.length < 4611686018427387904) :
    Fn.fetterlockref6_alike s s' H fun H' r => H' = H ∧ r = decide (t = t') := by
  refine fetterlockref6_alike.run ?_
  unfold fetterlockref6_alike.W
  refine LenS.of hs (LenS.of hs' ?_)
  rw [boolRows_len, boolRows_len]
  refine CondB.ne (fun hne => ⟨rfl, ?_⟩) fun he => ?_
  · symm; rw [decide_eq_false_iff_not]; rintro rfl; exact hne rfl
  have hl : t.length = t'.length := by omega
  unfold fetterlockref6_alike.l14
  refine LoopT.rule (fun m s0 H2 => ∃ i : Nat, i ≤ t.length ∧ m = t.length - i ∧ s0 = (s, s', (i : Int), ()) ∧ H2 = H ∧ ∀ j, j < i → t[j]? = t'[j]?) t.length ⟨0, by omega, by omega, rfl, rfl, fun j h => by omega⟩ ?_
  rintro m s0 H2 back ⟨i, hi, rfl, rfl, rfl, hall⟩ hback
  simp only [fetterlockref6_alike.b14]
  refine LenS.of hs ?_
  rw [boolRows_len]
  refine CondB.dec (fun hlt => ?_) fun hge => ?_
  · have hi' : i < t.length := by omega
    obtain ⟨b, hb⟩ : ∃ b, t[i]? = some b := ⟨_, List.getElem?_eq_getElem hi'⟩
    obtain ⟨b', hb'⟩ : ∃ b, t'[i]? = some b := ⟨_, List.getElem?_eq_getElem (by omega)⟩
    refine IA.of hs (by omega) (by rw [Int.toNat_natCast]; exact boolRow_at hb) fun b1 o1 hld => Ld.a1 hld b rfl rfl ?_
    refine IA.of hs' (by omega) (by rw [Int.toNat_natCast]; exact boolRow_at hb') fun b1 o1 hld => Ld.a1 hld b' rfl rfl ?_
    refine CondB.mk (fun hc => ⟨by trivial, ?_⟩) fun hc => ?_
    · symm
      rw [decide_eq_false_iff_not]
      rintro rfl
      rw [hb] at hb'
      cases hb'
      simp at hc
    · refine hback (t.length - (i + 1)) _ _ (by omega) ⟨i + 1, by omega, rfl, ?_, rfl, fun j hj => ?_⟩
      · exact tc rfl (tc rfl (tc ((wrap64 (by omega) (by omega)).trans (by omega)) rfl))
      · by_cases hji : j = i
        · subst hji
          rw [hb, hb']
          have : b = b' := by simpa using hc
          rw [this]
        · exact hall j (by omega)
  · refine ⟨by trivial, ?_⟩
    symm
    rw [decide_eq_true_iff]
    apply List.ext_getElem?
    intro j
    by_cases hj : j < i
    · exact hall j hj
    · rw [List.getElem?_eq_none (by omega), List.getElem?_eq_none (by omega)]

def nodeRows (l : List (Int × Int × Int)) : List (List AC) := l.map nodeCells
theorem nodeRow_at {l : List (Int × Int × Int)} {i : Nat} {p : Int × Int × Int} (h : l[i]? = some p) : (nodeRows l)[i]? = some (nodeCells p) := by
  unfold nodeRows; rw [List.getElem?_map, h]; rfl
theorem nodeRows_len (l : List (Int × Int × Int)) : (nodeRows l).length = l.length := by unfold nodeRows; rw [List.length_map]

theorem SameDiagram_c {s s' : AC} {l l' : List (Int × Int × Int)} {r r' : Int} {H : AHeap} (hs : SlR H s 3 (nodeRows l)) (hs' : SlR H s' 3 (nodeRows l')) (hlen : l.length < 4611686018427387904) :
    Fn.fetterlockref6_SameDiagram s r s' r' H fun H' q => q = decide (l = l' ∧ r = r') ∧ Kp H H' := by
  refine fetterlockref6_SameDiagram.run ?_
  unfold fetterlockref6_SameDiagram.W
  refine New.own fun b H1 hb hs1 ho hkp => New.own fun b' H2 hb' hs2 ho' hkp2 => ?_
  have ho1 := ho.kp hkp2
  have hk := hkp.trans hkp2
  refine FA.mk (Ld.oc ho1 rfl (LenS.of (hs.kp hk) (FA.mk (Ld.oc ho' rfl (LenS.of (hs'.kp hk) ?_)))))
  rw [nodeRows_len, nodeRows_len]
  unfold fetterlockref6_SameDiagram.p5
  refine CondB.ne (fun hne => CondB.pos rfl ⟨?_, hk⟩) fun he => ?_
  · symm; rw [decide_eq_false_iff_not]; rintro ⟨rfl, _⟩; exact hne rfl
  have hl : l.length = l'.length := by omega
  refine FA.mk (Ld.oi ho1 rfl (FA.mk (Ld.oi ho' rfl (CondB.ne (fun hne => ⟨?_, hk⟩) fun hr => ?_))))
  · symm; rw [decide_eq_false_iff_not]; rintro ⟨_, h⟩; exact hne h
  subst hr
  unfold fetterlockref6_SameDiagram.l14
  refine LoopT.rule (fun m s0 H3 => ∃ i : Nat, i ≤ l.length ∧ m = l.length - i ∧ s0 = (.ptr (some (b, 0)), .ptr (some (b', 0)), (i : Int), ()) ∧ H3 = H2 ∧ ∀ j, j < i → l[j]? = l'[j]?) l.length ⟨0, by omega, by omega, rfl, rfl, fun j h => by omega⟩ ?_
  rintro m s0 H3 back ⟨i, hi, rfl, rfl, rfl, hall⟩ hback
  simp only [fetterlockref6_SameDiagram.b14]
  refine FA.mk (Ld.oc ho1 rfl (LenS.of (hs.kp hk) ?_))
  rw [nodeRows_len]
  refine CondB.dec (fun hlt => ?_) fun hge => ?_
  · have hi' : i < l.length := by omega
    obtain ⟨p, hp⟩ : ∃ b, l[i]? = some b := ⟨_, List.getElem?_eq_getElem hi'⟩
    obtain ⟨p', hp'⟩ : ∃ b, l'[i]? = some b := ⟨_, List.getElem?_eq_getElem (by omega)⟩
    refine FA.mk (Ld.oc ho1 rfl (IA.of (hs.kp hk) (by omega) (by rw [Int.toNat_natCast]; exact nodeRow_at hp) fun b1 o1 hld => Ld.a3 hld p.1 p.2.1 p.2.2 rfl rfl ?_))
    refine FA.mk (Ld.oc ho' rfl (IA.of (hs'.kp hk) (by omega) (by rw [Int.toNat_natCast]; exact nodeRow_at hp') fun b1 o1 hld => Ld.a3 hld p'.1 p'.2.1 p'.2.2 rfl rfl ?_))
    refine CondB.mk (fun hc => ⟨?_, hk⟩) fun hc => ?_
    · symm
      rw [decide_eq_false_iff_not]
      rintro ⟨rfl, _⟩
      rw [hp] at hp'
      cases hp'
      simp at hc
    · refine hback (l.length - (i + 1)) _ _ (by omega) ⟨i + 1, by omega, rfl, ?_, rfl, fun j hj => ?_⟩
      · exact tc rfl (tc rfl (tc ((wrap64 (by omega) (by omega)).trans (by omega)) rfl))
      · by_cases hji : j = i
        · subst hji
          rw [hp, hp']
          have : p = p' := by
            simp only [Bool.not_eq_false', decide_eq_true_eq, List.cons.injEq, and_true] at hc
            exact Prod.ext hc.1 (Prod.ext hc.2.1 hc.2.2)
          rw [this]
        · exact hall j (by omega)
  · refine ⟨?_, hk⟩
    symm
    rw [decide_eq_true_iff]
    refine ⟨?_, by trivial⟩
    apply List.ext_getElem?
    intro j
    by_cases hj : j < i
    · exact hall j hj
    · rw [List.getElem?_eq_none (by omega), List.getElem?_eq_none (by omega)]
end Go.Proofs.Ytanaaabejeeakaa
end
section
/- What the reference's walk over a table comes to. -/
namespace Go.Proofs.Ytanaaabejeeakaa
open Go.AI Go.AI.DT

/-- A slice of one table's block that reads so. -/
def TabAt (H : AHeap) (tb : Nat) (s : AC) (t : List Bool) : Prop := SlR H s 1 (boolRows t) ∧ ∀ b o z n cap, s = .sl (some (b, o)) z n cap → b = tb
theorem TabAt.keep {S : Nat → Prop} {H H' : AHeap} {tb : Nat} {s : AC} {t : List Bool} (h : TabAt H tb s t) (k : Keep S H H') (hn : ¬ S tb) : TabAt H' tb s t :=
  ⟨h.1.keep k fun b o n cap z e => by rw [h.2 b o z n cap e]; exact hn, h.2⟩
theorem TabAt.slice {H : AHeap} {tb : Nat} {s : AC} {t : List Bool} (h : TabAt H tb s t) (hne : t ≠ []) {lo hi : Option Int} {l u : Nat} (hl : lo.getD 0 = (l : Int)) (hu : hi.getD (t.length : Int) = (u : Int)) (h1 : l ≤ u) (h2 : u ≤ t.length) {k : AC → Prop}
    (q : ∀ r, TabAt H tb r ((t.drop l).take (u - l)) → k r) : Slc 1 s lo hi k := by
  obtain ⟨⟨a, z, cap, e, hr⟩, hb⟩ := h
  subst e
  obtain ⟨b0, l0, rfl⟩ : ∃ x l, t = x :: l := by cases t with
    | nil => exact absurd rfl hne
    | cons x l => exact ⟨x, l, rfl⟩
  obtain ⟨rfl, b, o, rfl, _⟩ := hr 0 [.bool b0] rfl
  have hlen : (boolRows (b0 :: l0)).length = (b0 :: l0).length := boolRows_len _
  refine Slc.mk (r := .sl (some (b, o + l * 1)) 1 (u - l) (cap.map (· - l))) ?_ (q _ ⟨⟨some (b, o + l * 1), 1, cap.map (· - l), ?_, fun i r hi => ?_⟩, fun b' o' z' n' cap' e => ?_⟩)
  · simp only [sliceA, hlen, hl, hu]
    rw [if_pos (by refine ⟨by simp, by omega, by omega, by omega⟩)]
    simp
  · rw [boolRows_len, List.length_take, List.length_drop, Nat.min_eq_left (by omega)]
  · unfold boolRows at hi
    rw [List.getElem?_map, List.getElem?_take] at hi
    split at hi
    · rw [List.getElem?_drop, ← List.getElem?_map] at hi
      obtain ⟨_, b', o', e, hld⟩ := hr _ _ hi
      cases e
      refine ⟨rfl, b, o + l * 1, rfl, ?_⟩
      rw [show o + l * 1 + i * 1 = o + (l + i) * 1 from by omega]
      exact hld
    · cases hi
  · cases e; exact hb _ _ _ _ _ rfl

structure WSx (H : AHeap) (tb : Nat) (ns ts : AC) (F Fn Ft : Nat → Prop) (st : List DT) (tabs : List (AC × List Bool)) : Prop where
  nodes : OwnS H ns 3 Fn (st.map fun x => nodeCells (row st x))
  tables : OwnS H ts 1 Ft (tabs.map fun e => [e.1])
  dis : ∀ x, Fn x → ¬ Ft x
  fF : ∀ x, F x ↔ Fn x ∨ Ft x
  len : tabs.length = st.length
  max : st.length ≤ 2000
  tab : ∀ e ∈ tabs, TabAt H tb e.1 e.2
  tr : ∀ (i : Nat) (e : AC × List Bool) (x : DT), tabs[i]? = some e → st[i]? = some x → ∃ k, k ≤ 16 ∧ e.2.length = 2 ^ k ∧ x = tree k e.2 ∧ x.top = 16 - k
  fin : Fin st
  ntb : ¬ F tb
  tlt : tb < H.size
def WS (H : AHeap) (tb : Nat) (ns ts : AC) (F : Nat → Prop) (st : List DT) (tabs : List (AC × List Bool)) : Prop := ∃ Fn Ft, WSx H tb ns ts F Fn Ft st tabs
theorem WSx.keep {S : Nat → Prop} {H H' : AHeap} {tb : Nat} {ns ts : AC} {F Fn Ft : Nat → Prop} {st : List DT} {tabs : List (AC × List Bool)} (h : WSx H tb ns ts F Fn Ft st tabs) (k : Keep S H H') (hs : ∀ x, S x → ¬ F x) (hn : ¬ S tb) : WSx H' tb ns ts F Fn Ft st tabs :=
  ⟨h.nodes.keep k fun x hx hf => hs x hx ((h.fF x).2 (.inl hf)), h.tables.keep k fun x hx hf => hs x hx ((h.fF x).2 (.inr hf)), h.dis, h.fF, h.len, h.max, fun e he => (h.tab e he).keep k hn, h.tr, h.fin, h.ntb, Nat.lt_of_lt_of_le h.tlt k.size⟩
theorem WS.keep {S : Nat → Prop} {H H' : AHeap} {tb : Nat} {ns ts : AC} {F : Nat → Prop} {st : List DT} {tabs : List (AC × List Bool)} (h : WS H tb ns ts F st tabs) (k : Keep S H H') (hs : ∀ x, S x → ¬ F x) (hn : ¬ S tb) : WS H' tb ns ts F st tabs := by
  obtain ⟨Fn, Ft, h⟩ := h
  exact ⟨Fn, Ft, h.keep k hs hn⟩
theorem WS.kp {H H' : AHeap} {tb : Nat} {ns ts : AC} {F : Nat → Prop} {st : List DT} {tabs : List (AC × List Bool)} (h : WS H tb ns ts F st tabs) (k : Kp H H') : WS H' tb ns ts F st tabs := h.keep k (fun _ hx => hx.elim) id
theorem WS.lt {H : AHeap} {tb : Nat} {ns ts : AC} {F : Nat → Prop} {st : List DT} {tabs : List (AC × List Bool)} (h : WS H tb ns ts F st tabs) : ∀ x, F x → x < H.size := by
  obtain ⟨Fn, Ft, h⟩ := h
  intro x hx
  rcases (h.fF x).1 hx with hx | hx
  · exact h.nodes.lt x hx
  · exact h.tables.lt x hx

/-- What the walk leaves. -/
def WPost (H : AHeap) (tb : Nat) (F : Nat → Prop) (st : List DT) (x : DT) (large : Bool) (H' : AHeap) (ns' ts' : AC) (l' : Bool) (i : Int) : Prop :=
  ∃ F' st' tabs', WS H' tb ns' ts' F' st' tabs' ∧ Keep F H H' ∧ (∀ y, F' y → F y ∨ H.size ≤ y) ∧ st <+: st' ∧ (l' = false → large = false ∧ st' = ser x st ∧ i = ref st' x) ∧ (l' = true → large = true ∨ 2000 < (ser x st).length)

/-- A new node at the end of all. -/
theorem WSx.snoc {H H1 H2 : AHeap} {tb : Nat} {ns ts ns' ts' s : AC} {F Fn Ft Fn' Ft' : Nat → Prop} {st : List DT} {tabs : List (AC × List Bool)} {t : List Bool} {k : Nat} {l h : DT} (w : WSx H tb ns ts F Fn Ft st tabs)
    (hn : OwnS H2 ns' 3 Fn' ((st.map fun x => nodeCells (row st x)) ++ [nodeCells ((15 - k : Nat), ref st l, ref st h)])) (ht : OwnS H2 ts' 1 Ft' ((tabs.map fun e => [e.1]) ++ [[s]]))
    (hd : ∀ x, Fn' x → ¬ Ft' x) (hk : k < 16) (htl : t.length = 2 ^ (k + 1)) (htr : tree (k + 1) t = nd (15 - k) l h) (hnin : nd (15 - k) l h ∉ st) (hl : In st l) (hh : In st h) (hs : TabAt H2 tb s t) (hmax : st.length < 2000)
    (hall : ∀ e ∈ tabs, TabAt H2 tb e.1 e.2) (hntb : ¬ (Fn' tb ∨ Ft' tb)) (htlt : tb < H2.size) :
    WSx H2 tb ns' ts' (fun x => Fn' x ∨ Ft' x) Fn' Ft' (st ++ [nd (15 - k) l h]) (tabs ++ [(s, t)]) := by
  have hp : st <+: st ++ [nd (15 - k) l h] := List.prefix_append _ _
  have hro := (tree_ok (k + 1) t (by omega) htl).1
  rw [htr] at hro
  refine ⟨?_, by rw [List.map_append]; exact ht, hd, fun x => Iff.rfl, by simp [w.len], by simp; omega, ?_, ?_, w.fin.snoc hnin hl hh hro, hntb, htlt⟩
  · have e1 := congrArg (List.map nodeCells) (w.fin.row_mono hp)
    have e2 : st.map (fun x => nodeCells (row (st ++ [nd (15 - k) l h]) x)) = st.map fun x => nodeCells (row st x) := by
      simpa [List.map_map, Function.comp_def] using e1
    rw [List.map_append, e2]
    simpa only [List.map_cons, List.map_nil, row, ref_mono hl hp, ref_mono hh hp] using hn
  · intro e he
    rcases List.mem_append.1 he with he | he
    · exact hall e he
    · simp at he; subst he; exact hs
  · intro i e x he hx
    by_cases hi : i < st.length
    · rw [List.getElem?_append_left (by rw [w.len]; exact hi)] at he
      rw [List.getElem?_append_left hi] at hx
      exact w.tr i e x he hx
    · rw [List.getElem?_append_right (by rw [w.len]; omega), w.len] at he
      rw [List.getElem?_append_right (by omega)] at hx
      have hi0 : i - st.length = 0 := by
        rcases Nat.eq_zero_or_pos (i - st.length) with h0 | h0
        · exact h0
        · rw [List.getElem?_eq_none (by simp; omega)] at hx; cases hx
      rw [hi0] at he hx
      simp at he hx
      subst he hx
      exact ⟨k + 1, by omega, htl, htr.symm, by simp only [top]; omega⟩
end Go.Proofs.Ytanaaabejeeakaa
end
section
/- The reference's walk over a table finishes the nodes of its tree, in order. -/
namespace Go.Proofs.Ytanaaabejeeakaa
open Go.AI Go.AI.DT

theorem walk_c : ∀ (k : Nat) {H : AHeap} {tb : Nat} {ns ts s : AC} {large : Bool} {F : Nat → Prop} {st : List DT} {tabs : List (AC × List Bool)} {t : List Bool}, k ≤ 16 → WS H tb ns ts F st tabs → TabAt H tb s t → t.length = 2 ^ k →
    Fn.fetterlockref6_walk ns ts large s ((16 - k : Nat) : Int) H fun H' ns' ts' l' i => WPost H tb F st (tree k t) large H' ns' ts' l' i := by
  intro k
  induction k using Nat.strongRecOn with
  | _ k ih =>
  intro H tb ns ts s large F st tabs t hk hw hs ht
  have hpk : 2 ^ k ≤ 2 ^ 16 := Nat.pow_le_pow_right (by omega) hk
  have hpos : 0 < 2 ^ k := Nat.pow_pos (by omega)
  refine fetterlockref6_walk.run ?_
  unfold fetterlockref6_walk.W
  refine New.own fun mb H1 hmb hs1 hom1 hk1 => New.own fun rb H2 hrb hs2 hor hk2 => ?_
  have hom := hom1.kp hk2
  have hk12 := hk1.trans hk2
  have hw2 := hw.kp hk12
  have hs2' := hs.keep hk12 id
  have hlt := hw.lt
  have hmbF : ¬ F mb := fun h => by have := hlt _ h; omega
  have hrbF : ¬ F rb := fun h => by have := hlt _ h; omega
  have hmr : mb ≠ rb := by omega
  refine RunT.imp ?_ (uniform_c hs2'.1 (by omega))
  rintro H3 u ⟨he3, rfl⟩
  obtain rfl : H2 = H3 := he3.symm
  -- the end of every easy way: what is in the first box goes out by the second one
  have out : ∀ (H3 : AHeap) (F' : Nat → Prop) (st' : List DT) (tabs' : List (AC × List Bool)) (ns' ts' : AC) (l' : Bool) (i : Int), Own H3 mb [ns', ts', .bool l'] → (∃ cs, Own H3 rb cs ∧ cs.length = 3) → WS H3 tb ns' ts' F' st' tabs' → Keep F H H3 → (∀ y, F' y → F y ∨ H.size ≤ y) → ¬ F' rb →
      st <+: st' → (l' = false → large = false ∧ st' = ser (tree k t) st ∧ i = ref st' (tree k t)) → (l' = true → large = true ∨ 2000 < (ser (tree k t) st).length) →
      Ld [.ac, .ac, .bool] H3 (.ptr (some (mb, 0))) fun (v1 : AC) (v2 : AC) (v3 : Bool) => Sto H3 (.ptr (some (rb, 0))) [v1, v2, .bool v3] fun H4 => Ld [.ac, .ac, .bool] H4 (.ptr (some (rb, 0))) fun (r0 : AC) (r1 : AC) (r2 : Bool) => WPost H tb F st (tree k t) large H4 r0 r1 r2 i := by
    rintro H3 F' st' tabs' ns' ts' l' i ho ⟨cs, hor3, hcl⟩ hw3 hkp hfr hrbF' hpre hf ht'
    refine Ld.o3 ho ns' ts' l' rfl (Sto.own hor3 (by simp [hcl]) fun H4 hor4 hk4 hs4 => ?_)
    have e : cs.take 0 ++ [ns', ts', .bool l'] ++ cs.drop (0 + [ns', ts', AC.bool l'].length) = [ns', ts', .bool l'] := by simp [hcl]
    rw [e] at hor4
    refine Ld.o3 hor4 ns' ts' l' rfl ⟨F', st', tabs', hw3.keep hk4 (fun x hx hf => hrbF' (hx ▸ hf)) (fun hx => ?_), ?_, hfr, hpre, hf, ht'⟩
    · obtain ⟨_, _, hx3⟩ := hw
      have := hx3.tlt; omega
    · refine Keep.trans hkp hk4 fun x hx e => ?_
      omega
  refine CondB.mk (fun hu => ?_) fun hu => ?_
  · -- a constant
    obtain ⟨b0, l0, rfl⟩ : ∃ x l, t = x :: l := by cases t with
      | nil => simp at ht; omega
      | cons x l => exact ⟨x, l, rfl⟩
    have htr : tree k (b0 :: l0) = leaf b0 := (tree_leaf k _ b0 ht).2 fun x hx => by
      rw [List.all_eq_true] at hu
      simpa using hu x hx
    refine IA.of hs2'.1 (by omega) (by exact boolRow_at (i := 0) rfl) fun b1 o1 hld => Ld.a1 hld b0 rfl rfl ?_
    refine CondB.mk (fun hb => ?_) fun hb => ?_
    · exact out _ F st tabs ns ts large _ hom ⟨_, hor, rfl⟩ hw2 (hk12.mono fun _ _ h => h.elim) (fun y h => .inl h) hrbF List.prefix_rfl (fun e => ⟨e, by rw [htr]; rfl, by rw [htr, hb]; rfl⟩) fun e => .inl e
    · exact out _ F st tabs ns ts large _ hom ⟨_, hor, rfl⟩ hw2 (hk12.mono fun _ _ h => h.elim) (fun y h => .inl h) hrbF List.prefix_rfl (fun e => ⟨e, by rw [htr]; rfl, by rw [htr, hb]; rfl⟩) fun e => .inl e
  -- not a constant
  have hnl : ∀ b, tree k t ≠ leaf b := by
    intro b e
    have hall := (tree_leaf k t b ht).1 e
    rw [List.all_eq_false] at hu
    obtain ⟨x, hx, hxn⟩ := hu
    have h0 : t.headD false = b := by cases t with
      | nil => cases hx
      | cons a l => exact hall a (List.mem_cons_self ..)
    rw [h0, hall x hx] at hxn
    simp at hxn
  refine LenS.of hs2'.1 (NZ.mk (by omega) ?_)
  rw [boolRows_len, tdiv_nat]
  have hw1 : IntKind.wrap .i64 (((t.length / 2 : Nat) : Int)) = ((t.length / 2 : Nat) : Int) := wrap_nat (by omega)
  rw [hw1]
  unfold fetterlockref6_walk.l22
  refine LoopT.rule (fun m s0 H3 => ∃ (j : Nat) (s' : AC) (t' : List Bool), j < k ∧ m = j ∧ s0 = (s', ((15 - j : Nat) : Int), .ptr (some (mb, 0)), .ptr (some (rb, 0)), ((2 ^ j : Nat) : Int), ()) ∧ H3 = H2 ∧ TabAt H2 tb s' t' ∧ t'.length = 2 ^ (j + 1) ∧ tree (j + 1) t' = tree k t) (k - 1) ?_ ?_
  · obtain ⟨j, rfl⟩ : ∃ j, k = j + 1 := by
      cases k with
      | zero => obtain ⟨b, hb⟩ : ∃ b, tree 0 t = leaf b := ⟨_, rfl⟩; exact absurd hb (hnl b)
      | succ j => exact ⟨j, rfl⟩
    refine ⟨j, s, t, by omega, by omega, ?_, rfl, hs2', ht, rfl⟩
    have hp2 : t.length / 2 = 2 ^ j := by rw [ht, Nat.pow_succ]; omega
    rw [hp2]
    exact tc rfl (tc (show ((16 - (j + 1) : Nat) : Int) = ((15 - j : Nat) : Int) by omega) rfl)
  rintro m s0 H3 back ⟨j, s', t', hj, rfl, rfl, he3, hs', ht', htr⟩ hback
  obtain rfl : H2 = H3 := he3.symm
  simp only [fetterlockref6_walk.b22]
  have hpj : 2 ^ (m + 1) = 2 ^ m + 2 ^ m := by rw [Nat.pow_succ]; omega
  have hpj0 : 0 < 2 ^ m := Nat.pow_pos (by omega)
  have hpj16 : 2 ^ m ≤ 2 ^ 15 := Nat.pow_le_pow_right (by omega) (by omega)
  have hne : t' ≠ [] := by intro e; rw [e] at ht'; simp at ht'; omega
  refine hs'.slice hne (l := 0) (u := 2 ^ m) rfl rfl (by omega) (by omega) fun s1 hs1' => hs'.slice hne (l := 2 ^ m) (u := t'.length) rfl rfl (by omega) (by omega) fun s2 hs2'' => ?_
  rw [List.drop_zero, Nat.sub_zero] at hs1'
  rw [show (t'.drop (2 ^ m)).take (t'.length - 2 ^ m) = t'.drop (2 ^ m) from List.take_of_length_le (by rw [List.length_drop]; omega)] at hs2''
  refine RunT.imp ?_ (alike_c hs1'.1 hs2''.1 (by rw [List.length_take]; omega))
  rintro H3 q ⟨he3, rfl⟩
  obtain rfl : H2 = H3 := he3.symm
  have hl1 : (t'.take (2 ^ m)).length = 2 ^ m := by rw [List.length_take]; omega
  have hl2 : (t'.drop (2 ^ m)).length = 2 ^ m := by rw [List.length_drop]; omega
  refine CondB.dec (fun he => ?_) fun hne2 => ?_
  · -- both halves are alike
    have hmk : tree (m + 1) t' = tree m (t'.take (2 ^ m)) := by simp only [tree, DT.mk]; rw [← he, if_pos rfl]
    cases m with
    | zero => exact absurd (htr.symm.trans hmk) (hnl _)
    | succ j =>
      refine hs'.slice hne (l := 0) (u := 2 ^ (j + 1)) rfl rfl (by omega) (by omega) fun s3 hs3 => ?_
      rw [List.drop_zero, Nat.sub_zero] at hs3
      refine LenS.of hs3.1 (NZ.mk (by omega) ?_)
      rw [boolRows_len, tdiv_nat, hl1]
      have hp2 : 2 ^ (j + 1) / 2 = 2 ^ j := by rw [Nat.pow_succ]; omega
      rw [hp2]
      refine hback j _ _ (by omega) ⟨j, s3, t'.take (2 ^ (j + 1)), by omega, rfl, ?_, rfl, hs3, hl1, hmk.symm.trans htr⟩
      exact tc rfl (tc ((wrap64 (by omega) (by omega)).trans (by omega)) (tc rfl (tc rfl (tc (wrap_nat (by have : 2 ^ j ≤ 2 ^ 15 := Nat.pow_le_pow_right (by omega) (by omega); omega)) rfl))))
  -- a node
  obtain ⟨xl, hxl⟩ : ∃ x, tree m (t'.take (2 ^ m)) = x := ⟨_, rfl⟩
  obtain ⟨xh, hxh⟩ : ∃ x, tree m (t'.drop (2 ^ m)) = x := ⟨_, rfl⟩
  have hxne : xl ≠ xh := fun e => hne2 (tree_inj m _ _ (by omega) hl1 hl2 (by rw [hxl, hxh, e]))
  have htn : tree (m + 1) t' = nd (15 - m) xl xh := by simp only [tree, DT.mk]; rw [hxl, hxh, if_neg hxne]
  have hxn : tree k t = nd (15 - m) xl xh := htr.symm.trans htn
  rw [hxn]
  have out' := out
  rw [hxn] at out'
  have hro : (nd (15 - m) xl xh).RO := by rw [← htn]; exact (tree_ok (m + 1) t' (by omega) ht').1
  obtain ⟨Fn, Ft, wx⟩ := hw2
  unfold fetterlockref6_walk.l39
  refine LoopT.rule (fun mm s0 H3 => ∃ i : Nat, i ≤ st.length ∧ mm = st.length - i ∧ s0 = (s', ((15 - m : Nat) : Int), .ptr (some (mb, 0)), .ptr (some (rb, 0)), ((2 ^ m : Nat) : Int), (i : Int), ()) ∧ H3 = H2 ∧ ∀ j, j < i → st[j]? ≠ some (nd (15 - m) xl xh)) st.length ⟨0, by omega, by omega, rfl, rfl, fun j h => by omega⟩ ?_
  rintro mm s0 H3 back2 ⟨i, hi, rfl, rfl, he3, hno⟩ hback2
  obtain rfl : H2 = H3 := he3.symm
  simp only [fetterlockref6_walk.b39]
  refine FA.mk (Ld.oc hom rfl (LenS.of wx.nodes.slr ?_))
  rw [List.length_map]
  have hmax := wx.max
  refine CondB.dec (fun hlt2 => ?_) fun hge2 => ?_
  · -- the search
    have hi' : i < st.length := by omega
    obtain ⟨y, hy⟩ : ∃ y, st[i]? = some y := ⟨_, List.getElem?_eq_getElem hi'⟩
    obtain ⟨e, he⟩ : ∃ e, tabs[i]? = some e := ⟨_, List.getElem?_eq_getElem (by rw [wx.len]; exact hi')⟩
    obtain ⟨kk, hkk, hel, hye, hyt⟩ := wx.tr i e y he hy
    obtain ⟨v, l, h, rfl, _, _, hyro⟩ := wx.fin.parts y (List.mem_of_getElem? hy)
    simp only [top] at hyt
    have next : st[i]? ≠ some (nd (15 - m) xl xh) → fetterlockref6_walk.p50 (fun H' ns' ts' l' i => WPost H tb F st (nd (15 - m) xl xh) large H' ns' ts' l' i) back2 s' ((15 - m : Nat) : Int) (.ptr (some (mb, 0))) (.ptr (some (rb, 0))) ((2 ^ m : Nat) : Int) (i : Int) false H2 := by
      intro hn
      unfold fetterlockref6_walk.p50
      refine CondB.neg rfl (hback2 (st.length - (i + 1)) _ _ (by omega) ⟨i + 1, by omega, rfl, ?_, rfl, fun j hj => ?_⟩)
      · exact tc rfl (tc rfl (tc rfl (tc rfl (tc rfl (tc ((wrap64 (by omega) (by omega)).trans (by omega)) rfl)))))
      · by_cases hji : j = i
        · rw [hji]; exact hn
        · exact hno j (by omega)
    refine FA.mk (Ld.oc hom rfl (IA.of wx.nodes.slr (by omega) (r := nodeCells (row st (nd v l h))) (by simp [hy]) fun b1 o1 hld => FA.mk (Ld.ei hld rfl ?_)))
    refine CondB.eq (fun hv => ?_) fun hv => next ?_
    · have hve : v = 15 - m := by simp only [row] at hv; omega
      have hkm : kk = m + 1 := by have := hyro.1; omega
      subst hkm
      refine FA.mk (Ld.oc hom rfl (IA.of wx.tables.slr (by omega) (r := [e.1]) (by simp [he]) fun b2 o2 hld2 => Ld.a1 hld2 e.1 rfl rfl ?_))
      refine RunT.imp ?_ (alike_c (wx.tab e (List.mem_of_getElem? he)).1 hs'.1 (by rw [hel]; omega))
      rintro H3 q ⟨he3, rfl⟩
      obtain rfl : H2 = H3 := he3.symm
      by_cases hee : e.2 = t'
      · have hyx : nd v l h = nd (15 - m) xl xh := by rw [hye, hee, htn]
        rw [show decide (e.2 = t') = true from by simpa using hee]
        unfold fetterlockref6_walk.p50
        refine CondB.pos rfl ?_
        have hmem : nd (15 - m) xl xh ∈ st := by rw [← hyx]; exact List.mem_of_getElem? hy
        have hser : ser (nd (15 - m) xl xh) st = st := by simp only [ser]; rw [if_pos hmem]
        refine out' _ F st tabs ns ts large _ hom ⟨_, hor, rfl⟩ ⟨Fn, Ft, wx⟩ (hk12.mono fun _ _ h => h.elim) (fun y h => .inl h) hrbF List.prefix_rfl (fun e => ⟨e, hser.symm, ?_⟩) fun e => .inl e
        rw [ref_ge, ← hyx]
        have hidx : st.idxOf (nd v l h) = i := by
          have hg : st[i] = nd v l h := by rw [List.getElem?_eq_getElem hi'] at hy; simpa using hy
          rw [← hg]
          exact wx.fin.nodup.idxOf_getElem i hi'
        rw [hidx]
      · rw [show decide (e.2 = t') = false from by simpa using hee]
        refine next fun h => ?_
        rw [hy] at h
        simp only [Option.some.injEq] at h
        rw [hye, ← htn] at h
        exact hee (tree_inj (m + 1) _ _ (by omega) hel ht' h)
    · intro h
      rw [hy] at h
      simp only [Option.some.injEq, nd.injEq] at h
      simp only [row] at hv
      exact hv (by rw [h.1])
  · -- it is new
    have hnin : nd (15 - m) xl xh ∉ st := by
      intro h
      obtain ⟨j, hj⟩ := List.getElem?_of_mem h
      have := (List.getElem?_eq_some_iff.1 hj).1
      exact hno j (by omega) hj
    have hsz2 : H2.size = H.size + 2 := by omega
    refine Ld.o3 hom ns ts large rfl ?_
    refine hs'.slice hne (l := 0) (u := 2 ^ m) rfl rfl (by omega) (by omega) fun sl hsl => ?_
    rw [List.drop_zero, Nat.sub_zero] at hsl
    have hv1 : IntKind.wrap .i64 (((15 - m : Nat) : Int) + 1) = ((16 - m : Nat) : Int) := (wrap64 (by omega) (by omega)).trans (by omega)
    rw [hv1]
    refine RunT.imp ?_ (ih m (by omega) (by omega) ⟨Fn, Ft, wx⟩ hsl hl1)
    rintro H4 ns4 ts4 l4 i4 ⟨F4, st4, tabs4, w4, kp4, fr4, pre4, f4, t4⟩
    rw [hxl] at f4 t4
    have hF4mb : ¬ F4 mb := fun h => by rcases fr4 _ h with h | h; exact hmbF h; omega
    have hF4rb : ¬ F4 rb := fun h => by rcases fr4 _ h with h | h; exact hrbF h; omega
    have htb2 : tb < H2.size := wx.tlt
    have hFtb : ¬ F tb := wx.ntb
    have hF4tb : ¬ F4 tb := by obtain ⟨_, _, h⟩ := w4; exact h.ntb
    have htbmb : tb ≠ mb := by obtain ⟨_, _, h⟩ := hw; have := h.tlt; omega
    have htbrb : tb ≠ rb := by obtain ⟨_, _, h⟩ := hw; have := h.tlt; omega
    refine Sto.own (hom.keep kp4 hmbF) (Nat.le_refl 3) fun H5 hom5 hk5 hs5 => ?_
    simp only [List.take_zero, List.nil_append, List.cons_append, List.length_cons, List.length_nil, Nat.zero_add, List.drop_succ_cons, List.drop_zero, List.drop_nil, List.append_nil] at hom5
    have hor5 := (hor.keep kp4 hrbF).keep hk5 (fun e => hmr e.symm)
    have w5 := w4.keep hk5 (fun x e h => hF4mb (e ▸ h)) htbmb
    refine Ld.o3 hom5 ns4 ts4 l4 rfl ?_
    have hs5' : TabAt H5 tb s' t' := (hs'.keep kp4 hFtb).keep hk5 htbmb
    refine hs5'.slice hne (l := 2 ^ m) (u := t'.length) rfl rfl (by omega) (by omega) fun sh hsh => ?_
    rw [show (t'.drop (2 ^ m)).take (t'.length - 2 ^ m) = t'.drop (2 ^ m) from List.take_of_length_le (by rw [List.length_drop]; omega)] at hsh
    refine RunT.imp ?_ (ih m (by omega) (by omega) w5 hsh hl2)
    rintro H6 ns6 ts6 l6 i6 ⟨F6, st6, tabs6, w6, kp6, fr6, pre6, f6, t6⟩
    rw [hxh] at f6 t6
    have hsz4 : H4.size ≤ H5.size := by omega
    have hsz24 := kp4.size
    have hF6mb : ¬ F6 mb := fun h => by rcases fr6 _ h with h | h; exact hF4mb h; omega
    have hF6rb : ¬ F6 rb := fun h => by rcases fr6 _ h with h | h; exact hF4rb h; omega
    have hF6tb : ¬ F6 tb := by obtain ⟨_, _, h⟩ := w6; exact h.ntb
    refine Sto.own (hom5.keep kp6 hF4mb) (Nat.le_refl 3) fun H7 hom7 hk7 hs7 => ?_
    simp only [List.take_zero, List.nil_append, List.cons_append, List.length_cons, List.length_nil, Nat.zero_add, List.drop_succ_cons, List.drop_zero, List.drop_nil, List.append_nil] at hom7
    have hor7 := (hor5.keep kp6 hF4rb).keep hk7 (fun e => hmr e.symm)
    have w7 := w6.keep hk7 (fun x e h => hF6mb (e ▸ h)) htbmb
    have hs7' : TabAt H7 tb s' t' := (hs5'.keep kp6 hF4tb).keep hk7 htbmb
    have hsz56 := kp6.size
    -- all that was there ahead of the call, but F, is asx it was
    have kpAll : Keep F H H7 := by
      refine ⟨by have := hk12.size; omega, fun x hx hn => ?_, fun x hx hn => ?_⟩
      · rw [hk7.get x (by omega) (by omega), kp6.get x (by omega) (fun h => by rcases fr4 _ h with h | h; exact hn h; omega), hk5.get x (by omega) (by omega), kp4.get x (by omega) hn, hk12.get x hx id]
      · rw [hk7.ext x (by omega) (by omega), kp6.ext x (by omega) (fun h => by rcases fr4 _ h with h | h; exact hn h; omega), hk5.ext x (by omega) (by omega), kp4.ext x (by omega) hn, hk12.ext x hx id]
    have frAll : ∀ y, F6 y → F y ∨ H.size ≤ y := fun y h => by
      rcases fr6 y h with h | h
      · rcases fr4 y h with h | h
        · exact .inl h
        · exact .inr (by omega)
      · exact .inr (by omega)
    have preAll : st <+: st6 := pre4.trans pre6
    have hser : ser (nd (15 - m) xl xh) st = ser xh (ser xl st) ++ [nd (15 - m) xl xh] := by simp only [ser]; rw [if_neg hnin]
    have hserl : (ser xl st).length ≤ (ser xh (ser xl st)).length := (ser_prefix xh _).length_le
    have hlarge6 : l6 = true → large = true ∨ 2000 < (ser (nd (15 - m) xl xh) st).length := by
      intro h
      rw [hser, List.length_append]
      cases h4 : l4 with
      | true => rcases t4 h4 with h | h
                · exact .inl h
                · exact .inr (by omega)
      | false =>
        obtain ⟨_, e4, _⟩ := f4 h4
        rcases t6 h with h | h
        · rw [h4] at h; cases h
        · rw [e4] at h; exact .inr (by omega)
    have w7c := w7
    obtain ⟨Fn7, Ft7, wx7⟩ := w7
    -- too large
    have big : (l6 = true ∨ st6.length = 2000) → fetterlockref6_walk.p67 (fun H' ns' ts' l' i => WPost H tb F st (nd (15 - m) xl xh) large H' ns' ts' l' i) s' ((15 - m : Nat) : Int) (.ptr (some (mb, 0))) (.ptr (some (rb, 0))) i4 i6 true H7 := by
      intro hb
      unfold fetterlockref6_walk.p67
      refine CondB.pos rfl (FA.mk (Sto.own hom7 (Nat.le_refl 3) fun H8 hom8 hk8 hs8 => ?_))
      simp only [List.length_cons, List.length_nil] at hom8
      refine out' H8 F6 st6 tabs6 ns6 ts6 true 0 hom8 ⟨_, hor7.keep hk8 (fun e => hmr e.symm), rfl⟩ (w7c.keep hk8 (fun x e h => hF6mb (e ▸ h)) htbmb) (Keep.trans kpAll hk8 fun x hx e => by omega) frAll hF6rb preAll (fun e => by cases e) fun _ => ?_
      rcases hb with h | h
      · exact hlarge6 h
      · by_cases h6 : l6 = true
        · exact hlarge6 h6
        · have h6' : l6 = false := Bool.eq_false_iff.2 h6
          obtain ⟨h4', e6, _⟩ := f6 h6'
          obtain ⟨_, e4, _⟩ := f4 h4'
          rw [e4] at e6
          refine .inr ?_
          rw [hser, List.length_append, ← e6, h]; simp
    refine FA.mk (Ld.ob hom7 rfl (CondB.mk (fun h6 => big (.inl h6)) fun h6 => ?_))
    obtain ⟨h4, e6, hi6⟩ := f6 h6
    obtain ⟨hlg, e4, hi4⟩ := f4 h4
    refine FA.mk (Ld.oc hom7 rfl (LenS.of wx7.nodes.slr ?_))
    rw [List.length_map]
    have hmax6 := wx7.max
    by_cases hfull : st6.length = 2000
    · rw [show (((st6.length : Nat) : Int) == 2000) = true from by simp [hfull]]
      exact big (.inr hfull)
    rw [show (((st6.length : Nat) : Int) == 2000) = false from by simp; omega]
    unfold fetterlockref6_walk.p67
    refine CondB.neg rfl (FA.mk (Ld.oc hom7 rfl ?_))
    refine NewS.own fun p H8 hp hs8 hbox8 hk8 => ?_
    have hin4 : In st4 xl := by rw [e4]; exact ser_in _ _
    have hinl : In st6 xl := hin4.mono pre6
    have hinh : In st6 xh := by rw [e6]; exact ser_in _ _
    have hrl : i4 = ref st6 xl := by rw [hi4, ref_mono hin4 pre6]
    have hrh : i6 = ref st6 xh := hi6
    have hnin6 : nd (15 - m) xl xh ∉ st6 := by rw [e6, e4]; exact ser_new hnin
    refine App.own (wx7.nodes.kp hk8) (r := nodeCells (((15 - m : Nat) : Int), i4, i6)) ⟨p, _, rfl, hbox8.all⟩ rfl (by simp; omega) (by simp; omega) fun ns9 H9 hns9 hk9 hs9 => ?_
    have hFn : ∀ x, Fn7 x → F6 x := fun x h => (wx7.fF x).2 (.inl h)
    have hFt : ∀ x, Ft7 x → F6 x := fun x h => (wx7.fF x).2 (.inr h)
    have hltF : ∀ x, F6 x → x < H7.size := w7c.lt
    have hom9 := (hom7.kp hk8).keep hk9 (fun h => hF6mb (hFn _ h))
    have hor9 := (hor7.kp hk8).keep hk9 (fun h => hF6rb (hFn _ h))
    have hts9 := (wx7.tables.kp hk8).keep hk9 (fun x h h' => wx7.dis x h h')
    have hs9' : TabAt H9 tb s' t' := (hs7'.keep hk8 id).keep hk9 (fun h => hF6tb (hFn _ h))
    have htab9 : ∀ e ∈ tabs6, TabAt H9 tb e.1 e.2 := fun e he => ((wx7.tab e he).keep hk8 id).keep hk9 (fun h => hF6tb (hFn _ h))
    refine FA.mk (Sto.own hom9 (show 0 + 0 + 1 ≤ 3 by omega) fun H10 hom10 hk10 hs10 => ?_)
    simp only [List.take_zero, List.nil_append, List.cons_append, List.length_cons, List.length_nil, Nat.zero_add, Nat.add_zero, List.drop_succ_cons, List.drop_zero] at hom10
    have hmbl : mb < H7.size := hom7.lt
    have hrbl : rb < H7.size := hor7.lt
    refine FA.mk (Ld.oc hom10 rfl ?_)
    refine NewS.own fun p2 H11 hp2 hs11 hbox11 hk11 => ?_
    have hts11 : OwnS H11 ts6 1 Ft7 (tabs6.map fun e => [e.1]) := (hts9.keep hk10 (fun x e h => hF6mb (hFt _ (e ▸ h)))).kp hk11
    refine App.own hts11 (r := [s']) ⟨p2, _, rfl, hbox11.all⟩ rfl (by rw [List.length_map, wx7.len]; omega) (by rw [List.length_map, wx7.len]; omega) fun ts12 H12 hts12 hk12' hs12 => ?_
    have hom12 := (hom10.kp hk11).keep hk12' (fun h => hF6mb (hFt _ h))
    have hor12 := ((hor9.keep hk10 (fun e => hmr e.symm)).kp hk11).keep hk12' (fun h => hF6rb (hFt _ h))
    have hns12 : OwnS H12 ns9 3 (fun y => Fn7 y ∨ y = H8.size) _ := ((hns9.keep hk10 (fun x e h => by subst e; rcases h with h | h; exact hF6mb (hFn _ h); omega)).kp hk11).keep hk12' (fun x h h' => by
      rcases h' with h' | h'
      · exact wx7.dis x h' h
      · have := hltF _ (hFt _ h); omega)
    refine FA.mk (Sto.own hom12 (show 0 + 1 + 1 ≤ 3 by omega) fun H13 hom13 hk13 hs13 => ?_)
    simp only [List.length_cons, List.length_nil] at hom13
    have hns13 := hns12.keep hk13 (fun x e h => by subst e; rcases h with h | h; exact hF6mb (hFn _ h); omega)
    have hts13 := hts12.keep hk13 (fun x e h => by subst e; rcases h with h | h; exact hF6mb (hFt _ h); omega)
    have hor13 := hor12.keep hk13 (fun e => hmr e.symm)
    have hs13' : TabAt H13 tb s' t' := (((hs9'.keep hk10 htbmb).keep hk11 id).keep hk12' (fun h => hF6tb (hFt _ h))).keep hk13 htbmb
    have htab13 : ∀ e ∈ tabs6, TabAt H13 tb e.1 e.2 := fun e he => (((((htab9 e he).keep hk10 htbmb).keep hk11 id).keep hk12' (fun h => hF6tb (hFt _ h))).keep hk13 htbmb)
    have htbl : tb < H7.size := wx7.tlt
    rw [hrl, hrh] at hns13
    have wx13 := wx7.snoc (H1 := H7) (s := s') (t := t') (k := m) hns13 hts13 (fun x h h' => by
      rcases h with h | h
      · rcases h' with h' | h'
        · exact wx7.dis x h h'
        · have := hltF _ (hFn _ h); omega
      · rcases h' with h' | h'
        · have := hltF _ (hFt _ h'); omega
        · omega) (by omega) ht' htn hnin6 hinl hinh hs13' (by omega) htab13 (by
      rintro ((h | h) | (h | h))
      · exact hF6tb (hFn _ h)
      · omega
      · exact hF6tb (hFt _ h)
      · omega) (by omega)
    refine Ld.o3 hom13 ns9 ts12 l6 rfl (FA.mk (Ld.oc hom13 rfl (LenS.of hns13.slr ?_)))
    refine Sto.own hor13 (Nat.le_refl 3) fun H14 hor14 hk14 hs14 => ?_
    refine ⟨Same1.mk (((hom13.keep hk14 hmr).cell rfl).trans (hom13.cell rfl).symm), Ld.o3 hor14 ns9 ts12 l6 rfl ?_⟩
    have hrbF' : ¬ ((Fn7 rb ∨ rb = H8.size) ∨ (Ft7 rb ∨ rb = H11.size)) := by
      rintro ((h | h) | (h | h))
      · exact hF6rb (hFn _ h)
      · omega
      · exact hF6rb (hFt _ h)
      · omega
    have hws13 : WS H13 tb ns9 ts12 (fun x => (Fn7 x ∨ x = H8.size) ∨ (Ft7 x ∨ x = H11.size)) (st6 ++ [nd (15 - m) xl xh]) (tabs6 ++ [(s', t')]) := ⟨_, _, wx13⟩
    refine ⟨_, _, _, hws13.keep hk14 (fun x e h => hrbF' (by subst e; exact h)) htbrb, ?_, ?_, preAll.trans (List.prefix_append _ _), fun _ => ⟨hlg, ?_, ?_⟩, fun e => ?_⟩
    · have hFl : ∀ x, F x → x < H.size := hlt
      refine ⟨by have := hk12.size; omega, fun x hx hn => ?_, fun x hx hn => ?_⟩
      · have h1 : ¬ F6 x := fun h => by rcases frAll x h with h | h; exact hn h; omega
        rw [hk14.get x (by omega) (by omega), hk13.get x (by omega) (by omega), hk12'.get x (by omega) (fun h => h1 (hFt _ h)), hk11.get x (by omega) id, hk10.get x (by omega) (by omega), hk9.get x (by omega) (fun h => h1 (hFn _ h)), hk8.get x (by omega) id, kpAll.get x hx hn]
      · have h1 : ¬ F6 x := fun h => by rcases frAll x h with h | h; exact hn h; omega
        rw [hk14.ext x (by omega) (by omega), hk13.ext x (by omega) (by omega), hk12'.ext x (by omega) (fun h => h1 (hFt _ h)), hk11.ext x (by omega) id, hk10.ext x (by omega) (by omega), hk9.ext x (by omega) (fun h => h1 (hFn _ h)), hk8.ext x (by omega) id, kpAll.ext x hx hn]
    · rintro y ((h | h) | (h | h))
      · exact frAll y (hFn _ h)
      · exact .inr (by omega)
      · exact frAll y (hFt _ h)
      · exact .inr (by omega)
    · rw [hser, ← e4, ← e6]
    · rw [ref_new hnin6]
      simp only [List.length_append, List.length_map, List.length_cons, List.length_nil]
      exact (wrap64 (by omega) (by omega)).trans (by omega)
    · rw [h6] at e; cases e
end Go.Proofs.Ytanaaabejeeakaa
end
section
/- Printed by a program: functions and what must hold ahead of them. -/
namespace Go.Proofs.Ytanaaabejeeakaa
open Go.AI
set_option maxRecDepth 100000
set_option maxHeartbeats 2000000
set_option linter.unusedVariables false
attribute [local irreducible] Ld Sto New NewS NewM NN NZ GE0 FA IA IAP LenS Slc App Cpy Clr MkS Fnc NilQ IxS Look MSet Run CV RunT CVT LoopT Same1 Same2 wpC wpOs wpT wpO wpOp

def solve_manager_diagram_1.c : RC := (.seq (.ops [.put 6 (.mov (.ct (.one (.int .i64 0))))]) (.seq (.seq (.ops [.put 11 (.mov (.tm 0)),
    .put 12 (.cm .lt (.tm 11) (.ct (.one (.int .i64 0))))]) (.cond 12 (.seq (.ops [.put 13 (.mov (.tm 0)),
    .put 6 (.mov (.tm 13))]) .ret) .skip)) (.seq (.seq (.ops [.put 15 (.ld false [.ac] (.tm 1)),
    .put 16 (.mov (.tm 0)),
    .put 17 (.look none false [.int .i64] [(.int .i64 0)] true (.tm 15) (.tm 16)),
    .put 14 (.mov (.tm 17)),
    .put 18 (.ex (.tm 14) 0),
    .put 19 (.ex (.tm 14) 1),
    .put 7 (.mov (.tm 18)),
    .put 8 (.mov (.tm 19))]) (.seq (.ops [.put 20 (.mov (.tm 8))]) (.cond 20 (.seq (.ops [.put 21 (.mov (.tm 7)),
    .put 6 (.mov (.tm 21))]) .ret) .skip))) (.seq (.ops [.put 22 (.ld false [.ac] (.tm 2)),
    .put 23 (.ld false [.ac] (.tm 3)),
    .put 24 (.nn (.tm 23)),
    .put 25 (.fa 0 (.tm 24)),
    .put 26 (.ld false [.ac] (.tm 25)),
    .put 27 (.mov (.tm 0)),
    .put 28 (.ia 3 (.tm 26) (.tm 27)),
    .put 29 (.fa 1 (.tm 28)),
    .put 30 (.ld false [.int .i64] (.tm 29)),
    .put 31 (.callv (.tm 22) [(.tm 30)]),
    .put 9 (.mov (.tm 31))]) (.seq (.ops [.put 32 (.ld false [.ac] (.tm 2)),
    .put 33 (.ld false [.ac] (.tm 3)),
    .put 34 (.nn (.tm 33)),
    .put 35 (.fa 0 (.tm 34)),
    .put 36 (.ld false [.ac] (.tm 35)),
    .put 37 (.mov (.tm 0)),
    .put 38 (.ia 3 (.tm 36) (.tm 37)),
    .put 39 (.fa 2 (.tm 38)),
    .put 40 (.ld false [.int .i64] (.tm 39)),
    .put 41 (.callv (.tm 32) [(.tm 40)]),
    .put 10 (.mov (.tm 41))]) (.seq (.ops [.put 42 (.fa 0 (.tm 4)),
    .put 43 (.ld false [.ac] (.tm 42)),
    .put 44 (.ld false [.ac] (.tm 3)),
    .put 45 (.nn (.tm 44)),
    .put 46 (.fa 0 (.tm 45)),
    .put 47 (.ld false [.ac] (.tm 46)),
    .put 48 (.mov (.tm 0)),
    .put 49 (.ia 3 (.tm 47) (.tm 48)),
    .put 50 (.fa 0 (.tm 49)),
    .put 51 (.ld false [.int .i64] (.tm 50)),
    .put 52 (.mov (.tm 9)),
    .put 53 (.mov (.tm 10)),
    .put 54 (.bld [(.int .i64 0), (.int .i64 0), (.int .i64 0)] [(0, 1, (.tm 51)), (1, 1, (.tm 52)), (2, 1, (.tm 53))]),
    .put 55 (.blds 77 3 1 [(.int .i64 0), (.int .i64 0), (.int .i64 0)] [(0, 3, (.tm 54))]),
    .put 56 (.app 77 3 24 (.tm 43) (.tm 55)),
    .put 57 (.fa 0 (.tm 4)),
    .run (.st 1 (.tm 57) (.tm 56))]) (.seq (.ops [.put 58 (.ld false [.ac] (.tm 1)),
    .put 59 (.mov (.tm 0)),
    .put 60 (.fa 0 (.tm 4)),
    .put 61 (.ld false [.ac] (.tm 60)),
    .put 62 (.lens (.tm 61)),
    .put 63 (.ar .sub (.tm 62) (.ct (.one (.int .i64 1)))),
    .run (.mset none (.tm 58) (.tm 59) (.tm 63))]) (.seq (.ops [.put 64 (.ld false [.ac] (.tm 1)),
    .put 65 (.mov (.tm 0)),
    .put 66 (.look none false [.int .i64] [(.int .i64 0)] false (.tm 64) (.tm 65)),
    .put 6 (.mov (.tm 66))]) .ret))))))))
abbrev solve_manager_diagram_1.KQ (Q : AHeap → Int → Prop) : AV → AHeap → Prop := fun v H => ∃ xs : Tup (flat [(false, [.int .i64])]), v = joinR (splitP [(false, [.int .i64])] (cellsOf (flat [(false, [.int .i64])]) xs)) ∧ app (flat [(false, [.int .i64])]) (Q H) xs
abbrev solve_manager_diagram_1.K (Q : AHeap → Int → Prop) : Ex → Env → AHeap → Prop := kTop [.tm 6] (solve_manager_diagram_1.KQ Q)
def solve_manager_diagram_1.W (a0 : Int) (a1 : AC) (a2 : AC) (a3 : AC) (a4 : AC) (H : AHeap) (Q : AHeap → Int → Prop) : Prop :=
  CondB (decide (a0 < 0))
    (Q H a0)
    (Ld [.ac] H a1 fun (v_1 : AC) =>
    Look none false [.int .i64] [(.int .i64 0)] H v_1 [a0] fun b_2 (v_3 : Int) =>
    CondB b_2
      (Q H v_3)
      (Ld [.ac] H a2 fun (v_4 : AC) =>
      Ld [.ac] H a3 fun (v_5 : AC) =>
      NN v_5 <|
      FA 0 v_5 fun q_6 =>
      Ld [.ac] H q_6 fun (v_7 : AC) =>
      IA 3 v_7 a0 fun q_8 =>
      FA 1 q_8 fun q_9 =>
      Ld [.int .i64] H q_9 fun (v_10 : Int) =>
      CVT Try.prog [(false, [.int .i64])] v_4 [(.one (.int .i64 v_10))] H fun H_11 (v_12 : Int) =>
      Ld [.ac] H_11 a2 fun (v_13 : AC) =>
      Ld [.ac] H_11 a3 fun (v_14 : AC) =>
      NN v_14 <|
      FA 0 v_14 fun q_15 =>
      Ld [.ac] H_11 q_15 fun (v_16 : AC) =>
      IA 3 v_16 a0 fun q_17 =>
      FA 2 q_17 fun q_18 =>
      Ld [.int .i64] H_11 q_18 fun (v_19 : Int) =>
      CVT Try.prog [(false, [.int .i64])] v_13 [(.one (.int .i64 v_19))] H_11 fun H_20 (v_21 : Int) =>
      FA 0 a4 fun q_22 =>
      Ld [.ac] H_20 q_22 fun (v_23 : AC) =>
      Ld [.ac] H_20 a3 fun (v_24 : AC) =>
      NN v_24 <|
      FA 0 v_24 fun q_25 =>
      Ld [.ac] H_20 q_25 fun (v_26 : AC) =>
      IA 3 v_26 a0 fun q_27 =>
      FA 0 q_27 fun q_28 =>
      Ld [.int .i64] H_20 q_28 fun (v_29 : Int) =>
      NewS 77 3 1 [(.int .i64 v_29), (.int .i64 v_12), (.int .i64 v_21)] H_20 fun p_30 H_31 =>
      App 77 3 24 v_23 p_30 H_31 fun s_32 H_33 =>
      FA 0 a4 fun q_34 =>
      Sto H_33 q_34 [s_32] fun H_35 =>
      Ld [.ac] H_35 a1 fun (v_36 : AC) =>
      FA 0 a4 fun q_37 =>
      Ld [.ac] H_35 q_37 fun (v_38 : AC) =>
      LenS v_38 fun n_39 =>
      MSet none H_35 v_36 [a0] (.one (.int .i64 (IntKind.wrap .i64 (n_39 - 1)))) fun H_40 =>
      Ld [.ac] H_40 a1 fun (v_41 : AC) =>
      Look none false [.int .i64] [(.int .i64 0)] H_40 v_41 [a0] fun b_42 (v_43 : Int) =>
      Q H_40 v_43))
theorem solve_manager_diagram_1.ok {a0 : Int} {a1 : AC} {a2 : AC} {a3 : AC} {a4 : AC} {H : AHeap} (Q : AHeap → Int → Prop) : solve_manager_diagram_1.W a0 a1 a2 a3 a4 H Q → wpF Try.prog solve_manager_diagram_1.c [.tm 6] (envOf [(.one (.int .i64 a0)), (.one a1), (.one a2), (.one a3), (.one a4)]) H (solve_manager_diagram_1.KQ Q) := c_seq (c_ops (s_cons (w_put (o_mov rfl (s_nil (k_seq (c_seq (c_seq (c_ops (s_cons (w_put (o_mov rfl (s_cons (w_put (o_lt rfl rfl (s_nil (k_seq (c_if rfl (c_seq (c_ops (s_cons (w_put (o_mov rfl (s_cons (w_put (o_mov rfl (s_nil (k_seq (c_ret (k_seqR (k_topR (r_one rfl (r_nil (fun h => ⟨((a0 : Int), ()), rfl, h⟩)))))))))))))))) (c_skip (k_seq (c_seq (c_seq (c_ops (s_cons (w_put (o_ld1 rfl (fun (v_1 : AC) => s_cons (w_put (o_mov rfl (s_cons (w_put (o_look1 rfl rfl (fun b_2 (v_3 : Int) => s_cons (w_put (o_mov rfl (s_cons (w_put (o_ex rfl rfl rfl (s_cons (w_put (o_ex rfl rfl rfl (s_cons (w_put (o_mov rfl (s_cons (w_put (o_mov rfl (s_nil (k_seq (c_seq (c_ops (s_cons (w_put (o_mov rfl (s_nil (k_seq (c_if rfl (c_seq (c_ops (s_cons (w_put (o_mov rfl (s_cons (w_put (o_mov rfl (s_nil (k_seq (c_ret (k_seqR (k_topR (r_one rfl (r_nil (fun h => ⟨((v_3 : Int), ()), rfl, h⟩)))))))))))))))) (c_skip (k_seq (c_seq (c_ops (s_cons (w_put (o_ld1 rfl (fun (v_4 : AC) => s_cons (w_put (o_ld1 rfl (fun (v_5 : AC) => s_cons (w_put (o_nn rfl (s_cons (w_put (o_fa rfl (fun q_6 => s_cons (w_put (o_ld1 rfl (fun (v_7 : AC) => s_cons (w_put (o_mov rfl (s_cons (w_put (o_ia rfl rfl (fun q_8 => s_cons (w_put (o_fa rfl (fun q_9 => s_cons (w_put (o_ld1 rfl (fun (v_10 : Int) => s_cons (w_put (o_callv rfl rfl (cu_1 (fun H_11 (v_12 : Int) => s_cons (w_put (o_mov rfl (s_nil (k_seq (c_seq (c_ops (s_cons (w_put (o_ld1 rfl (fun (v_13 : AC) => s_cons (w_put (o_ld1 rfl (fun (v_14 : AC) => s_cons (w_put (o_nn rfl (s_cons (w_put (o_fa rfl (fun q_15 => s_cons (w_put (o_ld1 rfl (fun (v_16 : AC) => s_cons (w_put (o_mov rfl (s_cons (w_put (o_ia rfl rfl (fun q_17 => s_cons (w_put (o_fa rfl (fun q_18 => s_cons (w_put (o_ld1 rfl (fun (v_19 : Int) => s_cons (w_put (o_callv rfl rfl (cu_1 (fun H_20 (v_21 : Int) => s_cons (w_put (o_mov rfl (s_nil (k_seq (c_seq (c_ops (s_cons (w_put (o_fa rfl (fun q_22 => s_cons (w_put (o_ld1 rfl (fun (v_23 : AC) => s_cons (w_put (o_ld1 rfl (fun (v_24 : AC) => s_cons (w_put (o_nn rfl (s_cons (w_put (o_fa rfl (fun q_25 => s_cons (w_put (o_ld1 rfl (fun (v_26 : AC) => s_cons (w_put (o_mov rfl (s_cons (w_put (o_ia rfl rfl (fun q_27 => s_cons (w_put (o_fa rfl (fun q_28 => s_cons (w_put (o_ld1 rfl (fun (v_29 : Int) => s_cons (w_put (o_mov rfl (s_cons (w_put (o_mov rfl (s_cons (w_put (o_bld rfl (s_cons (w_put (o_blds rfl (fun p_30 H_31 => s_cons (w_put (o_app rfl rfl (fun s_32 H_33 => s_cons (w_put (o_fa rfl (fun q_34 => s_cons (w_run (o_st rfl rfl rfl (fun H_35 => s_nil (k_seq (c_seq (c_ops (s_cons (w_put (o_ld1 rfl (fun (v_36 : AC) => s_cons (w_put (o_mov rfl (s_cons (w_put (o_fa rfl (fun q_37 => s_cons (w_put (o_ld1 rfl (fun (v_38 : AC) => s_cons (w_put (o_lens rfl (fun n_39 => s_cons (w_put (o_sub rfl rfl (s_cons (w_run (o_mset rfl rfl rfl rfl (fun H_40 => s_nil (k_seq (c_seq (c_ops (s_cons (w_put (o_ld1 rfl (fun (v_41 : AC) => s_cons (w_put (o_mov rfl (s_cons (w_put (o_look1 rfl rfl (fun b_42 (v_43 : Int) => s_cons (w_put (o_mov rfl (s_nil (k_seq (c_ret (k_topR (r_one rfl (r_nil (fun h => ⟨((v_43 : Int), ()), rfl, h⟩))))))))))))))))))))))))))))))))))))))))))))))))))))))))))))))))))))))))))))))))))))))))))))))))))))))))))))))))))))))))))))))))))))))))))))))))))))))))))))))))))))))))))))))))))))))))))))))))))))))))))))))))))))))))))))))))))))))))))))
theorem solve_manager_diagram_1.slimOk : slimOk [(6, []), (7, []), (8, [])] (Try.f88.body.getD .skip) = true := by kernel_rfl
theorem solve_manager_diagram_1.resC : resC Try.prog aggs Try.f88.ntmps (slim [(6, []), (7, []), (8, [])] (Try.f88.body.getD .skip)) = some solve_manager_diagram_1.c := by kernel_rfl
theorem solve_manager_diagram_1.resR : resR Try.prog Try.f88.results.toList = some [.tm 6] := by kernel_rfl
theorem solve_manager_diagram_1.bodyEq : Try.f88.body = some (Try.f88.body.getD .skip) := by kernel_rfl
theorem solve_manager_diagram_1.run {a0 : Int} {a1 : AC} {a2 : AC} {a3 : AC} {a4 : AC} {H : AHeap} {Q : AHeap → Int → Prop} (h : solve_manager_diagram_1.W a0 a1 a2 a3 a4 H Q) : Fn.solve_manager_diagram_1 a0 a1 a2 a3 a4 H Q := by
  unfold Fn.solve_manager_diagram_1 RunT
  exact run_of aggs_ok [(6, []), (7, []), (8, [])] Try.func88 solve_manager_diagram_1.bodyEq solve_manager_diagram_1.slimOk solve_manager_diagram_1.resC solve_manager_diagram_1.resR (Nat.le_of_ble_eq_true (by kernel_rfl)) (solve_manager_diagram_1.ok Q h)

def solve_manager_top.c : RC := (.seq (.ops [.put 4 (.mov (.ct (.one (.int .i64 0))))]) (.seq (.seq (.ops [.put 5 (.mov (.tm 1)),
    .put 6 (.cm .lt (.tm 5) (.ct (.one (.int .i64 0))))]) (.cond 6 (.seq (.ops [.put 4 (.mov (.ct (.one (.int .i64 16))))]) .ret) .skip)) (.seq (.ops [.put 7 (.mov (.tm 0)),
    .put 8 (.nn (.tm 7)),
    .put 9 (.fa 0 (.tm 8)),
    .put 10 (.ld false [.ac] (.tm 9)),
    .put 11 (.mov (.tm 1)),
    .put 12 (.ia 3 (.tm 10) (.tm 11)),
    .put 13 (.fa 0 (.tm 12)),
    .put 14 (.ld false [.int .i64] (.tm 13)),
    .put 4 (.mov (.tm 14))]) .ret)))
abbrev solve_manager_top.KQ (Q : AHeap → Int → Prop) : AV → AHeap → Prop := fun v H => ∃ xs : Tup (flat [(false, [.int .i64])]), v = joinR (splitP [(false, [.int .i64])] (cellsOf (flat [(false, [.int .i64])]) xs)) ∧ app (flat [(false, [.int .i64])]) (Q H) xs
abbrev solve_manager_top.K (Q : AHeap → Int → Prop) : Ex → Env → AHeap → Prop := kTop [.tm 4] (solve_manager_top.KQ Q)
def solve_manager_top.W (a0 : AC) (a1 : Int) (H : AHeap) (Q : AHeap → Int → Prop) : Prop :=
  CondB (decide (a1 < 0))
    (Q H 16)
    (NN a0 <|
    FA 0 a0 fun q_1 =>
    Ld [.ac] H q_1 fun (v_2 : AC) =>
    IA 3 v_2 a1 fun q_3 =>
    FA 0 q_3 fun q_4 =>
    Ld [.int .i64] H q_4 fun (v_5 : Int) =>
    Q H v_5)
theorem solve_manager_top.ok {a0 : AC} {a1 : Int} {H : AHeap} (Q : AHeap → Int → Prop) : solve_manager_top.W a0 a1 H Q → wpF Try.prog solve_manager_top.c [.tm 4] (envOf [(.one a0), (.one (.int .i64 a1))]) H (solve_manager_top.KQ Q) := c_seq (c_ops (s_cons (w_put (o_mov rfl (s_nil (k_seq (c_seq (c_seq (c_ops (s_cons (w_put (o_mov rfl (s_cons (w_put (o_lt rfl rfl (s_nil (k_seq (c_if rfl (c_seq (c_ops (s_cons (w_put (o_mov rfl (s_nil (k_seq (c_ret (k_seqR (k_topR (r_one rfl (r_nil (fun h => ⟨((16 : Int), ()), rfl, h⟩))))))))))))) (c_skip (k_seq (c_seq (c_ops (s_cons (w_put (o_mov rfl (s_cons (w_put (o_nn rfl (s_cons (w_put (o_fa rfl (fun q_1 => s_cons (w_put (o_ld1 rfl (fun (v_2 : AC) => s_cons (w_put (o_mov rfl (s_cons (w_put (o_ia rfl rfl (fun q_3 => s_cons (w_put (o_fa rfl (fun q_4 => s_cons (w_put (o_ld1 rfl (fun (v_5 : Int) => s_cons (w_put (o_mov rfl (s_nil (k_seq (c_ret (k_topR (r_one rfl (r_nil (fun h => ⟨((v_5 : Int), ()), rfl, h⟩))))))))))))))))))))))))))))))))))))))))))))))))))))))))
theorem solve_manager_top.slimOk : slimOk [] (Try.f90.body.getD .skip) = true := by kernel_rfl
theorem solve_manager_top.resC : resC Try.prog aggs Try.f90.ntmps (slim [] (Try.f90.body.getD .skip)) = some solve_manager_top.c := by kernel_rfl
theorem solve_manager_top.resR : resR Try.prog Try.f90.results.toList = some [.tm 4] := by kernel_rfl
theorem solve_manager_top.bodyEq : Try.f90.body = some (Try.f90.body.getD .skip) := by kernel_rfl
theorem solve_manager_top.run {a0 : AC} {a1 : Int} {H : AHeap} {Q : AHeap → Int → Prop} (h : solve_manager_top.W a0 a1 H Q) : Fn.solve_manager_top a0 a1 H Q := by
  unfold Fn.solve_manager_top RunT
  exact run_of aggs_ok [] Try.func90 solve_manager_top.bodyEq solve_manager_top.slimOk solve_manager_top.resC solve_manager_top.resR (Nat.le_of_ble_eq_true (by kernel_rfl)) (solve_manager_top.ok Q h)

end Go.Proofs.Ytanaaabejeeakaa
end
