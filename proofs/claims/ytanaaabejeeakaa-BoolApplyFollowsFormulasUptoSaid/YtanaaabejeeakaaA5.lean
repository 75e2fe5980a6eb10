/- Joined by a program: what the proof of the law leans on, part 5. -/
import Derived.Test.YtanaaabejeeakaaA4
set_option linter.unusedVariables false
set_option linter.unusedSimpArgs false
section
/- Printed by a program: functions and what must hold ahead of them. -/
namespace Go.Proofs.Ytanaaabejeeakaa
open Go.AI
set_option maxRecDepth 100000
set_option maxHeartbeats 2000000
set_option linter.unusedVariables false
attribute [local irreducible] Ld Sto New NewS NewM NN NZ GE0 FA IA IAP LenS Slc App Cpy Clr MkS Fnc NilQ IxS Look MSet Run CV RunT CVT LoopT Same1 Same2 wpC wpOs wpT wpO wpOp

def solve_manager_node.c : RC := (.seq (.ops [.put 8 (.mov (.ct (.one (.int .i64 0))))]) (.seq (.seq (.ops [.put 12 (.mov (.tm 2)),
    .put 13 (.mov (.tm 3)),
    .put 14 (.cm .eq (.tm 12) (.tm 13))]) (.cond 14 (.seq (.ops [.put 15 (.mov (.tm 2)),
    .put 8 (.mov (.tm 15))]) .ret) .skip)) (.seq (.ops [.put 16 (.mov (.tm 1)),
    .put 17 (.mov (.tm 2)),
    .put 18 (.mov (.tm 3)),
    .put 19 (.bld [(.int .i64 0), (.int .i64 0), (.int .i64 0)] [(0, 1, (.tm 16)), (1, 1, (.tm 17)), (2, 1, (.tm 18))]),
    .put 9 (.new 77 [(.int .i64 0), (.int .i64 0), (.int .i64 0)]),
    .run (.st 3 (.tm 9) (.tm 19))]) (.seq (.ops [.put 21 (.mov (.tm 0)),
    .put 22 (.nn (.tm 21)),
    .put 23 (.fa 1 (.tm 22)),
    .put 24 (.ld false [.ac] (.tm 23)),
    .put 25 (.ld true [.int .i64, .int .i64, .int .i64] (.tm 9)),
    .put 26 (.look (some 3) false [.int .i64] [(.int .i64 0)] true (.tm 24) (.tm 25)),
    .put 20 (.mov (.tm 26)),
    .put 27 (.ex (.tm 20) 0),
    .put 28 (.ex (.tm 20) 1),
    .put 10 (.mov (.tm 27)),
    .put 11 (.mov (.tm 28))]) (.seq (.seq (.ops [.put 29 (.mov (.tm 11)),
    .put 30 (.not (.tm 29))]) (.cond 30 (.seq (.ops [.put 31 (.mov (.tm 0)),
    .put 32 (.nn (.tm 31)),
    .put 33 (.fa 0 (.tm 32)),
    .put 34 (.ld false [.ac] (.tm 33)),
    .put 35 (.lens (.tm 34)),
    .put 10 (.mov (.tm 35))]) (.seq (.ops [.put 36 (.mov (.tm 0)),
    .put 37 (.mov (.tm 0)),
    .put 38 (.nn (.tm 37)),
    .put 39 (.fa 0 (.tm 38)),
    .put 40 (.ld false [.ac] (.tm 39)),
    .put 41 (.ld true [.int .i64, .int .i64, .int .i64] (.tm 9)),
    .put 42 (.blds 77 3 1 [(.int .i64 0), (.int .i64 0), (.int .i64 0)] [(0, 3, (.tm 41))]),
    .put 43 (.app 77 3 24 (.tm 40) (.tm 42)),
    .put 44 (.nn (.tm 36)),
    .put 45 (.fa 0 (.tm 44)),
    .run (.st 1 (.tm 45) (.tm 43))]) (.ops [.put 46 (.mov (.tm 0)),
    .put 47 (.nn (.tm 46)),
    .put 48 (.fa 1 (.tm 47)),
    .put 49 (.ld false [.ac] (.tm 48)),
    .put 50 (.ld true [.int .i64, .int .i64, .int .i64] (.tm 9)),
    .put 51 (.mov (.tm 10)),
    .run (.mset (some 3) (.tm 49) (.tm 50) (.tm 51))]))) .skip)) (.seq (.ops [.put 52 (.mov (.tm 10)),
    .put 8 (.mov (.tm 52))]) .ret))))))
abbrev solve_manager_node.KQ (Q : AHeap → Int → Prop) : AV → AHeap → Prop := fun v H => ∃ xs : Tup (flat [(false, [.int .i64])]), v = joinR (splitP [(false, [.int .i64])] (cellsOf (flat [(false, [.int .i64])]) xs)) ∧ app (flat [(false, [.int .i64])]) (Q H) xs
abbrev solve_manager_node.K (Q : AHeap → Int → Prop) : Ex → Env → AHeap → Prop := kTop [.tm 8] (solve_manager_node.KQ Q)
def solve_manager_node.W (a0 : AC) (a1 : Int) (a2 : Int) (a3 : Int) (H : AHeap) (Q : AHeap → Int → Prop) : Prop :=
  CondB (a2 == a3)
    (Q H a2)
    (New 77 [(.int .i64 0), (.int .i64 0), (.int .i64 0)] H fun p_1 H_2 =>
    Sto H_2 p_1 [(.int .i64 a1), (.int .i64 a2), (.int .i64 a3)] fun H_3 =>
    NN a0 <|
    FA 1 a0 fun q_4 =>
    Ld [.ac] H_3 q_4 fun (v_5 : AC) =>
    Ld [.int .i64, .int .i64, .int .i64] H_3 p_1 fun (v_6 : Int) (v_7 : Int) (v_8 : Int) =>
    Look (some 3) false [.int .i64] [(.int .i64 0)] H_3 v_5 [v_6, v_7, v_8] fun b_9 (v_10 : Int) =>
    CondB (!b_9)
      (NN a0 <|
      FA 0 a0 fun q_11 =>
      Ld [.ac] H_3 q_11 fun (v_12 : AC) =>
      LenS v_12 fun n_13 =>
      NN a0 <|
      FA 0 a0 fun q_14 =>
      Ld [.ac] H_3 q_14 fun (v_15 : AC) =>
      Ld [.int .i64, .int .i64, .int .i64] H_3 p_1 fun (v_16 : Int) (v_17 : Int) (v_18 : Int) =>
      NewS 77 3 1 [(.int .i64 v_16), (.int .i64 v_17), (.int .i64 v_18)] H_3 fun p_19 H_20 =>
      App 77 3 24 v_15 p_19 H_20 fun s_21 H_22 =>
      NN a0 <|
      FA 0 a0 fun q_23 =>
      Sto H_22 q_23 [s_21] fun H_24 =>
      NN a0 <|
      FA 1 a0 fun q_25 =>
      Ld [.ac] H_24 q_25 fun (v_26 : AC) =>
      Ld [.int .i64, .int .i64, .int .i64] H_24 p_1 fun (v_27 : Int) (v_28 : Int) (v_29 : Int) =>
      MSet (some 3) H_24 v_26 [v_27, v_28, v_29] (.one (.int .i64 n_13)) fun H_30 =>
      Q H_30 n_13)
      (Q H_3 v_10))
theorem solve_manager_node.ok {a0 : AC} {a1 : Int} {a2 : Int} {a3 : Int} {H : AHeap} (Q : AHeap → Int → Prop) : solve_manager_node.W a0 a1 a2 a3 H Q → wpF Try.prog solve_manager_node.c [.tm 8] (envOf [(.one a0), (.one (.int .i64 a1)), (.one (.int .i64 a2)), (.one (.int .i64 a3))]) H (solve_manager_node.KQ Q) := c_seq (c_ops (s_cons (w_put (o_mov rfl (s_nil (k_seq (c_seq (c_seq (c_ops (s_cons (w_put (o_mov rfl (s_cons (w_put (o_mov rfl (s_cons (w_put (o_eq rfl rfl (s_nil (k_seq (c_if rfl (c_seq (c_ops (s_cons (w_put (o_mov rfl (s_cons (w_put (o_mov rfl (s_nil (k_seq (c_ret (k_seqR (k_topR (r_one rfl (r_nil (fun h => ⟨((a2 : Int), ()), rfl, h⟩)))))))))))))))) (c_skip (k_seq (c_seq (c_ops (s_cons (w_put (o_mov rfl (s_cons (w_put (o_mov rfl (s_cons (w_put (o_mov rfl (s_cons (w_put (o_bld rfl (s_cons (w_put (o_new (fun p_1 H_2 => s_cons (w_run (o_st rfl rfl rfl (fun H_3 => s_nil (k_seq (c_seq (c_ops (s_cons (w_put (o_mov rfl (s_cons (w_put (o_nn rfl (s_cons (w_put (o_fa rfl (fun q_4 => s_cons (w_put (o_ld1 rfl (fun (v_5 : AC) => s_cons (w_put (o_ld3 rfl (fun (v_6 : Int) (v_7 : Int) (v_8 : Int) => s_cons (w_put (o_look1 rfl rfl (fun b_9 (v_10 : Int) => s_cons (w_put (o_mov rfl (s_cons (w_put (o_ex rfl rfl rfl (s_cons (w_put (o_ex rfl rfl rfl (s_cons (w_put (o_mov rfl (s_cons (w_put (o_mov rfl (s_nil (k_seq (c_seq (c_seq (c_ops (s_cons (w_put (o_mov rfl (s_cons (w_put (o_not rfl (s_nil (k_seq (c_if rfl (c_seq (c_ops (s_cons (w_put (o_mov rfl (s_cons (w_put (o_nn rfl (s_cons (w_put (o_fa rfl (fun q_11 => s_cons (w_put (o_ld1 rfl (fun (v_12 : AC) => s_cons (w_put (o_lens rfl (fun n_13 => s_cons (w_put (o_mov rfl (s_nil (k_seq (c_seq (c_ops (s_cons (w_put (o_mov rfl (s_cons (w_put (o_mov rfl (s_cons (w_put (o_nn rfl (s_cons (w_put (o_fa rfl (fun q_14 => s_cons (w_put (o_ld1 rfl (fun (v_15 : AC) => s_cons (w_put (o_ld3 rfl (fun (v_16 : Int) (v_17 : Int) (v_18 : Int) => s_cons (w_put (o_blds rfl (fun p_19 H_20 => s_cons (w_put (o_app rfl rfl (fun s_21 H_22 => s_cons (w_put (o_nn rfl (s_cons (w_put (o_fa rfl (fun q_23 => s_cons (w_run (o_st rfl rfl rfl (fun H_24 => s_nil (k_seq (c_ops (s_cons (w_put (o_mov rfl (s_cons (w_put (o_nn rfl (s_cons (w_put (o_fa rfl (fun q_25 => s_cons (w_put (o_ld1 rfl (fun (v_26 : AC) => s_cons (w_put (o_ld3 rfl (fun (v_27 : Int) (v_28 : Int) (v_29 : Int) => s_cons (w_put (o_mov rfl (s_cons (w_run (o_mset rfl rfl rfl rfl (fun H_30 => s_nil (k_seq (c_seq (c_ops (s_cons (w_put (o_mov rfl (s_cons (w_put (o_mov rfl (s_nil (k_seq (c_ret (k_topR (r_one rfl (r_nil (fun h => ⟨((n_13 : Int), ()), rfl, h⟩)))))))))))))))))))))))))))))))))))))))))))))))))))))))))))))))))))))))))))))))))))))))))))))))))) (c_skip (k_seq (c_seq (c_ops (s_cons (w_put (o_mov rfl (s_cons (w_put (o_mov rfl (s_nil (k_seq (c_ret (k_topR (r_one rfl (r_nil (fun h => ⟨((v_10 : Int), ()), rfl, h⟩)))))))))))))))))))))))))))))))))))))))))))))))))))))))))))))))))))))))))))))))))))))))))))))))))))))))))))))))
theorem solve_manager_node.slimOk : slimOk [(4, []), (7, []), (8, [])] (Try.f80.body.getD .skip) = true := by kernel_rfl
theorem solve_manager_node.resC : resC Try.prog aggs Try.f80.ntmps (slim [(4, []), (7, []), (8, [])] (Try.f80.body.getD .skip)) = some solve_manager_node.c := by kernel_rfl
theorem solve_manager_node.resR : resR Try.prog Try.f80.results.toList = some [.tm 8] := by kernel_rfl
theorem solve_manager_node.bodyEq : Try.f80.body = some (Try.f80.body.getD .skip) := by kernel_rfl
theorem solve_manager_node.run {a0 : AC} {a1 : Int} {a2 : Int} {a3 : Int} {H : AHeap} {Q : AHeap → Int → Prop} (h : solve_manager_node.W a0 a1 a2 a3 H Q) : Fn.solve_manager_node a0 a1 a2 a3 H Q := by
  unfold Fn.solve_manager_node RunT
  exact run_of aggs_ok [(4, []), (7, []), (8, [])] Try.func80 solve_manager_node.bodyEq solve_manager_node.slimOk solve_manager_node.resC solve_manager_node.resR (Nat.le_of_ble_eq_true (by kernel_rfl)) (solve_manager_node.ok Q h)

def solve_manager_ite.c18 : RC := (.cond 34 (.seq (.ops [.put 41 (.mov (.tm 1)),
    .put 8 (.mov (.tm 41))]) .ret) .skip)
def solve_manager_ite.c6 : RC := (.cond 21 (.seq (.ops [.put 29 (.mov (.tm 2)),
    .put 8 (.mov (.tm 29))]) .ret) (.seq (.ops [.put 31 (.mov (.tm 1)),
    .put 32 (.cm .eq (.tm 31) (.ct (.one (.int .i64 (-1))))),
    .put 30 (.mov (.tm 32))]) (.cond 30 (.seq (.ops [.put 33 (.mov (.tm 3)),
    .put 8 (.mov (.tm 33))]) .ret) (.seq (.ops [.put 35 (.mov (.tm 2)),
    .put 36 (.cm .eq (.tm 35) (.ct (.one (.int .i64 (-2))))),
    .put 37 (.mov (.tm 36)),
    .gput 38 37 true (.mov (.tm 3)),
    .gput 39 37 true (.cm .eq (.tm 38) (.ct (.one (.int .i64 (-1))))),
    .put 40 (.pick (.tm 37) (.tm 39) (.ct (.one (.bool false)))),
    .put 34 (.mov (.tm 40))]) solve_manager_ite.c18))))
def solve_manager_ite.c : RC := (.seq (.ops [.put 8 (.mov (.ct (.one (.int .i64 0))))]) (.seq (.block 0 (.seq (.ops [.put 22 (.mov (.tm 1)),
    .put 23 (.cm .eq (.tm 22) (.ct (.one (.int .i64 (-2))))),
    .put 24 (.mov (.tm 23)),
    .gput 25 24 false (.mov (.tm 2)),
    .gput 26 24 false (.mov (.tm 3)),
    .gput 27 24 false (.cm .eq (.tm 25) (.tm 26)),
    .put 28 (.pick (.tm 24) (.ct (.one (.bool true))) (.tm 27)),
    .put 21 (.mov (.tm 28))]) solve_manager_ite.c6)) (.seq (.ops [.put 42 (.mov (.tm 1)),
    .put 43 (.mov (.tm 2)),
    .put 44 (.mov (.tm 3)),
    .put 45 (.bld [(.int .i64 0), (.int .i64 0), (.int .i64 0)] [(0, 1, (.tm 42)), (1, 1, (.tm 43)), (2, 1, (.tm 44))]),
    .put 9 (.new 115 [(.int .i64 0), (.int .i64 0), (.int .i64 0)]),
    .run (.st 3 (.tm 9) (.tm 45))]) (.seq (.seq (.ops [.put 47 (.mov (.tm 0)),
    .put 48 (.nn (.tm 47)),
    .put 49 (.fa 2 (.tm 48)),
    .put 50 (.ld false [.ac] (.tm 49)),
    .put 51 (.ld true [.int .i64, .int .i64, .int .i64] (.tm 9)),
    .put 52 (.look (some 3) false [.int .i64] [(.int .i64 0)] true (.tm 50) (.tm 51)),
    .put 46 (.mov (.tm 52)),
    .put 53 (.ex (.tm 46) 0),
    .put 54 (.ex (.tm 46) 1),
    .put 10 (.mov (.tm 53)),
    .put 11 (.mov (.tm 54))]) (.seq (.ops [.put 55 (.mov (.tm 11))]) (.cond 55 (.seq (.ops [.put 56 (.mov (.tm 10)),
    .put 8 (.mov (.tm 56))]) .ret) .skip))) (.seq (.ops [.put 57 (.mov (.tm 0)),
    .put 58 (.mov (.tm 1)),
    .put 59 (.call 90 [(.tm 57), (.tm 58)]),
    .put 60 (.mov (.tm 0)),
    .put 61 (.mov (.tm 2)),
    .put 62 (.call 90 [(.tm 60), (.tm 61)]),
    .put 63 (.mov (.tm 0)),
    .put 64 (.mov (.tm 3)),
    .put 65 (.call 90 [(.tm 63), (.tm 64)]),
    .put 66 (.min3 (.tm 59) (.tm 62) (.tm 65)),
    .put 12 (.mov (.tm 66))]) (.seq (.ops [.put 68 (.mov (.tm 0)),
    .put 69 (.mov (.tm 1)),
    .put 70 (.mov (.tm 12)),
    .put 71 (.call 98 [(.tm 68), (.tm 69), (.tm 70)]),
    .put 67 (.mov (.tm 71)),
    .put 72 (.ex (.tm 67) 0),
    .put 73 (.ex (.tm 67) 1),
    .put 13 (.mov (.tm 72)),
    .put 14 (.mov (.tm 73))]) (.seq (.ops [.put 75 (.mov (.tm 0)),
    .put 76 (.mov (.tm 2)),
    .put 77 (.mov (.tm 12)),
    .put 78 (.call 98 [(.tm 75), (.tm 76), (.tm 77)]),
    .put 74 (.mov (.tm 78)),
    .put 79 (.ex (.tm 74) 0),
    .put 80 (.ex (.tm 74) 1),
    .put 15 (.mov (.tm 79)),
    .put 16 (.mov (.tm 80))]) (.seq (.ops [.put 82 (.mov (.tm 0)),
    .put 83 (.mov (.tm 3)),
    .put 84 (.mov (.tm 12)),
    .put 85 (.call 98 [(.tm 82), (.tm 83), (.tm 84)]),
    .put 81 (.mov (.tm 85)),
    .put 86 (.ex (.tm 81) 0),
    .put 87 (.ex (.tm 81) 1),
    .put 17 (.mov (.tm 86)),
    .put 18 (.mov (.tm 87))]) (.seq (.ops [.put 88 (.mov (.tm 0)),
    .put 89 (.mov (.tm 13)),
    .put 90 (.mov (.tm 15)),
    .put 91 (.mov (.tm 17)),
    .put 92 (.call 81 [(.tm 88), (.tm 89), (.tm 90), (.tm 91)]),
    .put 19 (.mov (.tm 92))]) (.seq (.ops [.put 93 (.mov (.tm 0)),
    .put 94 (.mov (.tm 12)),
    .put 95 (.mov (.tm 19)),
    .put 96 (.mov (.tm 0)),
    .put 97 (.mov (.tm 14)),
    .put 98 (.mov (.tm 16)),
    .put 99 (.mov (.tm 18)),
    .put 100 (.call 81 [(.tm 96), (.tm 97), (.tm 98), (.tm 99)]),
    .put 101 (.call 80 [(.tm 93), (.tm 94), (.tm 95), (.tm 100)]),
    .put 20 (.mov (.tm 101))]) (.seq (.ops [.put 102 (.mov (.tm 0)),
    .put 103 (.nn (.tm 102)),
    .put 104 (.fa 2 (.tm 103)),
    .put 105 (.ld false [.ac] (.tm 104)),
    .put 106 (.ld true [.int .i64, .int .i64, .int .i64] (.tm 9)),
    .put 107 (.mov (.tm 20)),
    .run (.mset (some 3) (.tm 105) (.tm 106) (.tm 107))]) (.seq (.ops [.put 108 (.mov (.tm 20)),
    .put 8 (.mov (.tm 108))]) .ret))))))))))))
abbrev solve_manager_ite.KQ (Q : AHeap → Int → Prop) : AV → AHeap → Prop := fun v H => ∃ xs : Tup (flat [(false, [.int .i64])]), v = joinR (splitP [(false, [.int .i64])] (cellsOf (flat [(false, [.int .i64])]) xs)) ∧ app (flat [(false, [.int .i64])]) (Q H) xs
abbrev solve_manager_ite.K (Q : AHeap → Int → Prop) : Ex → Env → AHeap → Prop := kTop [.tm 8] (solve_manager_ite.KQ Q)
abbrev solve_manager_ite.k3 (Q : AHeap → Int → Prop) : Ex → Env → AHeap → Prop := kSeq (fun t H => wpC Try.prog (.seq (.ops [.put 42 (.mov (.tm 1)),
    .put 43 (.mov (.tm 2)),
    .put 44 (.mov (.tm 3)),
    .put 45 (.bld [(.int .i64 0), (.int .i64 0), (.int .i64 0)] [(0, 1, (.tm 42)), (1, 1, (.tm 43)), (2, 1, (.tm 44))]),
    .put 9 (.new 115 [(.int .i64 0), (.int .i64 0), (.int .i64 0)]),
    .run (.st 3 (.tm 9) (.tm 45))]) (.seq (.seq (.ops [.put 47 (.mov (.tm 0)),
    .put 48 (.nn (.tm 47)),
    .put 49 (.fa 2 (.tm 48)),
    .put 50 (.ld false [.ac] (.tm 49)),
    .put 51 (.ld true [.int .i64, .int .i64, .int .i64] (.tm 9)),
    .put 52 (.look (some 3) false [.int .i64] [(.int .i64 0)] true (.tm 50) (.tm 51)),
    .put 46 (.mov (.tm 52)),
    .put 53 (.ex (.tm 46) 0),
    .put 54 (.ex (.tm 46) 1),
    .put 10 (.mov (.tm 53)),
    .put 11 (.mov (.tm 54))]) (.seq (.ops [.put 55 (.mov (.tm 11))]) (.cond 55 (.seq (.ops [.put 56 (.mov (.tm 10)),
    .put 8 (.mov (.tm 56))]) .ret) .skip))) (.seq (.ops [.put 57 (.mov (.tm 0)),
    .put 58 (.mov (.tm 1)),
    .put 59 (.call 90 [(.tm 57), (.tm 58)]),
    .put 60 (.mov (.tm 0)),
    .put 61 (.mov (.tm 2)),
    .put 62 (.call 90 [(.tm 60), (.tm 61)]),
    .put 63 (.mov (.tm 0)),
    .put 64 (.mov (.tm 3)),
    .put 65 (.call 90 [(.tm 63), (.tm 64)]),
    .put 66 (.min3 (.tm 59) (.tm 62) (.tm 65)),
    .put 12 (.mov (.tm 66))]) (.seq (.ops [.put 68 (.mov (.tm 0)),
    .put 69 (.mov (.tm 1)),
    .put 70 (.mov (.tm 12)),
    .put 71 (.call 98 [(.tm 68), (.tm 69), (.tm 70)]),
    .put 67 (.mov (.tm 71)),
    .put 72 (.ex (.tm 67) 0),
    .put 73 (.ex (.tm 67) 1),
    .put 13 (.mov (.tm 72)),
    .put 14 (.mov (.tm 73))]) (.seq (.ops [.put 75 (.mov (.tm 0)),
    .put 76 (.mov (.tm 2)),
    .put 77 (.mov (.tm 12)),
    .put 78 (.call 98 [(.tm 75), (.tm 76), (.tm 77)]),
    .put 74 (.mov (.tm 78)),
    .put 79 (.ex (.tm 74) 0),
    .put 80 (.ex (.tm 74) 1),
    .put 15 (.mov (.tm 79)),
    .put 16 (.mov (.tm 80))]) (.seq (.ops [.put 82 (.mov (.tm 0)),
    .put 83 (.mov (.tm 3)),
    .put 84 (.mov (.tm 12)),
    .put 85 (.call 98 [(.tm 82), (.tm 83), (.tm 84)]),
    .put 81 (.mov (.tm 85)),
    .put 86 (.ex (.tm 81) 0),
    .put 87 (.ex (.tm 81) 1),
    .put 17 (.mov (.tm 86)),
    .put 18 (.mov (.tm 87))]) (.seq (.ops [.put 88 (.mov (.tm 0)),
    .put 89 (.mov (.tm 13)),
    .put 90 (.mov (.tm 15)),
    .put 91 (.mov (.tm 17)),
    .put 92 (.call 81 [(.tm 88), (.tm 89), (.tm 90), (.tm 91)]),
    .put 19 (.mov (.tm 92))]) (.seq (.ops [.put 93 (.mov (.tm 0)),
    .put 94 (.mov (.tm 12)),
    .put 95 (.mov (.tm 19)),
    .put 96 (.mov (.tm 0)),
    .put 97 (.mov (.tm 14)),
    .put 98 (.mov (.tm 16)),
    .put 99 (.mov (.tm 18)),
    .put 100 (.call 81 [(.tm 96), (.tm 97), (.tm 98), (.tm 99)]),
    .put 101 (.call 80 [(.tm 93), (.tm 94), (.tm 95), (.tm 100)]),
    .put 20 (.mov (.tm 101))]) (.seq (.ops [.put 102 (.mov (.tm 0)),
    .put 103 (.nn (.tm 102)),
    .put 104 (.fa 2 (.tm 103)),
    .put 105 (.ld false [.ac] (.tm 104)),
    .put 106 (.ld true [.int .i64, .int .i64, .int .i64] (.tm 9)),
    .put 107 (.mov (.tm 20)),
    .run (.mset (some 3) (.tm 105) (.tm 106) (.tm 107))]) (.seq (.ops [.put 108 (.mov (.tm 20)),
    .put 8 (.mov (.tm 108))]) .ret)))))))))) t H (solve_manager_ite.K Q)) (solve_manager_ite.K Q)
def solve_manager_ite.p18 (Q : AHeap → Int → Prop) (x0 : AC) (x1 : Int) (x2 : Int) (x3 : Int) (x34 : Bool) (H : AHeap) : Prop :=
  CondB x34
    (Q H x1)
    (New 115 [(.int .i64 0), (.int .i64 0), (.int .i64 0)] H fun p_1 H_2 =>
    Sto H_2 p_1 [(.int .i64 x1), (.int .i64 x2), (.int .i64 x3)] fun H_3 =>
    NN x0 <|
    FA 2 x0 fun q_4 =>
    Ld [.ac] H_3 q_4 fun (v_5 : AC) =>
    Ld [.int .i64, .int .i64, .int .i64] H_3 p_1 fun (v_6 : Int) (v_7 : Int) (v_8 : Int) =>
    Look (some 3) false [.int .i64] [(.int .i64 0)] H_3 v_5 [v_6, v_7, v_8] fun b_9 (v_10 : Int) =>
    CondB b_9
      (Q H_3 v_10)
      (Fn.solve_manager_top x0 x1 H_3 fun H_11 (v_12 : Int) =>
      Fn.solve_manager_top x0 x2 H_11 fun H_13 (v_14 : Int) =>
      Fn.solve_manager_top x0 x3 H_13 fun H_15 (v_16 : Int) =>
      Fn.solve_manager_split x0 x1 (if v_16 < (if v_14 < v_12 then v_14 else v_12) then v_16 else (if v_14 < v_12 then v_14 else v_12)) H_15 fun H_17 (v_18 : Int) (v_19 : Int) =>
      Fn.solve_manager_split x0 x2 (if v_16 < (if v_14 < v_12 then v_14 else v_12) then v_16 else (if v_14 < v_12 then v_14 else v_12)) H_17 fun H_20 (v_21 : Int) (v_22 : Int) =>
      Fn.solve_manager_split x0 x3 (if v_16 < (if v_14 < v_12 then v_14 else v_12) then v_16 else (if v_14 < v_12 then v_14 else v_12)) H_20 fun H_23 (v_24 : Int) (v_25 : Int) =>
      Fn.solve_manager_ite x0 v_18 v_21 v_24 H_23 fun H_26 (v_27 : Int) =>
      Fn.solve_manager_ite x0 v_19 v_22 v_25 H_26 fun H_28 (v_29 : Int) =>
      Fn.solve_manager_node x0 (if v_16 < (if v_14 < v_12 then v_14 else v_12) then v_16 else (if v_14 < v_12 then v_14 else v_12)) v_27 v_29 H_28 fun H_30 (v_31 : Int) =>
      NN x0 <|
      FA 2 x0 fun q_32 =>
      Ld [.ac] H_30 q_32 fun (v_33 : AC) =>
      Ld [.int .i64, .int .i64, .int .i64] H_30 p_1 fun (v_34 : Int) (v_35 : Int) (v_36 : Int) =>
      MSet (some 3) H_30 v_33 [v_34, v_35, v_36] (.one (.int .i64 v_31)) fun H_37 =>
      Q H_37 v_31))
def solve_manager_ite.p6 (Q : AHeap → Int → Prop) (x0 : AC) (x1 : Int) (x2 : Int) (x3 : Int) (x21 : Bool) (H : AHeap) : Prop :=
  CondB x21
    (Q H x2)
    (CondB (x1 == (-1))
      (Q H x3)
      (CondB (x2 == (-2))
        (solve_manager_ite.p18 Q x0 x1 x2 x3 (x3 == (-1)) H)
        (solve_manager_ite.p18 Q x0 x1 x2 x3 false H)))
def solve_manager_ite.W (a0 : AC) (a1 : Int) (a2 : Int) (a3 : Int) (H : AHeap) (Q : AHeap → Int → Prop) : Prop :=
  CondB (a1 == (-2))
    (solve_manager_ite.p6 Q a0 a1 a2 a3 true H)
    (solve_manager_ite.p6 Q a0 a1 a2 a3 (a2 == a3) H)
theorem solve_manager_ite.p18_okE (Q : AHeap → Int → Prop) {x0 : AC} {x1 : Int} {x2 : Int} {x3 : Int} {x34 : Bool} {H : AHeap} (j : Env) : solve_manager_ite.p18 Q x0 x1 x2 x3 x34 H → wpC Try.prog solve_manager_ite.c18 (upd (upd (upd (upd (upd j 0 (.one x0)) 1 (.one (.int .i64 x1))) 2 (.one (.int .i64 x2))) 3 (.one (.int .i64 x3))) 34 (.one (.bool x34))) H (kBlk 0 (solve_manager_ite.k3 Q)) := c_if rfl (c_seq (c_ops (s_cons (w_put (o_mov rfl (s_cons (w_put (o_mov rfl (s_nil (k_seq (c_ret (k_blkR (k_seqR (k_topR (r_one rfl (r_nil (fun h => ⟨((x1 : Int), ()), rfl, h⟩))))))))))))))))) (c_skip (k_blk (k_seq (c_seq (c_ops (s_cons (w_put (o_mov rfl (s_cons (w_put (o_mov rfl (s_cons (w_put (o_mov rfl (s_cons (w_put (o_bld rfl (s_cons (w_put (o_new (fun p_1 H_2 => s_cons (w_run (o_st rfl rfl rfl (fun H_3 => s_nil (k_seq (c_seq (c_seq (c_ops (s_cons (w_put (o_mov rfl (s_cons (w_put (o_nn rfl (s_cons (w_put (o_fa rfl (fun q_4 => s_cons (w_put (o_ld1 rfl (fun (v_5 : AC) => s_cons (w_put (o_ld3 rfl (fun (v_6 : Int) (v_7 : Int) (v_8 : Int) => s_cons (w_put (o_look1 rfl rfl (fun b_9 (v_10 : Int) => s_cons (w_put (o_mov rfl (s_cons (w_put (o_ex rfl rfl rfl (s_cons (w_put (o_ex rfl rfl rfl (s_cons (w_put (o_mov rfl (s_cons (w_put (o_mov rfl (s_nil (k_seq (c_seq (c_ops (s_cons (w_put (o_mov rfl (s_nil (k_seq (c_if rfl (c_seq (c_ops (s_cons (w_put (o_mov rfl (s_cons (w_put (o_mov rfl (s_nil (k_seq (c_ret (k_seqR (k_topR (r_one rfl (r_nil (fun h => ⟨((v_10 : Int), ()), rfl, h⟩)))))))))))))))) (c_skip (k_seq (c_seq (c_ops (s_cons (w_put (o_mov rfl (s_cons (w_put (o_mov rfl (s_cons (w_put (o_call rfl (cv_1 (fun H_11 (v_12 : Int) => s_cons (w_put (o_mov rfl (s_cons (w_put (o_mov rfl (s_cons (w_put (o_call rfl (cv_1 (fun H_13 (v_14 : Int) => s_cons (w_put (o_mov rfl (s_cons (w_put (o_mov rfl (s_cons (w_put (o_call rfl (cv_1 (fun H_15 (v_16 : Int) => s_cons (w_put (o_min3 rfl rfl rfl (s_cons (w_put (o_mov rfl (s_nil (k_seq (c_seq (c_ops (s_cons (w_put (o_mov rfl (s_cons (w_put (o_mov rfl (s_cons (w_put (o_mov rfl (s_cons (w_put (o_call rfl (cv_o1_o1 (fun H_17 (v_18 : Int) (v_19 : Int) => s_cons (w_put (o_mov rfl (s_cons (w_put (o_ex rfl rfl rfl (s_cons (w_put (o_ex rfl rfl rfl (s_cons (w_put (o_mov rfl (s_cons (w_put (o_mov rfl (s_nil (k_seq (c_seq (c_ops (s_cons (w_put (o_mov rfl (s_cons (w_put (o_mov rfl (s_cons (w_put (o_mov rfl (s_cons (w_put (o_call rfl (cv_o1_o1 (fun H_20 (v_21 : Int) (v_22 : Int) => s_cons (w_put (o_mov rfl (s_cons (w_put (o_ex rfl rfl rfl (s_cons (w_put (o_ex rfl rfl rfl (s_cons (w_put (o_mov rfl (s_cons (w_put (o_mov rfl (s_nil (k_seq (c_seq (c_ops (s_cons (w_put (o_mov rfl (s_cons (w_put (o_mov rfl (s_cons (w_put (o_mov rfl (s_cons (w_put (o_call rfl (cv_o1_o1 (fun H_23 (v_24 : Int) (v_25 : Int) => s_cons (w_put (o_mov rfl (s_cons (w_put (o_ex rfl rfl rfl (s_cons (w_put (o_ex rfl rfl rfl (s_cons (w_put (o_mov rfl (s_cons (w_put (o_mov rfl (s_nil (k_seq (c_seq (c_ops (s_cons (w_put (o_mov rfl (s_cons (w_put (o_mov rfl (s_cons (w_put (o_mov rfl (s_cons (w_put (o_mov rfl (s_cons (w_put (o_call rfl (cv_1 (fun H_26 (v_27 : Int) => s_cons (w_put (o_mov rfl (s_nil (k_seq (c_seq (c_ops (s_cons (w_put (o_mov rfl (s_cons (w_put (o_mov rfl (s_cons (w_put (o_mov rfl (s_cons (w_put (o_mov rfl (s_cons (w_put (o_mov rfl (s_cons (w_put (o_mov rfl (s_cons (w_put (o_mov rfl (s_cons (w_put (o_call rfl (cv_1 (fun H_28 (v_29 : Int) => s_cons (w_put (o_call rfl (cv_1 (fun H_30 (v_31 : Int) => s_cons (w_put (o_mov rfl (s_nil (k_seq (c_seq (c_ops (s_cons (w_put (o_mov rfl (s_cons (w_put (o_nn rfl (s_cons (w_put (o_fa rfl (fun q_32 => s_cons (w_put (o_ld1 rfl (fun (v_33 : AC) => s_cons (w_put (o_ld3 rfl (fun (v_34 : Int) (v_35 : Int) (v_36 : Int) => s_cons (w_put (o_mov rfl (s_cons (w_run (o_mset rfl rfl rfl rfl (fun H_37 => s_nil (k_seq (c_seq (c_ops (s_cons (w_put (o_mov rfl (s_cons (w_put (o_mov rfl (s_nil (k_seq (c_ret (k_topR (r_one rfl (r_nil (fun h => ⟨((v_31 : Int), ()), rfl, h⟩))))))))))))))))))))))))))))))))))))))))))))))))))))))))))))))))))))))))))))))))))))))))))))))))))))))))))))))))))))))))))))))))))))))))))))))))))))))))))))))))))))))))))))))))))))))))))))))))))))))))))))))))))))))))))))))))))))))))))))))))))))))))))))))))))))))))))))))))))))))))))))))))))))))))))))))))))))
theorem solve_manager_ite.p18_ok (Q : AHeap → Int → Prop) {x0 : AC} {x1 : Int} {x2 : Int} {x3 : Int} {x34 : Bool} {H : AHeap} {t : Env} (h0 : t 0 = (.one x0)) (h1 : t 1 = (.one (.int .i64 x1))) (h2 : t 2 = (.one (.int .i64 x2))) (h3 : t 3 = (.one (.int .i64 x3))) (h34 : t 34 = (.one (.bool x34))) (h : solve_manager_ite.p18 Q x0 x1 x2 x3 x34 H) : wpC Try.prog solve_manager_ite.c18 t H (kBlk 0 (solve_manager_ite.k3 Q)) := by
  have g := solve_manager_ite.p18_okE Q t h
  rw [upd_self h0] at g
  rw [upd_self h1] at g
  rw [upd_self h2] at g
  rw [upd_self h3] at g
  rw [upd_self h34] at g
  exact g
theorem solve_manager_ite.p6_okE (Q : AHeap → Int → Prop) {x0 : AC} {x1 : Int} {x2 : Int} {x3 : Int} {x21 : Bool} {H : AHeap} (j : Env) : solve_manager_ite.p6 Q x0 x1 x2 x3 x21 H → wpC Try.prog solve_manager_ite.c6 (upd (upd (upd (upd (upd j 0 (.one x0)) 1 (.one (.int .i64 x1))) 2 (.one (.int .i64 x2))) 3 (.one (.int .i64 x3))) 21 (.one (.bool x21))) H (kBlk 0 (solve_manager_ite.k3 Q)) := c_if rfl (c_seq (c_ops (s_cons (w_put (o_mov rfl (s_cons (w_put (o_mov rfl (s_nil (k_seq (c_ret (k_blkR (k_seqR (k_topR (r_one rfl (r_nil (fun h => ⟨((x2 : Int), ()), rfl, h⟩))))))))))))))))) (c_seq (c_ops (s_cons (w_put (o_mov rfl (s_cons (w_put (o_eq rfl rfl (s_cons (w_put (o_mov rfl (s_nil (k_seq (c_if rfl (c_seq (c_ops (s_cons (w_put (o_mov rfl (s_cons (w_put (o_mov rfl (s_nil (k_seq (c_ret (k_blkR (k_seqR (k_topR (r_one rfl (r_nil (fun h => ⟨((x3 : Int), ()), rfl, h⟩))))))))))))))))) (c_seq (c_ops (s_cons (w_put (o_mov rfl (s_cons (w_put (o_eq rfl rfl (s_cons (w_put (o_mov rfl (s_cons (w_gputT rfl (o_mov rfl (s_cons (w_gputY rfl (o_eq rfl rfl (s_cons (w_put (o_pickT rfl rfl (s_cons (w_put (o_mov rfl (s_nil (k_seq (solve_manager_ite.p18_ok Q rfl rfl rfl rfl rfl))))))))))))) (s_cons (w_gputN rfl (s_cons (w_put (o_pickF rfl rfl (s_cons (w_put (o_mov rfl (s_nil (k_seq (solve_manager_ite.p18_ok Q rfl rfl rfl rfl rfl))))))))))))))))))))))))))))))))))))))
theorem solve_manager_ite.p6_ok (Q : AHeap → Int → Prop) {x0 : AC} {x1 : Int} {x2 : Int} {x3 : Int} {x21 : Bool} {H : AHeap} {t : Env} (h0 : t 0 = (.one x0)) (h1 : t 1 = (.one (.int .i64 x1))) (h2 : t 2 = (.one (.int .i64 x2))) (h3 : t 3 = (.one (.int .i64 x3))) (h21 : t 21 = (.one (.bool x21))) (h : solve_manager_ite.p6 Q x0 x1 x2 x3 x21 H) : wpC Try.prog solve_manager_ite.c6 t H (kBlk 0 (solve_manager_ite.k3 Q)) := by
  have g := solve_manager_ite.p6_okE Q t h
  rw [upd_self h0] at g
  rw [upd_self h1] at g
  rw [upd_self h2] at g
  rw [upd_self h3] at g
  rw [upd_self h21] at g
  exact g
theorem solve_manager_ite.ok {a0 : AC} {a1 : Int} {a2 : Int} {a3 : Int} {H : AHeap} (Q : AHeap → Int → Prop) : solve_manager_ite.W a0 a1 a2 a3 H Q → wpF Try.prog solve_manager_ite.c [.tm 8] (envOf [(.one a0), (.one (.int .i64 a1)), (.one (.int .i64 a2)), (.one (.int .i64 a3))]) H (solve_manager_ite.KQ Q) := c_seq (c_ops (s_cons (w_put (o_mov rfl (s_nil (k_seq (c_seq (c_blk (c_seq (c_ops (s_cons (w_put (o_mov rfl (s_cons (w_put (o_eq rfl rfl (s_cons (w_put (o_mov rfl (s_cons (w_gputF rfl (s_cons (w_gputN rfl (s_cons (w_gputN rfl (s_cons (w_put (o_pickT rfl rfl (s_cons (w_put (o_mov rfl (s_nil (k_seq (solve_manager_ite.p6_ok Q rfl rfl rfl rfl rfl))))))))))))) (o_mov rfl (s_cons (w_gputY rfl (o_mov rfl (s_cons (w_gputY rfl (o_eq rfl rfl (s_cons (w_put (o_pickF rfl rfl (s_cons (w_put (o_mov rfl (s_nil (k_seq (solve_manager_ite.p6_ok Q rfl rfl rfl rfl rfl)))))))))))))))))))))))))))))))))))))
theorem solve_manager_ite.slimOk : slimOk [(8, []), (17, [])] (Try.f81.body.getD .skip) = true := by kernel_rfl
theorem solve_manager_ite.resC : resC Try.prog aggs Try.f81.ntmps (slim [(8, []), (17, [])] (Try.f81.body.getD .skip)) = some solve_manager_ite.c := by kernel_rfl
theorem solve_manager_ite.resR : resR Try.prog Try.f81.results.toList = some [.tm 8] := by kernel_rfl
theorem solve_manager_ite.bodyEq : Try.f81.body = some (Try.f81.body.getD .skip) := by kernel_rfl
theorem solve_manager_ite.run {a0 : AC} {a1 : Int} {a2 : Int} {a3 : Int} {H : AHeap} {Q : AHeap → Int → Prop} (h : solve_manager_ite.W a0 a1 a2 a3 H Q) : Fn.solve_manager_ite a0 a1 a2 a3 H Q := by
  unfold Fn.solve_manager_ite RunT
  exact run_of aggs_ok [(8, []), (17, [])] Try.func81 solve_manager_ite.bodyEq solve_manager_ite.slimOk solve_manager_ite.resC solve_manager_ite.resR (Nat.le_of_ble_eq_true (by kernel_rfl)) (solve_manager_ite.ok Q h)

def fetterlockref6_uniform.c7 : RC := (.seq (.seq (.ops [.put 4 (.mov (.tm 3)),
    .put 5 (.mov (.tm 0)),
    .put 6 (.lens (.tm 5)),
    .put 7 (.cm .lt (.tm 4) (.tm 6))]) (.cond 7 .skip (.exit 0))) (.seq (.block 1 (.seq (.ops [.put 10 (.mov (.tm 0)),
    .put 11 (.mov (.tm 3)),
    .put 12 (.ia 1 (.tm 10) (.tm 11)),
    .put 13 (.ld false [.bool] (.tm 12)),
    .put 14 (.mov (.tm 0)),
    .put 15 (.ia 1 (.tm 14) (.ct (.one (.int .i64 0)))),
    .put 16 (.ld false [.bool] (.tm 15)),
    .put 17 (.eqb true (.tm 13) (.tm 16))]) (.cond 17 (.seq (.ops [.put 2 (.mov (.ct (.one (.bool false))))]) .ret) .skip))) (.ops [.put 8 (.mov (.tm 3)),
    .put 9 (.ar .add (.tm 8) (.ct (.one (.int .i64 1)))),
    .put 3 (.mov (.tm 9))])))
def fetterlockref6_uniform.c : RC := (.seq (.ops [.put 2 (.mov (.ct (.one (.bool false))))]) (.seq (.seq (.ops [.put 3 (.mov (.ct (.one (.int .i64 1))))]) (.block 0 (.loop fetterlockref6_uniform.c7))) (.seq (.ops [.put 2 (.mov (.ct (.one (.bool true))))]) .ret)))
abbrev fetterlockref6_uniform.KQ (Q : AHeap → Bool → Prop) : AV → AHeap → Prop := fun v H => ∃ xs : Tup (flat [(false, [.bool])]), v = joinR (splitP [(false, [.bool])] (cellsOf (flat [(false, [.bool])]) xs)) ∧ app (flat [(false, [.bool])]) (Q H) xs
abbrev fetterlockref6_uniform.K (Q : AHeap → Bool → Prop) : Ex → Env → AHeap → Prop := kTop [.tm 2] (fetterlockref6_uniform.KQ Q)
abbrev fetterlockref6_uniform.k3 (Q : AHeap → Bool → Prop) : Ex → Env → AHeap → Prop := kSeq (fun t H => wpC Try.prog (.seq (.ops [.put 2 (.mov (.ct (.one (.bool true))))]) .ret) t H (fetterlockref6_uniform.K Q)) (fetterlockref6_uniform.K Q)
def fetterlockref6_uniform.R6 (s : Tup [.ac, .int .i64]) (t : Env) : Prop := t 0 = (.one (s.1)) ∧ t 3 = (.one (.int .i64 (s.2.1))) ∧ True
def fetterlockref6_uniform.b6 (Q : AHeap → Bool → Prop) (Y6 : Tup [.ac, .int .i64] → AHeap → Prop) (x0 : AC) (x3 : Int) (H : AHeap) : Prop :=
  LenS x0 fun n_1 =>
  CondB (decide (x3 < n_1))
    (IA 1 x0 x3 fun q_2 =>
    Ld [.bool] H q_2 fun (v_3 : Bool) =>
    IA 1 x0 0 fun q_4 =>
    Ld [.bool] H q_4 fun (v_5 : Bool) =>
    CondB (!(v_3 == v_5))
      (Q H false)
      (Y6 (x0, ((IntKind.wrap .i64 (x3 + 1)) : Int), ()) H))
    (Q H true)
def fetterlockref6_uniform.l6 (Q : AHeap → Bool → Prop) (x0 : AC) (x3 : Int) (H : AHeap) : Prop := LoopT (Tup [.ac, .int .i64]) (fun Y s H => fetterlockref6_uniform.b6 Q Y (s.1) (s.2.1) H) (x0, x3, ()) H
def fetterlockref6_uniform.W (a0 : AC) (H : AHeap) (Q : AHeap → Bool → Prop) : Prop :=
  fetterlockref6_uniform.l6 Q a0 1 H
theorem fetterlockref6_uniform.b6_ok (Q : AHeap → Bool → Prop) (Y6 : Tup [.ac, .int .i64] → AHeap → Prop) (X6 : Env → AHeap → Prop) (hX6 : ∀ s t H, fetterlockref6_uniform.R6 s t → Y6 s H → X6 t H) {x0 : AC} {x3 : Int} {H : AHeap} (j : Env) : fetterlockref6_uniform.b6 Q Y6 x0 x3 H → wpC Try.prog fetterlockref6_uniform.c7 (upd (upd j 0 (.one x0)) 3 (.one (.int .i64 x3))) H (kSeq X6 (kBlk 0 (fetterlockref6_uniform.k3 Q))) := c_seq (c_seq (c_ops (s_cons (w_put (o_mov rfl (s_cons (w_put (o_mov rfl (s_cons (w_put (o_lens rfl (fun n_1 => s_cons (w_put (o_lt rfl rfl (s_nil (k_seq (c_if rfl (c_skip (k_seq (c_seq (c_blk (c_seq (c_ops (s_cons (w_put (o_mov rfl (s_cons (w_put (o_mov rfl (s_cons (w_put (o_ia rfl rfl (fun q_2 => s_cons (w_put (o_ld1 rfl (fun (v_3 : Bool) => s_cons (w_put (o_mov rfl (s_cons (w_put (o_ia rfl rfl (fun q_4 => s_cons (w_put (o_ld1 rfl (fun (v_5 : Bool) => s_cons (w_put (o_neb rfl rfl (s_nil (k_seq (c_if rfl (c_seq (c_ops (s_cons (w_put (o_mov rfl (s_nil (k_seq (c_ret (k_blkR (k_seqR (k_seqR (k_blkR (k_seqR (k_topR (r_one rfl (r_nil (fun h => ⟨((false : Bool), ()), rfl, h⟩))))))))))))))))) (c_skip (k_blk (k_seq (c_ops (s_cons (w_put (o_mov rfl (s_cons (w_put (o_add rfl rfl (s_cons (w_put (o_mov rfl (s_nil (k_seq (hX6 _ _ _ ⟨rfl, rfl, trivial⟩))))))))))))))))))))))))))))))))))))))))))))))))) (c_exit (k_seqE (k_seqE (k_blkH (k_seq (c_seq (c_ops (s_cons (w_put (o_mov rfl (s_nil (k_seq (c_ret (k_topR (r_one rfl (r_nil (fun h => ⟨((true : Bool), ()), rfl, h⟩))))))))))))))))))))))))))))))))))
theorem fetterlockref6_uniform.l6_ok (Q : AHeap → Bool → Prop) {x0 : AC} {x3 : Int} {H : AHeap} {t : Env} (h0 : t 0 = (.one x0)) (h3 : t 3 = (.one (.int .i64 x3))) : fetterlockref6_uniform.l6 Q x0 x3 H → wpC Try.prog (.loop fetterlockref6_uniform.c7) t H (kBlk 0 (fetterlockref6_uniform.k3 Q)) :=
  m_loop fetterlockref6_uniform.R6 ⟨h0, h3, trivial⟩ fun X Y hX s t H hR hB => by
    have g := fetterlockref6_uniform.b6_ok Q Y X hX t hB
    rw [upd_self hR.1] at g
    rw [upd_self hR.2.1] at g
    exact g
theorem fetterlockref6_uniform.ok {a0 : AC} {H : AHeap} (Q : AHeap → Bool → Prop) : fetterlockref6_uniform.W a0 H Q → wpF Try.prog fetterlockref6_uniform.c [.tm 2] (envOf [(.one a0)]) H (fetterlockref6_uniform.KQ Q) := c_seq (c_ops (s_cons (w_put (o_mov rfl (s_nil (k_seq (c_seq (c_seq (c_ops (s_cons (w_put (o_mov rfl (s_nil (k_seq (c_blk (fetterlockref6_uniform.l6_ok Q rfl rfl))))))))))))))))
theorem fetterlockref6_uniform.slimOk : slimOk [(4, [])] (Try.f82.body.getD .skip) = true := by kernel_rfl
theorem fetterlockref6_uniform.resC : resC Try.prog aggs Try.f82.ntmps (slim [(4, [])] (Try.f82.body.getD .skip)) = some fetterlockref6_uniform.c := by kernel_rfl
theorem fetterlockref6_uniform.resR : resR Try.prog Try.f82.results.toList = some [.tm 2] := by kernel_rfl
theorem fetterlockref6_uniform.bodyEq : Try.f82.body = some (Try.f82.body.getD .skip) := by kernel_rfl
theorem fetterlockref6_uniform.run {a0 : AC} {H : AHeap} {Q : AHeap → Bool → Prop} (h : fetterlockref6_uniform.W a0 H Q) : Fn.fetterlockref6_uniform a0 H Q := by
  unfold Fn.fetterlockref6_uniform RunT
  exact run_of aggs_ok [(4, [])] Try.func82 fetterlockref6_uniform.bodyEq fetterlockref6_uniform.slimOk fetterlockref6_uniform.resC fetterlockref6_uniform.resR (Nat.le_of_ble_eq_true (by kernel_rfl)) (fetterlockref6_uniform.ok Q h)

def fetterlockref6_alike.c15 : RC := (.seq (.seq (.ops [.put 11 (.mov (.tm 5)),
    .put 12 (.mov (.tm 0)),
    .put 13 (.lens (.tm 12)),
    .put 14 (.cm .lt (.tm 11) (.tm 13))]) (.cond 14 .skip (.exit 0))) (.seq (.block 1 (.seq (.ops [.put 17 (.mov (.tm 0)),
    .put 18 (.mov (.tm 5)),
    .put 19 (.ia 1 (.tm 17) (.tm 18)),
    .put 20 (.ld false [.bool] (.tm 19)),
    .put 21 (.mov (.tm 1)),
    .put 22 (.mov (.tm 5)),
    .put 23 (.ia 1 (.tm 21) (.tm 22)),
    .put 24 (.ld false [.bool] (.tm 23)),
    .put 25 (.eqb true (.tm 20) (.tm 24))]) (.cond 25 (.seq (.ops [.put 4 (.mov (.ct (.one (.bool false))))]) .ret) .skip))) (.ops [.put 15 (.mov (.tm 5)),
    .put 16 (.ar .add (.tm 15) (.ct (.one (.int .i64 1)))),
    .put 5 (.mov (.tm 16))])))
def fetterlockref6_alike.c : RC := (.seq (.ops [.put 4 (.mov (.ct (.one (.bool false))))]) (.seq (.seq (.ops [.put 6 (.mov (.tm 0)),
    .put 7 (.lens (.tm 6)),
    .put 8 (.mov (.tm 1)),
    .put 9 (.lens (.tm 8)),
    .put 10 (.cm .ne (.tm 7) (.tm 9))]) (.cond 10 (.seq (.ops [.put 4 (.mov (.ct (.one (.bool false))))]) .ret) .skip)) (.seq (.seq (.ops [.put 5 (.mov (.ct (.one (.int .i64 0))))]) (.block 0 (.loop fetterlockref6_alike.c15))) (.seq (.ops [.put 4 (.mov (.ct (.one (.bool true))))]) .ret))))
abbrev fetterlockref6_alike.KQ (Q : AHeap → Bool → Prop) : AV → AHeap → Prop := fun v H => ∃ xs : Tup (flat [(false, [.bool])]), v = joinR (splitP [(false, [.bool])] (cellsOf (flat [(false, [.bool])]) xs)) ∧ app (flat [(false, [.bool])]) (Q H) xs
abbrev fetterlockref6_alike.K (Q : AHeap → Bool → Prop) : Ex → Env → AHeap → Prop := kTop [.tm 4] (fetterlockref6_alike.KQ Q)
abbrev fetterlockref6_alike.k11 (Q : AHeap → Bool → Prop) : Ex → Env → AHeap → Prop := kSeq (fun t H => wpC Try.prog (.seq (.ops [.put 4 (.mov (.ct (.one (.bool true))))]) .ret) t H (fetterlockref6_alike.K Q)) (fetterlockref6_alike.K Q)
def fetterlockref6_alike.R14 (s : Tup [.ac, .ac, .int .i64]) (t : Env) : Prop := t 0 = (.one (s.1)) ∧ t 1 = (.one (s.2.1)) ∧ t 5 = (.one (.int .i64 (s.2.2.1))) ∧ True
def fetterlockref6_alike.b14 (Q : AHeap → Bool → Prop) (Y14 : Tup [.ac, .ac, .int .i64] → AHeap → Prop) (x0 : AC) (x1 : AC) (x5 : Int) (H : AHeap) : Prop :=
  LenS x0 fun n_1 =>
  CondB (decide (x5 < n_1))
    (IA 1 x0 x5 fun q_2 =>
    Ld [.bool] H q_2 fun (v_3 : Bool) =>
    IA 1 x1 x5 fun q_4 =>
    Ld [.bool] H q_4 fun (v_5 : Bool) =>
    CondB (!(v_3 == v_5))
      (Q H false)
      (Y14 (x0, x1, ((IntKind.wrap .i64 (x5 + 1)) : Int), ()) H))
    (Q H true)
def fetterlockref6_alike.l14 (Q : AHeap → Bool → Prop) (x0 : AC) (x1 : AC) (x5 : Int) (H : AHeap) : Prop := LoopT (Tup [.ac, .ac, .int .i64]) (fun Y s H => fetterlockref6_alike.b14 Q Y (s.1) (s.2.1) (s.2.2.1) H) (x0, x1, x5, ()) H
def fetterlockref6_alike.W (a0 : AC) (a1 : AC) (H : AHeap) (Q : AHeap → Bool → Prop) : Prop :=
  LenS a0 fun n_1 =>
  LenS a1 fun n_2 =>
  CondB (n_1 != n_2)
    (Q H false)
    (fetterlockref6_alike.l14 Q a0 a1 0 H)
theorem fetterlockref6_alike.b14_ok (Q : AHeap → Bool → Prop) (Y14 : Tup [.ac, .ac, .int .i64] → AHeap → Prop) (X14 : Env → AHeap → Prop) (hX14 : ∀ s t H, fetterlockref6_alike.R14 s t → Y14 s H → X14 t H) {x0 : AC} {x1 : AC} {x5 : Int} {H : AHeap} (j : Env) : fetterlockref6_alike.b14 Q Y14 x0 x1 x5 H → wpC Try.prog fetterlockref6_alike.c15 (upd (upd (upd j 0 (.one x0)) 1 (.one x1)) 5 (.one (.int .i64 x5))) H (kSeq X14 (kBlk 0 (fetterlockref6_alike.k11 Q))) := c_seq (c_seq (c_ops (s_cons (w_put (o_mov rfl (s_cons (w_put (o_mov rfl (s_cons (w_put (o_lens rfl (fun n_1 => s_cons (w_put (o_lt rfl rfl (s_nil (k_seq (c_if rfl (c_skip (k_seq (c_seq (c_blk (c_seq (c_ops (s_cons (w_put (o_mov rfl (s_cons (w_put (o_mov rfl (s_cons (w_put (o_ia rfl rfl (fun q_2 => s_cons (w_put (o_ld1 rfl (fun (v_3 : Bool) => s_cons (w_put (o_mov rfl (s_cons (w_put (o_mov rfl (s_cons (w_put (o_ia rfl rfl (fun q_4 => s_cons (w_put (o_ld1 rfl (fun (v_5 : Bool) => s_cons (w_put (o_neb rfl rfl (s_nil (k_seq (c_if rfl (c_seq (c_ops (s_cons (w_put (o_mov rfl (s_nil (k_seq (c_ret (k_blkR (k_seqR (k_seqR (k_blkR (k_seqR (k_topR (r_one rfl (r_nil (fun h => ⟨((false : Bool), ()), rfl, h⟩))))))))))))))))) (c_skip (k_blk (k_seq (c_ops (s_cons (w_put (o_mov rfl (s_cons (w_put (o_add rfl rfl (s_cons (w_put (o_mov rfl (s_nil (k_seq (hX14 _ _ _ ⟨rfl, rfl, rfl, trivial⟩)))))))))))))))))))))))))))))))))))))))))))))))))))) (c_exit (k_seqE (k_seqE (k_blkH (k_seq (c_seq (c_ops (s_cons (w_put (o_mov rfl (s_nil (k_seq (c_ret (k_topR (r_one rfl (r_nil (fun h => ⟨((true : Bool), ()), rfl, h⟩))))))))))))))))))))))))))))))))))
theorem fetterlockref6_alike.l14_ok (Q : AHeap → Bool → Prop) {x0 : AC} {x1 : AC} {x5 : Int} {H : AHeap} {t : Env} (h0 : t 0 = (.one x0)) (h1 : t 1 = (.one x1)) (h5 : t 5 = (.one (.int .i64 x5))) : fetterlockref6_alike.l14 Q x0 x1 x5 H → wpC Try.prog (.loop fetterlockref6_alike.c15) t H (kBlk 0 (fetterlockref6_alike.k11 Q)) :=
  m_loop fetterlockref6_alike.R14 ⟨h0, h1, h5, trivial⟩ fun X Y hX s t H hR hB => by
    have g := fetterlockref6_alike.b14_ok Q Y X hX t hB
    rw [upd_self hR.1] at g
    rw [upd_self hR.2.1] at g
    rw [upd_self hR.2.2.1] at g
    exact g
theorem fetterlockref6_alike.ok {a0 : AC} {a1 : AC} {H : AHeap} (Q : AHeap → Bool → Prop) : fetterlockref6_alike.W a0 a1 H Q → wpF Try.prog fetterlockref6_alike.c [.tm 4] (envOf [(.one a0), (.one a1)]) H (fetterlockref6_alike.KQ Q) := c_seq (c_ops (s_cons (w_put (o_mov rfl (s_nil (k_seq (c_seq (c_seq (c_ops (s_cons (w_put (o_mov rfl (s_cons (w_put (o_lens rfl (fun n_1 => s_cons (w_put (o_mov rfl (s_cons (w_put (o_lens rfl (fun n_2 => s_cons (w_put (o_ne rfl rfl (s_nil (k_seq (c_if rfl (c_seq (c_ops (s_cons (w_put (o_mov rfl (s_nil (k_seq (c_ret (k_seqR (k_topR (r_one rfl (r_nil (fun h => ⟨((false : Bool), ()), rfl, h⟩))))))))))))) (c_skip (k_seq (c_seq (c_seq (c_ops (s_cons (w_put (o_mov rfl (s_nil (k_seq (c_blk (fetterlockref6_alike.l14_ok Q rfl rfl rfl)))))))))))))))))))))))))))))))))))))))
theorem fetterlockref6_alike.slimOk : slimOk [(6, [])] (Try.f83.body.getD .skip) = true := by kernel_rfl
theorem fetterlockref6_alike.resC : resC Try.prog aggs Try.f83.ntmps (slim [(6, [])] (Try.f83.body.getD .skip)) = some fetterlockref6_alike.c := by kernel_rfl
theorem fetterlockref6_alike.resR : resR Try.prog Try.f83.results.toList = some [.tm 4] := by kernel_rfl
theorem fetterlockref6_alike.bodyEq : Try.f83.body = some (Try.f83.body.getD .skip) := by kernel_rfl
theorem fetterlockref6_alike.run {a0 : AC} {a1 : AC} {H : AHeap} {Q : AHeap → Bool → Prop} (h : fetterlockref6_alike.W a0 a1 H Q) : Fn.fetterlockref6_alike a0 a1 H Q := by
  unfold Fn.fetterlockref6_alike RunT
  exact run_of aggs_ok [(6, [])] Try.func83 fetterlockref6_alike.bodyEq fetterlockref6_alike.slimOk fetterlockref6_alike.resC fetterlockref6_alike.resR (Nat.le_of_ble_eq_true (by kernel_rfl)) (fetterlockref6_alike.ok Q h)

def solve_manager_add_1.c : RC := (.seq (.ops [.put 3 (.mov (.ct (.one (.int .i64 0))))]) (.seq (.seq (.ops [.put 4 (.mov (.tm 0)),
    .put 5 (.cm .lt (.tm 4) (.ct (.one (.int .i64 0))))]) (.cond 5 (.seq (.ops [.put 6 (.mov (.tm 0)),
    .put 3 (.mov (.tm 6))]) .ret) .skip)) (.seq (.ops [.put 7 (.ld false [.ac] (.tm 1)),
    .put 8 (.mov (.tm 0)),
    .put 9 (.ia 1 (.tm 7) (.tm 8)),
    .put 10 (.ld false [.int .i64] (.tm 9)),
    .put 3 (.mov (.tm 10))]) .ret)))
abbrev solve_manager_add_1.KQ (Q : AHeap → Int → Prop) : AV → AHeap → Prop := fun v H => ∃ xs : Tup (flat [(false, [.int .i64])]), v = joinR (splitP [(false, [.int .i64])] (cellsOf (flat [(false, [.int .i64])]) xs)) ∧ app (flat [(false, [.int .i64])]) (Q H) xs
abbrev solve_manager_add_1.K (Q : AHeap → Int → Prop) : Ex → Env → AHeap → Prop := kTop [.tm 3] (solve_manager_add_1.KQ Q)
def solve_manager_add_1.W (a0 : Int) (a1 : AC) (H : AHeap) (Q : AHeap → Int → Prop) : Prop :=
  CondB (decide (a0 < 0))
    (Q H a0)
    (Ld [.ac] H a1 fun (v_1 : AC) =>
    IA 1 v_1 a0 fun q_2 =>
    Ld [.int .i64] H q_2 fun (v_3 : Int) =>
    Q H v_3)
theorem solve_manager_add_1.ok {a0 : Int} {a1 : AC} {H : AHeap} (Q : AHeap → Int → Prop) : solve_manager_add_1.W a0 a1 H Q → wpF Try.prog solve_manager_add_1.c [.tm 3] (envOf [(.one (.int .i64 a0)), (.one a1)]) H (solve_manager_add_1.KQ Q) := c_seq (c_ops (s_cons (w_put (o_mov rfl (s_nil (k_seq (c_seq (c_seq (c_ops (s_cons (w_put (o_mov rfl (s_cons (w_put (o_lt rfl rfl (s_nil (k_seq (c_if rfl (c_seq (c_ops (s_cons (w_put (o_mov rfl (s_cons (w_put (o_mov rfl (s_nil (k_seq (c_ret (k_seqR (k_topR (r_one rfl (r_nil (fun h => ⟨((a0 : Int), ()), rfl, h⟩)))))))))))))))) (c_skip (k_seq (c_seq (c_ops (s_cons (w_put (o_ld1 rfl (fun (v_1 : AC) => s_cons (w_put (o_mov rfl (s_cons (w_put (o_ia rfl rfl (fun q_2 => s_cons (w_put (o_ld1 rfl (fun (v_3 : Int) => s_cons (w_put (o_mov rfl (s_nil (k_seq (c_ret (k_topR (r_one rfl (r_nil (fun h => ⟨((v_3 : Int), ()), rfl, h⟩))))))))))))))))))))))))))))))))))))))))))))
theorem solve_manager_add_1.slimOk : slimOk [] (Try.f84.body.getD .skip) = true := by kernel_rfl
theorem solve_manager_add_1.resC : resC Try.prog aggs Try.f84.ntmps (slim [] (Try.f84.body.getD .skip)) = some solve_manager_add_1.c := by kernel_rfl
theorem solve_manager_add_1.resR : resR Try.prog Try.f84.results.toList = some [.tm 3] := by kernel_rfl
theorem solve_manager_add_1.bodyEq : Try.f84.body = some (Try.f84.body.getD .skip) := by kernel_rfl
theorem solve_manager_add_1.run {a0 : Int} {a1 : AC} {H : AHeap} {Q : AHeap → Int → Prop} (h : solve_manager_add_1.W a0 a1 H Q) : Fn.solve_manager_add_1 a0 a1 H Q := by
  unfold Fn.solve_manager_add_1 RunT
  exact run_of aggs_ok [] Try.func84 solve_manager_add_1.bodyEq solve_manager_add_1.slimOk solve_manager_add_1.resC solve_manager_add_1.resR (Nat.le_of_ble_eq_true (by kernel_rfl)) (solve_manager_add_1.ok Q h)

def slices_ContainsFunc_fetterlock_api_Node_fetterlock_api_Node.c : RC := (.seq (.ops [.put 4 (.mov (.ct (.one (.bool false))))]) (.seq (.ops [.put 5 (.mov (.tm 0)),
    .put 6 (.mov (.tm 1)),
    .put 7 (.call 99 [(.tm 5), (.tm 6)]),
    .put 8 (.cm .ge (.tm 7) (.ct (.one (.int .i64 0)))),
    .put 4 (.mov (.tm 8))]) .ret))
abbrev slices_ContainsFunc_fetterlock_api_Node_fetterlock_api_Node.KQ (Q : AHeap → Bool → Prop) : AV → AHeap → Prop := fun v H => ∃ xs : Tup (flat [(false, [.bool])]), v = joinR (splitP [(false, [.bool])] (cellsOf (flat [(false, [.bool])]) xs)) ∧ app (flat [(false, [.bool])]) (Q H) xs
abbrev slices_ContainsFunc_fetterlock_api_Node_fetterlock_api_Node.K (Q : AHeap → Bool → Prop) : Ex → Env → AHeap → Prop := kTop [.tm 4] (slices_ContainsFunc_fetterlock_api_Node_fetterlock_api_Node.KQ Q)
def slices_ContainsFunc_fetterlock_api_Node_fetterlock_api_Node.W (a0 : AC) (a1 : AC) (H : AHeap) (Q : AHeap → Bool → Prop) : Prop :=
  Fn.slices_IndexFunc_fetterlock_api_Node_fetterlock_api_Node a0 a1 H fun H_1 (v_2 : Int) =>
  Q H_1 (decide (v_2 ≥ 0))
theorem slices_ContainsFunc_fetterlock_api_Node_fetterlock_api_Node.ok {a0 : AC} {a1 : AC} {H : AHeap} (Q : AHeap → Bool → Prop) : slices_ContainsFunc_fetterlock_api_Node_fetterlock_api_Node.W a0 a1 H Q → wpF Try.prog slices_ContainsFunc_fetterlock_api_Node_fetterlock_api_Node.c [.tm 4] (envOf [(.one a0), (.one a1)]) H (slices_ContainsFunc_fetterlock_api_Node_fetterlock_api_Node.KQ Q) := c_seq (c_ops (s_cons (w_put (o_mov rfl (s_nil (k_seq (c_seq (c_ops (s_cons (w_put (o_mov rfl (s_cons (w_put (o_mov rfl (s_cons (w_put (o_call rfl (cv_1 (fun H_1 (v_2 : Int) => s_cons (w_put (o_ge rfl rfl (s_cons (w_put (o_mov rfl (s_nil (k_seq (c_ret (k_topR (r_one rfl (r_nil (fun h => ⟨(((decide (v_2 ≥ 0)) : Bool), ()), rfl, h⟩)))))))))))))))))))))))))))))))
theorem slices_ContainsFunc_fetterlock_api_Node_fetterlock_api_Node.slimOk : slimOk [] (Try.f85.body.getD .skip) = true := by kernel_rfl
theorem slices_ContainsFunc_fetterlock_api_Node_fetterlock_api_Node.resC : resC Try.prog aggs Try.f85.ntmps (slim [] (Try.f85.body.getD .skip)) = some slices_ContainsFunc_fetterlock_api_Node_fetterlock_api_Node.c := by kernel_rfl
theorem slices_ContainsFunc_fetterlock_api_Node_fetterlock_api_Node.resR : resR Try.prog Try.f85.results.toList = some [.tm 4] := by kernel_rfl
theorem slices_ContainsFunc_fetterlock_api_Node_fetterlock_api_Node.bodyEq : Try.f85.body = some (Try.f85.body.getD .skip) := by kernel_rfl
theorem slices_ContainsFunc_fetterlock_api_Node_fetterlock_api_Node.run {a0 : AC} {a1 : AC} {H : AHeap} {Q : AHeap → Bool → Prop} (h : slices_ContainsFunc_fetterlock_api_Node_fetterlock_api_Node.W a0 a1 H Q) : Fn.slices_ContainsFunc_fetterlock_api_Node_fetterlock_api_Node a0 a1 H Q := by
  unfold Fn.slices_ContainsFunc_fetterlock_api_Node_fetterlock_api_Node RunT
  exact run_of aggs_ok [] Try.func85 slices_ContainsFunc_fetterlock_api_Node_fetterlock_api_Node.bodyEq slices_ContainsFunc_fetterlock_api_Node_fetterlock_api_Node.slimOk slices_ContainsFunc_fetterlock_api_Node_fetterlock_api_Node.resC slices_ContainsFunc_fetterlock_api_Node_fetterlock_api_Node.resR (Nat.le_of_ble_eq_true (by kernel_rfl)) (slices_ContainsFunc_fetterlock_api_Node_fetterlock_api_Node.ok Q h)

def solve_varsFault_1.c : RC := (.seq (.ops [.put 2 (.box 77 (.tm 0)),
    .put 3 (.mov (.ct (.one (.bool false))))]) (.seq (.ops [.put 4 (.fa 0 (.tm 2)),
    .put 5 (.ld false [.int .i64] (.tm 4)),
    .put 6 (.ld false [.int .i64] (.tm 1)),
    .put 7 (.cm .ge (.tm 5) (.tm 6)),
    .put 3 (.mov (.tm 7))]) .ret))
abbrev solve_varsFault_1.KQ (Q : AHeap → Bool → Prop) : AV → AHeap → Prop := fun v H => ∃ xs : Tup (flat [(false, [.bool])]), v = joinR (splitP [(false, [.bool])] (cellsOf (flat [(false, [.bool])]) xs)) ∧ app (flat [(false, [.bool])]) (Q H) xs
abbrev solve_varsFault_1.K (Q : AHeap → Bool → Prop) : Ex → Env → AHeap → Prop := kTop [.tm 3] (solve_varsFault_1.KQ Q)
def solve_varsFault_1.W (a0_0 : Int) (a0_1 : Int) (a0_2 : Int) (a1 : AC) (H : AHeap) (Q : AHeap → Bool → Prop) : Prop :=
  New 77 [(.int .i64 a0_0), (.int .i64 a0_1), (.int .i64 a0_2)] H fun p_1 H_2 =>
  FA 0 p_1 fun q_3 =>
  Ld [.int .i64] H_2 q_3 fun (v_4 : Int) =>
  Ld [.int .i64] H_2 a1 fun (v_5 : Int) =>
  Q H_2 (decide (v_4 ≥ v_5))
theorem solve_varsFault_1.ok {a0_0 : Int} {a0_1 : Int} {a0_2 : Int} {a1 : AC} {H : AHeap} (Q : AHeap → Bool → Prop) : solve_varsFault_1.W a0_0 a0_1 a0_2 a1 H Q → wpF Try.prog solve_varsFault_1.c [.tm 3] (envOf [(.agg [(.int .i64 a0_0), (.int .i64 a0_1), (.int .i64 a0_2)]), (.one a1)]) H (solve_varsFault_1.KQ Q) := c_seq (c_ops (s_cons (w_put (o_box rfl (fun p_1 H_2 => s_cons (w_put (o_mov rfl (s_nil (k_seq (c_seq (c_ops (s_cons (w_put (o_fa rfl (fun q_3 => s_cons (w_put (o_ld1 rfl (fun (v_4 : Int) => s_cons (w_put (o_ld1 rfl (fun (v_5 : Int) => s_cons (w_put (o_ge rfl rfl (s_cons (w_put (o_mov rfl (s_nil (k_seq (c_ret (k_topR (r_one rfl (r_nil (fun h => ⟨(((decide (v_4 ≥ v_5)) : Bool), ()), rfl, h⟩)))))))))))))))))))))))))))))))))
theorem solve_varsFault_1.slimOk : slimOk [] (Try.f86.body.getD .skip) = true := by kernel_rfl
theorem solve_varsFault_1.resC : resC Try.prog aggs Try.f86.ntmps (slim [] (Try.f86.body.getD .skip)) = some solve_varsFault_1.c := by kernel_rfl
theorem solve_varsFault_1.resR : resR Try.prog Try.f86.results.toList = some [.tm 3] := by kernel_rfl
theorem solve_varsFault_1.bodyEq : Try.f86.body = some (Try.f86.body.getD .skip) := by kernel_rfl
theorem solve_varsFault_1.run {a0_0 : Int} {a0_1 : Int} {a0_2 : Int} {a1 : AC} {H : AHeap} {Q : AHeap → Bool → Prop} (h : solve_varsFault_1.W a0_0 a0_1 a0_2 a1 H Q) : Fn.solve_varsFault_1 a0_0 a0_1 a0_2 a1 H Q := by
  unfold Fn.solve_varsFault_1 RunT
  exact run_of aggs_ok [] Try.func86 solve_varsFault_1.bodyEq solve_varsFault_1.slimOk solve_varsFault_1.resC solve_varsFault_1.resR (Nat.le_of_ble_eq_true (by kernel_rfl)) (solve_varsFault_1.ok Q h)
end Go.Proofs.Ytanaaabejeeakaa
end
section
/- What the functions on tables come to: the table of a formula, uniform, alike. -/
namespace Go.Proofs.Ytanaaabejeeakaa
open Go.AI

theorem turned_c {x : Nat} (hx : x < 65536) {H : AHeap} : Fn.fetterlockref6_turned (x : Int) H fun H' r => H' = H ∧ ∃ y : Nat, r = (y : Int) ∧ y < 65536 ∧ ∀ w, w < 16 → y.testBit w = x.testBit (15 - w) := by
  refine fetterlockref6_turned.run ?_
  unfold fetterlockref6_turned.W fetterlockref6_turned.l8
  refine LoopT.rule (fun m s0 H2 => ∃ (i y : Nat), i ≤ 16 ∧ m = 16 - i ∧ s0 = ((x : Int), (y : Int), (i : Int), ()) ∧ H2 = H ∧ y < 65536 ∧ ∀ w, w < 16 → y.testBit w = (decide (15 - w < i) && x.testBit (15 - w))) 16 ⟨0, 0, by omega, by omega, rfl, rfl, by omega, by simp⟩ ?_
  rintro m s0 H2 back ⟨i, y, hi, rfl, rfl, rfl, hy, hb⟩ hback
  simp only [fetterlockref6_turned.b8]
  refine CondB.dec (fun hlt => ?_) fun hge => ?_
  · have hi' : i < 16 := by omega
    have hw : IntKind.wrap .i64 (15 - (i : Int)) = ((15 - i : Nat) : Int) := (wrap64 (by omega) (by omega)).trans (by omega)
    rw [hw, bit_nat (by omega) (by omega)]
    refine GE0.mk (by omega) (GE0.mk (by omega) ?_)
    obtain ⟨t, ht⟩ : ∃ t : Nat, t = if x.testBit i then 1 else 0 := ⟨_, rfl⟩
    have ht1 : t ≤ 1 := by rw [ht]; split <;> omega
    have hc : (if x.testBit i = true then (1 : Int) else 0) = (t : Int) := by rw [ht]; split <;> rfl
    have hsh : t <<< (15 - i) < 65536 := by
      rw [Nat.shiftLeft_eq]
      have : 2 ^ (15 - i) ≤ 2 ^ 15 := Nat.pow_le_pow_right (by omega) (by omega)
      have : t * 2 ^ (15 - i) ≤ 1 * 2 ^ (15 - i) := Nat.mul_le_mul_right _ ht1
      omega
    rw [hc, shl_nat (by omega) (by omega), or_nat (by omega) (by omega)]
    refine hback (16 - (i + 1)) _ _ (by omega) ⟨i + 1, y ||| t <<< (15 - i), by omega, rfl, ?_, rfl, ?_, fun w hw => ?_⟩
    · exact tc rfl (tc rfl (tc ((wrap64 (by omega) (by omega)).trans (by omega)) rfl))
    · exact Nat.or_lt_two_pow (n := 16) hy hsh
    · rw [Nat.testBit_or, Nat.testBit_shiftLeft, hb w hw, ht]
      by_cases h1 : 15 - w < i
      · have : ¬ (15 - i ≤ w ∧ w - (15 - i) = 0) := by omega
        by_cases h2 : 15 - i ≤ w
        · have h3 : w - (15 - i) ≠ 0 := by omega
          have : (if x.testBit i = true then 1 else 0 : Nat).testBit (w - (15 - i)) = false := by
            split
            · obtain ⟨k, hk⟩ : ∃ k, w - (15 - i) = k + 1 := ⟨w - (15 - i) - 1, by omega⟩
              rw [hk, Nat.testBit_succ]; simp
            · simp
          simp [h1, h2, this, show 15 - w < i + 1 by omega]
        · simp [h1, h2, show 15 - w < i + 1 by omega]
      · by_cases h2 : 15 - w = i
        · have h3 : 15 - i ≤ w := by omega
          have h4 : w - (15 - i) = 0 := by omega
          rw [h4, h2]
          simp only [h3, decide_true, Bool.true_and, show ¬ i < i from by omega, decide_false, Bool.false_and, Bool.false_or, show i < i + 1 from by omega]
          cases x.testBit i <;> simp
        · have h3 : ¬ 15 - i ≤ w := by omega
          simp [h1, h3, show ¬ 15 - w < i + 1 by omega]
  · have : i = 16 := by omega
    subst this
    refine ⟨by trivial, y, by trivial, hy, fun w hw => ?_⟩
    rw [hb w hw]; simp; omega

theorem val_congr {ρ ρ' : Nat → Bool} (h : ∀ v, v < 16 → ρ v = ρ' v) : ∀ (n : Nat) (f : Fm), f.size ≤ n → f.fault = 0 → f.val ρ = f.val ρ' := by
  intro n
  induction n with
  | zero => intro f hn; have := f.size_pos; omega
  | succ n ih =>
    intro f hn hf
    cases f with
    | mk op var ks =>
      obtain ⟨h1, h2, h3, h4, h5, h6⟩ := Fm.ok_inv hf
      have hks : Fm.vals ρ ks = Fm.vals ρ' ks := by
        rw [Fm.vals_map, Fm.vals_map]
        apply List.map_congr_left
        intro k hk
        obtain ⟨i, hi⟩ := List.getElem?_of_mem hk
        have := Fm.size_mem ks i k hi
        rw [Fm.size] at hn
        exact ih k (by omega) (h6 k hk)
      rw [Fm.val, Fm.val, hks]
      by_cases e : op = 1
      · have : var.toNat < 16 := by rw [Fm.most, if_pos e] at h5; omega
        simp [e, h _ this]
      · simp [e]

theorem true_c {x : Nat} (hx : x < 65536) : ∀ (n : Nat) {op var : Int} {s : AC} {f : Fm} {H : AHeap}, f.size ≤ n → f.size < 4611686018427387904 → f.fault = 0 → FmAt H op var s f →
    Fn.fetterlockref6_True op var s (x : Int) H fun H' r => r = f.val (fun v => x.testBit v) ∧ Kp H H' := by
  intro n
  induction n with
  | zero => intro op var s f H hn; have := f.size_pos; omega
  | succ n ih =>
    intro op var s f H hn hmax hok hf
    obtain ⟨kids, rows, rfl, hl, hs, hk⟩ := hf.inv
    obtain ⟨o1, o2, o3, o4, o5, o6⟩ := Fm.ok_inv hok
    have hsz : Fm.size (.mk op var kids) = Fm.sizes kids + 1 := by rw [Fm.size]
    have hlen := Fm.sizes_len kids
    have hvl : Fm.vals (fun v => x.testBit v) kids = kids.map (Fm.val fun v => x.testBit v) := Fm.vals_map _ _
    refine fetterlockref6_True.run ?_
    unfold fetterlockref6_True.W
    refine New.own fun b H1 hb hs1 ho hkp => ?_
    refine FA.mk (Ld.oi ho rfl ?_)
    have hv0 := Fm.val.eq_1 (fun v => x.testBit v) op var kids
    -- a call for a kid
    have kid : ∀ {H2 : AHeap} (i : Nat) (r : Int × Int × AC) (k : Fm), Kp H H2 → rows[i]? = some r → kids[i]? = some k → Fn.fetterlockref6_True r.1 r.2.1 r.2.2 (x : Int) H2 fun H' q => q = k.val (fun v => x.testBit v) ∧ Kp H2 H' := by
      intro H2 i r k hk2 hri hki
      have hle := Fm.size_mem kids i k hki
      exact ih (by omega) (by omega) (o6 k (List.mem_of_getElem? hki)) ((hk i r k hri hki).kp hk2)
    refine CondB.eq (fun e => ?_) fun e1 => ?_
    · refine FA.mk (Ld.oi ho rfl (GE0.mk o4 ⟨?_, hkp⟩))
      have hv : var ≤ 15 := by rw [Fm.most, if_pos e] at o5; exact o5
      obtain ⟨w, rfl⟩ := Int.eq_ofNat_of_zero_le o4
      rw [bit_nat (by omega) (by omega), hv0, if_pos e, Int.toNat_natCast]
      cases x.testBit w <;> rfl
    refine FA.mk (Ld.oi ho rfl (CondB.eq (fun e => ?_) fun e2 => ?_))
    · refine FA.mk (Ld.oi ho rfl ⟨?_, hkp⟩)
      rw [hv0, if_neg (by omega), if_pos e, Bool.eq_iff_iff]; simp
    refine FA.mk (Ld.oi ho rfl (CondB.eq (fun e => ?_) fun e3 => ?_))
    · have hkl : kids.length = 1 := by have := o3; simp [Fm.want, e] at this; omega
      obtain ⟨r, k, hri, hki, hro⟩ := kid_at hl (i := 0) (by omega)
      refine FA.mk (Ld.oc ho rfl (IA.of (hs.kp hkp) (by omega) (by exact hro) fun b' o' hld => Ld.a3 hld r.1 r.2.1 r.2.2 rfl rfl ?_))
      refine RunT.imp ?_ (kid 0 r k hkp hri hki)
      rintro H2 q ⟨rfl, hkp2⟩
      refine ⟨?_, hkp.trans hkp2⟩
      rw [hv0, if_neg (by omega), if_neg (by omega), if_pos e, hvl]
      cases kids with
      | nil => simp at hkl
      | cons a l => simp at hki; subst hki; rfl
    refine FA.mk (Ld.oi ho rfl (CondB.eq (fun e => ?_) fun e6 => ?_))
    · have hkl : kids.length = 2 := by have := o3; simp [Fm.want, e] at this; omega
      obtain ⟨r, k, hri, hki, hro⟩ := kid_at hl (i := 0) (by omega)
      obtain ⟨r', k', hri', hki', hro'⟩ := kid_at hl (i := 1) (by omega)
      refine FA.mk (Ld.oc ho rfl (IA.of (hs.kp hkp) (by omega) (by exact hro) fun b' o' hld => Ld.a3 hld r.1 r.2.1 r.2.2 rfl rfl ?_))
      refine RunT.imp ?_ (kid 0 r k hkp hri hki)
      rintro H2 q ⟨rfl, hkp2⟩
      refine FA.mk (Ld.oc (ho.kp hkp2) rfl (IA.of' (hs.kp (hkp.trans hkp2)) (by omega) (by exact hro') fun b' o' hld => Ld.a3 (hld _ (hs.kp (hkp.trans hkp2))) r'.1 r'.2.1 r'.2.2 rfl rfl ?_))
      refine RunT.imp ?_ (kid 1 r' k' (hkp.trans hkp2) hri' hki')
      rintro H3 q ⟨rfl, hkp3⟩
      refine ⟨Same2.mk ((ho.cell rfl).trans ((ho.kp hkp2).cell rfl).symm), Same2.mk ((hld _ (hs.kp hkp)).trans (hld _ (hs.kp (hkp.trans hkp2))).symm), ?_, (hkp.trans hkp2).trans hkp3⟩
      rw [hv0, if_neg (by omega), if_neg (by omega), if_neg (by omega), if_pos e, hvl]
      cases kids with
      | nil => simp at hkl
      | cons a l => cases l with
        | nil => simp at hkl
        | cons a' l => simp at hki hki'; subst hki hki'; rfl
    refine FA.mk (Ld.oi ho rfl (CondB.eq (fun e => ?_) fun e7 => ?_))
    · have hkl : kids.length = 3 := by have := o3; simp [Fm.want, e] at this; omega
      obtain ⟨r, k, hri, hki, hro⟩ := kid_at hl (i := 0) (by omega)
      obtain ⟨r', k', hri', hki', hro'⟩ := kid_at hl (i := 1) (by omega)
      obtain ⟨r'', k'', hri'', hki'', hro''⟩ := kid_at hl (i := 2) (by omega)
      refine FA.mk (Ld.oc ho rfl (IA.of (hs.kp hkp) (by omega) (by exact hro) fun b' o' hld => Ld.a3 hld r.1 r.2.1 r.2.2 rfl rfl ?_))
      refine RunT.imp ?_ (kid 0 r k hkp hri hki)
      rintro H2 q ⟨rfl, hkp2⟩
      have hv : Fm.val (fun v => x.testBit v) (.mk op var kids) = if k.val (fun v => x.testBit v) then k'.val (fun v => x.testBit v) else k''.val (fun v => x.testBit v) := by
        rw [hv0, if_neg (by omega), if_neg (by omega), if_neg (by omega), if_neg (by omega), if_pos e, hvl]
        cases kids with
        | nil => simp at hkl
        | cons a l => cases l with
          | nil => simp at hkl
          | cons a' l => cases l with
            | nil => simp at hkl
            | cons a'' l => simp at hki hki' hki''; subst hki hki' hki''; rfl
      refine CondB.mk (fun hc => ?_) fun hc => ?_
      · refine FA.mk (Ld.oc (ho.kp hkp2) rfl (IA.of (hs.kp (hkp.trans hkp2)) (by omega) (by exact hro') fun b' o' hld => Ld.a3 hld r'.1 r'.2.1 r'.2.2 rfl rfl ?_))
        refine RunT.imp ?_ (kid 1 r' k' (hkp.trans hkp2) hri' hki')
        rintro H3 q ⟨rfl, hkp3⟩
        exact ⟨by rw [hv, hc]; rfl, (hkp.trans hkp2).trans hkp3⟩
      · refine FA.mk (Ld.oc (ho.kp hkp2) rfl (IA.of (hs.kp (hkp.trans hkp2)) (by omega) (by exact hro'') fun b' o' hld => Ld.a3 hld r''.1 r''.2.1 r''.2.2 rfl rfl ?_))
        refine RunT.imp ?_ (kid 2 r'' k'' (hkp.trans hkp2) hri'' hki'')
        rintro H3 q ⟨rfl, hkp3⟩
        exact ⟨by rw [hv, hc]; rfl, (hkp.trans hkp2).trans hkp3⟩
    have hop : op = 4 ∨ op = 5 := by omega
    have hv : Fm.val (fun v => x.testBit v) (.mk op var kids) = if op = 5 then (Fm.vals (fun v => x.testBit v) kids).any id else (Fm.vals (fun v => x.testBit v) kids).all id := by
      rw [hv0, if_neg (by omega), if_neg (by omega), if_neg (by omega), if_neg (by omega), if_neg (by omega)]
    unfold fetterlockref6_True.l54
    refine LoopT.rule (fun m s0 H2 => ∃ (i : Nat), i ≤ kids.length ∧ m = kids.length - i ∧ s0 = ((x : Int), .ptr (some (b, 0)), (i : Int), ()) ∧ Kp H H2 ∧ Own H2 b [.int .i64 op, .int .i64 var, s] ∧
      ∀ j k, j < i → kids[j]? = some k → k.val (fun v => x.testBit v) = (op == 4)) kids.length ⟨0, by omega, by omega, rfl, hkp, ho, fun j k h => by omega⟩ ?_
    rintro m s0 H2 back ⟨i, hi, rfl, rfl, hkp2, ho2, hall⟩ hback
    simp only [fetterlockref6_True.b54]
    refine FA.mk (Ld.oc ho2 rfl (LenS.of (hs.kp hkp2) ?_))
    rw [List.length_map, hl]
    refine CondB.dec (fun hlt => ?_) fun hge => ?_
    · have hlt' : i < kids.length := by omega
      obtain ⟨r, k, hri, hki, hro⟩ := kid_at hl hlt'
      refine FA.mk (Ld.oc ho2 rfl (IA.of (hs.kp hkp2) (by omega) (by rw [Int.toNat_natCast]; exact hro) fun b' o' hld => Ld.a3 hld r.1 r.2.1 r.2.2 rfl rfl ?_))
      refine RunT.imp ?_ (kid i r k hkp2 hri hki)
      rintro H3 q ⟨rfl, hkp3⟩
      have ho3 := ho2.kp hkp3
      refine FA.mk (Ld.oi ho3 rfl ⟨Same2.mk ((ho2.cell rfl).trans (ho3.cell rfl).symm), ?_⟩)
      refine CondB.mk (fun hc => ?_) fun hc => ?_
      · refine FA.mk (Ld.oi ho3 rfl ⟨?_, hkp2.trans hkp3⟩)
        rw [hv]
        have hmem : k.val (fun v => x.testBit v) ∈ Fm.vals (fun v => x.testBit v) kids := by rw [hvl]; exact List.mem_map_of_mem (List.mem_of_getElem? hki)
        rcases hop with e | e
        · rw [e] at hc ⊢
          have hf : k.val (fun v => x.testBit v) = false := by simpa using hc
          rw [hf] at hmem
          rw [if_neg (by omega)]
          symm
          rw [show ((4 : Int) == 5) = false from rfl, List.all_eq_false]
          exact ⟨false, hmem, by simp⟩
        · rw [e] at hc ⊢
          have hf : k.val (fun v => x.testBit v) = true := by simpa using hc
          rw [hf] at hmem
          rw [if_pos rfl]
          symm
          rw [show ((5 : Int) == 5) = true from rfl, List.any_eq_true]
          exact ⟨true, hmem, rfl⟩
      · refine hback (kids.length - (i + 1)) _ _ (by omega) ⟨i + 1, by omega, rfl, ?_, hkp2.trans hkp3, ho3, fun j k' hj hkj => ?_⟩
        · exact tc rfl (tc rfl (tc ((wrap64 (by omega) (by omega)).trans (by omega)) rfl))
        · by_cases hji : j = i
          · subst hji
            rw [hki] at hkj
            cases hkj
            simpa using hc
          · exact hall j k' (by omega) hkj
    · refine FA.mk (Ld.oi ho2 rfl ⟨?_, hkp2⟩)
      have hall' : ∀ y ∈ Fm.vals (fun v => x.testBit v) kids, y = (op == 4) := by
        intro y hy
        rw [hvl] at hy
        obtain ⟨k, hkm, rfl⟩ := List.mem_map.1 hy
        obtain ⟨j, hj⟩ := List.getElem?_of_mem hkm
        have := (List.getElem?_eq_some_iff.1 hj).1
        exact hall j k (by omega) hj
      rw [hv]
      rcases hop with e | e
      · subst e
        rw [if_neg (by omega)]
        symm
        rw [show ((4 : Int) == 4) = true from rfl, List.all_eq_true]
        intro y hy; rw [hall' y hy]; rfl
      · subst e
        rw [if_pos rfl]
        symm
        rw [show ((5 : Int) == 4) = false from rfl, List.any_eq_false]
        intro y hy; rw [hall' y hy]; simp

/-- The function of an entry of a table. -/
def rho (i : Nat) : Nat → Bool := fun v => i.testBit (15 - v)
def boolRows (t : List Bool) : List (List AC) := t.map fun b => [.bool b]

theorem FormulaTable_c {op var : Int} {s : AC} {f : Fm} {H : AHeap} (hmax : f.size < 4611686018427387904) (hok : f.fault = 0) (hf : FmAt H op var s f) :
    Fn.fetterlockref6_FormulaTable op var s H fun H' r => SlR H' r 1 (boolRows ((List.range 65536).map fun i => f.val (rho i))) ∧ Kp H H' := by
  refine fetterlockref6_FormulaTable.run ?_
  unfold fetterlockref6_FormulaTable.W
  obtain ⟨N, hN⟩ : ∃ N : Nat, N = 65536 := ⟨_, rfl⟩
  rw [show (65536 : Int) = (N : Int) from by omega, ← hN]
  refine New.own fun b H1 hb hs1 ho hkp => ?_
  refine MkS.own (n := N) (by omega) (by omega) fun tb H2 htb hs2 hot hkp2 => ?_
  unfold fetterlockref6_FormulaTable.l8
  refine LoopT.rule (fun m s0 H3 => ∃ (i : Nat) (cs : List AC), i ≤ N ∧ m = N - i ∧ s0 = (.ptr (some (b, 0)), .sl (some (tb, 0)) 1 N (some N), (i : Int), ()) ∧ Kp H H3 ∧ Own H3 b [.int .i64 op, .int .i64 var, s] ∧ Own H3 tb cs ∧ cs.length = N ∧
    ∀ j, j < i → cs[j]? = some (.bool (f.val (rho j)))) N ⟨0, _, by omega, by omega, rfl, hkp.trans hkp2, ho.kp hkp2, hot, by rw [List.length_replicate], fun j h => by omega⟩ ?_
  rintro m s0 H3 back ⟨i, cs, hi, rfl, rfl, hkp3, ho3, hot3, hcl, hall⟩ hback
  simp only [fetterlockref6_FormulaTable.b8]
  refine LenS.mk (CondB.dec (fun hlt => ?_) fun hge => ?_)
  · have hi' : i < 65536 := by omega
    refine Ld.o3 ho3 op var s rfl ?_
    refine RunT.imp ?_ (turned_c hi')
    rintro H4 r ⟨rfl, y, rfl, hy, hbits⟩
    refine RunT.imp ?_ (true_c hy f.size (Nat.le_refl _) hmax hok (hf.kp hkp3))
    rintro H5 r ⟨rfl, hkp5⟩
    refine IA.mk (by omega) (by omega) ?_
    have hb2 : b < tb := by omega
    refine Sto.cell (hot3.kp hkp5) (by rw [hcl]; omega) fun H6 hot6 hk6 hs6 => ?_
    refine ⟨Same1.mk rfl, ?_⟩
    have hbl := ho3.lt
    refine hback (N - (i + 1)) _ _ (by omega) ⟨i + 1, _, by omega, rfl, ?_, ?_, (ho3.kp hkp5).keep hk6 (by omega), hot6, by rw [List.length_set, hcl], fun j hj => ?_⟩
    · exact tc rfl (tc rfl (tc ((wrap64 (by omega) (by omega)).trans (by omega)) rfl))
    · refine ⟨by have := hkp3.size; have := hkp5.size; omega, fun x hx _ => ?_, fun x hx _ => ?_⟩
      · have := hkp3.size
        rw [hk6.get x (by have := hkp5.size; omega) (by omega), hkp5.get x (by omega) id, hkp3.get x hx id]
      · have := hkp3.size
        rw [hk6.ext x (by have := hkp5.size; omega) (by omega), hkp5.ext x (by omega) id, hkp3.ext x hx id]
    · simp only [Int.toNat_natCast, Nat.mul_one, Nat.zero_add]
      by_cases hji : j = i
      · subst hji
        rw [List.getElem?_set_self (by omega)]
        congr 2
        exact val_congr (fun v hv => hbits v hv) f.size f (Nat.le_refl _) hok
      · rw [List.getElem?_set_ne (by omega)]
        exact hall j (by omega)
  · have : i = N := by omega
    subst this
    refine ⟨?_, hkp3⟩
    have e : cs = ((List.range i).map fun i => f.val (rho i)).map AC.bool := by
      apply List.ext_getElem?
      intro j
      by_cases hj : j < i
      · rw [hall j hj, List.getElem?_map, List.getElem?_map, List.getElem?_range hj]; rfl
      · rw [List.getElem?_eq_none (by omega), List.getElem?_eq_none (by rw [List.length_map, List.length_map, List.length_range]; omega)]
    have := hot3.slr (some i)
    rw [hcl] at this
    rw [e, List.map_map] at this
    exact this
end Go.Proofs.Ytanaaabejeeakaa
end
section
/- What the functions on tables come to: uniform, alike, and the comparison of diagrams. -/
namespace Go.Proofs.Ytanaaabejeeakaa
open Go.AI

theorem boolRow_at {t : List Bool} {i : Nat} {b : Bool} (h : t[i]? = some b) : (boolRows t)[i]? = some [.bool b] := by
  unfold boolRows; rw [List.getElem?_map, h]; rfl
theorem boolRows_len (t : List Bool) : (boolRows t).length = t.length := by unfold boolRows; rw [List.length_map]

theorem uniform_c {s : AC} {t : List Bool} {H : AHeap} (hs : SlR H s 1 (boolRows t)) (hlen : t.length < 4611686018427387904) :
    Fn.fetterlockref6_uniform s H fun H' r => H' = H ∧ r = t.all (· == t.headD false) := by
  refine fetterlockref6_uniform.run ?_
  unfold fetterlockref6_uniform.W fetterlockref6_uniform.l6
  refine LoopT.rule (fun m s0 H2 => ∃ i : Nat, 1 ≤ i ∧ m = t.length - i ∧ s0 = (s, (i : Int), ()) ∧ H2 = H ∧ ∀ j b, j < i → t[j]? = some b → b = t.headD false) (t.length - 1) ⟨1, by omega, rfl, rfl, rfl, fun j b hj hb => ?_⟩ ?_
  · have : j = 0 := by omega
    subst this
    cases t with
    | nil => simp at hb
    | cons x l => simp at hb; simp [hb]
  rintro m s0 H2 back ⟨i, hi, rfl, rfl, rfl, hall⟩ hback
  simp only [fetterlockref6_uniform.b6]
  refine LenS.of hs ?_
  rw [boolRows_len]
  refine CondB.dec (fun hlt => ?_) fun hge => ?_
  · have hi' : i < t.length := by omega
    obtain ⟨b, hb⟩ : ∃ b, t[i]? = some b := ⟨_, List.getElem?_eq_getElem hi'⟩
    obtain ⟨b0, hb0⟩ : ∃ b, t[0]? = some b := ⟨_, List.getElem?_eq_getElem (by omega)⟩
    have hd : t.headD false = b0 := by cases t with
      | nil => simp at hb0
      | cons x l => simp at hb0; simp [hb0]
    refine IA.of hs (by omega) (by rw [Int.toNat_natCast]; exact boolRow_at hb) fun b1 o1 hld => Ld.a1 hld b rfl rfl ?_
    refine IA.of hs (by omega) (by exact boolRow_at hb0) fun b1 o1 hld => Ld.a1 hld b0 rfl rfl ?_
    refine CondB.mk (fun hc => ⟨by trivial, ?_⟩) fun hc => ?_
    · symm
      rw [List.all_eq_false]
      refine ⟨b, List.mem_of_getElem? hb, ?_⟩
      rw [hd]
      simpa using hc
    · refine hback (t.length - (i + 1)) _ _ (by omega) ⟨i + 1, by omega, rfl, ?_, rfl, fun j b' hj hbj => ?_⟩
      · exact tc rfl (tc ((wrap64 (by omega) (by omega)).trans (by omega)) rfl)
      · by_cases hji : j = i
        · subst hji
          rw [hb] at hbj
          cases hbj
          rw [hd]
          simpa using hc
        · exact hall j b' (by omega) hbj
  · refine ⟨by trivial, ?_⟩
    symm
    rw [List.all_eq_true]
    intro b hb
    obtain ⟨j, hj⟩ := List.getElem?_of_mem hb
    have := (List.getElem?_eq_some_iff.1 hj).1
    rw [hall j b (by omega) hj]; simp

theorem alike_c {s s' : AC} {t t' : List Bool} {H : AHeap} (hs : SlR H s 1 (boolRows t)) (hs' : SlR H s' 1 (boolRows t')) (hlen : t.length < 4611686018427387904) :
    Fn.fetterlockref6_alike s s' H fun H' r => H' = H ∧ r = decide (t = t') := by
  refine fetterlockref6_alike.run ?_
  unfold fetterlockref6_alike.W
  refine LenS.of hs (LenS.of hs' ?_)
  rw [boolRows_len, boolRows_len]
  refine CondB.ne (fun hne => ⟨rfl, ?_⟩) fun he => ?_
  · symm; rw [decide_eq_false_iff_not]; rintro rfl; exact hne rfl
  have hl : t.length = t'.length := by omega
  unfold fetterlockref6_alike.l14
  refine LoopT.rule (fun m s0 H2 => ∃ i : Nat, i ≤ t.length ∧ m = t.length - i ∧ s0 = (s, s', (i : Int), ()) ∧ H2 = H ∧ ∀ j, j < i → t[j]? = t'[j]?) t.length ⟨0, by omega, by omega, rfl, rfl, fun j h => by omega⟩ ?_
  rintro m s0 H2 back ⟨i, hi, rfl, rfl, rfl, hall⟩ hback
  simp only [fetterlockref6_alike.b14]
  refine LenS.of hs ?_
  rw [boolRows_len]
  refine CondB.dec (fun hlt => ?_) fun hge => ?_
  · have hi' : i < t.length := by omega
    obtain ⟨b, hb⟩ : ∃ b, t[i]? = some b := ⟨_, List.getElem?_eq_getElem hi'⟩
    obtain ⟨b', hb'⟩ : ∃ b, t'[i]? = some b := ⟨_, List.getElem?_eq_getElem (by omega)⟩
    refine IA.of hs (by omega) (by rw [Int.toNat_natCast]; exact boolRow_at hb) fun b1 o1 hld => Ld.a1 hld b rfl rfl ?_
    refine IA.of hs' (by omega) (by rw [Int.toNat_natCast]; exact boolRow_at hb') fun b1 o1 hld => Ld.a1 hld b' rfl rfl ?_
    refine CondB.mk (fun hc => ⟨by trivial, ?_⟩) fun hc => ?_
    · symm
      rw [decide_eq_false_iff_not]
      rintro rfl
      rw [hb] at hb'
      cases hb'
      simp at hc
    · refine hback (t.length - (i + 1)) _ _ (by omega) ⟨i + 1, by omega, rfl, ?_, rfl, fun j hj => ?_⟩
      · exact tc rfl (tc rfl (tc ((wrap64 (by omega) (by omega)).trans (by omega)) rfl))
      · by_cases hji : j = i
        · subst hji
          rw [hb, hb']
          have : b = b' := by simpa using hc
          rw [this]
        · exact hall j (by omega)
  · refine ⟨by trivial, ?_⟩
    symm
    rw [decide_eq_true_iff]
    apply List.ext_getElem?
    intro j
    by_cases hj : j < i
    · exact hall j hj
    · rw [List.getElem?_eq_none (by omega), List.getElem?_eq_none (by omega)]

def nodeRows (l : List (Int × Int × Int)) : List (List AC) := l.map nodeCells
theorem nodeRow_at {l : List (Int × Int × Int)} {i : Nat} {p : Int × Int × Int} (h : l[i]? = some p) : (nodeRows l)[i]? = some (nodeCells p) := by
  unfold nodeRows; rw [List.getElem?_map, h]; rfl
theorem nodeRows_len (l : List (Int × Int × Int)) : (nodeRows l).length = l.length := by unfold nodeRows; rw [List.length_map]

theorem SameDiagram_c {s s' : AC} {l l' : List (Int × Int × Int)} {r r' : Int} {H : AHeap} (hs : SlR H s 3 (nodeRows l)) (hs' : SlR H s' 3 (nodeRows l')) (hlen : l.length < 4611686018427387904) :
    Fn.fetterlockref6_SameDiagram s r s' r' H fun H' q => q = decide (l = l' ∧ r = r') ∧ Kp H H' := by
  refine fetterlockref6_SameDiagram.run ?_
  unfold fetterlockref6_SameDiagram.W
  refine New.own fun b H1 hb hs1 ho hkp => New.own fun b' H2 hb' hs2 ho' hkp2 => ?_
  have ho1 := ho.kp hkp2
  have hk := hkp.trans hkp2
  refine FA.mk (Ld.oc ho1 rfl (LenS.of (hs.kp hk) (FA.mk (Ld.oc ho' rfl (LenS.of (hs'.kp hk) ?_)))))
  rw [nodeRows_len, nodeRows_len]
  unfold fetterlockref6_SameDiagram.p5
  refine CondB.ne (fun hne => CondB.pos rfl ⟨?_, hk⟩) fun he => ?_
  · symm; rw [decide_eq_false_iff_not]; rintro ⟨rfl, _⟩; exact hne rfl
  have hl : l.length = l'.length := by omega
  refine FA.mk (Ld.oi ho1 rfl (FA.mk (Ld.oi ho' rfl (CondB.ne (fun hne => ⟨?_, hk⟩) fun hr => ?_))))
  · symm; rw [decide_eq_false_iff_not]; rintro ⟨_, h⟩; exact hne h
  subst hr
  unfold fetterlockref6_SameDiagram.l14
  refine LoopT.rule (fun m s0 H3 => ∃ i : Nat, i ≤ l.length ∧ m = l.length - i ∧ s0 = (.ptr (some (b, 0)), .ptr (some (b', 0)), (i : Int), ()) ∧ H3 = H2 ∧ ∀ j, j < i → l[j]? = l'[j]?) l.length ⟨0, by omega, by omega, rfl, rfl, fun j h => by omega⟩ ?_
  rintro m s0 H3 back ⟨i, hi, rfl, rfl, rfl, hall⟩ hback
  simp only [fetterlockref6_SameDiagram.b14]
  refine FA.mk (Ld.oc ho1 rfl (LenS.of (hs.kp hk) ?_))
  rw [nodeRows_len]
  refine CondB.dec (fun hlt => ?_) fun hge => ?_
  · have hi' : i < l.length := by omega
    obtain ⟨p, hp⟩ : ∃ b, l[i]? = some b := ⟨_, List.getElem?_eq_getElem hi'⟩
    obtain ⟨p', hp'⟩ : ∃ b, l'[i]? = some b := ⟨_, List.getElem?_eq_getElem (by omega)⟩
    refine FA.mk (Ld.oc ho1 rfl (IA.of (hs.kp hk) (by omega) (by rw [Int.toNat_natCast]; exact nodeRow_at hp) fun b1 o1 hld => Ld.a3 hld p.1 p.2.1 p.2.2 rfl rfl ?_))
    refine FA.mk (Ld.oc ho' rfl (IA.of (hs'.kp hk) (by omega) (by rw [Int.toNat_natCast]; exact nodeRow_at hp') fun b1 o1 hld => Ld.a3 hld p'.1 p'.2.1 p'.2.2 rfl rfl ?_))
    refine CondB.mk (fun hc => ⟨?_, hk⟩) fun hc => ?_
    · symm
      rw [decide_eq_false_iff_not]
      rintro ⟨rfl, _⟩
      rw [hp] at hp'
      cases hp'
      simp at hc
    · refine hback (l.length - (i + 1)) _ _ (by omega) ⟨i + 1, by omega, rfl, ?_, rfl, fun j hj => ?_⟩
      · exact tc rfl (tc rfl (tc ((wrap64 (by omega) (by omega)).trans (by omega)) rfl))
      · by_cases hji : j = i
        · subst hji
          rw [hp, hp']
          have : p = p' := by
            simp only [Bool.not_eq_false', decide_eq_true_eq, List.cons.injEq, and_true] at hc
            exact Prod.ext hc.1 (Prod.ext hc.2.1 hc.2.2)
          rw [this]
        · exact hall j (by omega)
  · refine ⟨?_, hk⟩
    symm
    rw [decide_eq_true_iff]
    refine ⟨?_, by trivial⟩
    apply List.ext_getElem?
    intro j
    by_cases hj : j < i
    · exact hall j hj
    · rw [List.getElem?_eq_none (by omega), List.getElem?_eq_none (by omega)]
end Go.Proofs.Ytanaaabejeeakaa
end
section
/- What the reference's walk over a table comes to. -/
namespace Go.Proofs.Ytanaaabejeeakaa
open Go.AI Go.AI.DT

/-- A slice of one table's block that reads so. -/
def TabAt (H : AHeap) (tb : Nat) (s : AC) (t : List Bool) : Prop := SlR H s 1 (boolRows t) ∧ ∀ b o z n cap, s = .sl (some (b, o)) z n cap → b = tb
theorem TabAt.keep {S : Nat → Prop} {H H' : AHeap} {tb : Nat} {s : AC} {t : List Bool} (h : TabAt H tb s t) (k : Keep S H H') (hn : ¬ S tb) : TabAt H' tb s t :=
  ⟨h.1.keep k fun b o n cap z e => by rw [h.2 b o z n cap e]; exact hn, h.2⟩
theorem TabAt.slice {H : AHeap} {tb : Nat} {s : AC} {t : List Bool} (h : TabAt H tb s t) (hne : t ≠ []) {lo hi : Option Int} {l u : Nat} (hl : lo.getD 0 = (l : Int)) (hu : hi.getD (t.length : Int) = (u : Int)) (h1 : l ≤ u) (h2 : u ≤ t.length) {k : AC → Prop}
    (q : ∀ r, TabAt H tb r ((t.drop l).take (u - l)) → k r) : Slc 1 s lo hi k := by
  obtain ⟨⟨a, z, cap, e, hr⟩, hb⟩ := h
  subst e
  obtain ⟨b0, l0, rfl⟩ : ∃ x l, t = x :: l := by cases t with
    | nil => exact absurd rfl hne
    | cons x l => exact ⟨x, l, rfl⟩
  obtain ⟨rfl, b, o, rfl, _⟩ := hr 0 [.bool b0] rfl
  have hlen : (boolRows (b0 :: l0)).length = (b0 :: l0).length := boolRows_len _
  refine Slc.mk (r := .sl (some (b, o + l * 1)) 1 (u - l) (cap.map (· - l))) ?_ (q _ ⟨⟨some (b, o + l * 1), 1, cap.map (· - l), ?_, fun i r hi => ?_⟩, fun b' o' z' n' cap' e => ?_⟩)
  · simp only [sliceA, hlen, hl, hu]
    rw [if_pos (by refine ⟨by simp, by omega, by omega, by omega⟩)]
    simp
  · rw [boolRows_len, List.length_take, List.length_drop, Nat.min_eq_left (by omega)]
  · unfold boolRows at hi
    rw [List.getElem?_map, List.getElem?_take] at hi
    split at hi
    · rw [List.getElem?_drop, ← List.getElem?_map] at hi
      obtain ⟨_, b', o', e, hld⟩ := hr _ _ hi
      cases e
      refine ⟨rfl, b, o + l * 1, rfl, ?_⟩
      rw [show o + l * 1 + i * 1 = o + (l + i) * 1 from by omega]
      exact hld
    · cases hi
  · cases e; exact hb _ _ _ _ _ rfl

structure WSx (H : AHeap) (tb : Nat) (ns ts : AC) (F Fn Ft : Nat → Prop) (st : List DT) (tabs : List (AC × List Bool)) : Prop where
  nodes : OwnS H ns 3 Fn (st.map fun x => nodeCells (row st x))
  tables : OwnS H ts 1 Ft (tabs.map fun e => [e.1])
  dis : ∀ x, Fn x → ¬ Ft x
  fF : ∀ x, F x ↔ Fn x ∨ Ft x
  len : tabs.length = st.length
  max : st.length ≤ 2000
  tab : ∀ e ∈ tabs, TabAt H tb e.1 e.2
  tr : ∀ (i : Nat) (e : AC × List Bool) (x : DT), tabs[i]? = some e → st[i]? = some x → ∃ k, k ≤ 16 ∧ e.2.length = 2 ^ k ∧ x = tree k e.2 ∧ x.top = 16 - k
  fin : Fin st
  ntb : ¬ F tb
  tlt : tb < H.size
def WS (H : AHeap) (tb : Nat) (ns ts : AC) (F : Nat → Prop) (st : List DT) (tabs : List (AC × List Bool)) : Prop := ∃ Fn Ft, WSx H tb ns ts F Fn Ft st tabs
theorem WSx.keep {S : Nat → Prop} {H H' : AHeap} {tb : Nat} {ns ts : AC} {F Fn Ft : Nat → Prop} {st : List DT} {tabs : List (AC × List Bool)} (h : WSx H tb ns ts F Fn Ft st tabs) (k : Keep S H H') (hs : ∀ x, S x → ¬ F x) (hn : ¬ S tb) : WSx H' tb ns ts F Fn Ft st tabs :=
  ⟨h.nodes.keep k fun x hx hf => hs x hx ((h.fF x).2 (.inl hf)), h.tables.keep k fun x hx hf => hs x hx ((h.fF x).2 (.inr hf)), h.dis, h.fF, h.len, h.max, fun e he => (h.tab e he).keep k hn, h.tr, h.fin, h.ntb, Nat.lt_of_lt_of_le h.tlt k.size⟩
theorem WS.keep {S : Nat → Prop} {H H' : AHeap} {tb : Nat} {ns ts : AC} {F : Nat → Prop} {st : List DT} {tabs : List (AC × List Bool)} (h : WS H tb ns ts F st tabs) (k : Keep S H H') (hs : ∀ x, S x → ¬ F x) (hn : ¬ S tb) : WS H' tb ns ts F st tabs := by
  obtain ⟨Fn, Ft, h⟩ := h
  exact ⟨Fn, Ft, h.keep k hs hn⟩
theorem WS.kp {H H' : AHeap} {tb : Nat} {ns ts : AC} {F : Nat → Prop} {st : List DT} {tabs : List (AC × List Bool)} (h : WS H tb ns ts F st tabs) (k : Kp H H') : WS H' tb ns ts F st tabs := h.keep k (fun _ hx => hx.elim) id
theorem WS.lt {H : AHeap} {tb : Nat} {ns ts : AC} {F : Nat → Prop} {st : List DT} {tabs : List (AC × List Bool)} (h : WS H tb ns ts F st tabs) : ∀ x, F x → x < H.size := by
  obtain ⟨Fn, Ft, h⟩ := h
  intro x hx
  rcases (h.fF x).1 hx with hx | hx
  · exact h.nodes.lt x hx
  · exact h.tables.lt x hx

/-- What the walk leaves. -/
def WPost (H : AHeap) (tb : Nat) (F : Nat → Prop) (st : List DT) (x : DT) (large : Bool) (H' : AHeap) (ns' ts' : AC) (l' : Bool) (i : Int) : Prop :=
  ∃ F' st' tabs', WS H' tb ns' ts' F' st' tabs' ∧ Keep F H H' ∧ (∀ y, F' y → F y ∨ H.size ≤ y) ∧ st <+: st' ∧ (l' = false → large = false ∧ st' = ser x st ∧ i = ref st' x) ∧ (l' = true → large = true ∨ 2000 < (ser x st).length)

/-- A new node at the end of all. -/
theorem WSx.snoc {H H1 H2 : AHeap} {tb : Nat} {ns ts ns' ts' s : AC} {F Fn Ft Fn' Ft' : Nat → Prop} {st : List DT} {tabs : List (AC × List Bool)} {t : List Bool} {k : Nat} {l h : DT} (w : WSx H tb ns ts F Fn Ft st tabs)
    (hn : OwnS H2 ns' 3 Fn' ((st.map fun x => nodeCells (row st x)) ++ [nodeCells ((15 - k : Nat), ref st l, ref st h)])) (ht : OwnS H2 ts' 1 Ft' ((tabs.map fun e => [e.1]) ++ [[s]]))
    (hd : ∀ x, Fn' x → ¬ Ft' x) (hk : k < 16) (htl : t.length = 2 ^ (k + 1)) (htr : tree (k + 1) t = nd (15 - k) l h) (hnin : nd (15 - k) l h ∉ st) (hl : In st l) (hh : In st h) (hs : TabAt H2 tb s t) (hmax : st.length < 2000)
    (hall : ∀ e ∈ tabs, TabAt H2 tb e.1 e.2) (hntb : ¬ (Fn' tb ∨ Ft' tb)) (htlt : tb < H2.size) :
    WSx H2 tb ns' ts' (fun x => Fn' x ∨ Ft' x) Fn' Ft' (st ++ [nd (15 - k) l h]) (tabs ++ [(s, t)]) := by
  have hp : st <+: st ++ [nd (15 - k) l h] := List.prefix_append _ _
  have hro := (tree_ok (k + 1) t (by omega) htl).1
  rw [htr] at hro
  refine ⟨?_, by rw [List.map_append]; exact ht, hd, fun x => Iff.rfl, by simp [w.len], by simp; omega, ?_, ?_, w.fin.snoc hnin hl hh hro, hntb, htlt⟩
  · have e1 := congrArg (List.map nodeCells) (w.fin.row_mono hp)
    have e2 : st.map (fun x => nodeCells (row (st ++ [nd (15 - k) l h]) x)) = st.map fun x => nodeCells (row st x) := by
      simpa [List.map_map, Function.comp_def] using e1
    rw [List.map_append, e2]
    simpa only [List.map_cons, List.map_nil, row, ref_mono hl hp, ref_mono hh hp] using hn
  · intro e he
    rcases List.mem_append.1 he with he | he
    · exact hall e he
    · simp at he; subst he; exact hs
  · intro i e x he hx
    by_cases hi : i < st.length
    · rw [List.getElem?_append_left (by rw [w.len]; exact hi)] at he
      rw [List.getElem?_append_left hi] at hx
      exact w.tr i e x he hx
    · rw [List.getElem?_append_right (by rw [w.len]; omega), w.len] at he
      rw [List.getElem?_append_right (by omega)] at hx
      have hi0 : i - st.length = 0 := by
        rcases Nat.eq_zero_or_pos (i - st.length) with h0 | h0
        · exact h0
        · rw [List.getElem?_eq_none (by simp; omega)] at hx; cases hx
      rw [hi0] at he hx
      simp at he hx
      subst he hx
      exact ⟨k + 1, by omega, htl, htr.symm, by simp only [top]; omega⟩
end Go.Proofs.Ytanaaabejeeakaa
end
section
/- The reference's walk over a table finishes the nodes of its tree, in order. -/
namespace Go.Proofs.Ytanaaabejeeakaa
open Go.AI Go.AI.DT

theorem walk_c : ∀ (k : Nat) {H : AHeap} {tb : Nat} {ns ts s : AC} {large : Bool} {F : Nat → Prop} {st : List DT} {tabs : List (AC × List Bool)} {t : List Bool}, k ≤ 16 → WS H tb ns ts F st tabs → TabAt H tb s t → t.length = 2 ^ k →
    Fn.fetterlockref6_walk ns ts large s ((16 - k : Nat) : Int) H fun H' ns' ts' l' i => WPost H tb F st (tree k t) large H' ns' ts' l' i := by
  intro k
  induction k using Nat.strongRecOn with
  | _ k ih =>
  intro H tb ns ts s large F st tabs t hk hw hs ht
  have hpk : 2 ^ k ≤ 2 ^ 16 := Nat.pow_le_pow_right (by omega) hk
  have hpos : 0 < 2 ^ k := Nat.pow_pos (by omega)
  refine fetterlockref6_walk.run ?_
  unfold fetterlockref6_walk.W
  refine New.own fun mb H1 hmb hs1 hom1 hk1 => New.own fun rb H2 hrb hs2 hor hk2 => ?_
  have hom := hom1.kp hk2
  have hk12 := hk1.trans hk2
  have hw2 := hw.kp hk12
  have hs2' := hs.keep hk12 id
  have hlt := hw.lt
  have hmbF : ¬ F mb := fun h => by have := hlt _ h; omega
  have hrbF : ¬ F rb := fun h => by have := hlt _ h; omega
  have hmr : mb ≠ rb := by omega
  refine RunT.imp ?_ (uniform_c hs2'.1 (by omega))
  rintro H3 u ⟨he3, rfl⟩
  obtain rfl : H2 = H3 := he3.symm
  -- the end of every easy way: what is in the first box goes out by the second one
  have out : ∀ (H3 : AHeap) (F' : Nat → Prop) (st' : List DT) (tabs' : List (AC × List Bool)) (ns' ts' : AC) (l' : Bool) (i : Int), Own H3 mb [ns', ts', .bool l'] → (∃ cs, Own H3 rb cs ∧ cs.length = 3) → WS H3 tb ns' ts' F' st' tabs' → Keep F H H3 → (∀ y, F' y → F y ∨ H.size ≤ y) → ¬ F' rb →
      st <+: st' → (l' = false → large = false ∧ st' = ser (tree k t) st ∧ i = ref st' (tree k t)) → (l' = true → large = true ∨ 2000 < (ser (tree k t) st).length) →
      Ld [.ac, .ac, .bool] H3 (.ptr (some (mb, 0))) fun (v1 : AC) (v2 : AC) (v3 : Bool) => Sto H3 (.ptr (some (rb, 0))) [v1, v2, .bool v3] fun H4 => Ld [.ac, .ac, .bool] H4 (.ptr (some (rb, 0))) fun (r0 : AC) (r1 : AC) (r2 : Bool) => WPost H tb F st (tree k t) large H4 r0 r1 r2 i := by
    rintro H3 F' st' tabs' ns' ts' l' i ho ⟨cs, hor3, hcl⟩ hw3 hkp hfr hrbF' hpre hf ht'
    refine Ld.o3 ho ns' ts' l' rfl (Sto.own hor3 (by simp [hcl]) fun H4 hor4 hk4 hs4 => ?_)
    have e : cs.take 0 ++ [ns', ts', .bool l'] ++ cs.drop (0 + [ns', ts', AC.bool l'].length) = [ns', ts', .bool l'] := by simp [hcl]
    rw [e] at hor4
    refine Ld.o3 hor4 ns' ts' l' rfl ⟨F', st', tabs', hw3.keep hk4 (fun x hx hf => hrbF' (hx ▸ hf)) (fun hx => ?_), ?_, hfr, hpre, hf, ht'⟩
    · obtain ⟨_, _, hx3⟩ := hw
      have := hx3.tlt; omega
    · refine Keep.trans hkp hk4 fun x hx e => ?_
      omega
  refine CondB.mk (fun hu => ?_) fun hu => ?_
  · -- a constant
    obtain ⟨b0, l0, rfl⟩ : ∃ x l, t = x :: l := by cases t with
      | nil => simp at ht; omega
      | cons x l => exact ⟨x, l, rfl⟩
    have htr : tree k (b0 :: l0) = leaf b0 := (tree_leaf k _ b0 ht).2 fun x hx => by
      rw [List.all_eq_true] at hu
      simpa using hu x hx
    refine IA.of hs2'.1 (by omega) (by exact boolRow_at (i := 0) rfl) fun b1 o1 hld => Ld.a1 hld b0 rfl rfl ?_
    refine CondB.mk (fun hb => ?_) fun hb => ?_
    · exact out _ F st tabs ns ts large _ hom ⟨_, hor, rfl⟩ hw2 (hk12.mono fun _ _ h => h.elim) (fun y h => .inl h) hrbF List.prefix_rfl (fun e => ⟨e, by rw [htr]; rfl, by rw [htr, hb]; rfl⟩) fun e => .inl e
    · exact out _ F st tabs ns ts large _ hom ⟨_, hor, rfl⟩ hw2 (hk12.mono fun _ _ h => h.elim) (fun y h => .inl h) hrbF List.prefix_rfl (fun e => ⟨e, by rw [htr]; rfl, by rw [htr, hb]; rfl⟩) fun e => .inl e
  -- not a constant
  have hnl : ∀ b, tree k t ≠ leaf b := by
    intro b e
    have hall := (tree_leaf k t b ht).1 e
    rw [List.all_eq_false] at hu
    obtain ⟨x, hx, hxn⟩ := hu
    have h0 : t.headD false = b := by cases t with
      | nil => cases hx
      | cons a l => exact hall a (List.mem_cons_self ..)
    rw [h0, hall x hx] at hxn
    simp at hxn
  refine LenS.of hs2'.1 (NZ.mk (by omega) ?_)
  rw [boolRows_len, tdiv_nat]
  have hw1 : IntKind.wrap .i64 (((t.length / 2 : Nat) : Int)) = ((t.length / 2 : Nat) : Int) := wrap_nat (by omega)
  rw [hw1]
  unfold fetterlockref6_walk.l22
  refine LoopT.rule (fun m s0 H3 => ∃ (j : Nat) (s' : AC) (t' : List Bool), j < k ∧ m = j ∧ s0 = (s', ((15 - j : Nat) : Int), .ptr (some (mb, 0)), .ptr (some (rb, 0)), ((2 ^ j : Nat) : Int), ()) ∧ H3 = H2 ∧ TabAt H2 tb s' t' ∧ t'.length = 2 ^ (j + 1) ∧ tree (j + 1) t' = tree k t) (k - 1) ?_ ?_
  · obtain ⟨j, rfl⟩ : ∃ j, k = j + 1 := by
      cases k with
      | zero => obtain ⟨b, hb⟩ : ∃ b, tree 0 t = leaf b := ⟨_, rfl⟩; exact absurd hb (hnl b)
      | succ j => exact ⟨j, rfl⟩
    refine ⟨j, s, t, by omega, by omega, ?_, rfl, hs2', ht, rfl⟩
    have hp2 : t.length / 2 = 2 ^ j := by rw [ht, Nat.pow_succ]; omega
    rw [hp2]
    exact tc rfl (tc (show ((16 - (j + 1) : Nat) : Int) = ((15 - j : Nat) : Int) by omega) rfl)
  rintro m s0 H3 back ⟨j, s', t', hj, rfl, rfl, he3, hs', ht', htr⟩ hback
  obtain rfl : H2 = H3 := he3.symm
  simp only [fetterlockref6_walk.b22]
  have hpj : 2 ^ (m + 1) = 2 ^ m + 2 ^ m := by rw [Nat.pow_succ]; omega
  have hpj0 : 0 < 2 ^ m := Nat.pow_pos (by omega)
  have hpj16 : 2 ^ m ≤ 2 ^ 15 := Nat.pow_le_pow_right (by omega) (by omega)
  have hne : t' ≠ [] := by intro e; rw [e] at ht'; simp at ht'; omega
  refine hs'.slice hne (l := 0) (u := 2 ^ m) rfl rfl (by omega) (by omega) fun s1 hs1' => hs'.slice hne (l := 2 ^ m) (u := t'.length) rfl rfl (by omega) (by omega) fun s2 hs2'' => ?_
  rw [List.drop_zero, Nat.sub_zero] at hs1'
  rw [show (t'.drop (2 ^ m)).take (t'.length - 2 ^ m) = t'.drop (2 ^ m) from List.take_of_length_le (by rw [List.length_drop]; omega)] at hs2''
  refine RunT.imp ?_ (alike_c hs1'.1 hs2''.1 (by rw [List.length_take]; omega))
  rintro H3 q ⟨he3, rfl⟩
  obtain rfl : H2 = H3 := he3.symm
  have hl1 : (t'.take (2 ^ m)).length = 2 ^ m := by rw [List.length_take]; omega
  have hl2 : (t'.drop (2 ^ m)).length = 2 ^ m := by rw [List.length_drop]; omega
  refine CondB.dec (fun he => ?_) fun hne2 => ?_
  · -- both halves are alike
    have hmk : tree (m + 1) t' = tree m (t'.take (2 ^ m)) := by simp only [tree, DT.mk]; rw [← he, if_pos rfl]
    cases m with
    | zero => exact absurd (htr.symm.trans hmk) (hnl _)
    | succ j =>
      refine hs'.slice hne (l := 0) (u := 2 ^ (j + 1)) rfl rfl (by omega) (by omega) fun s3 hs3 => ?_
      rw [List.drop_zero, Nat.sub_zero] at hs3
      refine LenS.of hs3.1 (NZ.mk (by omega) ?_)
      rw [boolRows_len, tdiv_nat, hl1]
      have hp2 : 2 ^ (j + 1) / 2 = 2 ^ j := by rw [Nat.pow_succ]; omega
      rw [hp2]
      refine hback j _ _ (by omega) ⟨j, s3, t'.take (2 ^ (j + 1)), by omega, rfl, ?_, rfl, hs3, hl1, hmk.symm.trans htr⟩
      exact tc rfl (tc ((wrap64 (by omega) (by omega)).trans (by omega)) (tc rfl (tc rfl (tc (wrap_nat (by have : 2 ^ j ≤ 2 ^ 15 := Nat.pow_le_pow_right (by omega) (by omega); omega)) rfl))))
  -- a node
  obtain ⟨xl, hxl⟩ : ∃ x, tree m (t'.take (2 ^ m)) = x := ⟨_, rfl⟩
  obtain ⟨xh, hxh⟩ : ∃ x, tree m (t'.drop (2 ^ m)) = x := ⟨_, rfl⟩
  have hxne : xl ≠ xh := fun e => hne2 (tree_inj m _ _ (by omega) hl1 hl2 (by rw [hxl, hxh, e]))
  have htn : tree (m + 1) t' = nd (15 - m) xl xh := by simp only [tree, DT.mk]; rw [hxl, hxh, if_neg hxne]
  have hxn : tree k t = nd (15 - m) xl xh := htr.symm.trans htn
  rw [hxn]
  have out' := out
  rw [hxn] at out'
  have hro : (nd (15 - m) xl xh).RO := by rw [← htn]; exact (tree_ok (m + 1) t' (by omega) ht').1
  obtain ⟨Fn, Ft, wx⟩ := hw2
  unfold fetterlockref6_walk.l39
  refine LoopT.rule (fun mm s0 H3 => ∃ i : Nat, i ≤ st.length ∧ mm = st.length - i ∧ s0 = (s', ((15 - m : Nat) : Int), .ptr (some (mb, 0)), .ptr (some (rb, 0)), ((2 ^ m : Nat) : Int), (i : Int), ()) ∧ H3 = H2 ∧ ∀ j, j < i → st[j]? ≠ some (nd (15 - m) xl xh)) st.length ⟨0, by omega, by omega, rfl, rfl, fun j h => by omega⟩ ?_
  rintro mm s0 H3 back2 ⟨i, hi, rfl, rfl, he3, hno⟩ hback2
  obtain rfl : H2 = H3 := he3.symm
  simp only [fetterlockref6_walk.b39]
  refine FA.mk (Ld.oc hom rfl (LenS.of wx.nodes.slr ?_))
  rw [List.length_map]
  have hmax := wx.max
  refine CondB.dec (fun hlt2 => ?_) fun hge2 => ?_
  · -- the search
    have hi' : i < st.length := by omega
    obtain ⟨y, hy⟩ : ∃ y, st[i]? = some y := ⟨_, List.getElem?_eq_getElem hi'⟩
    obtain ⟨e, he⟩ : ∃ e, tabs[i]? = some e := ⟨_, List.getElem?_eq_getElem (by rw [wx.len]; exact hi')⟩
    obtain ⟨kk, hkk, hel, hye, hyt⟩ := wx.tr i e y he hy
    obtain ⟨v, l, h, rfl, _, _, hyro⟩ := wx.fin.parts y (List.mem_of_getElem? hy)
    simp only [top] at hyt
    have next : st[i]? ≠ some (nd (15 - m) xl xh) → fetterlockref6_walk.p50 (fun H' ns' ts' l' i => WPost H tb F st (nd (15 - m) xl xh) large H' ns' ts' l' i) back2 s' ((15 - m : Nat) : Int) (.ptr (some (mb, 0))) (.ptr (some (rb, 0))) ((2 ^ m : Nat) : Int) (i : Int) false H2 := by
      intro hn
      unfold fetterlockref6_walk.p50
      refine CondB.neg rfl (hback2 (st.length - (i + 1)) _ _ (by omega) ⟨i + 1, by omega, rfl, ?_, rfl, fun j hj => ?_⟩)
      · exact tc rfl (tc rfl (tc rfl (tc rfl (tc rfl (tc ((wrap64 (by omega) (by omega)).trans (by omega)) rfl)))))
      · by_cases hji : j = i
        · rw [hji]; exact hn
        · exact hno j (by omega)
    refine FA.mk (Ld.oc hom rfl (IA.of wx.nodes.slr (by omega) (r := nodeCells (row st (nd v l h))) (by simp [hy]) fun b1 o1 hld => FA.mk (Ld.ei hld rfl ?_)))
    refine CondB.eq (fun hv => ?_) fun hv => next ?_
    · have hve : v = 15 - m := by simp only [row] at hv; omega
      have hkm : kk = m + 1 := by have := hyro.1; omega
      subst hkm
      refine FA.mk (Ld.oc hom rfl (IA.of wx.tables.slr (by omega) (r := [e.1]) (by simp [he]) fun b2 o2 hld2 => Ld.a1 hld2 e.1 rfl rfl ?_))
      refine RunT.imp ?_ (alike_c (wx.tab e (List.mem_of_getElem? he)).1 hs'.1 (by rw [hel]; omega))
      rintro H3 q ⟨he3, rfl⟩
      obtain rfl : H2 = H3 := he3.symm
      by_cases hee : e.2 = t'
      · have hyx : nd v l h = nd (15 - m) xl xh := by rw [hye, hee, htn]
        rw [show decide (e.2 = t') = true from by simpa using hee]
        unfold fetterlockref6_walk.p50
        refine CondB.pos rfl ?_
        have hmem : nd (15 - m) xl xh ∈ st := by rw [← hyx]; exact List.mem_of_getElem? hy
        have hser : ser (nd (15 - m) xl xh) st = st := by simp only [ser]; rw [if_pos hmem]
        refine out' _ F st tabs ns ts large _ hom ⟨_, hor, rfl⟩ ⟨Fn, Ft, wx⟩ (hk12.mono fun _ _ h => h.elim) (fun y h => .inl h) hrbF List.prefix_rfl (fun e => ⟨e, hser.symm, ?_⟩) fun e => .inl e
        rw [ref_ge, ← hyx]
        have hidx : st.idxOf (nd v l h) = i := by
          have hg : st[i] = nd v l h := by rw [List.getElem?_eq_getElem hi'] at hy; simpa using hy
          rw [← hg]
          exact wx.fin.nodup.idxOf_getElem i hi'
        rw [hidx]
      · rw [show decide (e.2 = t') = false from by simpa using hee]
        refine next fun h => ?_
        rw [hy] at h
        simp only [Option.some.injEq] at h
        rw [hye, ← htn] at h
        exact hee (tree_inj (m + 1) _ _ (by omega) hel ht' h)
    · intro h
      rw [hy] at h
      simp only [Option.some.injEq, nd.injEq] at h
      simp only [row] at hv
      exact hv (by rw [h.1])
  · -- it is new
    have hnin : nd (15 - m) xl xh ∉ st := by
      intro h
      obtain ⟨j, hj⟩ := List.getElem?_of_mem h
      have := (List.getElem?_eq_some_iff.1 hj).1
      exact hno j (by omega) hj
    have hsz2 : H2.size = H.size + 2 := by omega
    refine Ld.o3 hom ns ts large rfl ?_
    refine hs'.slice hne (l := 0) (u := 2 ^ m) rfl rfl (by omega) (by omega) fun sl hsl => ?_
    rw [List.drop_zero, Nat.sub_zero] at hsl
    have hv1 : IntKind.wrap .i64 (((15 - m : Nat) : Int) + 1) = ((16 - m : Nat) : Int) := (wrap64 (by omega) (by omega)).trans (by omega)
    rw [hv1]
    refine RunT.imp ?_ (ih m (by omega) (by omega) ⟨Fn, Ft, wx⟩ hsl hl1)
    rintro H4 ns4 ts4 l4 i4 ⟨F4, st4, tabs4, w4, kp4, fr4, pre4, f4, t4⟩
    rw [hxl] at f4 t4
    have hF4mb : ¬ F4 mb := fun h => by rcases fr4 _ h with h | h; exact hmbF h; omega
    have hF4rb : ¬ F4 rb := fun h => by rcases fr4 _ h with h | h; exact hrbF h; omega
    have htb2 : tb < H2.size := wx.tlt
    have hFtb : ¬ F tb := wx.ntb
    have hF4tb : ¬ F4 tb := by obtain ⟨_, _, h⟩ := w4; exact h.ntb
    have htbmb : tb ≠ mb := by obtain ⟨_, _, h⟩ := hw; have := h.tlt; omega
    have htbrb : tb ≠ rb := by obtain ⟨_, _, h⟩ := hw; have := h.tlt; omega
    refine Sto.own (hom.keep kp4 hmbF) (Nat.le_refl 3) fun H5 hom5 hk5 hs5 => ?_
    simp only [List.take_zero, List.nil_append, List.cons_append, List.length_cons, List.length_nil, Nat.zero_add, List.drop_succ_cons, List.drop_zero, List.drop_nil, List.append_nil] at hom5
    have hor5 := (hor.keep kp4 hrbF).keep hk5 (fun e => hmr e.symm)
    have w5 := w4.keep hk5 (fun x e h => hF4mb (e ▸ h)) htbmb
    refine Ld.o3 hom5 ns4 ts4 l4 rfl ?_
    have hs5' : TabAt H5 tb s' t' := (hs'.keep kp4 hFtb).keep hk5 htbmb
    refine hs5'.slice hne (l := 2 ^ m) (u := t'.length) rfl rfl (by omega) (by omega) fun sh hsh => ?_
    rw [show (t'.drop (2 ^ m)).take (t'.length - 2 ^ m) = t'.drop (2 ^ m) from List.take_of_length_le (by rw [List.length_drop]; omega)] at hsh
    refine RunT.imp ?_ (ih m (by omega) (by omega) w5 hsh hl2)
    rintro H6 ns6 ts6 l6 i6 ⟨F6, st6, tabs6, w6, kp6, fr6, pre6, f6, t6⟩
    rw [hxh] at f6 t6
    have hsz4 : H4.size ≤ H5.size := by omega
    have hsz24 := kp4.size
    have hF6mb : ¬ F6 mb := fun h => by rcases fr6 _ h with h | h; exact hF4mb h; omega
    have hF6rb : ¬ F6 rb := fun h => by rcases fr6 _ h with h | h; exact hF4rb h; omega
    have hF6tb : ¬ F6 tb := by obtain ⟨_, _, h⟩ := w6; exact h.ntb
    refine Sto.own (hom5.keep kp6 hF4mb) (Nat.le_refl 3) fun H7 hom7 hk7 hs7 => ?_
    simp only [List.take_zero, List.nil_append, List.cons_append, List.length_cons, List.length_nil, Nat.zero_add, List.drop_succ_cons, List.drop_zero, List.drop_nil, List.append_nil] at hom7
    have hor7 := (hor5.keep kp6 hF4rb).keep hk7 (fun e => hmr e.symm)
    have w7 := w6.keep hk7 (fun x e h => hF6mb (e ▸ h)) htbmb
    have hs7' : TabAt H7 tb s' t' := (hs5'.keep kp6 hF4tb).keep hk7 htbmb
    have hsz56 := kp6.size
    -- all that was there ahead of the call, but F, is as it was
    have kpAll : Keep F H H7 := by
      refine ⟨by have := hk12.size; omega, fun x hx hn => ?_, fun x hx hn => ?_⟩
      · rw [hk7.get x (by omega) (by omega), kp6.get x (by omega) (fun h => by rcases fr4 _ h with h | h; exact hn h; omega), hk5.get x (by omega) (by omega), kp4.get x (by omega) hn, hk12.get x hx id]
      · rw [hk7.ext x (by omega) (by omega), kp6.ext x (by omega) (fun h => by rcases fr4 _ h with h | h; exact hn h; omega), hk5.ext x (by omega) (by omega), kp4.ext x (by omega) hn, hk12.ext x hx id]
    have frAll : ∀ y, F6 y → F y ∨ H.size ≤ y := fun y h => by
      rcases fr6 y h with h | h
      · rcases fr4 y h with h | h
        · exact .inl h
        · exact .inr (by omega)
      · exact .inr (by omega)
    have preAll : st <+: st6 := pre4.trans pre6
    have hser : ser (nd (15 - m) xl xh) st = ser xh (ser xl st) ++ [nd (15 - m) xl xh] := by simp only [ser]; rw [if_neg hnin]
    have hserl : (ser xl st).length ≤ (ser xh (ser xl st)).length := (ser_prefix xh _).length_le
    have hlarge6 : l6 = true → large = true ∨ 2000 < (ser (nd (15 - m) xl xh) st).length := by
      intro h
      rw [hser, List.length_append]
      cases h4 : l4 with
      | true => rcases t4 h4 with h | h
                · exact .inl h
                · exact .inr (by omega)
      | false =>
        obtain ⟨_, e4, _⟩ := f4 h4
        rcases t6 h with h | h
        · rw [h4] at h; cases h
        · rw [e4] at h; exact .inr (by omega)
    have w7c := w7
    obtain ⟨Fn7, Ft7, wx7⟩ := w7
    -- too large
    have big : (l6 = true ∨ st6.length = 2000) → fetterlockref6_walk.p67 (fun H' ns' ts' l' i => WPost H tb F st (nd (15 - m) xl xh) large H' ns' ts' l' i) s' ((15 - m : Nat) : Int) (.ptr (some (mb, 0))) (.ptr (some (rb, 0))) i4 i6 true H7 := by
      intro hb
      unfold fetterlockref6_walk.p67
      refine CondB.pos rfl (FA.mk (Sto.own hom7 (Nat.le_refl 3) fun H8 hom8 hk8 hs8 => ?_))
      simp only [List.length_cons, List.length_nil] at hom8
      refine out' H8 F6 st6 tabs6 ns6 ts6 true 0 hom8 ⟨_, hor7.keep hk8 (fun e => hmr e.symm), rfl⟩ (w7c.keep hk8 (fun x e h => hF6mb (e ▸ h)) htbmb) (Keep.trans kpAll hk8 fun x hx e => by omega) frAll hF6rb preAll (fun e => by cases e) fun _ => ?_
      rcases hb with h | h
      · exact hlarge6 h
      · by_cases h6 : l6 = true
        · exact hlarge6 h6
        · have h6' : l6 = false := Bool.eq_false_iff.2 h6
          obtain ⟨h4', e6, _⟩ := f6 h6'
          obtain ⟨_, e4, _⟩ := f4 h4'
          rw [e4] at e6
          refine .inr ?_
          rw [hser, List.length_append, ← e6, h]; simp
    refine FA.mk (Ld.ob hom7 rfl (CondB.mk (fun h6 => big (.inl h6)) fun h6 => ?_))
    obtain ⟨h4, e6, hi6⟩ := f6 h6
    obtain ⟨hlg, e4, hi4⟩ := f4 h4
    refine FA.mk (Ld.oc hom7 rfl (LenS.of wx7.nodes.slr ?_))
    rw [List.length_map]
    have hmax6 := wx7.max
    by_cases hfull : st6.length = 2000
    · rw [show (((st6.length : Nat) : Int) == 2000) = true from by simp [hfull]]
      exact big (.inr hfull)
    rw [show (((st6.length : Nat) : Int) == 2000) = false from by simp; omega]
    unfold fetterlockref6_walk.p67
    refine CondB.neg rfl (FA.mk (Ld.oc hom7 rfl ?_))
    refine NewS.own fun p H8 hp hs8 hbox8 hk8 => ?_
    have hin4 : In st4 xl := by rw [e4]; exact ser_in _ _
    have hinl : In st6 xl := hin4.mono pre6
    have hinh : In st6 xh := by rw [e6]; exact ser_in _ _
    have hrl : i4 = ref st6 xl := by rw [hi4, ref_mono hin4 pre6]
    have hrh : i6 = ref st6 xh := hi6
    have hnin6 : nd (15 - m) xl xh ∉ st6 := by rw [e6, e4]; exact ser_new hnin
    refine App.own (wx7.nodes.kp hk8) (r := nodeCells (((15 - m : Nat) : Int), i4, i6)) ⟨p, _, rfl, hbox8.all⟩ rfl (by simp; omega) (by simp; omega) fun ns9 H9 hns9 hk9 hs9 => ?_
    have hFn : ∀ x, Fn7 x → F6 x := fun x h => (wx7.fF x).2 (.inl h)
    have hFt : ∀ x, Ft7 x → F6 x := fun x h => (wx7.fF x).2 (.inr h)
    have hltF : ∀ x, F6 x → x < H7.size := w7c.lt
    have hom9 := (hom7.kp hk8).keep hk9 (fun h => hF6mb (hFn _ h))
    have hor9 := (hor7.kp hk8).keep hk9 (fun h => hF6rb (hFn _ h))
    have hts9 := (wx7.tables.kp hk8).keep hk9 (fun x h h' => wx7.dis x h h')
    have hs9' : TabAt H9 tb s' t' := (hs7'.keep hk8 id).keep hk9 (fun h => hF6tb (hFn _ h))
    have htab9 : ∀ e ∈ tabs6, TabAt H9 tb e.1 e.2 := fun e he => ((wx7.tab e he).keep hk8 id).keep hk9 (fun h => hF6tb (hFn _ h))
    refine FA.mk (Sto.own hom9 (show 0 + 0 + 1 ≤ 3 by omega) fun H10 hom10 hk10 hs10 => ?_)
    simp only [List.take_zero, List.nil_append, List.cons_append, List.length_cons, List.length_nil, Nat.zero_add, Nat.add_zero, List.drop_succ_cons, List.drop_zero] at hom10
    have hmbl : mb < H7.size := hom7.lt
    have hrbl : rb < H7.size := hor7.lt
    refine FA.mk (Ld.oc hom10 rfl ?_)
    refine NewS.own fun p2 H11 hp2 hs11 hbox11 hk11 => ?_
    have hts11 : OwnS H11 ts6 1 Ft7 (tabs6.map fun e => [e.1]) := (hts9.keep hk10 (fun x e h => hF6mb (hFt _ (e ▸ h)))).kp hk11
    refine App.own hts11 (r := [s']) ⟨p2, _, rfl, hbox11.all⟩ rfl (by rw [List.length_map, wx7.len]; omega) (by rw [List.length_map, wx7.len]; omega) fun ts12 H12 hts12 hk12' hs12 => ?_
    have hom12 := (hom10.kp hk11).keep hk12' (fun h => hF6mb (hFt _ h))
    have hor12 := ((hor9.keep hk10 (fun e => hmr e.symm)).kp hk11).keep hk12' (fun h => hF6rb (hFt _ h))
    have hns12 : OwnS H12 ns9 3 (fun y => Fn7 y ∨ y = H8.size) _ := ((hns9.keep hk10 (fun x e h => by subst e; rcases h with h | h; exact hF6mb (hFn _ h); omega)).kp hk11).keep hk12' (fun x h h' => by
      rcases h' with h' | h'
      · exact wx7.dis x h' h
      · have := hltF _ (hFt _ h); omega)
    refine FA.mk (Sto.own hom12 (show 0 + 1 + 1 ≤ 3 by omega) fun H13 hom13 hk13 hs13 => ?_)
    simp only [List.length_cons, List.length_nil] at hom13
    have hns13 := hns12.keep hk13 (fun x e h => by subst e; rcases h with h | h; exact hF6mb (hFn _ h); omega)
    have hts13 := hts12.keep hk13 (fun x e h => by subst e; rcases h with h | h; exact hF6mb (hFt _ h); omega)
    have hor13 := hor12.keep hk13 (fun e => hmr e.symm)
    have hs13' : TabAt H13 tb s' t' := (((hs9'.keep hk10 htbmb).keep hk11 id).keep hk12' (fun h => hF6tb (hFt _ h))).keep hk13 htbmb
    have htab13 : ∀ e ∈ tabs6, TabAt H13 tb e.1 e.2 := fun e he => (((((htab9 e he).keep hk10 htbmb).keep hk11 id).keep hk12' (fun h => hF6tb (hFt _ h))).keep hk13 htbmb)
    have htbl : tb < H7.size := wx7.tlt
    rw [hrl, hrh] at hns13
    have wx13 := wx7.snoc (H1 := H7) (s := s') (t := t') (k := m) hns13 hts13 (fun x h h' => by
      rcases h with h | h
      · rcases h' with h' | h'
        · exact wx7.dis x h h'
        · have := hltF _ (hFn _ h); omega
      · rcases h' with h' | h'
        · have := hltF _ (hFt _ h'); omega
        · omega) (by omega) ht' htn hnin6 hinl hinh hs13' (by omega) htab13 (by
      rintro ((h | h) | (h | h))
      · exact hF6tb (hFn _ h)
      · omega
      · exact hF6tb (hFt _ h)
      · omega) (by omega)
    refine Ld.o3 hom13 ns9 ts12 l6 rfl (FA.mk (Ld.oc hom13 rfl (LenS.of hns13.slr ?_)))
    refine Sto.own hor13 (Nat.le_refl 3) fun H14 hor14 hk14 hs14 => ?_
    refine ⟨Same1.mk (((hom13.keep hk14 hmr).cell rfl).trans (hom13.cell rfl).symm), Ld.o3 hor14 ns9 ts12 l6 rfl ?_⟩
    have hrbF' : ¬ ((Fn7 rb ∨ rb = H8.size) ∨ (Ft7 rb ∨ rb = H11.size)) := by
      rintro ((h | h) | (h | h))
      · exact hF6rb (hFn _ h)
      · omega
      · exact hF6rb (hFt _ h)
      · omega
    have hws13 : WS H13 tb ns9 ts12 (fun x => (Fn7 x ∨ x = H8.size) ∨ (Ft7 x ∨ x = H11.size)) (st6 ++ [nd (15 - m) xl xh]) (tabs6 ++ [(s', t')]) := ⟨_, _, wx13⟩
    refine ⟨_, _, _, hws13.keep hk14 (fun x e h => hrbF' (by subst e; exact h)) htbrb, ?_, ?_, preAll.trans (List.prefix_append _ _), fun _ => ⟨hlg, ?_, ?_⟩, fun e => ?_⟩
    · have hFl : ∀ x, F x → x < H.size := hlt
      refine ⟨by have := hk12.size; omega, fun x hx hn => ?_, fun x hx hn => ?_⟩
      · have h1 : ¬ F6 x := fun h => by rcases frAll x h with h | h; exact hn h; omega
        rw [hk14.get x (by omega) (by omega), hk13.get x (by omega) (by omega), hk12'.get x (by omega) (fun h => h1 (hFt _ h)), hk11.get x (by omega) id, hk10.get x (by omega) (by omega), hk9.get x (by omega) (fun h => h1 (hFn _ h)), hk8.get x (by omega) id, kpAll.get x hx hn]
      · have h1 : ¬ F6 x := fun h => by rcases frAll x h with h | h; exact hn h; omega
        rw [hk14.ext x (by omega) (by omega), hk13.ext x (by omega) (by omega), hk12'.ext x (by omega) (fun h => h1 (hFt _ h)), hk11.ext x (by omega) id, hk10.ext x (by omega) (by omega), hk9.ext x (by omega) (fun h => h1 (hFn _ h)), hk8.ext x (by omega) id, kpAll.ext x hx hn]
    · rintro y ((h | h) | (h | h))
      · exact frAll y (hFn _ h)
      · exact .inr (by omega)
      · exact frAll y (hFt _ h)
      · exact .inr (by omega)
    · rw [hser, ← e4, ← e6]
    · rw [ref_new hnin6]
      simp only [List.length_append, List.length_map, List.length_cons, List.length_nil]
      exact (wrap64 (by omega) (by omega)).trans (by omega)
    · rw [h6] at e; cases e
end Go.Proofs.Ytanaaabejeeakaa
end
section
/- Printed by a program: functions and what must hold ahead of them. -/
namespace Go.Proofs.Ytanaaabejeeakaa
open Go.AI
set_option maxRecDepth 100000
set_option maxHeartbeats 2000000
set_option linter.unusedVariables false
attribute [local irreducible] Ld Sto New NewS NewM NN NZ GE0 FA IA IAP LenS Slc App Cpy Clr MkS Fnc NilQ IxS Look MSet Run CV RunT CVT LoopT Same1 Same2 wpC wpOs wpT wpO wpOp

def solve_manager_diagram_1.c : RC := (.seq (.ops [.put 6 (.mov (.ct (.one (.int .i64 0))))]) (.seq (.seq (.ops [.put 11 (.mov (.tm 0)),
    .put 12 (.cm .lt (.tm 11) (.ct (.one (.int .i64 0))))]) (.cond 12 (.seq (.ops [.put 13 (.mov (.tm 0)),
    .put 6 (.mov (.tm 13))]) .ret) .skip)) (.seq (.seq (.ops [.put 15 (.ld false [.ac] (.tm 1)),
    .put 16 (.mov (.tm 0)),
    .put 17 (.look none false [.int .i64] [(.int .i64 0)] true (.tm 15) (.tm 16)),
    .put 14 (.mov (.tm 17)),
    .put 18 (.ex (.tm 14) 0),
    .put 19 (.ex (.tm 14) 1),
    .put 7 (.mov (.tm 18)),
    .put 8 (.mov (.tm 19))]) (.seq (.ops [.put 20 (.mov (.tm 8))]) (.cond 20 (.seq (.ops [.put 21 (.mov (.tm 7)),
    .put 6 (.mov (.tm 21))]) .ret) .skip))) (.seq (.ops [.put 22 (.ld false [.ac] (.tm 2)),
    .put 23 (.ld false [.ac] (.tm 3)),
    .put 24 (.nn (.tm 23)),
    .put 25 (.fa 0 (.tm 24)),
    .put 26 (.ld false [.ac] (.tm 25)),
    .put 27 (.mov (.tm 0)),
    .put 28 (.ia 3 (.tm 26) (.tm 27)),
    .put 29 (.fa 1 (.tm 28)),
    .put 30 (.ld false [.int .i64] (.tm 29)),
    .put 31 (.callv (.tm 22) [(.tm 30)]),
    .put 9 (.mov (.tm 31))]) (.seq (.ops [.put 32 (.ld false [.ac] (.tm 2)),
    .put 33 (.ld false [.ac] (.tm 3)),
    .put 34 (.nn (.tm 33)),
    .put 35 (.fa 0 (.tm 34)),
    .put 36 (.ld false [.ac] (.tm 35)),
    .put 37 (.mov (.tm 0)),
    .put 38 (.ia 3 (.tm 36) (.tm 37)),
    .put 39 (.fa 2 (.tm 38)),
    .put 40 (.ld false [.int .i64] (.tm 39)),
    .put 41 (.callv (.tm 32) [(.tm 40)]),
    .put 10 (.mov (.tm 41))]) (.seq (.ops [.put 42 (.fa 0 (.tm 4)),
    .put 43 (.ld false [.ac] (.tm 42)),
    .put 44 (.ld false [.ac] (.tm 3)),
    .put 45 (.nn (.tm 44)),
    .put 46 (.fa 0 (.tm 45)),
    .put 47 (.ld false [.ac] (.tm 46)),
    .put 48 (.mov (.tm 0)),
    .put 49 (.ia 3 (.tm 47) (.tm 48)),
    .put 50 (.fa 0 (.tm 49)),
    .put 51 (.ld false [.int .i64] (.tm 50)),
    .put 52 (.mov (.tm 9)),
    .put 53 (.mov (.tm 10)),
    .put 54 (.bld [(.int .i64 0), (.int .i64 0), (.int .i64 0)] [(0, 1, (.tm 51)), (1, 1, (.tm 52)), (2, 1, (.tm 53))]),
    .put 55 (.blds 77 3 1 [(.int .i64 0), (.int .i64 0), (.int .i64 0)] [(0, 3, (.tm 54))]),
    .put 56 (.app 77 3 24 (.tm 43) (.tm 55)),
    .put 57 (.fa 0 (.tm 4)),
    .run (.st 1 (.tm 57) (.tm 56))]) (.seq (.ops [.put 58 (.ld false [.ac] (.tm 1)),
    .put 59 (.mov (.tm 0)),
    .put 60 (.fa 0 (.tm 4)),
    .put 61 (.ld false [.ac] (.tm 60)),
    .put 62 (.lens (.tm 61)),
    .put 63 (.ar .sub (.tm 62) (.ct (.one (.int .i64 1)))),
    .run (.mset none (.tm 58) (.tm 59) (.tm 63))]) (.seq (.ops [.put 64 (.ld false [.ac] (.tm 1)),
    .put 65 (.mov (.tm 0)),
    .put 66 (.look none false [.int .i64] [(.int .i64 0)] false (.tm 64) (.tm 65)),
    .put 6 (.mov (.tm 66))]) .ret))))))))
abbrev solve_manager_diagram_1.KQ (Q : AHeap → Int → Prop) : AV → AHeap → Prop := fun v H => ∃ xs : Tup (flat [(false, [.int .i64])]), v = joinR (splitP [(false, [.int .i64])] (cellsOf (flat [(false, [.int .i64])]) xs)) ∧ app (flat [(false, [.int .i64])]) (Q H) xs
abbrev solve_manager_diagram_1.K (Q : AHeap → Int → Prop) : Ex → Env → AHeap → Prop := kTop [.tm 6] (solve_manager_diagram_1.KQ Q)
def solve_manager_diagram_1.W (a0 : Int) (a1 : AC) (a2 : AC) (a3 : AC) (a4 : AC) (H : AHeap) (Q : AHeap → Int → Prop) : Prop :=
  CondB (decide (a0 < 0))
    (Q H a0)
    (Ld [.ac] H a1 fun (v_1 : AC) =>
    Look none false [.int .i64] [(.int .i64 0)] H v_1 [a0] fun b_2 (v_3 : Int) =>
    CondB b_2
      (Q H v_3)
      (Ld [.ac] H a2 fun (v_4 : AC) =>
      Ld [.ac] H a3 fun (v_5 : AC) =>
      NN v_5 <|
      FA 0 v_5 fun q_6 =>
      Ld [.ac] H q_6 fun (v_7 : AC) =>
      IA 3 v_7 a0 fun q_8 =>
      FA 1 q_8 fun q_9 =>
      Ld [.int .i64] H q_9 fun (v_10 : Int) =>
      CVT Try.prog [(false, [.int .i64])] v_4 [(.one (.int .i64 v_10))] H fun H_11 (v_12 : Int) =>
      Ld [.ac] H_11 a2 fun (v_13 : AC) =>
      Ld [.ac] H_11 a3 fun (v_14 : AC) =>
      NN v_14 <|
      FA 0 v_14 fun q_15 =>
      Ld [.ac] H_11 q_15 fun (v_16 : AC) =>
      IA 3 v_16 a0 fun q_17 =>
      FA 2 q_17 fun q_18 =>
      Ld [.int .i64] H_11 q_18 fun (v_19 : Int) =>
      CVT Try.prog [(false, [.int .i64])] v_13 [(.one (.int .i64 v_19))] H_11 fun H_20 (v_21 : Int) =>
      FA 0 a4 fun q_22 =>
      Ld [.ac] H_20 q_22 fun (v_23 : AC) =>
      Ld [.ac] H_20 a3 fun (v_24 : AC) =>
      NN v_24 <|
      FA 0 v_24 fun q_25 =>
      Ld [.ac] H_20 q_25 fun (v_26 : AC) =>
      IA 3 v_26 a0 fun q_27 =>
      FA 0 q_27 fun q_28 =>
      Ld [.int .i64] H_20 q_28 fun (v_29 : Int) =>
      NewS 77 3 1 [(.int .i64 v_29), (.int .i64 v_12), (.int .i64 v_21)] H_20 fun p_30 H_31 =>
      App 77 3 24 v_23 p_30 H_31 fun s_32 H_33 =>
      FA 0 a4 fun q_34 =>
      Sto H_33 q_34 [s_32] fun H_35 =>
      Ld [.ac] H_35 a1 fun (v_36 : AC) =>
      FA 0 a4 fun q_37 =>
      Ld [.ac] H_35 q_37 fun (v_38 : AC) =>
      LenS v_38 fun n_39 =>
      MSet none H_35 v_36 [a0] (.one (.int .i64 (IntKind.wrap .i64 (n_39 - 1)))) fun H_40 =>
      Ld [.ac] H_40 a1 fun (v_41 : AC) =>
      Look none false [.int .i64] [(.int .i64 0)] H_40 v_41 [a0] fun b_42 (v_43 : Int) =>
      Q H_40 v_43))
theorem solve_manager_diagram_1.ok {a0 : Int} {a1 : AC} {a2 : AC} {a3 : AC} {a4 : AC} {H : AHeap} (Q : AHeap → Int → Prop) : solve_manager_diagram_1.W a0 a1 a2 a3 a4 H Q → wpF Try.prog solve_manager_diagram_1.c [.tm 6] (envOf [(.one (.int .i64 a0)), (.one a1), (.one a2), (.one a3), (.one a4)]) H (solve_manager_diagram_1.KQ Q) := c_seq (c_ops (s_cons (w_put (o_mov rfl (s_nil (k_seq (c_seq (c_seq (c_ops (s_cons (w_put (o_mov rfl (s_cons (w_put (o_lt rfl rfl (s_nil (k_seq (c_if rfl (c_seq (c_ops (s_cons (w_put (o_mov rfl (s_cons (w_put (o_mov rfl (s_nil (k_seq (c_ret (k_seqR (k_topR (r_one rfl (r_nil (fun h => ⟨((a0 : Int), ()), rfl, h⟩)))))))))))))))) (c_skip (k_seq (c_seq (c_seq (c_ops (s_cons (w_put (o_ld1 rfl (fun (v_1 : AC) => s_cons (w_put (o_mov rfl (s_cons (w_put (o_look1 rfl rfl (fun b_2 (v_3 : Int) => s_cons (w_put (o_mov rfl (s_cons (w_put (o_ex rfl rfl rfl (s_cons (w_put (o_ex rfl rfl rfl (s_cons (w_put (o_mov rfl (s_cons (w_put (o_mov rfl (s_nil (k_seq (c_seq (c_ops (s_cons (w_put (o_mov rfl (s_nil (k_seq (c_if rfl (c_seq (c_ops (s_cons (w_put (o_mov rfl (s_cons (w_put (o_mov rfl (s_nil (k_seq (c_ret (k_seqR (k_topR (r_one rfl (r_nil (fun h => ⟨((v_3 : Int), ()), rfl, h⟩)))))))))))))))) (c_skip (k_seq (c_seq (c_ops (s_cons (w_put (o_ld1 rfl (fun (v_4 : AC) => s_cons (w_put (o_ld1 rfl (fun (v_5 : AC) => s_cons (w_put (o_nn rfl (s_cons (w_put (o_fa rfl (fun q_6 => s_cons (w_put (o_ld1 rfl (fun (v_7 : AC) => s_cons (w_put (o_mov rfl (s_cons (w_put (o_ia rfl rfl (fun q_8 => s_cons (w_put (o_fa rfl (fun q_9 => s_cons (w_put (o_ld1 rfl (fun (v_10 : Int) => s_cons (w_put (o_callv rfl rfl (cu_1 (fun H_11 (v_12 : Int) => s_cons (w_put (o_mov rfl (s_nil (k_seq (c_seq (c_ops (s_cons (w_put (o_ld1 rfl (fun (v_13 : AC) => s_cons (w_put (o_ld1 rfl (fun (v_14 : AC) => s_cons (w_put (o_nn rfl (s_cons (w_put (o_fa rfl (fun q_15 => s_cons (w_put (o_ld1 rfl (fun (v_16 : AC) => s_cons (w_put (o_mov rfl (s_cons (w_put (o_ia rfl rfl (fun q_17 => s_cons (w_put (o_fa rfl (fun q_18 => s_cons (w_put (o_ld1 rfl (fun (v_19 : Int) => s_cons (w_put (o_callv rfl rfl (cu_1 (fun H_20 (v_21 : Int) => s_cons (w_put (o_mov rfl (s_nil (k_seq (c_seq (c_ops (s_cons (w_put (o_fa rfl (fun q_22 => s_cons (w_put (o_ld1 rfl (fun (v_23 : AC) => s_cons (w_put (o_ld1 rfl (fun (v_24 : AC) => s_cons (w_put (o_nn rfl (s_cons (w_put (o_fa rfl (fun q_25 => s_cons (w_put (o_ld1 rfl (fun (v_26 : AC) => s_cons (w_put (o_mov rfl (s_cons (w_put (o_ia rfl rfl (fun q_27 => s_cons (w_put (o_fa rfl (fun q_28 => s_cons (w_put (o_ld1 rfl (fun (v_29 : Int) => s_cons (w_put (o_mov rfl (s_cons (w_put (o_mov rfl (s_cons (w_put (o_bld rfl (s_cons (w_put (o_blds rfl (fun p_30 H_31 => s_cons (w_put (o_app rfl rfl (fun s_32 H_33 => s_cons (w_put (o_fa rfl (fun q_34 => s_cons (w_run (o_st rfl rfl rfl (fun H_35 => s_nil (k_seq (c_seq (c_ops (s_cons (w_put (o_ld1 rfl (fun (v_36 : AC) => s_cons (w_put (o_mov rfl (s_cons (w_put (o_fa rfl (fun q_37 => s_cons (w_put (o_ld1 rfl (fun (v_38 : AC) => s_cons (w_put (o_lens rfl (fun n_39 => s_cons (w_put (o_sub rfl rfl (s_cons (w_run (o_mset rfl rfl rfl rfl (fun H_40 => s_nil (k_seq (c_seq (c_ops (s_cons (w_put (o_ld1 rfl (fun (v_41 : AC) => s_cons (w_put (o_mov rfl (s_cons (w_put (o_look1 rfl rfl (fun b_42 (v_43 : Int) => s_cons (w_put (o_mov rfl (s_nil (k_seq (c_ret (k_topR (r_one rfl (r_nil (fun h => ⟨((v_43 : Int), ()), rfl, h⟩))))))))))))))))))))))))))))))))))))))))))))))))))))))))))))))))))))))))))))))))))))))))))))))))))))))))))))))))))))))))))))))))))))))))))))))))))))))))))))))))))))))))))))))))))))))))))))))))))))))))))))))))))))))))))))))))))))))))))))
theorem solve_manager_diagram_1.slimOk : slimOk [(6, []), (7, []), (8, [])] (Try.f88.body.getD .skip) = true := by kernel_rfl
theorem solve_manager_diagram_1.resC : resC Try.prog aggs Try.f88.ntmps (slim [(6, []), (7, []), (8, [])] (Try.f88.body.getD .skip)) = some solve_manager_diagram_1.c := by kernel_rfl
theorem solve_manager_diagram_1.resR : resR Try.prog Try.f88.results.toList = some [.tm 6] := by kernel_rfl
theorem solve_manager_diagram_1.bodyEq : Try.f88.body = some (Try.f88.body.getD .skip) := by kernel_rfl
theorem solve_manager_diagram_1.run {a0 : Int} {a1 : AC} {a2 : AC} {a3 : AC} {a4 : AC} {H : AHeap} {Q : AHeap → Int → Prop} (h : solve_manager_diagram_1.W a0 a1 a2 a3 a4 H Q) : Fn.solve_manager_diagram_1 a0 a1 a2 a3 a4 H Q := by
  unfold Fn.solve_manager_diagram_1 RunT
  exact run_of aggs_ok [(6, []), (7, []), (8, [])] Try.func88 solve_manager_diagram_1.bodyEq solve_manager_diagram_1.slimOk solve_manager_diagram_1.resC solve_manager_diagram_1.resR (Nat.le_of_ble_eq_true (by kernel_rfl)) (solve_manager_diagram_1.ok Q h)

def solve_manager_top.c : RC := (.seq (.ops [.put 4 (.mov (.ct (.one (.int .i64 0))))]) (.seq (.seq (.ops [.put 5 (.mov (.tm 1)),
    .put 6 (.cm .lt (.tm 5) (.ct (.one (.int .i64 0))))]) (.cond 6 (.seq (.ops [.put 4 (.mov (.ct (.one (.int .i64 16))))]) .ret) .skip)) (.seq (.ops [.put 7 (.mov (.tm 0)),
    .put 8 (.nn (.tm 7)),
    .put 9 (.fa 0 (.tm 8)),
    .put 10 (.ld false [.ac] (.tm 9)),
    .put 11 (.mov (.tm 1)),
    .put 12 (.ia 3 (.tm 10) (.tm 11)),
    .put 13 (.fa 0 (.tm 12)),
    .put 14 (.ld false [.int .i64] (.tm 13)),
    .put 4 (.mov (.tm 14))]) .ret)))
abbrev solve_manager_top.KQ (Q : AHeap → Int → Prop) : AV → AHeap → Prop := fun v H => ∃ xs : Tup (flat [(false, [.int .i64])]), v = joinR (splitP [(false, [.int .i64])] (cellsOf (flat [(false, [.int .i64])]) xs)) ∧ app (flat [(false, [.int .i64])]) (Q H) xs
abbrev solve_manager_top.K (Q : AHeap → Int → Prop) : Ex → Env → AHeap → Prop := kTop [.tm 4] (solve_manager_top.KQ Q)
def solve_manager_top.W (a0 : AC) (a1 : Int) (H : AHeap) (Q : AHeap → Int → Prop) : Prop :=
  CondB (decide (a1 < 0))
    (Q H 16)
    (NN a0 <|
    FA 0 a0 fun q_1 =>
    Ld [.ac] H q_1 fun (v_2 : AC) =>
    IA 3 v_2 a1 fun q_3 =>
    FA 0 q_3 fun q_4 =>
    Ld [.int .i64] H q_4 fun (v_5 : Int) =>
    Q H v_5)
theorem solve_manager_top.ok {a0 : AC} {a1 : Int} {H : AHeap} (Q : AHeap → Int → Prop) : solve_manager_top.W a0 a1 H Q → wpF Try.prog solve_manager_top.c [.tm 4] (envOf [(.one a0), (.one (.int .i64 a1))]) H (solve_manager_top.KQ Q) := c_seq (c_ops (s_cons (w_put (o_mov rfl (s_nil (k_seq (c_seq (c_seq (c_ops (s_cons (w_put (o_mov rfl (s_cons (w_put (o_lt rfl rfl (s_nil (k_seq (c_if rfl (c_seq (c_ops (s_cons (w_put (o_mov rfl (s_nil (k_seq (c_ret (k_seqR (k_topR (r_one rfl (r_nil (fun h => ⟨((16 : Int), ()), rfl, h⟩))))))))))))) (c_skip (k_seq (c_seq (c_ops (s_cons (w_put (o_mov rfl (s_cons (w_put (o_nn rfl (s_cons (w_put (o_fa rfl (fun q_1 => s_cons (w_put (o_ld1 rfl (fun (v_2 : AC) => s_cons (w_put (o_mov rfl (s_cons (w_put (o_ia rfl rfl (fun q_3 => s_cons (w_put (o_fa rfl (fun q_4 => s_cons (w_put (o_ld1 rfl (fun (v_5 : Int) => s_cons (w_put (o_mov rfl (s_nil (k_seq (c_ret (k_topR (r_one rfl (r_nil (fun h => ⟨((v_5 : Int), ()), rfl, h⟩))))))))))))))))))))))))))))))))))))))))))))))))))))))))
theorem solve_manager_top.slimOk : slimOk [] (Try.f90.body.getD .skip) = true := by kernel_rfl
theorem solve_manager_top.resC : resC Try.prog aggs Try.f90.ntmps (slim [] (Try.f90.body.getD .skip)) = some solve_manager_top.c := by kernel_rfl
theorem solve_manager_top.resR : resR Try.prog Try.f90.results.toList = some [.tm 4] := by kernel_rfl
theorem solve_manager_top.bodyEq : Try.f90.body = some (Try.f90.body.getD .skip) := by kernel_rfl
theorem solve_manager_top.run {a0 : AC} {a1 : Int} {H : AHeap} {Q : AHeap → Int → Prop} (h : solve_manager_top.W a0 a1 H Q) : Fn.solve_manager_top a0 a1 H Q := by
  unfold Fn.solve_manager_top RunT
  exact run_of aggs_ok [] Try.func90 solve_manager_top.bodyEq solve_manager_top.slimOk solve_manager_top.resC solve_manager_top.resR (Nat.le_of_ble_eq_true (by kernel_rfl)) (solve_manager_top.ok Q h)

end Go.Proofs.Ytanaaabejeeakaa
end
section
/- Printed by a program: functions and what must hold ahead of them. -/
namespace Go.Proofs.Ytanaaabejeeakaa
open Go.AI
set_option maxRecDepth 100000
set_option maxHeartbeats 2000000
set_option linter.unusedVariables false
attribute [local irreducible] Ld Sto New NewS NewM NN NZ GE0 FA IA IAP LenS Slc App Cpy Clr MkS Fnc NilQ IxS Look MSet Run CV RunT CVT LoopT Same1 Same2 wpC wpOs wpT wpO wpOp

def solve_manager_split.c : RC := (.seq (.ops [.put 6 (.mov (.ct (.one (.int .i64 0)))),
    .put 7 (.mov (.ct (.one (.int .i64 0))))]) (.seq (.seq (.ops [.put 8 (.mov (.tm 0)),
    .put 9 (.mov (.tm 1)),
    .put 10 (.call 90 [(.tm 8), (.tm 9)]),
    .put 11 (.mov (.tm 2)),
    .put 12 (.cm .ne (.tm 10) (.tm 11))]) (.cond 12 (.seq (.ops [.put 13 (.mov (.tm 1)),
    .put 14 (.mov (.tm 1)),
    .put 6 (.mov (.tm 13)),
    .put 7 (.mov (.tm 14))]) .ret) .skip)) (.seq (.ops [.put 15 (.mov (.tm 0)),
    .put 16 (.nn (.tm 15)),
    .put 17 (.fa 0 (.tm 16)),
    .put 18 (.ld false [.ac] (.tm 17)),
    .put 19 (.mov (.tm 1)),
    .put 20 (.ia 3 (.tm 18) (.tm 19)),
    .put 21 (.fa 1 (.tm 20)),
    .put 22 (.ld false [.int .i64] (.tm 21)),
    .put 23 (.mov (.tm 0)),
    .put 24 (.nn (.tm 23)),
    .put 25 (.fa 0 (.tm 24)),
    .put 26 (.ld false [.ac] (.tm 25)),
    .put 27 (.mov (.tm 1)),
    .put 28 (.ia 3 (.tm 26) (.tm 27)),
    .put 29 (.fa 2 (.tm 28)),
    .put 30 (.ld false [.int .i64] (.tm 29)),
    .put 6 (.mov (.tm 22)),
    .put 7 (.mov (.tm 30))]) .ret)))
abbrev solve_manager_split.KQ (Q : AHeap → Int → Int → Prop) : AV → AHeap → Prop := fun v H => ∃ xs : Tup (flat [(false, [.int .i64]), (false, [.int .i64])]), v = joinR (splitP [(false, [.int .i64]), (false, [.int .i64])] (cellsOf (flat [(false, [.int .i64]), (false, [.int .i64])]) xs)) ∧ app (flat [(false, [.int .i64]), (false, [.int .i64])]) (Q H) xs
abbrev solve_manager_split.K (Q : AHeap → Int → Int → Prop) : Ex → Env → AHeap → Prop := kTop [.tm 6, .tm 7] (solve_manager_split.KQ Q)
def solve_manager_split.W (a0 : AC) (a1 : Int) (a2 : Int) (H : AHeap) (Q : AHeap → Int → Int → Prop) : Prop :=
  Fn.solve_manager_top a0 a1 H fun H_1 (v_2 : Int) =>
  CondB (v_2 != a2)
    (Q H_1 a1 a1)
    (NN a0 <|
    FA 0 a0 fun q_3 =>
    Ld [.ac] H_1 q_3 fun (v_4 : AC) =>
    IA 3 v_4 a1 fun q_5 =>
    FA 1 q_5 fun q_6 =>
    Ld [.int .i64] H_1 q_6 fun (v_7 : Int) =>
    NN a0 <|
    FA 0 a0 fun q_8 =>
    Ld [.ac] H_1 q_8 fun (v_9 : AC) =>
    IA 3 v_9 a1 fun q_10 =>
    FA 2 q_10 fun q_11 =>
    Ld [.int .i64] H_1 q_11 fun (v_12 : Int) =>
    Q H_1 v_7 v_12)
theorem solve_manager_split.ok {a0 : AC} {a1 : Int} {a2 : Int} {H : AHeap} (Q : AHeap → Int → Int → Prop) : solve_manager_split.W a0 a1 a2 H Q → wpF Try.prog solve_manager_split.c [.tm 6, .tm 7] (envOf [(.one a0), (.one (.int .i64 a1)), (.one (.int .i64 a2))]) H (solve_manager_split.KQ Q) := c_seq (c_ops (s_cons (w_put (o_mov rfl (s_cons (w_put (o_mov rfl (s_nil (k_seq (c_seq (c_seq (c_ops (s_cons (w_put (o_mov rfl (s_cons (w_put (o_mov rfl (s_cons (w_put (o_call rfl (cv_1 (fun H_1 (v_2 : Int) => s_cons (w_put (o_mov rfl (s_cons (w_put (o_ne rfl rfl (s_nil (k_seq (c_if rfl (c_seq (c_ops (s_cons (w_put (o_mov rfl (s_cons (w_put (o_mov rfl (s_cons (w_put (o_mov rfl (s_cons (w_put (o_mov rfl (s_nil (k_seq (c_ret (k_seqR (k_topR (r_one rfl (r_one rfl (r_nil (fun h => ⟨((a1 : Int), (a1 : Int), ()), rfl, h⟩))))))))))))))))))))))) (c_skip (k_seq (c_seq (c_ops (s_cons (w_put (o_mov rfl (s_cons (w_put (o_nn rfl (s_cons (w_put (o_fa rfl (fun q_3 => s_cons (w_put (o_ld1 rfl (fun (v_4 : AC) => s_cons (w_put (o_mov rfl (s_cons (w_put (o_ia rfl rfl (fun q_5 => s_cons (w_put (o_fa rfl (fun q_6 => s_cons (w_put (o_ld1 rfl (fun (v_7 : Int) => s_cons (w_put (o_mov rfl (s_cons (w_put (o_nn rfl (s_cons (w_put (o_fa rfl (fun q_8 => s_cons (w_put (o_ld1 rfl (fun (v_9 : AC) => s_cons (w_put (o_mov rfl (s_cons (w_put (o_ia rfl rfl (fun q_10 => s_cons (w_put (o_fa rfl (fun q_11 => s_cons (w_put (o_ld1 rfl (fun (v_12 : Int) => s_cons (w_put (o_mov rfl (s_cons (w_put (o_mov rfl (s_nil (k_seq (c_ret (k_topR (r_one rfl (r_one rfl (r_nil (fun h => ⟨((v_7 : Int), (v_12 : Int), ()), rfl, h⟩)))))))))))))))))))))))))))))))))))))))))))))))))))))))))))))))))))))))))))))))))))))))))))))))))
theorem solve_manager_split.slimOk : slimOk [(3, [])] (Try.f98.body.getD .skip) = true := by kernel_rfl
theorem solve_manager_split.resC : resC Try.prog aggs Try.f98.ntmps (slim [(3, [])] (Try.f98.body.getD .skip)) = some solve_manager_split.c := by kernel_rfl
theorem solve_manager_split.resR : resR Try.prog Try.f98.results.toList = some [.tm 6, .tm 7] := by kernel_rfl
theorem solve_manager_split.bodyEq : Try.f98.body = some (Try.f98.body.getD .skip) := by kernel_rfl
theorem solve_manager_split.run {a0 : AC} {a1 : Int} {a2 : Int} {H : AHeap} {Q : AHeap → Int → Int → Prop} (h : solve_manager_split.W a0 a1 a2 H Q) : Fn.solve_manager_split a0 a1 a2 H Q := by
  unfold Fn.solve_manager_split RunT
  exact run_of aggs_ok [(3, [])] Try.func98 solve_manager_split.bodyEq solve_manager_split.slimOk solve_manager_split.resC solve_manager_split.resR (Nat.le_of_ble_eq_true (by kernel_rfl)) (solve_manager_split.ok Q h)

def slices_IndexFunc_fetterlock_api_Node_fetterlock_api_Node.c7 : RC := (.seq (.ops [.put 9 (.cm .lt (.tm 8) (.tm 7))]) (.seq (.cond 9 .skip (.exit 0)) (.seq (.block 1 (.seq (.ops [.put 10 (.mov (.tm 8)),
    .put 5 (.mov (.tm 10))]) (.seq (.ops [.put 11 (.mov (.tm 1)),
    .put 12 (.mov (.tm 0)),
    .put 13 (.mov (.tm 5)),
    .put 14 (.ia 3 (.tm 12) (.tm 13)),
    .put 15 (.ld true [.int .i64, .int .i64, .int .i64] (.tm 14)),
    .put 16 (.callv (.tm 11) [(.tm 15)])]) (.cond 16 (.seq (.ops [.put 17 (.mov (.tm 5)),
    .put 4 (.mov (.tm 17))]) .ret) .skip)))) (.ops [.put 18 (.ar .add (.tm 8) (.ct (.one (.int .i64 1)))),
    .put 8 (.mov (.tm 18))]))))
def slices_IndexFunc_fetterlock_api_Node_fetterlock_api_Node.c : RC := (.seq (.ops [.put 4 (.mov (.ct (.one (.int .i64 0))))]) (.seq (.seq (.ops [.put 6 (.mov (.tm 0)),
    .put 7 (.lens (.tm 6)),
    .put 8 (.mov (.ct (.one (.int .i64 0))))]) (.block 0 (.loop slices_IndexFunc_fetterlock_api_Node_fetterlock_api_Node.c7))) (.seq (.ops [.put 4 (.mov (.ct (.one (.int .i64 (-1)))))]) .ret)))
abbrev slices_IndexFunc_fetterlock_api_Node_fetterlock_api_Node.KQ (Q : AHeap → Int → Prop) : AV → AHeap → Prop := fun v H => ∃ xs : Tup (flat [(false, [.int .i64])]), v = joinR (splitP [(false, [.int .i64])] (cellsOf (flat [(false, [.int .i64])]) xs)) ∧ app (flat [(false, [.int .i64])]) (Q H) xs
abbrev slices_IndexFunc_fetterlock_api_Node_fetterlock_api_Node.K (Q : AHeap → Int → Prop) : Ex → Env → AHeap → Prop := kTop [.tm 4] (slices_IndexFunc_fetterlock_api_Node_fetterlock_api_Node.KQ Q)
abbrev slices_IndexFunc_fetterlock_api_Node_fetterlock_api_Node.k3 (Q : AHeap → Int → Prop) : Ex → Env → AHeap → Prop := kSeq (fun t H => wpC Try.prog (.seq (.ops [.put 4 (.mov (.ct (.one (.int .i64 (-1)))))]) .ret) t H (slices_IndexFunc_fetterlock_api_Node_fetterlock_api_Node.K Q)) (slices_IndexFunc_fetterlock_api_Node_fetterlock_api_Node.K Q)
def slices_IndexFunc_fetterlock_api_Node_fetterlock_api_Node.R6 (s : Tup [.ac, .ac, .int .i64, .int .i64]) (t : Env) : Prop := t 0 = (.one (s.1)) ∧ t 1 = (.one (s.2.1)) ∧ t 7 = (.one (.int .i64 (s.2.2.1))) ∧ t 8 = (.one (.int .i64 (s.2.2.2.1))) ∧ True
def slices_IndexFunc_fetterlock_api_Node_fetterlock_api_Node.b6 (Q : AHeap → Int → Prop) (Y6 : Tup [.ac, .ac, .int .i64, .int .i64] → AHeap → Prop) (x0 : AC) (x1 : AC) (x7 : Int) (x8 : Int) (H : AHeap) : Prop :=
  CondB (decide (x8 < x7))
    (IA 3 x0 x8 fun q_1 =>
    Ld [.int .i64, .int .i64, .int .i64] H q_1 fun (v_2 : Int) (v_3 : Int) (v_4 : Int) =>
    CVT Try.prog [(false, [.bool])] x1 [(.agg [(.int .i64 v_2), (.int .i64 v_3), (.int .i64 v_4)])] H fun H_5 (v_6 : Bool) =>
    CondB v_6
      (Q H_5 x8)
      (Y6 (x0, x1, (x7 : Int), ((IntKind.wrap .i64 (x8 + 1)) : Int), ()) H_5))
    (Q H (-1))
def slices_IndexFunc_fetterlock_api_Node_fetterlock_api_Node.l6 (Q : AHeap → Int → Prop) (x0 : AC) (x1 : AC) (x7 : Int) (x8 : Int) (H : AHeap) : Prop := LoopT (Tup [.ac, .ac, .int .i64, .int .i64]) (fun Y s H => slices_IndexFunc_fetterlock_api_Node_fetterlock_api_Node.b6 Q Y (s.1) (s.2.1) (s.2.2.1) (s.2.2.2.1) H) (x0, x1, x7, x8, ()) H
def slices_IndexFunc_fetterlock_api_Node_fetterlock_api_Node.W (a0 : AC) (a1 : AC) (H : AHeap) (Q : AHeap → Int → Prop) : Prop :=
  LenS a0 fun n_1 =>
  slices_IndexFunc_fetterlock_api_Node_fetterlock_api_Node.l6 Q a0 a1 n_1 0 H
theorem slices_IndexFunc_fetterlock_api_Node_fetterlock_api_Node.b6_ok (Q : AHeap → Int → Prop) (Y6 : Tup [.ac, .ac, .int .i64, .int .i64] → AHeap → Prop) (X6 : Env → AHeap → Prop) (hX6 : ∀ s t H, slices_IndexFunc_fetterlock_api_Node_fetterlock_api_Node.R6 s t → Y6 s H → X6 t H) {x0 : AC} {x1 : AC} {x7 : Int} {x8 : Int} {H : AHeap} (j : Env) : slices_IndexFunc_fetterlock_api_Node_fetterlock_api_Node.b6 Q Y6 x0 x1 x7 x8 H → wpC Try.prog slices_IndexFunc_fetterlock_api_Node_fetterlock_api_Node.c7 (upd (upd (upd (upd j 0 (.one x0)) 1 (.one x1)) 7 (.one (.int .i64 x7))) 8 (.one (.int .i64 x8))) H (kSeq X6 (kBlk 0 (slices_IndexFunc_fetterlock_api_Node_fetterlock_api_Node.k3 Q))) := c_seq (c_ops (s_cons (w_put (o_lt rfl rfl (s_nil (k_seq (c_seq (c_if rfl (c_skip (k_seq (c_seq (c_blk (c_seq (c_ops (s_cons (w_put (o_mov rfl (s_cons (w_put (o_mov rfl (s_nil (k_seq (c_seq (c_ops (s_cons (w_put (o_mov rfl (s_cons (w_put (o_mov rfl (s_cons (w_put (o_mov rfl (s_cons (w_put (o_ia rfl rfl (fun q_1 => s_cons (w_put (o_ld3 rfl (fun (v_2 : Int) (v_3 : Int) (v_4 : Int) => s_cons (w_put (o_callv rfl rfl (cu_1 (fun H_5 (v_6 : Bool) => s_nil (k_seq (c_if rfl (c_seq (c_ops (s_cons (w_put (o_mov rfl (s_cons (w_put (o_mov rfl (s_nil (k_seq (c_ret (k_blkR (k_seqR (k_seqR (k_blkR (k_seqR (k_topR (r_one rfl (r_nil (fun h => ⟨((x8 : Int), ()), rfl, h⟩)))))))))))))))))))) (c_skip (k_blk (k_seq (c_ops (s_cons (w_put (o_add rfl rfl (s_cons (w_put (o_mov rfl (s_nil (k_seq (hX6 _ _ _ ⟨rfl, rfl, rfl, rfl, trivial⟩))))))))))))))))))))))))))))))))))))))))))))))))))) (c_exit (k_seqE (k_seqE (k_blkH (k_seq (c_seq (c_ops (s_cons (w_put (o_mov rfl (s_nil (k_seq (c_ret (k_topR (r_one rfl (r_nil (fun h => ⟨(((-1) : Int), ()), rfl, h⟩)))))))))))))))))))))))))
theorem slices_IndexFunc_fetterlock_api_Node_fetterlock_api_Node.l6_ok (Q : AHeap → Int → Prop) {x0 : AC} {x1 : AC} {x7 : Int} {x8 : Int} {H : AHeap} {t : Env} (h0 : t 0 = (.one x0)) (h1 : t 1 = (.one x1)) (h7 : t 7 = (.one (.int .i64 x7))) (h8 : t 8 = (.one (.int .i64 x8))) : slices_IndexFunc_fetterlock_api_Node_fetterlock_api_Node.l6 Q x0 x1 x7 x8 H → wpC Try.prog (.loop slices_IndexFunc_fetterlock_api_Node_fetterlock_api_Node.c7) t H (kBlk 0 (slices_IndexFunc_fetterlock_api_Node_fetterlock_api_Node.k3 Q)) :=
  m_loop slices_IndexFunc_fetterlock_api_Node_fetterlock_api_Node.R6 ⟨h0, h1, h7, h8, trivial⟩ fun X Y hX s t H hR hB => by
    have g := slices_IndexFunc_fetterlock_api_Node_fetterlock_api_Node.b6_ok Q Y X hX t hB
    rw [upd_self hR.1] at g
    rw [upd_self hR.2.1] at g
    rw [upd_self hR.2.2.1] at g
    rw [upd_self hR.2.2.2.1] at g
    exact g
theorem slices_IndexFunc_fetterlock_api_Node_fetterlock_api_Node.ok {a0 : AC} {a1 : AC} {H : AHeap} (Q : AHeap → Int → Prop) : slices_IndexFunc_fetterlock_api_Node_fetterlock_api_Node.W a0 a1 H Q → wpF Try.prog slices_IndexFunc_fetterlock_api_Node_fetterlock_api_Node.c [.tm 4] (envOf [(.one a0), (.one a1)]) H (slices_IndexFunc_fetterlock_api_Node_fetterlock_api_Node.KQ Q) := c_seq (c_ops (s_cons (w_put (o_mov rfl (s_nil (k_seq (c_seq (c_seq (c_ops (s_cons (w_put (o_mov rfl (s_cons (w_put (o_lens rfl (fun n_1 => s_cons (w_put (o_mov rfl (s_nil (k_seq (c_blk (slices_IndexFunc_fetterlock_api_Node_fetterlock_api_Node.l6_ok Q rfl rfl rfl rfl))))))))))))))))))))))
theorem slices_IndexFunc_fetterlock_api_Node_fetterlock_api_Node.slimOk : slimOk [] (Try.f99.body.getD .skip) = true := by kernel_rfl
theorem slices_IndexFunc_fetterlock_api_Node_fetterlock_api_Node.resC : resC Try.prog aggs Try.f99.ntmps (slim [] (Try.f99.body.getD .skip)) = some slices_IndexFunc_fetterlock_api_Node_fetterlock_api_Node.c := by kernel_rfl
theorem slices_IndexFunc_fetterlock_api_Node_fetterlock_api_Node.resR : resR Try.prog Try.f99.results.toList = some [.tm 4] := by kernel_rfl
theorem slices_IndexFunc_fetterlock_api_Node_fetterlock_api_Node.bodyEq : Try.f99.body = some (Try.f99.body.getD .skip) := by kernel_rfl
theorem slices_IndexFunc_fetterlock_api_Node_fetterlock_api_Node.run {a0 : AC} {a1 : AC} {H : AHeap} {Q : AHeap → Int → Prop} (h : slices_IndexFunc_fetterlock_api_Node_fetterlock_api_Node.W a0 a1 H Q) : Fn.slices_IndexFunc_fetterlock_api_Node_fetterlock_api_Node a0 a1 H Q := by
  unfold Fn.slices_IndexFunc_fetterlock_api_Node_fetterlock_api_Node RunT
  exact run_of aggs_ok [] Try.func99 slices_IndexFunc_fetterlock_api_Node_fetterlock_api_Node.bodyEq slices_IndexFunc_fetterlock_api_Node_fetterlock_api_Node.slimOk slices_IndexFunc_fetterlock_api_Node_fetterlock_api_Node.resC slices_IndexFunc_fetterlock_api_Node_fetterlock_api_Node.resR (Nat.le_of_ble_eq_true (by kernel_rfl)) (slices_IndexFunc_fetterlock_api_Node_fetterlock_api_Node.ok Q h)
end Go.Proofs.Ytanaaabejeeakaa
end
section
/- What the manager's functions come to: node, top, split. -/
namespace Go.Proofs.Ytanaaabejeeakaa
open Go.AI Go.AI.DT

/-- What a method of the manager leaves: the nodes of before, and some more. -/
structure After (H : AHeap) (m : AC) (F : Nat → Prop) (ts : List DT) (n : Nat) (H' : AHeap) (F' : Nat → Prop) (ts' : List DT) : Prop where
  mgr : Mgr H' m F' ts'
  pre : ts <+: ts'
  len : ts'.length ≤ ts.length + n
  keep : Keep F H H'
  fresh : ∀ x, F' x → F x ∨ H.size ≤ x
theorem After.refl {H : AHeap} {m : AC} {F : Nat → Prop} {ts : List DT} (h : Mgr H m F ts) (n : Nat) : After H m F ts n H F ts := ⟨h, List.prefix_rfl, by omega, Keep.refl _ _, fun _ h => .inl h⟩
theorem After.trans {H H1 H2 : AHeap} {m : AC} {F F1 F2 : Nat → Prop} {ts ts1 ts2 : List DT} {n k : Nat} (h : After H m F ts n H1 F1 ts1) (h' : After H1 m F1 ts1 k H2 F2 ts2) : After H m F ts (n + k) H2 F2 ts2 := by
  refine ⟨h'.mgr, h.pre.trans h'.pre, by have := h.len; have := h'.len; omega, Keep.trans h.keep h'.keep fun b hb hx => ?_, fun x hx => ?_⟩
  · rcases h.fresh b hx with h1 | h1
    · exact h1
    · omega
  · rcases h'.fresh x hx with h1 | h1
    · exact h.fresh x h1
    · exact .inr (Nat.le_trans h.keep.size h1)
theorem After.kp {H H0 H1 : AHeap} {m : AC} {F F1 : Nat → Prop} {ts ts1 : List DT} {n : Nat} (k : Kp H H0) (h : After H0 m F ts n H1 F1 ts1) : After H m F ts n H1 F1 ts1 :=
  ⟨h.mgr, h.pre, h.len, Kp.andThen k h.keep, fun x hx => (h.fresh x hx).imp id fun h => Nat.le_trans k.size h⟩

theorem node_c {m : AC} {F : Nat → Prop} {ts : List DT} {H : AHeap} (hm : Mgr H m F ts) {v : Nat} {l h : DT} (hl : In ts l) (hh : In ts h) (hv : v < 16) (hvl : v < l.top) (hvh : v < h.top) (hsz : ts.length < 4294967296) :
    Fn.solve_manager_node m (v : Int) (ref ts l) (ref ts h) H fun H' r => ∃ F' ts', After H m F ts 1 H' F' ts' ∧ In ts' (mk v l h) ∧ r = ref ts' (mk v l h) := by
  refine solve_manager_node.run ?_
  unfold solve_manager_node.W
  refine CondB.eq (fun e => ?_) fun hne => ?_
  · have := ref_inj hl hh e
    subst this
    exact ⟨F, ts, .refl hm _, by simpa [mk] using hl, by simp [mk]⟩
  have hlh : l ≠ h := fun e => hne (by rw [e])
  have hmk : mk v l h = nd v l h := by simp [mk, hlh]
  obtain ⟨mb, ib, db, Fs, slc, idx, done, hx⟩ := hm
  have hlt := hx.lt
  have hF := hx.fF
  have hro : (nd v l h).RO := ⟨hv, hlh, hvl, hvh, hx.fin.ro hl, hx.fin.ro hh⟩
  refine NewSto.own rfl fun b H2 hb hs2 hbox hk2 => ?_
  have hx2 := hx.keep hk2 fun _ h => h.elim
  obtain rfl := hx.m_eq
  refine NN.ptr (FA.mk (Ld.oc hx2.own rfl (Ld.o3 hbox (v : Int) (ref ts l) (ref ts h) rfl (Look.i hx2.im rfl (fun n hf => ?_) fun hf => ?_))))
  · refine CondB.neg rfl ?_
    obtain ⟨x, hxm, e⟩ := hx.iok.only _ _ hf
    obtain ⟨w, a, c, rfl, h1, h2, _⟩ := hx.fin.parts x hxm
    simp only [rowL, row, List.cons.injEq, and_true] at e
    have e1 := ref_inj hl h1 e.2.1
    have e2 := ref_inj hh h2 e.2.2
    have e3 : v = w := by omega
    subst e1 e2 e3
    rw [hmk]
    have hfa := hx.iok.all _ hxm
    rw [show rowL ts (nd v l h) = [(v : Int), ref ts l, ref ts h] from rfl, hf] at hfa
    refine ⟨F, ts, (After.refl ⟨mb, ib, db, Fs, slc, idx, done, hx2⟩ 1).kp hk2, .inr hxm, ?_⟩
    simpa using hfa
  · refine CondB.pos rfl ?_
    have hnin : nd v l h ∉ ts := by
      intro hin
      have hfa := hx.iok.all _ hin
      rw [show rowL ts (nd v l h) = [(v : Int), ref ts l, ref ts h] from rfl, hf] at hfa
      cases hfa
    refine NN.ptr (FA.mk (Ld.oc hx2.own rfl (LenS.of hx2.sl.slr (NN.ptr (FA.mk (Ld.oc hx2.own rfl (Ld.o3 hbox (v : Int) (ref ts l) (ref ts h) rfl ?_)))))))
    refine NewS.own fun p H3 hp hs3 hbox3 hk3 => ?_
    refine App.own (hx2.sl.kp hk3) (r := nodeCells ((v : Int), ref ts l, ref ts h)) ⟨p, _, rfl, hbox3.all⟩ rfl (by simp; omega) (by simp; omega) fun s' H4 hsl4 hk4 hs4 => ?_
    have own4 : Own H4 mb [slc, .map (some ib), .map (some db)] := (hx2.own.kp hk3).keep hk4 hx.d1
    refine NN.ptr (FA.mk (Sto.own own4 (by simp) fun H5 own5 hk5 hs5 => ?_))
    simp only [List.take_zero, List.nil_append, List.cons_append, List.length_cons, List.length_nil, Nat.zero_add, Nat.add_zero, List.drop_succ_cons, List.drop_zero] at own5
    have im5 : MapI H5 ib (some 3) idx := ((hx2.im.kp hk3).keep hk4 hx.d2).keep hk5 (fun e => hx.ne1 e.symm)
    have dm5 : MapI H5 db (some 3) done := ((hx2.dm.kp hk3).keep hk4 hx.d3).keep hk5 (fun e => hx.ne2 e.symm)
    have hFlt : ∀ x, Fs x → x < H.size := fun x h => hlt x ((hF x).2 (.inr (.inr (.inr h))))
    have hmbl := hx.own.lt
    have hibl := hx.im.lt
    have hdbl := hx.dm.lt
    have hs3' : H3.size = H.size + 2 := by omega
    have box5 : Own H5 b (nodeCells ((v : Int), ref ts l, ref ts h)) := ((hbox.kp hk3).keep hk4 (fun h => by have := hFlt _ h; omega)).keep hk5 (fun e => by omega)
    have sl5 := hsl4.keep hk5 (fun x e h => by
      subst e
      rcases h with h | h
      · exact hx.d1 h
      · omega)
    refine NN.ptr (FA.mk (Ld.oc own5 rfl (Ld.o3 box5 (v : Int) (ref ts l) (ref ts h) rfl (MSet.i im5 rfl fun H6 im6 hk6 hs6 => ?_))))
    have hp : ts <+: ts ++ [nd v l h] := List.prefix_append _ _
    have hrows : (ts ++ [nd v l h]).map (fun x => nodeCells (row (ts ++ [nd v l h]) x)) = (ts.map fun x => nodeCells (row ts x)) ++ [nodeCells ((v : Int), ref ts l, ref ts h)] := by
      have e1 := hx.fin.row_mono hp
      have e2 : ts.map (fun x => nodeCells (row (ts ++ [nd v l h]) x)) = ts.map fun x => nodeCells (row ts x) := by
        have := congrArg (List.map nodeCells) e1
        simpa [List.map_map, Function.comp_def] using this
      rw [List.map_append, e2]
      simp only [List.map_cons, List.map_nil, row, ref_mono hl hp, ref_mono hh hp]
    refine ⟨fun x => F x ∨ x = H3.size, ts ++ [nd v l h], ⟨⟨mb, ib, db, fun y => Fs y ∨ y = H3.size, s', setI [(v : Int), ref ts l, ref ts h] (((ts.map fun x => nodeCells (row ts x)).length : Nat) : Int) idx, done, ?_⟩, hp, by simp, ?_, ?_⟩, ?_, ?_⟩
    · refine ⟨rfl, own5.keep hk6 hx.ne1, ?_, im6, dm5.keep hk6 (fun e => hx.ne3 e.symm), hx.ne1, hx.ne2, hx.ne3, ?_, ?_, ?_, hx.fin.snoc hnin hl hh hro, ?_, hx.dok.mono hp, ?_⟩
      · rw [hrows]
        refine sl5.keep hk6 (fun x e h => ?_)
        subst e
        rcases h with h | h
        · exact hx.d2 h
        · omega
      · rintro (h | h)
        · exact hx.d1 h
        · omega
      · rintro (h | h)
        · exact hx.d2 h
        · omega
      · rintro (h | h)
        · exact hx.d3 h
        · omega
      · have := hx.iok.snoc hx.fin hnin hl hh hro
        simpa using this
      · intro x
        rw [hF x]
        constructor
        · rintro ((h | h | h | h) | h)
          · exact .inl h
          · exact .inr (.inl h)
          · exact .inr (.inr (.inl h))
          · exact .inr (.inr (.inr (.inl h)))
          · exact .inr (.inr (.inr (.inr h)))
        · rintro (h | h | h | h | h)
          · exact .inl (.inl h)
          · exact .inl (.inr (.inl h))
          · exact .inl (.inr (.inr (.inl h)))
          · exact .inl (.inr (.inr (.inr h)))
          · exact .inr h
    · have k1 : Kp H H3 := hk2.trans hk3
      refine (Kp.andThen k1 ?_ : Keep F H H6)
      refine Keep.trans (Keep.trans (hk4.mono fun x _ h => (hF x).2 (.inr (.inr (.inr h)))) hk5 fun x _ e => ?_) hk6 fun x _ e => ?_
      · rw [hF x]; exact .inl e
      · rw [hF x]; exact .inr (.inl e)
    · rintro x (h | h)
      · exact .inl h
      · exact .inr (by omega)
    · rw [hmk]; exact .inr (by simp)
    · rw [hmk, ref_new hnin]; simp
end Go.Proofs.Ytanaaabejeeakaa
end
section
/- Printed by a program: functions and what must hold ahead of them. -/
namespace Go.Proofs.Ytanaaabejeeakaa
open Go.AI
set_option maxRecDepth 100000
set_option maxHeartbeats 2000000
set_option linter.unusedVariables false
attribute [local irreducible] Ld Sto New NewS NewM NN NZ GE0 FA IA IAP LenS Slc App Cpy Clr MkS Fnc NilQ IxS Look MSet Run CV RunT CVT LoopT Same1 Same2 wpC wpOs wpT wpO wpOp

def solve_manager_add.c11 : RC := (.seq (.ops [.put 18 (.cm .lt (.tm 17) (.tm 16))]) (.seq (.cond 18 .skip (.exit 0)) (.seq (.block 1 (.seq (.ops [.put 19 (.mov (.tm 17)),
    .put 20 (.ia 3 (.tm 15) (.tm 17)),
    .put 21 (.ld true [.int .i64, .int .i64, .int .i64] (.tm 20)),
    .put 8 (.new 77 [(.int .i64 0), (.int .i64 0), (.int .i64 0)]),
    .put 7 (.mov (.tm 19)),
    .run (.st 3 (.tm 8) (.tm 21))]) (.held [.put 22 (.ld false [.ac] (.tm 5)),
    .put 23 (.mov (.tm 7)),
    .put 24 (.mov (.tm 0)),
    .put 25 (.fa 0 (.tm 8)),
    .put 26 (.ld false [.int .i64] (.tm 25)),
    .put 27 (.mov (.tm 6)),
    .put 28 (.fa 1 (.tm 8)),
    .put 29 (.ld false [.int .i64] (.tm 28)),
    .put 30 (.callv (.tm 27) [(.tm 29)]),
    .put 31 (.mov (.tm 6)),
    .put 32 (.fa 2 (.tm 8)),
    .put 33 (.ld false [.int .i64] (.tm 32)),
    .put 34 (.callv (.tm 31) [(.tm 33)]),
    .put 35 (.call 80 [(.tm 24), (.tm 26), (.tm 30), (.tm 34)]),
    .put 36 (.ia 1 (.tm 22) (.tm 23)),
    .run (.st 1 (.tm 36) (.tm 35))] [(0, 8), (0, 12), (0, 13), (4, 8), (4, 12), (11, 8)]))) (.ops [.put 37 (.ar .add (.tm 17) (.ct (.one (.int .i64 1)))),
    .put 17 (.mov (.tm 37))]))))
def solve_manager_add.c : RC := (.seq (.ops [.put 3 (.box 27 (.tm 1)),
    .put 4 (.mov (.ct (.one (.int .i64 0))))]) (.seq (.ops [.put 9 (.fa 0 (.tm 3)),
    .put 10 (.ld false [.ac] (.tm 9)),
    .put 11 (.lens (.tm 10)),
    .put 12 (.mks 3 1 8 [(.int .i64 0)] (.tm 11) (.tm 11)),
    .put 5 (.new 53 [(.sl none 0 0 (some 0))]),
    .run (.st 1 (.tm 5) (.tm 12))]) (.seq (.ops [.put 13 (.fn 84 [] [(.tm 5)]),
    .put 6 (.mov (.tm 13))]) (.seq (.seq (.ops [.put 14 (.fa 0 (.tm 3)),
    .put 15 (.ld false [.ac] (.tm 14)),
    .put 16 (.lens (.tm 15)),
    .put 17 (.mov (.ct (.one (.int .i64 0))))]) (.block 0 (.loop solve_manager_add.c11))) (.seq (.ops [.put 38 (.mov (.tm 6)),
    .put 39 (.fa 1 (.tm 3)),
    .put 40 (.ld false [.int .i64] (.tm 39)),
    .put 41 (.callv (.tm 38) [(.tm 40)]),
    .put 4 (.mov (.tm 41))]) .ret)))))
abbrev solve_manager_add.KQ (Q : AHeap → Int → Prop) : AV → AHeap → Prop := fun v H => ∃ xs : Tup (flat [(false, [.int .i64])]), v = joinR (splitP [(false, [.int .i64])] (cellsOf (flat [(false, [.int .i64])]) xs)) ∧ app (flat [(false, [.int .i64])]) (Q H) xs
abbrev solve_manager_add.K (Q : AHeap → Int → Prop) : Ex → Env → AHeap → Prop := kTop [.tm 4] (solve_manager_add.KQ Q)
abbrev solve_manager_add.k7 (Q : AHeap → Int → Prop) : Ex → Env → AHeap → Prop := kSeq (fun t H => wpC Try.prog (.seq (.ops [.put 38 (.mov (.tm 6)),
    .put 39 (.fa 1 (.tm 3)),
    .put 40 (.ld false [.int .i64] (.tm 39)),
    .put 41 (.callv (.tm 38) [(.tm 40)]),
    .put 4 (.mov (.tm 41))]) .ret) t H (solve_manager_add.K Q)) (solve_manager_add.K Q)
def solve_manager_add.R10 (s : Tup [.ac, .ac, .ac, .ac, .ac, .int .i64, .int .i64]) (t : Env) : Prop := t 0 = (.one (s.1)) ∧ t 3 = (.one (s.2.1)) ∧ t 5 = (.one (s.2.2.1)) ∧ t 6 = (.one (s.2.2.2.1)) ∧ t 15 = (.one (s.2.2.2.2.1)) ∧ t 16 = (.one (.int .i64 (s.2.2.2.2.2.1))) ∧ t 17 = (.one (.int .i64 (s.2.2.2.2.2.2.1))) ∧ True
def solve_manager_add.b10 (Q : AHeap → Int → Prop) (Y10 : Tup [.ac, .ac, .ac, .ac, .ac, .int .i64, .int .i64] → AHeap → Prop) (x0 : AC) (x3 : AC) (x5 : AC) (x6 : AC) (x15 : AC) (x16 : Int) (x17 : Int) (H : AHeap) : Prop :=
  CondB (decide (x17 < x16))
    (IA 3 x15 x17 fun q_1 =>
    Ld [.int .i64, .int .i64, .int .i64] H q_1 fun (v_2 : Int) (v_3 : Int) (v_4 : Int) =>
    New 77 [(.int .i64 0), (.int .i64 0), (.int .i64 0)] H fun p_5 H_6 =>
    Sto H_6 p_5 [(.int .i64 v_2), (.int .i64 v_3), (.int .i64 v_4)] fun H_7 =>
    Ld [.ac] H_7 x5 fun (v_8 : AC) =>
    FA 0 p_5 fun q_9 =>
    Ld [.int .i64] H_7 q_9 fun (v_10 : Int) =>
    FA 1 p_5 fun q_11 =>
    Ld [.int .i64] H_7 q_11 fun (v_12 : Int) =>
    CVT Try.prog [(false, [.int .i64])] x6 [(.one (.int .i64 v_12))] H_7 fun H_13 (v_14 : Int) =>
    FA 2 p_5 fun q_15 =>
    Ld [.int .i64] H_13 q_15 fun (v_16 : Int) =>
    CVT Try.prog [(false, [.int .i64])] x6 [(.one (.int .i64 v_16))] H_13 fun H_17 (v_18 : Int) =>
    Fn.solve_manager_node x0 v_10 v_14 v_18 H_17 fun H_19 (v_20 : Int) =>
    IA 1 v_8 x17 fun q_21 =>
    Sto H_19 q_21 [(.int .i64 v_20)] fun H_22 =>
    Same1 H_7 H_13 x5 1 ∧
    Same1 H_7 H_17 x5 1 ∧
    Same1 H_7 H_19 x5 1 ∧
    Same1 H_7 H_13 q_9 1 ∧
    Same1 H_7 H_17 q_9 1 ∧
    Same2 H_13 H_7 q_15 1 ∧
    Y10 (x0, x3, x5, x6, x15, (x16 : Int), ((IntKind.wrap .i64 (x17 + 1)) : Int), ()) H_22)
    (FA 1 x3 fun q_23 =>
    Ld [.int .i64] H q_23 fun (v_24 : Int) =>
    CVT Try.prog [(false, [.int .i64])] x6 [(.one (.int .i64 v_24))] H fun H_25 (v_26 : Int) =>
    Q H_25 v_26)
def solve_manager_add.l10 (Q : AHeap → Int → Prop) (x0 : AC) (x3 : AC) (x5 : AC) (x6 : AC) (x15 : AC) (x16 : Int) (x17 : Int) (H : AHeap) : Prop := LoopT (Tup [.ac, .ac, .ac, .ac, .ac, .int .i64, .int .i64]) (fun Y s H => solve_manager_add.b10 Q Y (s.1) (s.2.1) (s.2.2.1) (s.2.2.2.1) (s.2.2.2.2.1) (s.2.2.2.2.2.1) (s.2.2.2.2.2.2.1) H) (x0, x3, x5, x6, x15, x16, x17, ()) H
def solve_manager_add.W (a0 : AC) (a1_0 : AC) (a1_1 : Int) (H : AHeap) (Q : AHeap → Int → Prop) : Prop :=
  New 27 [a1_0, (.int .i64 a1_1)] H fun p_1 H_2 =>
  FA 0 p_1 fun q_3 =>
  Ld [.ac] H_2 q_3 fun (v_4 : AC) =>
  LenS v_4 fun n_5 =>
  MkS 3 1 8 [(.int .i64 0)] n_5 n_5 H_2 fun p_6 H_7 =>
  New 53 [(.sl none 0 0 (some 0))] H_7 fun p_8 H_9 =>
  Sto H_9 p_8 [p_6] fun H_10 =>
  Fnc 84 [] [p_8] fun f_11 =>
  FA 0 p_1 fun q_12 =>
  Ld [.ac] H_10 q_12 fun (v_13 : AC) =>
  LenS v_13 fun n_14 =>
  solve_manager_add.l10 Q a0 p_1 p_8 f_11 v_13 n_14 0 H_10
theorem solve_manager_add.b10_ok (Q : AHeap → Int → Prop) (Y10 : Tup [.ac, .ac, .ac, .ac, .ac, .int .i64, .int .i64] → AHeap → Prop) (X10 : Env → AHeap → Prop) (hX10 : ∀ s t H, solve_manager_add.R10 s t → Y10 s H → X10 t H) {x0 : AC} {x3 : AC} {x5 : AC} {x6 : AC} {x15 : AC} {x16 : Int} {x17 : Int} {H : AHeap} (j : Env) : solve_manager_add.b10 Q Y10 x0 x3 x5 x6 x15 x16 x17 H → wpC Try.prog solve_manager_add.c11 (upd (upd (upd (upd (upd (upd (upd j 0 (.one x0)) 3 (.one x3)) 5 (.one x5)) 6 (.one x6)) 15 (.one x15)) 16 (.one (.int .i64 x16))) 17 (.one (.int .i64 x17))) H (kSeq X10 (kBlk 0 (solve_manager_add.k7 Q))) := c_seq (c_ops (s_cons (w_put (o_lt rfl rfl (s_nil (k_seq (c_seq (c_if rfl (c_skip (k_seq (c_seq (c_blk (c_seq (c_ops (s_cons (w_put (o_mov rfl (s_cons (w_put (o_ia rfl rfl (fun q_1 => s_cons (w_put (o_ld3 rfl (fun (v_2 : Int) (v_3 : Int) (v_4 : Int) => s_cons (w_put (o_new (fun p_5 H_6 => s_cons (w_put (o_mov rfl (s_cons (w_run (o_st rfl rfl rfl (fun H_7 => s_nil (k_seq (c_held (t_cons (w_put (o_ld1 rfl (fun (v_8 : AC) => t_cons (w_put (o_mov rfl (t_cons (w_put (o_mov rfl (t_cons (w_put (o_fa rfl (fun q_9 => t_cons (w_put (o_ld1 rfl (fun (v_10 : Int) => t_cons (w_put (o_mov rfl (t_cons (w_put (o_fa rfl (fun q_11 => t_cons (w_put (o_ld1 rfl (fun (v_12 : Int) => t_cons (w_put (o_callv rfl rfl (cu_1 (fun H_13 (v_14 : Int) => t_cons (w_put (o_mov rfl (t_cons (w_put (o_fa rfl (fun q_15 => t_cons (w_put (o_ld1 rfl (fun (v_16 : Int) => t_cons (w_put (o_callv rfl rfl (cu_1 (fun H_17 (v_18 : Int) => t_cons (w_put (o_call rfl (cv_1 (fun H_19 (v_20 : Int) => t_cons (w_put (o_ia rfl rfl (fun q_21 => t_cons (w_run (o_st rfl rfl rfl (fun H_22 => t_nil (p_one rfl rfl rfl rfl rfl rfl rfl rfl (p_one rfl rfl rfl rfl rfl rfl rfl rfl (p_one rfl rfl rfl rfl rfl rfl rfl rfl (p_one rfl rfl rfl rfl rfl rfl rfl rfl (p_one rfl rfl rfl rfl rfl rfl rfl rfl (p_two rfl rfl rfl rfl rfl rfl rfl rfl (p_nil (k_blk (k_seq (c_ops (s_cons (w_put (o_add rfl rfl (s_cons (w_put (o_mov rfl (s_nil (k_seq (hX10 _ _ _ ⟨rfl, rfl, rfl, rfl, rfl, rfl, rfl, trivial⟩)))))))))))))))))))))))))))))))))))))))))))))))))))))))))))))))))))))))))))))))))))))))))))))))))) (c_exit (k_seqE (k_seqE (k_blkH (k_seq (c_seq (c_ops (s_cons (w_put (o_mov rfl (s_cons (w_put (o_fa rfl (fun q_23 => s_cons (w_put (o_ld1 rfl (fun (v_24 : Int) => s_cons (w_put (o_callv rfl rfl (cu_1 (fun H_25 (v_26 : Int) => s_cons (w_put (o_mov rfl (s_nil (k_seq (c_ret (k_topR (r_one rfl (r_nil (fun h => ⟨((v_26 : Int), ()), rfl, h⟩))))))))))))))))))))))))))))))))))))))
theorem solve_manager_add.l10_ok (Q : AHeap → Int → Prop) {x0 : AC} {x3 : AC} {x5 : AC} {x6 : AC} {x15 : AC} {x16 : Int} {x17 : Int} {H : AHeap} {t : Env} (h0 : t 0 = (.one x0)) (h3 : t 3 = (.one x3)) (h5 : t 5 = (.one x5)) (h6 : t 6 = (.one x6)) (h15 : t 15 = (.one x15)) (h16 : t 16 = (.one (.int .i64 x16))) (h17 : t 17 = (.one (.int .i64 x17))) : solve_manager_add.l10 Q x0 x3 x5 x6 x15 x16 x17 H → wpC Try.prog (.loop solve_manager_add.c11) t H (kBlk 0 (solve_manager_add.k7 Q)) :=
  m_loop solve_manager_add.R10 ⟨h0, h3, h5, h6, h15, h16, h17, trivial⟩ fun X Y hX s t H hR hB => by
    have g := solve_manager_add.b10_ok Q Y X hX t hB
    rw [upd_self hR.1] at g
    rw [upd_self hR.2.1] at g
    rw [upd_self hR.2.2.1] at g
    rw [upd_self hR.2.2.2.1] at g
    rw [upd_self hR.2.2.2.2.1] at g
    rw [upd_self hR.2.2.2.2.2.1] at g
    rw [upd_self hR.2.2.2.2.2.2.1] at g
    exact g
theorem solve_manager_add.ok {a0 : AC} {a1_0 : AC} {a1_1 : Int} {H : AHeap} (Q : AHeap → Int → Prop) : solve_manager_add.W a0 a1_0 a1_1 H Q → wpF Try.prog solve_manager_add.c [.tm 4] (envOf [(.one a0), (.agg [a1_0, (.int .i64 a1_1)])]) H (solve_manager_add.KQ Q) := c_seq (c_ops (s_cons (w_put (o_box rfl (fun p_1 H_2 => s_cons (w_put (o_mov rfl (s_nil (k_seq (c_seq (c_ops (s_cons (w_put (o_fa rfl (fun q_3 => s_cons (w_put (o_ld1 rfl (fun (v_4 : AC) => s_cons (w_put (o_lens rfl (fun n_5 => s_cons (w_put (o_mks rfl rfl (fun p_6 H_7 => s_cons (w_put (o_new (fun p_8 H_9 => s_cons (w_run (o_st rfl rfl rfl (fun H_10 => s_nil (k_seq (c_seq (c_ops (s_cons (w_put (o_fn rfl rfl (fun f_11 => s_cons (w_put (o_mov rfl (s_nil (k_seq (c_seq (c_seq (c_ops (s_cons (w_put (o_fa rfl (fun q_12 => s_cons (w_put (o_ld1 rfl (fun (v_13 : AC) => s_cons (w_put (o_lens rfl (fun n_14 => s_cons (w_put (o_mov rfl (s_nil (k_seq (c_blk (solve_manager_add.l10_ok Q rfl rfl rfl rfl rfl rfl rfl))))))))))))))))))))))))))))))))))))))))))))))))))))))))))))
theorem solve_manager_add.slimOk : slimOk [(6, [(0, 8), (0, 12), (0, 13), (4, 8), (4, 12), (11, 8)])] (Try.f51.body.getD .skip) = true := by kernel_rfl
theorem solve_manager_add.resC : resC Try.prog aggs Try.f51.ntmps (slim [(6, [(0, 8), (0, 12), (0, 13), (4, 8), (4, 12), (11, 8)])] (Try.f51.body.getD .skip)) = some solve_manager_add.c := by kernel_rfl
theorem solve_manager_add.resR : resR Try.prog Try.f51.results.toList = some [.tm 4] := by kernel_rfl
theorem solve_manager_add.bodyEq : Try.f51.body = some (Try.f51.body.getD .skip) := by kernel_rfl
theorem solve_manager_add.run {a0 : AC} {a1_0 : AC} {a1_1 : Int} {H : AHeap} {Q : AHeap → Int → Prop} (h : solve_manager_add.W a0 a1_0 a1_1 H Q) : Fn.solve_manager_add a0 a1_0 a1_1 H Q := by
  unfold Fn.solve_manager_add RunT
  exact run_of aggs_ok [(6, [(0, 8), (0, 12), (0, 13), (4, 8), (4, 12), (11, 8)])] Try.func51 solve_manager_add.bodyEq solve_manager_add.slimOk solve_manager_add.resC solve_manager_add.resR (Nat.le_of_ble_eq_true (by kernel_rfl)) (solve_manager_add.ok Q h)

def solve_manager_and.c : RC := (.seq (.ops [.put 6 (.mov (.ct (.one (.int .i64 0))))]) (.seq (.ops [.put 7 (.mov (.tm 0)),
    .put 8 (.mov (.tm 1)),
    .put 9 (.mov (.tm 2)),
    .put 10 (.call 81 [(.tm 7), (.tm 8), (.tm 9), (.ct (.one (.int .i64 (-1))))]),
    .put 6 (.mov (.tm 10))]) .ret))
abbrev solve_manager_and.KQ (Q : AHeap → Int → Prop) : AV → AHeap → Prop := fun v H => ∃ xs : Tup (flat [(false, [.int .i64])]), v = joinR (splitP [(false, [.int .i64])] (cellsOf (flat [(false, [.int .i64])]) xs)) ∧ app (flat [(false, [.int .i64])]) (Q H) xs
abbrev solve_manager_and.K (Q : AHeap → Int → Prop) : Ex → Env → AHeap → Prop := kTop [.tm 6] (solve_manager_and.KQ Q)
def solve_manager_and.W (a0 : AC) (a1 : Int) (a2 : Int) (H : AHeap) (Q : AHeap → Int → Prop) : Prop :=
  Fn.solve_manager_ite a0 a1 a2 (-1) H fun H_1 (v_2 : Int) =>
  Q H_1 v_2
theorem solve_manager_and.ok {a0 : AC} {a1 : Int} {a2 : Int} {H : AHeap} (Q : AHeap → Int → Prop) : solve_manager_and.W a0 a1 a2 H Q → wpF Try.prog solve_manager_and.c [.tm 6] (envOf [(.one a0), (.one (.int .i64 a1)), (.one (.int .i64 a2))]) H (solve_manager_and.KQ Q) := c_seq (c_ops (s_cons (w_put (o_mov rfl (s_nil (k_seq (c_seq (c_ops (s_cons (w_put (o_mov rfl (s_cons (w_put (o_mov rfl (s_cons (w_put (o_mov rfl (s_cons (w_put (o_call rfl (cv_1 (fun H_1 (v_2 : Int) => s_cons (w_put (o_mov rfl (s_nil (k_seq (c_ret (k_topR (r_one rfl (r_nil (fun h => ⟨((v_2 : Int), ()), rfl, h⟩)))))))))))))))))))))))))))))))
theorem solve_manager_and.slimOk : slimOk [] (Try.f52.body.getD .skip) = true := by kernel_rfl
theorem solve_manager_and.resC : resC Try.prog aggs Try.f52.ntmps (slim [] (Try.f52.body.getD .skip)) = some solve_manager_and.c := by kernel_rfl
theorem solve_manager_and.resR : resR Try.prog Try.f52.results.toList = some [.tm 6] := by kernel_rfl
theorem solve_manager_and.bodyEq : Try.f52.body = some (Try.f52.body.getD .skip) := by kernel_rfl
theorem solve_manager_and.run {a0 : AC} {a1 : Int} {a2 : Int} {H : AHeap} {Q : AHeap → Int → Prop} (h : solve_manager_and.W a0 a1 a2 H Q) : Fn.solve_manager_and a0 a1 a2 H Q := by
  unfold Fn.solve_manager_and RunT
  exact run_of aggs_ok [] Try.func52 solve_manager_and.bodyEq solve_manager_and.slimOk solve_manager_and.resC solve_manager_and.resR (Nat.le_of_ble_eq_true (by kernel_rfl)) (solve_manager_and.ok Q h)

def solve_manager_or.c : RC := (.seq (.ops [.put 6 (.mov (.ct (.one (.int .i64 0))))]) (.seq (.ops [.put 7 (.mov (.tm 0)),
    .put 8 (.mov (.tm 1)),
    .put 9 (.mov (.tm 2)),
    .put 10 (.call 81 [(.tm 7), (.tm 8), (.ct (.one (.int .i64 (-2)))), (.tm 9)]),
    .put 6 (.mov (.tm 10))]) .ret))
abbrev solve_manager_or.KQ (Q : AHeap → Int → Prop) : AV → AHeap → Prop := fun v H => ∃ xs : Tup (flat [(false, [.int .i64])]), v = joinR (splitP [(false, [.int .i64])] (cellsOf (flat [(false, [.int .i64])]) xs)) ∧ app (flat [(false, [.int .i64])]) (Q H) xs
abbrev solve_manager_or.K (Q : AHeap → Int → Prop) : Ex → Env → AHeap → Prop := kTop [.tm 6] (solve_manager_or.KQ Q)
def solve_manager_or.W (a0 : AC) (a1 : Int) (a2 : Int) (H : AHeap) (Q : AHeap → Int → Prop) : Prop :=
  Fn.solve_manager_ite a0 a1 (-2) a2 H fun H_1 (v_2 : Int) =>
  Q H_1 v_2
theorem solve_manager_or.ok {a0 : AC} {a1 : Int} {a2 : Int} {H : AHeap} (Q : AHeap → Int → Prop) : solve_manager_or.W a0 a1 a2 H Q → wpF Try.prog solve_manager_or.c [.tm 6] (envOf [(.one a0), (.one (.int .i64 a1)), (.one (.int .i64 a2))]) H (solve_manager_or.KQ Q) := c_seq (c_ops (s_cons (w_put (o_mov rfl (s_nil (k_seq (c_seq (c_ops (s_cons (w_put (o_mov rfl (s_cons (w_put (o_mov rfl (s_cons (w_put (o_mov rfl (s_cons (w_put (o_call rfl (cv_1 (fun H_1 (v_2 : Int) => s_cons (w_put (o_mov rfl (s_nil (k_seq (c_ret (k_topR (r_one rfl (r_nil (fun h => ⟨((v_2 : Int), ()), rfl, h⟩)))))))))))))))))))))))))))))))
theorem solve_manager_or.slimOk : slimOk [] (Try.f53.body.getD .skip) = true := by kernel_rfl
theorem solve_manager_or.resC : resC Try.prog aggs Try.f53.ntmps (slim [] (Try.f53.body.getD .skip)) = some solve_manager_or.c := by kernel_rfl
theorem solve_manager_or.resR : resR Try.prog Try.f53.results.toList = some [.tm 6] := by kernel_rfl
theorem solve_manager_or.bodyEq : Try.f53.body = some (Try.f53.body.getD .skip) := by kernel_rfl
theorem solve_manager_or.run {a0 : AC} {a1 : Int} {a2 : Int} {H : AHeap} {Q : AHeap → Int → Prop} (h : solve_manager_or.W a0 a1 a2 H Q) : Fn.solve_manager_or a0 a1 a2 H Q := by
  unfold Fn.solve_manager_or RunT
  exact run_of aggs_ok [] Try.func53 solve_manager_or.bodyEq solve_manager_or.slimOk solve_manager_or.resC solve_manager_or.resR (Nat.le_of_ble_eq_true (by kernel_rfl)) (solve_manager_or.ok Q h)

def solve_manager_xor.c : RC := (.seq (.ops [.put 6 (.mov (.ct (.one (.int .i64 0))))]) (.seq (.ops [.put 7 (.mov (.tm 0)),
    .put 8 (.mov (.tm 1)),
    .put 9 (.mov (.tm 0)),
    .put 10 (.mov (.tm 2)),
    .put 11 (.call 56 [(.tm 9), (.tm 10)]),
    .put 12 (.mov (.tm 2)),
    .put 13 (.call 81 [(.tm 7), (.tm 8), (.tm 11), (.tm 12)]),
    .put 6 (.mov (.tm 13))]) .ret))
abbrev solve_manager_xor.KQ (Q : AHeap → Int → Prop) : AV → AHeap → Prop := fun v H => ∃ xs : Tup (flat [(false, [.int .i64])]), v = joinR (splitP [(false, [.int .i64])] (cellsOf (flat [(false, [.int .i64])]) xs)) ∧ app (flat [(false, [.int .i64])]) (Q H) xs
abbrev solve_manager_xor.K (Q : AHeap → Int → Prop) : Ex → Env → AHeap → Prop := kTop [.tm 6] (solve_manager_xor.KQ Q)
def solve_manager_xor.W (a0 : AC) (a1 : Int) (a2 : Int) (H : AHeap) (Q : AHeap → Int → Prop) : Prop :=
  Fn.solve_manager_not a0 a2 H fun H_1 (v_2 : Int) =>
  Fn.solve_manager_ite a0 a1 v_2 a2 H_1 fun H_3 (v_4 : Int) =>
  Q H_3 v_4
theorem solve_manager_xor.ok {a0 : AC} {a1 : Int} {a2 : Int} {H : AHeap} (Q : AHeap → Int → Prop) : solve_manager_xor.W a0 a1 a2 H Q → wpF Try.prog solve_manager_xor.c [.tm 6] (envOf [(.one a0), (.one (.int .i64 a1)), (.one (.int .i64 a2))]) H (solve_manager_xor.KQ Q) := c_seq (c_ops (s_cons (w_put (o_mov rfl (s_nil (k_seq (c_seq (c_ops (s_cons (w_put (o_mov rfl (s_cons (w_put (o_mov rfl (s_cons (w_put (o_mov rfl (s_cons (w_put (o_mov rfl (s_cons (w_put (o_call rfl (cv_1 (fun H_1 (v_2 : Int) => s_cons (w_put (o_mov rfl (s_cons (w_put (o_call rfl (cv_1 (fun H_3 (v_4 : Int) => s_cons (w_put (o_mov rfl (s_nil (k_seq (c_ret (k_topR (r_one rfl (r_nil (fun h => ⟨((v_4 : Int), ()), rfl, h⟩)))))))))))))))))))))))))))))))))))))))))
theorem solve_manager_xor.slimOk : slimOk [] (Try.f54.body.getD .skip) = true := by kernel_rfl
theorem solve_manager_xor.resC : resC Try.prog aggs Try.f54.ntmps (slim [] (Try.f54.body.getD .skip)) = some solve_manager_xor.c := by kernel_rfl
theorem solve_manager_xor.resR : resR Try.prog Try.f54.results.toList = some [.tm 6] := by kernel_rfl
theorem solve_manager_xor.bodyEq : Try.f54.body = some (Try.f54.body.getD .skip) := by kernel_rfl
theorem solve_manager_xor.run {a0 : AC} {a1 : Int} {a2 : Int} {H : AHeap} {Q : AHeap → Int → Prop} (h : solve_manager_xor.W a0 a1 a2 H Q) : Fn.solve_manager_xor a0 a1 a2 H Q := by
  unfold Fn.solve_manager_xor RunT
  exact run_of aggs_ok [] Try.func54 solve_manager_xor.bodyEq solve_manager_xor.slimOk solve_manager_xor.resC solve_manager_xor.resR (Nat.le_of_ble_eq_true (by kernel_rfl)) (solve_manager_xor.ok Q h)

def solve_manager_not.c : RC := (.seq (.ops [.put 4 (.mov (.ct (.one (.int .i64 0))))]) (.seq (.ops [.put 5 (.mov (.tm 0)),
    .put 6 (.mov (.tm 1)),
    .put 7 (.call 81 [(.tm 5), (.tm 6), (.ct (.one (.int .i64 (-1)))), (.ct (.one (.int .i64 (-2))))]),
    .put 4 (.mov (.tm 7))]) .ret))
abbrev solve_manager_not.KQ (Q : AHeap → Int → Prop) : AV → AHeap → Prop := fun v H => ∃ xs : Tup (flat [(false, [.int .i64])]), v = joinR (splitP [(false, [.int .i64])] (cellsOf (flat [(false, [.int .i64])]) xs)) ∧ app (flat [(false, [.int .i64])]) (Q H) xs
abbrev solve_manager_not.K (Q : AHeap → Int → Prop) : Ex → Env → AHeap → Prop := kTop [.tm 4] (solve_manager_not.KQ Q)
def solve_manager_not.W (a0 : AC) (a1 : Int) (H : AHeap) (Q : AHeap → Int → Prop) : Prop :=
  Fn.solve_manager_ite a0 a1 (-1) (-2) H fun H_1 (v_2 : Int) =>
  Q H_1 v_2
theorem solve_manager_not.ok {a0 : AC} {a1 : Int} {H : AHeap} (Q : AHeap → Int → Prop) : solve_manager_not.W a0 a1 H Q → wpF Try.prog solve_manager_not.c [.tm 4] (envOf [(.one a0), (.one (.int .i64 a1))]) H (solve_manager_not.KQ Q) := c_seq (c_ops (s_cons (w_put (o_mov rfl (s_nil (k_seq (c_seq (c_ops (s_cons (w_put (o_mov rfl (s_cons (w_put (o_mov rfl (s_cons (w_put (o_call rfl (cv_1 (fun H_1 (v_2 : Int) => s_cons (w_put (o_mov rfl (s_nil (k_seq (c_ret (k_topR (r_one rfl (r_nil (fun h => ⟨((v_2 : Int), ()), rfl, h⟩))))))))))))))))))))))))))))
theorem solve_manager_not.slimOk : slimOk [] (Try.f56.body.getD .skip) = true := by kernel_rfl
theorem solve_manager_not.resC : resC Try.prog aggs Try.f56.ntmps (slim [] (Try.f56.body.getD .skip)) = some solve_manager_not.c := by kernel_rfl
theorem solve_manager_not.resR : resR Try.prog Try.f56.results.toList = some [.tm 4] := by kernel_rfl
theorem solve_manager_not.bodyEq : Try.f56.body = some (Try.f56.body.getD .skip) := by kernel_rfl
theorem solve_manager_not.run {a0 : AC} {a1 : Int} {H : AHeap} {Q : AHeap → Int → Prop} (h : solve_manager_not.W a0 a1 H Q) : Fn.solve_manager_not a0 a1 H Q := by
  unfold Fn.solve_manager_not RunT
  exact run_of aggs_ok [] Try.func56 solve_manager_not.bodyEq solve_manager_not.slimOk solve_manager_not.resC solve_manager_not.resR (Nat.le_of_ble_eq_true (by kernel_rfl)) (solve_manager_not.ok Q h)

def solve_varsFault.c15 : RC := (.cond 22 (.seq (.ops [.put 4 (.mov (.ct (.one (.int .i64 1))))]) .ret) .skip)
def solve_varsFault.c : RC := (.seq (.ops [.put 2 (.box 27 (.tm 0)),
    .put 3 (.box 3 (.tm 1)),
    .put 4 (.mov (.ct (.one (.int .i64 0))))]) (.seq (.seq (.ops [.put 6 (.ld true [.ac, .int .i64] (.tm 2)),
    .put 7 (.call 31 [(.tm 6)]),
    .put 5 (.mov (.tm 7))]) (.seq (.ops [.put 8 (.mov (.tm 5)),
    .put 9 (.cm .ne (.tm 8) (.ct (.one (.int .i64 0))))]) (.cond 9 (.seq (.ops [.put 10 (.mov (.tm 5)),
    .put 4 (.mov (.tm 10))]) .ret) .skip))) (.seq (.seq (.ops [.put 11 (.ld false [.int .i64] (.tm 3)),
    .put 12 (.cm .lt (.tm 11) (.ct (.one (.int .i64 0)))),
    .put 13 (.mov (.tm 12)),
    .gput 14 13 false (.ld false [.int .i64] (.tm 3)),
    .gput 15 13 false (.cm .gt (.tm 14) (.ct (.one (.int .i64 16)))),
    .put 16 (.pick (.tm 13) (.ct (.one (.bool true))) (.tm 15)),
    .put 17 (.mov (.tm 16)),
    .gput 18 17 false (.fa 0 (.tm 2)),
    .gput 19 17 false (.ld false [.ac] (.tm 18)),
    .gput 20 17 false (.fn 86 [] [(.tm 3)]),
    .gput 21 17 false (.call 85 [(.tm 19), (.tm 20)]),
    .put 22 (.pick (.tm 17) (.ct (.one (.bool true))) (.tm 21))]) solve_varsFault.c15) (.seq (.ops [.put 4 (.mov (.ct (.one (.int .i64 0))))]) .ret))))
abbrev solve_varsFault.KQ (Q : AHeap → Int → Prop) : AV → AHeap → Prop := fun v H => ∃ xs : Tup (flat [(false, [.int .i64])]), v = joinR (splitP [(false, [.int .i64])] (cellsOf (flat [(false, [.int .i64])]) xs)) ∧ app (flat [(false, [.int .i64])]) (Q H) xs
abbrev solve_varsFault.K (Q : AHeap → Int → Prop) : Ex → Env → AHeap → Prop := kTop [.tm 4] (solve_varsFault.KQ Q)
abbrev solve_varsFault.k13 (Q : AHeap → Int → Prop) : Ex → Env → AHeap → Prop := kSeq (fun t H => wpC Try.prog (.seq (.ops [.put 4 (.mov (.ct (.one (.int .i64 0))))]) .ret) t H (solve_varsFault.K Q)) (solve_varsFault.K Q)
def solve_varsFault.p15 (Q : AHeap → Int → Prop) (x22 : Bool) (H : AHeap) : Prop :=
  CondB x22
    (Q H 1)
    (Q H 0)
def solve_varsFault.W (a0_0 : AC) (a0_1 : Int) (a1 : Int) (H : AHeap) (Q : AHeap → Int → Prop) : Prop :=
  New 27 [a0_0, (.int .i64 a0_1)] H fun p_1 H_2 =>
  New 3 [(.int .i64 a1)] H_2 fun p_3 H_4 =>
  Ld [.ac, .int .i64] H_4 p_1 fun (v_5 : AC) (v_6 : Int) =>
  Fn.solve_CheckDiagram v_5 v_6 H_4 fun H_7 (v_8 : Int) =>
  CondB (v_8 != 0)
    (Q H_7 v_8)
    (Ld [.int .i64] H_7 p_3 fun (v_9 : Int) =>
    CondB (decide (v_9 < 0))
      (solve_varsFault.p15 Q true H_7)
      (Ld [.int .i64] H_7 p_3 fun (v_10 : Int) =>
      CondB (decide (v_10 > 16))
        (solve_varsFault.p15 Q true H_7)
        (FA 0 p_1 fun q_11 =>
        Ld [.ac] H_7 q_11 fun (v_12 : AC) =>
        Fnc 86 [] [p_3] fun f_13 =>
        Fn.slices_ContainsFunc_fetterlock_api_Node_fetterlock_api_Node v_12 f_13 H_7 fun H_14 (v_15 : Bool) =>
        solve_varsFault.p15 Q v_15 H_14)))
theorem solve_varsFault.p15_okE (Q : AHeap → Int → Prop) {x22 : Bool} {H : AHeap} (j : Env) : solve_varsFault.p15 Q x22 H → wpC Try.prog solve_varsFault.c15 (upd j 22 (.one (.bool x22))) H (solve_varsFault.k13 Q) := c_if rfl (c_seq (c_ops (s_cons (w_put (o_mov rfl (s_nil (k_seq (c_ret (k_seqR (k_topR (r_one rfl (r_nil (fun h => ⟨((1 : Int), ()), rfl, h⟩))))))))))))) (c_skip (k_seq (c_seq (c_ops (s_cons (w_put (o_mov rfl (s_nil (k_seq (c_ret (k_topR (r_one rfl (r_nil (fun h => ⟨((0 : Int), ()), rfl, h⟩))))))))))))))
theorem solve_varsFault.p15_ok (Q : AHeap → Int → Prop) {x22 : Bool} {H : AHeap} {t : Env} (h22 : t 22 = (.one (.bool x22))) (h : solve_varsFault.p15 Q x22 H) : wpC Try.prog solve_varsFault.c15 t H (solve_varsFault.k13 Q) := by
  have g := solve_varsFault.p15_okE Q t h
  rw [upd_self h22] at g
  exact g
theorem solve_varsFault.ok {a0_0 : AC} {a0_1 : Int} {a1 : Int} {H : AHeap} (Q : AHeap → Int → Prop) : solve_varsFault.W a0_0 a0_1 a1 H Q → wpF Try.prog solve_varsFault.c [.tm 4] (envOf [(.agg [a0_0, (.int .i64 a0_1)]), (.one (.int .i64 a1))]) H (solve_varsFault.KQ Q) := c_seq (c_ops (s_cons (w_put (o_box rfl (fun p_1 H_2 => s_cons (w_put (o_box rfl (fun p_3 H_4 => s_cons (w_put (o_mov rfl (s_nil (k_seq (c_seq (c_seq (c_ops (s_cons (w_put (o_ld2 rfl (fun (v_5 : AC) (v_6 : Int) => s_cons (w_put (o_call rfl (cv_1 (fun H_7 (v_8 : Int) => s_cons (w_put (o_mov rfl (s_nil (k_seq (c_seq (c_ops (s_cons (w_put (o_mov rfl (s_cons (w_put (o_ne rfl rfl (s_nil (k_seq (c_if rfl (c_seq (c_ops (s_cons (w_put (o_mov rfl (s_cons (w_put (o_mov rfl (s_nil (k_seq (c_ret (k_seqR (k_topR (r_one rfl (r_nil (fun h => ⟨((v_8 : Int), ()), rfl, h⟩)))))))))))))))) (c_skip (k_seq (c_seq (c_seq (c_ops (s_cons (w_put (o_ld1 rfl (fun (v_9 : Int) => s_cons (w_put (o_lt rfl rfl (s_cons (w_put (o_mov rfl (s_cons (w_gputF rfl (s_cons (w_gputN rfl (s_cons (w_put (o_pickT rfl rfl (s_cons (w_put (o_mov rfl (s_cons (w_gputN rfl (s_cons (w_gputN rfl (s_cons (w_gputN rfl (s_cons (w_gputN rfl (s_cons (w_put (o_pickT rfl rfl (s_nil (k_seq (solve_varsFault.p15_ok Q rfl)))))))))))))))))))))) (o_ld1 rfl (fun (v_10 : Int) => s_cons (w_gputY rfl (o_gt rfl rfl (s_cons (w_put (o_pickF rfl rfl (s_cons (w_put (o_mov rfl (s_cons (w_gputF rfl (s_cons (w_gputN rfl (s_cons (w_gputN rfl (s_cons (w_gputN rfl (s_cons (w_put (o_pickT rfl rfl (s_nil (k_seq (solve_varsFault.p15_ok Q rfl)))))))))))) (o_fa rfl (fun q_11 => s_cons (w_gputY rfl (o_ld1 rfl (fun (v_12 : AC) => s_cons (w_gputY rfl (o_fn rfl rfl (fun f_13 => s_cons (w_gputY rfl (o_call rfl (cv_1 (fun H_14 (v_15 : Bool) => s_cons (w_put (o_pickF rfl rfl (s_nil (k_seq (solve_varsFault.p15_ok Q rfl)))))))))))))))))))))))))))))))))))))))))))))))))))))))))))))))))))))))))))))))))))
theorem solve_varsFault.slimOk : slimOk [] (Try.f57.body.getD .skip) = true := by kernel_rfl
theorem solve_varsFault.resC : resC Try.prog aggs Try.f57.ntmps (slim [] (Try.f57.body.getD .skip)) = some solve_varsFault.c := by kernel_rfl
theorem solve_varsFault.resR : resR Try.prog Try.f57.results.toList = some [.tm 4] := by kernel_rfl
theorem solve_varsFault.bodyEq : Try.f57.body = some (Try.f57.body.getD .skip) := by kernel_rfl
theorem solve_varsFault.run {a0_0 : AC} {a0_1 : Int} {a1 : Int} {H : AHeap} {Q : AHeap → Int → Prop} (h : solve_varsFault.W a0_0 a0_1 a1 H Q) : Fn.solve_varsFault a0_0 a0_1 a1 H Q := by
  unfold Fn.solve_varsFault RunT
  exact run_of aggs_ok [] Try.func57 solve_varsFault.bodyEq solve_varsFault.slimOk solve_varsFault.resC solve_varsFault.resR (Nat.le_of_ble_eq_true (by kernel_rfl)) (solve_varsFault.ok Q h)

def solve_Count_1.c : RC := (.seq (.ops [.put 7 (.mov (.ct (.one (.int .i64 0))))]) (.seq (.block 0 (.seq (.ops [.put 9 (.mov (.tm 0)),
    .put 10 (.cm .eq (.tm 9) (.ct (.one (.int .i64 (-1))))),
    .put 8 (.mov (.tm 10))]) (.cond 8 (.seq (.ops [.put 7 (.mov (.ct (.one (.int .i64 0))))]) .ret) (.seq (.ops [.put 12 (.mov (.tm 0)),
    .put 13 (.cm .eq (.tm 12) (.ct (.one (.int .i64 (-2))))),
    .put 11 (.mov (.tm 13))]) (.cond 11 (.seq (.ops [.put 14 (.ld false [.int .i64] (.tm 2)),
    .put 15 (.mov (.tm 1)),
    .put 16 (.ar .sub (.tm 14) (.tm 15)),
    .put 17 (.sh true (.ct (.one (.int .i64 1))) (.tm 16)),
    .put 7 (.mov (.tm 17))]) .ret) .skip))))) (.seq (.ops [.put 18 (.ld false [.ac] (.tm 3)),
    .put 19 (.mov (.tm 0)),
    .put 20 (.ia 1 (.tm 18) (.tm 19)),
    .put 21 (.ld false [.int .i64] (.tm 20)),
    .put 22 (.fa 0 (.tm 4)),
    .put 23 (.ld false [.ac] (.tm 22)),
    .put 24 (.mov (.tm 0)),
    .put 25 (.ia 3 (.tm 23) (.tm 24)),
    .put 26 (.fa 0 (.tm 25)),
    .put 27 (.ld false [.int .i64] (.tm 26)),
    .put 28 (.mov (.tm 1)),
    .put 29 (.ar .sub (.tm 27) (.tm 28)),
    .put 30 (.sh true (.tm 21) (.tm 29)),
    .put 7 (.mov (.tm 30))]) .ret)))
abbrev solve_Count_1.KQ (Q : AHeap → Int → Prop) : AV → AHeap → Prop := fun v H => ∃ xs : Tup (flat [(false, [.int .i64])]), v = joinR (splitP [(false, [.int .i64])] (cellsOf (flat [(false, [.int .i64])]) xs)) ∧ app (flat [(false, [.int .i64])]) (Q H) xs
abbrev solve_Count_1.K (Q : AHeap → Int → Prop) : Ex → Env → AHeap → Prop := kTop [.tm 7] (solve_Count_1.KQ Q)
def solve_Count_1.W (a0 : Int) (a1 : Int) (a2 : AC) (a3 : AC) (a4 : AC) (H : AHeap) (Q : AHeap → Int → Prop) : Prop :=
  CondB (a0 == (-1))
    (Q H 0)
    (CondB (a0 == (-2))
      (Ld [.int .i64] H a2 fun (v_1 : Int) =>
      GE0 (IntKind.wrap .i64 (v_1 - a1)) <|
      Q H (shl .i64 1 (IntKind.wrap .i64 (v_1 - a1))))
      (Ld [.ac] H a3 fun (v_2 : AC) =>
      IA 1 v_2 a0 fun q_3 =>
      Ld [.int .i64] H q_3 fun (v_4 : Int) =>
      FA 0 a4 fun q_5 =>
      Ld [.ac] H q_5 fun (v_6 : AC) =>
      IA 3 v_6 a0 fun q_7 =>
      FA 0 q_7 fun q_8 =>
      Ld [.int .i64] H q_8 fun (v_9 : Int) =>
      GE0 (IntKind.wrap .i64 (v_9 - a1)) <|
      Q H (shl .i64 v_4 (IntKind.wrap .i64 (v_9 - a1)))))
theorem solve_Count_1.ok {a0 : Int} {a1 : Int} {a2 : AC} {a3 : AC} {a4 : AC} {H : AHeap} (Q : AHeap → Int → Prop) : solve_Count_1.W a0 a1 a2 a3 a4 H Q → wpF Try.prog solve_Count_1.c [.tm 7] (envOf [(.one (.int .i64 a0)), (.one (.int .i64 a1)), (.one a2), (.one a3), (.one a4)]) H (solve_Count_1.KQ Q) := c_seq (c_ops (s_cons (w_put (o_mov rfl (s_nil (k_seq (c_seq (c_blk (c_seq (c_ops (s_cons (w_put (o_mov rfl (s_cons (w_put (o_eq rfl rfl (s_cons (w_put (o_mov rfl (s_nil (k_seq (c_if rfl (c_seq (c_ops (s_cons (w_put (o_mov rfl (s_nil (k_seq (c_ret (k_blkR (k_seqR (k_topR (r_one rfl (r_nil (fun h => ⟨((0 : Int), ()), rfl, h⟩)))))))))))))) (c_seq (c_ops (s_cons (w_put (o_mov rfl (s_cons (w_put (o_eq rfl rfl (s_cons (w_put (o_mov rfl (s_nil (k_seq (c_if rfl (c_seq (c_ops (s_cons (w_put (o_ld1 rfl (fun (v_1 : Int) => s_cons (w_put (o_mov rfl (s_cons (w_put (o_sub rfl rfl (s_cons (w_put (o_shl rfl rfl (s_cons (w_put (o_mov rfl (s_nil (k_seq (c_ret (k_blkR (k_seqR (k_topR (r_one rfl (r_nil (fun h => ⟨(((shl .i64 1 (IntKind.wrap .i64 (v_1 - a1))) : Int), ()), rfl, h⟩)))))))))))))))))))))))))) (c_skip (k_blk (k_seq (c_seq (c_ops (s_cons (w_put (o_ld1 rfl (fun (v_2 : AC) => s_cons (w_put (o_mov rfl (s_cons (w_put (o_ia rfl rfl (fun q_3 => s_cons (w_put (o_ld1 rfl (fun (v_4 : Int) => s_cons (w_put (o_fa rfl (fun q_5 => s_cons (w_put (o_ld1 rfl (fun (v_6 : AC) => s_cons (w_put (o_mov rfl (s_cons (w_put (o_ia rfl rfl (fun q_7 => s_cons (w_put (o_fa rfl (fun q_8 => s_cons (w_put (o_ld1 rfl (fun (v_9 : Int) => s_cons (w_put (o_mov rfl (s_cons (w_put (o_sub rfl rfl (s_cons (w_put (o_shl rfl rfl (s_cons (w_put (o_mov rfl (s_nil (k_seq (c_ret (k_topR (r_one rfl (r_nil (fun h => ⟨(((shl .i64 v_4 (IntKind.wrap .i64 (v_9 - a1))) : Int), ()), rfl, h⟩))))))))))))))))))))))))))))))))))))))))))))))))))))))))))))))))))))))))))))))))))))))))))
theorem solve_Count_1.slimOk : slimOk [(5, [])] (Try.f58.body.getD .skip) = true := by kernel_rfl
theorem solve_Count_1.resC : resC Try.prog aggs Try.f58.ntmps (slim [(5, [])] (Try.f58.body.getD .skip)) = some solve_Count_1.c := by kernel_rfl
theorem solve_Count_1.resR : resR Try.prog Try.f58.results.toList = some [.tm 7] := by kernel_rfl
theorem solve_Count_1.bodyEq : Try.f58.body = some (Try.f58.body.getD .skip) := by kernel_rfl
theorem solve_Count_1.run {a0 : Int} {a1 : Int} {a2 : AC} {a3 : AC} {a4 : AC} {H : AHeap} {Q : AHeap → Int → Prop} (h : solve_Count_1.W a0 a1 a2 a3 a4 H Q) : Fn.solve_Count_1 a0 a1 a2 a3 a4 H Q := by
  unfold Fn.solve_Count_1 RunT
  exact run_of aggs_ok [(5, [])] Try.func58 solve_Count_1.bodyEq solve_Count_1.slimOk solve_Count_1.resC solve_Count_1.resR (Nat.le_of_ble_eq_true (by kernel_rfl)) (solve_Count_1.ok Q h)
end Go.Proofs.Ytanaaabejeeakaa
end
section
/- What the manager's functions come to: top, split, ite. -/
namespace Go.Proofs.Ytanaaabejeeakaa
open Go.AI Go.AI.DT

theorem top_c {m : AC} {F : Nat → Prop} {ts : List DT} {H : AHeap} (hm : Mgr H m F ts) {a : DT} (ha : In ts a) :
    Fn.solve_manager_top m (ref ts a) H fun H' r => r = (a.top : Int) ∧ H' = H := by
  refine solve_manager_top.run ?_
  unfold solve_manager_top.W
  obtain ⟨mb, ib, db, Fs, slc, idx, done, hx⟩ := hm
  obtain rfl := hx.m_eq
  refine CondB.dec (fun hlt => ?_) fun hge => ?_
  · obtain ⟨b, rfl⟩ := ref_leaf.1 hlt
    exact ⟨rfl, rfl⟩
  · have h0 : 0 ≤ ref ts a := by omega
    have hg := ref_get ha h0
    cases a with
    | leaf b => cases b <;> simp [ref] at h0
    | nd v l h =>
      refine NN.ptr (FA.mk (Ld.oc hx.own rfl (IA.of hx.sl.slr h0 (r := nodeCells (row ts (nd v l h))) (by simp [hg]) fun b o hld => FA.mk (Ld.ei hld rfl ?_))))
      exact ⟨rfl, rfl⟩

theorem split_c {m : AC} {F : Nat → Prop} {ts : List DT} {H : AHeap} (hm : Mgr H m F ts) {a : DT} (ha : In ts a) (v : Nat) (hv : v < 16) :
    Fn.solve_manager_split m (ref ts a) (v : Int) H fun H' r s => r = ref ts (a.lo v) ∧ s = ref ts (a.hi v) ∧ H' = H := by
  refine solve_manager_split.run ?_
  unfold solve_manager_split.W
  refine RunT.imp ?_ (top_c hm ha)
  rintro H1 t ⟨rfl, rfl⟩
  refine CondB.ne (fun hne => ?_) fun he => ?_
  · have : a.lo v = a ∧ a.hi v = a := by
      cases a with
      | leaf b => exact ⟨rfl, rfl⟩
      | nd w l h =>
        simp only [top] at hne
        have : w ≠ v := fun e => hne (by rw [e])
        simp [lo, hi, this]
    rw [this.1, this.2]
    exact ⟨rfl, rfl, rfl⟩
  · cases a with
    | leaf b => simp only [top] at he; omega
    | nd w l h =>
      simp only [top] at he
      have hw : w = v := by omega
      subst hw
      have h0 : 0 ≤ ref ts (nd w l h) := by rw [ref_ge]; omega
      have hg := ref_get ha h0
      obtain ⟨mb, ib, db, Fs, slc, idx, done, hx⟩ := hm
      obtain rfl := hx.m_eq
      refine NN.ptr (FA.mk (Ld.oc hx.own rfl (IA.of hx.sl.slr h0 (r := nodeCells (row ts (nd w l h))) (by simp [hg]) fun b o hld => FA.mk (Ld.ei hld rfl ?_))))
      refine NN.ptr (FA.mk (Ld.oc hx.own rfl (IA.of hx.sl.slr h0 (r := nodeCells (row ts (nd w l h))) (by simp [hg]) fun b o hld => FA.mk (Ld.ei hld rfl ?_))))
      refine ⟨?_, ?_, rfl⟩ <;> simp [lo, hi, row]

theorem in_lo {ts : List DT} (f : Fin ts) {a : DT} (h : In ts a) (v : Nat) : In ts (a.lo v) := by
  cases a with
  | leaf b => exact h
  | nd w l r =>
    simp only [DT.lo]
    split
    · rcases h with ⟨b, hb⟩ | h
      · cases hb
      · obtain ⟨_, _, _, e, h1, _, _⟩ := f.parts _ h; cases e; exact h1
    · exact h
theorem in_hi {ts : List DT} (f : Fin ts) {a : DT} (h : In ts a) (v : Nat) : In ts (a.hi v) := by
  cases a with
  | leaf b => exact h
  | nd w l r =>
    simp only [DT.hi]
    split
    · rcases h with ⟨b, hb⟩ | h
      · cases hb
      · obtain ⟨_, _, _, e, _, h1, _⟩ := f.parts _ h; cases e; exact h1
    · exact h

/-- What ite returns. -/
def IteRes (a b c r : DT) : Prop := (∀ ρ, r.eval ρ = if a.eval ρ then b.eval ρ else c.eval ρ) ∧ ∀ v, v ≤ a.top → v ≤ b.top → v ≤ c.top → v ≤ r.top

theorem min_cast (a b c : Nat) : (if (c : Int) < (if (b : Int) < (a : Int) then (b : Int) else a) then (c : Int) else (if (b : Int) < (a : Int) then (b : Int) else a)) = ((min (min a b) c : Nat) : Int) := by
  split <;> split at * <;> omega

theorem ite_c : ∀ (n : Nat) {m : AC} {F : Nat → Prop} {ts : List DT} {H : AHeap} {a b c : DT}, Mgr H m F ts → In ts a → In ts b → In ts c → 16 ≤ n + min (min a.top b.top) c.top → ts.length + 2 ^ n ≤ 4294967296 →
    Fn.solve_manager_ite m (ref ts a) (ref ts b) (ref ts c) H fun H' q => ∃ F' ts' r, After H m F ts (2 ^ n - 1) H' F' ts' ∧ In ts' r ∧ q = ref ts' r ∧ IteRes a b c r := by
  intro n
  induction n with
  | zero =>
    intro m F ts H a b c hm ha hb hc hn hsz
    have fin := hm.fin
    have ta := top_le a (fin.ro ha)
    cases a with
    | nd w l h => have := (fin.ro ha).1; simp only [top] at hn; omega
    | leaf x =>
      refine solve_manager_ite.run ?_
      unfold solve_manager_ite.W
      cases x with
      | true => exact CondB.pos rfl (by unfold solve_manager_ite.p6; exact CondB.pos rfl ⟨F, ts, b, .refl hm _, hb, rfl, fun ρ => by simp [eval], fun _ _ h _ => h⟩)
      | false =>
        refine CondB.neg rfl ?_
        unfold solve_manager_ite.p6
        refine CondB.eq (fun e => ?_) fun _ => ?_
        · have := ref_inj hb hc e; subst this
          exact ⟨F, ts, b, .refl hm _, hb, rfl, fun ρ => by simp, fun _ _ h _ => h⟩
        · exact CondB.pos rfl ⟨F, ts, c, .refl hm _, hc, rfl, fun ρ => by simp [eval], fun _ _ _ h => h⟩
  | succ n ih =>
    intro m F ts H a b c hm ha hb hc hn hsz
    have fin := hm.fin
    have ra := fin.ro ha
    have rb := fin.ro hb
    have rc := fin.ro hc
    refine solve_manager_ite.run ?_
    unfold solve_manager_ite.W
    have hb1 : ∀ H' : AHeap, After H m F ts (2 ^ (n + 1) - 1) H' F ts → (a = leaf true ∨ b = c) → ∃ F' ts' r, After H m F ts (2 ^ (n + 1) - 1) H' F' ts' ∧ In ts' r ∧ ref ts b = ref ts' r ∧ IteRes a b c r := by
      intro H' haf hor
      refine ⟨F, ts, b, haf, hb, rfl, fun ρ => ?_, fun _ _ h _ => h⟩
      rcases hor with rfl | rfl
      · simp [eval]
      · simp
    -- the rest, once the easy ways are gone
    have rest : (¬ a = leaf true) → b ≠ c → a ≠ leaf false → (¬ (b = leaf true ∧ c = leaf false)) →
        solve_manager_ite.p18 (fun H' q => ∃ F' ts' r, After H m F ts (2 ^ (n + 1) - 1) H' F' ts' ∧ In ts' r ∧ q = ref ts' r ∧ IteRes a b c r) m (ref ts a) (ref ts b) (ref ts c) false H := by
      intro n1 n2 n3 n4
      unfold solve_manager_ite.p18
      refine CondB.neg rfl ?_
      refine NewSto.own rfl fun bx H2 hbx hs2 hbox hk2 => ?_
      obtain ⟨mb, ib, db, Fs, slc, idx, done, hx⟩ := hm
      have hx2 := hx.keep hk2 fun _ h => h.elim
      have hlt := hx.lt
      have hm2 : Mgr H2 m F ts := ⟨mb, ib, db, Fs, slc, idx, done, hx2⟩
      obtain rfl := hx.m_eq
      refine NN.ptr (FA.mk (Ld.oc hx2.own rfl (Ld.o3 hbox (ref ts a) (ref ts b) (ref ts c) rfl (Look.i hx2.dm rfl (fun q hf => ?_) fun hf => ?_))))
      · refine CondB.pos rfl ?_
        obtain ⟨a', b', c', r, h1, h2, h3, h4, h5, h6, h7, h8⟩ := hx.dok.ok _ _ hf
        simp only [List.cons.injEq, and_true] at h5
        have e1 := ref_inj ha h1 h5.1
        have e2 := ref_inj hb h2 h5.2.1
        have e3 := ref_inj hc h3 h5.2.2
        subst e1 e2 e3
        exact ⟨F, ts, r, (After.refl hm2 _).kp hk2, h4, h6, h7, h8⟩
      · refine CondB.neg rfl ?_
        refine RunT.imp ?_ (top_c hm2 ha)
        rintro H3 t1 ⟨rfl, rfl⟩
        refine RunT.imp ?_ (top_c hm2 hb)
        rintro H3 t2 ⟨rfl, rfl⟩
        refine RunT.imp ?_ (top_c hm2 hc)
        rintro H3 t3 ⟨rfl, rfl⟩
        rw [min_cast]
        obtain ⟨v, hv⟩ : ∃ v, v = min (min a.top b.top) c.top := ⟨_, rfl⟩
        rw [← hv]
        have hva : v ≤ a.top := by omega
        have hvb : v ≤ b.top := by omega
        have hvc : v ≤ c.top := by omega
        have hv16 : v < 16 := by
          cases a with
          | leaf x => cases x <;> simp at n1 n3
          | nd w l h => have := ra.1; simp only [top] at hva; omega
        refine RunT.imp ?_ (split_c hm2 ha v hv16)
        rintro H3 a0 a1 ⟨rfl, rfl, rfl⟩
        refine RunT.imp ?_ (split_c hm2 hb v hv16)
        rintro H3 b0 b1 ⟨rfl, rfl, rfl⟩
        refine RunT.imp ?_ (split_c hm2 hc v hv16)
        rintro H3 c0 c1 ⟨rfl, rfl, rfl⟩
        have la := lo_spec ra hva hv16
        have lb := lo_spec rb hvb hv16
        have lc := lo_spec rc hvc hv16
        have ga := hi_spec ra hva hv16
        have gb := hi_spec rb hvb hv16
        have gc := hi_spec rc hvc hv16
        have hpow : 2 ^ (n + 1) = 2 ^ n + 2 ^ n := by rw [Nat.pow_succ]; omega
        have hpos : 0 < 2 ^ n := Nat.pow_pos (by omega)
        refine RunT.imp ?_ (ih hm2 (in_lo fin ha v) (in_lo fin hb v) (in_lo fin hc v) (by omega) (by omega))
        rintro H4 q0 ⟨F4, ts4, r0, af4, in4, rfl, res4⟩
        have p4 := af4.pre
        have l4 := af4.len
        rw [← ref_mono (in_hi fin ha v) p4, ← ref_mono (in_hi fin hb v) p4, ← ref_mono (in_hi fin hc v) p4]
        refine RunT.imp ?_ (ih af4.mgr ((in_hi fin ha v).mono p4) ((in_hi fin hb v).mono p4) ((in_hi fin hc v).mono p4) (by omega) (by omega))
        rintro H5 q1 ⟨F5, ts5, r1, af5, in5, rfl, res5⟩
        have p5 := af5.pre
        have l5 := af5.len
        rw [← ref_mono in4 p5]
        have f5 := af5.mgr.fin
        have t0 : v < r0.top := by have := res4.2 (v + 1) la.2.1 lb.2.1 lc.2.1; omega
        have t1 : v < r1.top := by have := res5.2 (v + 1) ga.2.1 gb.2.1 gc.2.1; omega
        refine RunT.imp ?_ (node_c af5.mgr (in4.mono p5) in5 hv16 t0 t1 (by omega))
        rintro H6 q2 ⟨F6, ts6, af6, in6, rfl⟩
        have af := (af4.trans af5).trans af6
        have hb6 : Own H6 bx [.int .i64 (ref ts a), .int .i64 (ref ts b), .int .i64 (ref ts c)] := hbox.keep af.keep (fun h => by have := hlt _ h; omega)
        have hm6 := af6.mgr
        obtain ⟨mb6, ib6, db6, Fs6, slc6, idx6, done6, hx6⟩ := hm6
        have hme := hx6.m_eq
        simp only [AC.ptr.injEq, Option.some.injEq, Prod.mk.injEq, and_true] at hme
        subst hme
        refine NN.ptr (FA.mk (Ld.oc hx6.own rfl (Ld.o3 hb6 (ref ts a) (ref ts b) (ref ts c) rfl (MSet.i hx6.dm rfl fun H7 dm7 hk7 hs7 => ?_))))
        have hres : IteRes a b c (mk v r0 r1) := by
          refine ⟨fun ρ => ?_, fun w h1 h2 h3 => ?_⟩
          · rw [mk_eval]
            cases hρ : ρ v with
            | true => simp only [if_true]; rw [res5.1, ga.2.2 ρ hρ, gb.2.2 ρ hρ, gc.2.2 ρ hρ]
            | false => simp only [Bool.false_eq_true, if_false]; rw [res4.1, la.2.2 ρ hρ, lb.2.2 ρ hρ, lc.2.2 ρ hρ]
          · have := mk_top (v := v) (h := r1) t0; omega
        have p6 := af.pre
        have hlt6 := hx6.lt
        refine ⟨F6, ts6, mk v r0 r1, After.kp hk2 ⟨⟨mb, ib6, db6, Fs6, slc6, idx6, setI [ref ts a, ref ts b, ref ts c] (ref ts6 (mk v r0 r1)) done6, ?_⟩, p6, ?_, ?_, af.fresh⟩, in6, rfl, hres⟩
        · refine ⟨rfl, hx6.own.keep hk7 hx6.ne2, hx6.sl.keep hk7 (fun x e h => hx6.d3 (e ▸ h)), hx6.im.keep hk7 hx6.ne3, dm7, hx6.ne1, hx6.ne2, hx6.ne3, hx6.d1, hx6.d2, hx6.d3, hx6.fin, hx6.iok, ?_, hx6.fF⟩
          have := hx6.dok.set (ha.mono p6) (hb.mono p6) (hc.mono p6) in6 hres.1 hres.2
          rwa [ref_mono ha p6, ref_mono hb p6, ref_mono hc p6] at this
        · have := af.len; omega
        · refine Keep.trans af.keep hk7 fun x hxl e => ?_
          subst e
          rcases af.fresh _ ((hx6.fF _).2 (.inr (.inr (.inl rfl)))) with h | h
          · exact h
          · omega
    refine CondB.eq (fun e => ?_) fun hne1 => ?_
    · have := ref_true.1 e; subst this
      unfold solve_manager_ite.p6
      exact CondB.pos rfl (hb1 H (.refl hm _) (.inl rfl))
    have m1 : ¬ a = leaf true := fun e => hne1 (ref_true.2 e)
    unfold solve_manager_ite.p6
    refine CondB.eq (fun e => ?_) fun hne2 => ?_
    · exact hb1 H (.refl hm _) (.inr (ref_inj hb hc e))
    have m2 : b ≠ c := fun e => hne2 (by rw [e])
    refine CondB.eq (fun e => ?_) fun hne3 => ?_
    · have := ref_false.1 e; subst this
      exact ⟨F, ts, c, .refl hm _, hc, rfl, fun ρ => by simp [eval], fun _ _ _ h => h⟩
    have m3 : a ≠ leaf false := fun e => hne3 (ref_false.2 e)
    refine CondB.eq (fun e => ?_) fun hne4 => ?_
    · have hbt := ref_true.1 e
      subst hbt
      by_cases hcf : ref ts c = -1
      · have := ref_false.1 hcf; subst this
        unfold solve_manager_ite.p18
        refine CondB.pos rfl ⟨F, ts, a, .refl hm _, ha, rfl, fun ρ => ?_, fun _ h _ _ => h⟩
        simp only [eval]
        cases a.eval ρ <;> rfl
      · rw [show (ref ts c == -1) = false from by simpa using hcf]
        exact rest m1 m2 m3 fun h => hcf (ref_false.2 h.2)
    · exact rest m1 m2 m3 fun h => hne4 (ref_true.2 h.1)
end Go.Proofs.Ytanaaabejeeakaa
end
section
/- Printed by a program: functions and what must hold ahead of them. -/
namespace Go.Proofs.Ytanaaabejeeakaa
open Go.AI
set_option maxRecDepth 100000
set_option maxHeartbeats 2000000
set_option linter.unusedVariables false
attribute [local irreducible] Ld Sto New NewS NewM NN NZ GE0 FA IA IAP LenS Slc App Cpy Clr MkS Fnc NilQ IxS Look MSet Run CV RunT CVT LoopT Same1 Same2 wpC wpOs wpT wpO wpOp

def solve_newManager.c : RC := (.seq (.ops [.put 0 (.mov (.ct (.one (.ptr none))))]) (.seq (.ops [.put 1 (.mkm),
    .put 2 (.mkm),
    .put 3 (.bld [(.sl none 0 0 (some 0)), (.map none), (.map none)] [(1, 1, (.tm 1)), (2, 1, (.tm 2))]),
    .put 4 (.box 103 (.tm 3)),
    .put 0 (.mov (.tm 4))]) .ret))
abbrev solve_newManager.KQ (Q : AHeap → AC → Prop) : AV → AHeap → Prop := fun v H => ∃ xs : Tup (flat [(false, [.ac])]), v = joinR (splitP [(false, [.ac])] (cellsOf (flat [(false, [.ac])]) xs)) ∧ app (flat [(false, [.ac])]) (Q H) xs
abbrev solve_newManager.K (Q : AHeap → AC → Prop) : Ex → Env → AHeap → Prop := kTop [.tm 0] (solve_newManager.KQ Q)
def solve_newManager.W (H : AHeap) (Q : AHeap → AC → Prop) : Prop :=
  NewM H fun p_1 H_2 =>
  NewM H_2 fun p_3 H_4 =>
  New 103 [(.sl none 0 0 (some 0)), p_1, p_3] H_4 fun p_5 H_6 =>
  Q H_6 p_5
theorem solve_newManager.ok {H : AHeap} (Q : AHeap → AC → Prop) : solve_newManager.W H Q → wpF Try.prog solve_newManager.c [.tm 0] (envOf []) H (solve_newManager.KQ Q) := c_seq (c_ops (s_cons (w_put (o_mov rfl (s_nil (k_seq (c_seq (c_ops (s_cons (w_put (o_mkm (fun p_1 H_2 => s_cons (w_put (o_mkm (fun p_3 H_4 => s_cons (w_put (o_bld rfl (s_cons (w_put (o_box rfl (fun p_5 H_6 => s_cons (w_put (o_mov rfl (s_nil (k_seq (c_ret (k_topR (r_one rfl (r_nil (fun h => ⟨(p_5, ()), rfl, h⟩))))))))))))))))))))))))))))))
theorem solve_newManager.slimOk : slimOk [] (Try.f41.body.getD .skip) = true := by kernel_rfl
theorem solve_newManager.resC : resC Try.prog aggs Try.f41.ntmps (slim [] (Try.f41.body.getD .skip)) = some solve_newManager.c := by kernel_rfl
theorem solve_newManager.resR : resR Try.prog Try.f41.results.toList = some [.tm 0] := by kernel_rfl
theorem solve_newManager.bodyEq : Try.f41.body = some (Try.f41.body.getD .skip) := by kernel_rfl
theorem solve_newManager.run {H : AHeap} {Q : AHeap → AC → Prop} (h : solve_newManager.W H Q) : Fn.solve_newManager H Q := by
  unfold Fn.solve_newManager RunT
  exact run_of aggs_ok [] Try.func41 solve_newManager.bodyEq solve_newManager.slimOk solve_newManager.resC solve_newManager.resR (Nat.le_of_ble_eq_true (by kernel_rfl)) (solve_newManager.ok Q h)

def solve_manager_result.c : RC := (.seq (.ops [.put 4 (.new 27 [(.sl none 0 0 (some 0)), (.int .i64 0)]),
    .put 5 (.mov (.ct (.one (.int .i64 0))))]) (.seq (.ops [.put 7 (.mov (.tm 0)),
    .put 8 (.mov (.tm 1)),
    .put 9 (.call 63 [(.tm 7), (.tm 8)]),
    .put 6 (.new 27 [(.sl none 0 0 (some 0)), (.int .i64 0)]),
    .run (.st 2 (.tm 6) (.tm 9))]) (.seq (.seq (.ops [.put 10 (.fa 0 (.tm 6)),
    .put 11 (.ld false [.ac] (.tm 10)),
    .put 12 (.lens (.tm 11)),
    .put 13 (.cm .gt (.tm 12) (.ct (.one (.int .i64 2000))))]) (.cond 13 (.seq (.ops [.put 14 (.bld [(.sl none 0 0 (some 0)), (.int .i64 0)] []),
    .run (.st 2 (.tm 4) (.tm 14)),
    .put 5 (.mov (.ct (.one (.int .i64 3))))]) .ret) .skip)) (.seq (.ops [.put 15 (.ld true [.ac, .int .i64] (.tm 6)),
    .run (.st 2 (.tm 4) (.tm 15)),
    .put 5 (.mov (.ct (.one (.int .i64 0))))]) .ret))))
abbrev solve_manager_result.KQ (Q : AHeap → AC → Int → Int → Prop) : AV → AHeap → Prop := fun v H => ∃ xs : Tup (flat [(true, [.ac, .int .i64]), (false, [.int .i64])]), v = joinR (splitP [(true, [.ac, .int .i64]), (false, [.int .i64])] (cellsOf (flat [(true, [.ac, .int .i64]), (false, [.int .i64])]) xs)) ∧ app (flat [(true, [.ac, .int .i64]), (false, [.int .i64])]) (Q H) xs
abbrev solve_manager_result.K (Q : AHeap → AC → Int → Int → Prop) : Ex → Env → AHeap → Prop := kTop [.cell 4 true [.ac, .int .i64], .tm 5] (solve_manager_result.KQ Q)
def solve_manager_result.W (a0 : AC) (a1 : Int) (H : AHeap) (Q : AHeap → AC → Int → Int → Prop) : Prop :=
  New 27 [(.sl none 0 0 (some 0)), (.int .i64 0)] H fun p_1 H_2 =>
  Fn.solve_manager_diagram a0 a1 H_2 fun H_3 (v_4 : AC) (v_5 : Int) =>
  New 27 [(.sl none 0 0 (some 0)), (.int .i64 0)] H_3 fun p_6 H_7 =>
  Sto H_7 p_6 [v_4, (.int .i64 v_5)] fun H_8 =>
  FA 0 p_6 fun q_9 =>
  Ld [.ac] H_8 q_9 fun (v_10 : AC) =>
  LenS v_10 fun n_11 =>
  CondB (decide (n_11 > 2000))
    (Sto H_8 p_1 [(.sl none 0 0 (some 0)), (.int .i64 0)] fun H_12 =>
    Ld [.ac, .int .i64] H_12 p_1 fun (r0_13 : AC) (r1_14 : Int) =>
    Q H_12 r0_13 r1_14 3)
    (Ld [.ac, .int .i64] H_8 p_6 fun (v_15 : AC) (v_16 : Int) =>
    Sto H_8 p_1 [v_15, (.int .i64 v_16)] fun H_17 =>
    Ld [.ac, .int .i64] H_17 p_1 fun (r0_18 : AC) (r1_19 : Int) =>
    Q H_17 r0_18 r1_19 0)
theorem solve_manager_result.ok {a0 : AC} {a1 : Int} {H : AHeap} (Q : AHeap → AC → Int → Int → Prop) : solve_manager_result.W a0 a1 H Q → wpF Try.prog solve_manager_result.c [.cell 4 true [.ac, .int .i64], .tm 5] (envOf [(.one a0), (.one (.int .i64 a1))]) H (solve_manager_result.KQ Q) := c_seq (c_ops (s_cons (w_put (o_new (fun p_1 H_2 => s_cons (w_put (o_mov rfl (s_nil (k_seq (c_seq (c_ops (s_cons (w_put (o_mov rfl (s_cons (w_put (o_mov rfl (s_cons (w_put (o_call rfl (cv_a2 (fun H_3 (v_4 : AC) (v_5 : Int) => s_cons (w_put (o_new (fun p_6 H_7 => s_cons (w_run (o_st rfl rfl rfl (fun H_8 => s_nil (k_seq (c_seq (c_seq (c_ops (s_cons (w_put (o_fa rfl (fun q_9 => s_cons (w_put (o_ld1 rfl (fun (v_10 : AC) => s_cons (w_put (o_lens rfl (fun n_11 => s_cons (w_put (o_gt rfl rfl (s_nil (k_seq (c_if rfl (c_seq (c_ops (s_cons (w_put (o_bld rfl (s_cons (w_run (o_st rfl rfl rfl (fun H_12 => s_cons (w_put (o_mov rfl (s_nil (k_seq (c_ret (k_seqR (k_topR (r_cell2 rfl (fun (r0_13 : AC) (r1_14 : Int) => r_one rfl (r_nil (fun h => ⟨(r0_13, (r1_14 : Int), (3 : Int), ()), rfl, h⟩)))))))))))))))))))) (c_skip (k_seq (c_seq (c_ops (s_cons (w_put (o_ld2 rfl (fun (v_15 : AC) (v_16 : Int) => s_cons (w_run (o_st rfl rfl rfl (fun H_17 => s_cons (w_put (o_mov rfl (s_nil (k_seq (c_ret (k_topR (r_cell2 rfl (fun (r0_18 : AC) (r1_19 : Int) => r_one rfl (r_nil (fun h => ⟨(r0_18, (r1_19 : Int), (0 : Int), ()), rfl, h⟩))))))))))))))))))))))))))))))))))))))))))))))))))))))))))))))))))))
theorem solve_manager_result.slimOk : slimOk [] (Try.f42.body.getD .skip) = true := by kernel_rfl
theorem solve_manager_result.resC : resC Try.prog aggs Try.f42.ntmps (slim [] (Try.f42.body.getD .skip)) = some solve_manager_result.c := by kernel_rfl
theorem solve_manager_result.resR : resR Try.prog Try.f42.results.toList = some [.cell 4 true [.ac, .int .i64], .tm 5] := by kernel_rfl
theorem solve_manager_result.bodyEq : Try.f42.body = some (Try.f42.body.getD .skip) := by kernel_rfl
theorem solve_manager_result.run {a0 : AC} {a1 : Int} {H : AHeap} {Q : AHeap → AC → Int → Int → Prop} (h : solve_manager_result.W a0 a1 H Q) : Fn.solve_manager_result a0 a1 H Q := by
  unfold Fn.solve_manager_result RunT
  exact run_of aggs_ok [] Try.func42 solve_manager_result.bodyEq solve_manager_result.slimOk solve_manager_result.resC solve_manager_result.resR (Nat.le_of_ble_eq_true (by kernel_rfl)) (solve_manager_result.ok Q h)
end Go.Proofs.Ytanaaabejeeakaa
end
section
/- The diagram of a table; the manager's other operations; the node of a formula. -/
namespace Go.Proofs.Ytanaaabejeeakaa
open Go.AI Go.AI.DT

/-- The diagram of a tree, or that it is too large. -/
def DRes (H : AHeap) (x : DT) (ns : AC) (root err : Int) : Prop :=
  (2000 < (ser x []).length ∧ err = 3 ∧ root = 0 ∧ SlR H ns 3 (nodeRows [])) ∨
  ((ser x []).length ≤ 2000 ∧ err = 0 ∧ root = ref (ser x []) x ∧ SlR H ns 3 (nodeRows ((ser x []).map (row (ser x [])))))
theorem DRes.kp {H H' : AHeap} {x : DT} {ns : AC} {root err : Int} (h : DRes H x ns root err) (k : Kp H H') : DRes H' x ns root err := by
  rcases h with ⟨a, b, c, d⟩ | ⟨a, b, c, d⟩
  · exact .inl ⟨a, b, c, d.kp k⟩
  · exact .inr ⟨a, b, c, d.kp k⟩
/-- The same, with what its slice leans on: only what is new. -/
def DResN (H0 H : AHeap) (x : DT) (ns : AC) (root err : Int) : Prop :=
  ∃ Fo : Nat → Prop, (∀ y, Fo y → H0.size ≤ y) ∧ ((2000 < (ser x []).length ∧ err = 3 ∧ root = 0 ∧ OwnS H ns 3 Fo (nodeRows [])) ∨
  ((ser x []).length ≤ 2000 ∧ err = 0 ∧ root = ref (ser x []) x ∧ OwnS H ns 3 Fo (nodeRows ((ser x []).map (row (ser x []))))))
theorem DResN.keep {S : Nat → Prop} {H0 H H' : AHeap} {x : DT} {ns : AC} {root err : Int} (h : DResN H0 H x ns root err) (k : Keep S H H') (hS : ∀ y, S y → y < H0.size) : DResN H0 H' x ns root err := by
  obtain ⟨Fo, hf, h⟩ := h
  have hd : ∀ y, S y → ¬ Fo y := fun y h1 h2 => by have := hS y h1; have := hf y h2; omega
  exact ⟨Fo, hf, h.imp (fun ⟨a, b, c, d⟩ => ⟨a, b, c, d.keep k hd⟩) fun ⟨a, b, c, d⟩ => ⟨a, b, c, d.keep k hd⟩⟩
theorem DResN.res {H0 H : AHeap} {x : DT} {ns : AC} {root err : Int} (h : DResN H0 H x ns root err) : DRes H x ns root err := by
  obtain ⟨Fo, hf, h⟩ := h
  exact h.imp (fun ⟨a, b, c, d⟩ => ⟨a, b, c, d.slr⟩) fun ⟨a, b, c, d⟩ => ⟨a, b, c, d.slr⟩
theorem DResN.from {H0 H1 H : AHeap} {x : DT} {ns : AC} {root err : Int} (h : DResN H1 H x ns root err) (hs : H0.size ≤ H1.size) : DResN H0 H x ns root err := by
  obtain ⟨Fo, hf, h⟩ := h
  exact ⟨Fo, fun y hy => Nat.le_trans hs (hf y hy), h⟩

theorem SlR.nil (H : AHeap) (sz : Nat) : SlR H (.sl none 0 0 (some 0)) sz [] := ⟨none, 0, some 0, rfl, fun i r h => by simp at h⟩

theorem tabAt_of {H : AHeap} {s : AC} {t : List Bool} (h : SlR H s 1 (boolRows t)) (hne : t ≠ []) : ∃ tb, TabAt H tb s t ∧ tb < H.size := by
  have h' := h
  obtain ⟨a, z, cap, e, hr⟩ := h'.ex
  obtain ⟨b0, l0, rfl⟩ : ∃ x l, t = x :: l := by cases t with
    | nil => exact absurd rfl hne
    | cons x l => exact ⟨x, l, rfl⟩
  obtain ⟨_, b, o, rfl, hld⟩ := hr 0 [.bool b0] rfl
  refine ⟨b, ⟨h, fun b' o' z' n' cap' e' => ?_⟩, ?_⟩
  · rw [e] at e'; cases e'; rfl
  · unfold AHeap.load at hld
    split at hld
    · next hg => exact AHeap.get_lt hg
    · cases hld

theorem OfTable_c {s : AC} {t : List Bool} {H : AHeap} (hs : SlR H s 1 (boolRows t)) (ht : t.length = 2 ^ 16) :
    Fn.fetterlockref6_OfTable s H fun H' ns root err => DResN H H' (tree 16 t) ns root err ∧ Kp H H' := by
  refine fetterlockref6_OfTable.run ?_
  unfold fetterlockref6_OfTable.W
  refine New.own fun b H1 hb hs1 ho hkp => ?_
  obtain ⟨tb, htab, htlt⟩ := tabAt_of (hs.kp hkp) (by intro e; rw [e] at ht; simp at ht)
  have hws : WS H1 tb (.sl none 0 0 (some 0)) (.sl none 0 0 (some 0)) (fun _ => False) [] [] :=
    ⟨fun _ => False, fun _ => False, ⟨OwnS.nil _ _, OwnS.nil _ _, fun _ h => h.elim, fun _ => by simp, rfl, by simp, fun _ h => (by cases h), fun i e x h => (by simp at h), Fin.nil, id, htlt⟩⟩
  refine RunT.imp ?_ (walk_c 16 (Nat.le_refl _) hws htab ht)
  rintro H2 ns ts l i ⟨F', st', tabs', w', kp', fr', pre', hf, htr⟩
  have hk2 : Kp H1 H2 := kp'.mono fun _ _ h => h
  have hF'b : ∀ y, F' y → H1.size ≤ y := fun y h => (fr' y h).elim False.elim id
  refine NewSto.own rfl fun p H3 hp hs3 hbox hk3 => ?_
  have hob := (ho.kp hk2).kp hk3
  have hbl := ho.lt
  obtain ⟨Fn, Ft, wx⟩ := w'
  refine FA.mk (Ld.ob hbox rfl (CondB.mk (fun hl => ?_) fun hl => ?_))
  · refine Sto.own hob (Nat.le_refl 2) fun H4 hob4 hk4 hs4 => ?_
    refine Ld.o2 hob4 (.sl none 0 0 (some 0)) (0 : Int) rfl ⟨⟨fun _ => False, fun _ h => h.elim, .inl ⟨?_, rfl, rfl, OwnS.nil _ _⟩⟩, ?_⟩
    · rcases htr hl with h | h
      · cases h
      · exact h
    · refine ⟨by have := hkp.size; have := hk2.size; omega, fun x hx _ => ?_, fun x hx _ => ?_⟩
      · rw [hk4.get x (by have := hk2.size; omega) (by omega), hk3.get x (by have := hk2.size; omega) id, hk2.get x (by omega) id, hkp.get x hx id]
      · rw [hk4.ext x (by have := hk2.size; omega) (by omega), hk3.ext x (by have := hk2.size; omega) id, hk2.ext x (by omega) id, hkp.ext x hx id]
  · obtain ⟨_, e1, e2⟩ := hf hl
    refine FA.mk (Ld.oc hbox rfl (Sto.own hob (Nat.le_refl 2) fun H4 hob4 hk4 hs4 => ?_))
    refine Ld.o2 hob4 ns i rfl ⟨⟨Fn, fun y h => by have := hF'b y ((wx.fF y).2 (.inl h)); have := hkp.size; omega, .inr ⟨by rw [← e1]; exact wx.max, rfl, by rw [e2, ← e1], ?_⟩⟩, ?_⟩
    · have hsl := (wx.nodes.kp hk3).keep hk4 (fun x e h => by have := hF'b x ((wx.fF x).2 (.inl h)); omega)
      rw [← e1]
      unfold nodeRows
      rw [List.map_map]
      exact hsl
    · refine ⟨by have := hkp.size; have := hk2.size; omega, fun x hx _ => ?_, fun x hx _ => ?_⟩
      · rw [hk4.get x (by have := hk2.size; omega) (by omega), hk3.get x (by have := hk2.size; omega) id, hk2.get x (by omega) id, hkp.get x hx id]
      · rw [hk4.ext x (by have := hk2.size; omega) (by omega), hk3.ext x (by have := hk2.size; omega) id, hk2.ext x (by omega) id, hkp.ext x hx id]

/- ---- the manager ---- -/
theorem newManager_c {H : AHeap} : Fn.solve_newManager H fun H' m => (∃ F, Mgr H' m F [] ∧ ∀ x, F x → H.size ≤ x) ∧ Kp H H' := by
  refine solve_newManager.run ?_
  unfold solve_newManager.W
  refine NewM.i (some 3) fun ib H1 hib hs1 him hk1 => NewM.i (some 3) fun db H2 hdb hs2 hdm hk2 => New.own fun mb H3 hmb hs3 hom hk3 => ?_
  refine ⟨⟨fun x => x = mb ∨ x = ib ∨ x = db ∨ False, ⟨mb, ib, db, fun _ => False, .sl none 0 0 (some 0), [], [], ?_⟩, ?_⟩, (hk1.trans hk2).trans hk3⟩
  · exact ⟨rfl, hom, OwnS.nil _ _, (him.kp hk2).kp hk3, hdm.kp hk3, by omega, by omega, by omega, id, id, id, Fin.nil, ⟨fun _ h => (by cases h), fun _ _ h => (by cases h)⟩, ⟨fun _ _ h => (by cases h)⟩, fun _ => Iff.rfl⟩
  · rintro x (h | h | h | h)
    · omega
    · omega
    · omega
    · exact h.elim

/-- What an operation of the manager returns: the node of a function. -/
def OpRes (H : AHeap) (m : AC) (F : Nat → Prop) (ts : List DT) (n : Nat) (val : (Nat → Bool) → Bool) (H' : AHeap) (q : Int) : Prop :=
  ∃ F' ts' r, After H m F ts n H' F' ts' ∧ In ts' r ∧ q = ref ts' r ∧ ∀ ρ, r.eval ρ = val ρ

theorem ite_op {m : AC} {F : Nat → Prop} {ts : List DT} {H : AHeap} {a b c : DT} (hm : Mgr H m F ts) (ha : In ts a) (hb : In ts b) (hc : In ts c) (hsz : ts.length + 65536 ≤ 4294967296) :
    Fn.solve_manager_ite m (ref ts a) (ref ts b) (ref ts c) H fun H' q => OpRes H m F ts 65535 (fun ρ => if a.eval ρ then b.eval ρ else c.eval ρ) H' q := by
  refine RunT.imp ?_ (ite_c 16 hm ha hb hc (by omega) hsz)
  rintro H' q ⟨F', ts', r, af, h1, h2, h3⟩
  exact ⟨F', ts', r, af, h1, h2, h3.1⟩
theorem not_c {m : AC} {F : Nat → Prop} {ts : List DT} {H : AHeap} {a : DT} (hm : Mgr H m F ts) (ha : In ts a) (hsz : ts.length + 65536 ≤ 4294967296) :
    Fn.solve_manager_not m (ref ts a) H fun H' q => OpRes H m F ts 65535 (fun ρ => !a.eval ρ) H' q := by
  refine solve_manager_not.run ?_
  unfold solve_manager_not.W
  refine RunT.imp ?_ (ite_op hm ha (In.leaf ts false) (In.leaf ts true) hsz)
  rintro H' q ⟨F', ts', r, af, h1, h2, h3⟩
  exact ⟨F', ts', r, af, h1, h2, fun ρ => by rw [h3 ρ]; simp only [eval]; cases a.eval ρ <;> rfl⟩
theorem and_c {m : AC} {F : Nat → Prop} {ts : List DT} {H : AHeap} {a b : DT} (hm : Mgr H m F ts) (ha : In ts a) (hb : In ts b) (hsz : ts.length + 65536 ≤ 4294967296) :
    Fn.solve_manager_and m (ref ts a) (ref ts b) H fun H' q => OpRes H m F ts 65535 (fun ρ => a.eval ρ && b.eval ρ) H' q := by
  refine solve_manager_and.run ?_
  unfold solve_manager_and.W
  refine RunT.imp ?_ (ite_op hm ha hb (In.leaf ts false) hsz)
  rintro H' q ⟨F', ts', r, af, h1, h2, h3⟩
  exact ⟨F', ts', r, af, h1, h2, fun ρ => by rw [h3 ρ]; simp only [eval]; cases a.eval ρ <;> rfl⟩
theorem or_c {m : AC} {F : Nat → Prop} {ts : List DT} {H : AHeap} {a b : DT} (hm : Mgr H m F ts) (ha : In ts a) (hb : In ts b) (hsz : ts.length + 65536 ≤ 4294967296) :
    Fn.solve_manager_or m (ref ts a) (ref ts b) H fun H' q => OpRes H m F ts 65535 (fun ρ => a.eval ρ || b.eval ρ) H' q := by
  refine solve_manager_or.run ?_
  unfold solve_manager_or.W
  refine RunT.imp ?_ (ite_op hm ha (In.leaf ts true) hb hsz)
  rintro H' q ⟨F', ts', r, af, h1, h2, h3⟩
  exact ⟨F', ts', r, af, h1, h2, fun ρ => by rw [h3 ρ]; simp only [eval]; cases a.eval ρ <;> rfl⟩
theorem xor_c {m : AC} {F : Nat → Prop} {ts : List DT} {H : AHeap} {a b : DT} (hm : Mgr H m F ts) (ha : In ts a) (hb : In ts b) (hsz : ts.length + 131072 ≤ 4294967296) :
    Fn.solve_manager_xor m (ref ts a) (ref ts b) H fun H' q => OpRes H m F ts 131070 (fun ρ => a.eval ρ != b.eval ρ) H' q := by
  refine solve_manager_xor.run ?_
  unfold solve_manager_xor.W
  refine RunT.imp ?_ (not_c hm hb (by omega))
  rintro H1 q ⟨F1, ts1, r1, af1, in1, rfl, hv1⟩
  have hl := af1.len
  rw [← ref_mono ha af1.pre, ← ref_mono hb af1.pre]
  refine RunT.imp ?_ (ite_op af1.mgr (ha.mono af1.pre) in1 (hb.mono af1.pre) (by omega))
  rintro H' q ⟨F', ts', r, af, h1, h2, h3⟩
  exact ⟨F', ts', r, af1.trans af, h1, h2, fun ρ => by
    rw [h3 ρ]
    show (if a.eval ρ then r1.eval ρ else b.eval ρ) = _
    rw [hv1 ρ]
    show (if a.eval ρ then !b.eval ρ else b.eval ρ) = (a.eval ρ != b.eval ρ)
    cases a.eval ρ <;> cases b.eval ρ <;> rfl⟩
end Go.Proofs.Ytanaaabejeeakaa
end
section
/- The node of a formula. -/
namespace Go.Proofs.Ytanaaabejeeakaa
open Go.AI Go.AI.DT

theorem lt52 : 52 < Try.prog.funcs.size := (Array.getElem?_eq_some_iff.1 Try.func52).1
theorem lt53 : 53 < Try.prog.funcs.size := (Array.getElem?_eq_some_iff.1 Try.func53).1

/-- The nodes of the parts, as they are collected. -/
structure Kids (H : AHeap) (s : AC) (Fk : Nat → Prop) (ts : List DT) (kids : List Fm) (rs : List DT) : Prop where
  own : OwnS H s 1 Fk (rs.map fun r => [AC.int .i64 (ref ts r)])
  inn : ∀ r ∈ rs, In ts r
  val : ∀ ρ, rs.map (DT.eval ρ) = kids.map (Fm.val ρ)

theorem Kids.at' {H : AHeap} {s : AC} {Fk : Nat → Prop} {ts : List DT} {kids : List Fm} {rs : List DT} (h : Kids H s Fk ts kids rs) {i : Nat} (hi : i < kids.length) : ∃ r k, rs[i]? = some r ∧ kids[i]? = some k ∧ In ts r ∧ (∀ ρ, r.eval ρ = k.val ρ) ∧
    (rs.map fun r => [AC.int .i64 (ref ts r)])[i]? = some [AC.int .i64 (ref ts r)] := by
  have hl : rs.length = kids.length := by have := congrArg List.length (h.val fun _ => false); simpa using this
  refine ⟨rs[i], kids[i], List.getElem?_eq_getElem (by omega), List.getElem?_eq_getElem hi, h.inn _ (List.getElem_mem _), fun ρ => ?_, ?_⟩
  · have := congrArg (fun l => l[i]?) (h.val ρ)
    simp only [List.getElem?_map, List.getElem?_eq_getElem (show i < rs.length by omega), List.getElem?_eq_getElem hi, Option.map_some, Option.some.injEq] at this
    exact this
  · rw [List.getElem?_map, List.getElem?_eq_getElem (by omega)]; rfl

theorem OpRes.of {H H1 H' : AHeap} {m : AC} {F F1 : Nat → Prop} {ts ts1 : List DT} {n k N : Nat} {val val' : (Nat → Bool) → Bool} {q : Int} (af : After H m F ts n H1 F1 ts1) (h : OpRes H1 m F1 ts1 k val H' q) (hN : n + k ≤ N) (hv : ∀ ρ, val ρ = val' ρ) : OpRes H m F ts N val' H' q := by
  obtain ⟨F', ts', r, af', h1, h2, h3⟩ := h
  have := af.trans af'
  exact ⟨F', ts', r, ⟨this.mgr, this.pre, by have := this.len; omega, this.keep, this.fresh⟩, h1, h2, fun ρ => (h3 ρ).trans (hv ρ)⟩

/-- Joining the parts one after another, by a function of two. -/
theorem join_c {m : AC} {fn : AC} {op : Bool → Bool → Bool} {H : AHeap} {F : Nat → Prop} {ts : List DT} {s : AC} {Fk : Nat → Prop} {kids : List Fm} {rs : List DT} {start : Bool} {n0 : Nat} {H0 : AHeap} {F0 : Nat → Prop} {ts0 : List DT} {N : Nat}
    (hf : ∀ {H : AHeap} {F : Nat → Prop} {ts : List DT} {a b : DT}, Mgr H m F ts → In ts a → In ts b → ts.length + 65536 ≤ 4294967296 →
      CVT Try.prog [(false, [.int .i64])] fn [(.one (.int .i64 (ref ts a))), (.one (.int .i64 (ref ts b)))] H fun H' q => OpRes H m F ts 65535 (fun ρ => op (a.eval ρ) (b.eval ρ)) H' q)
    (af : After H0 m F0 ts0 n0 H F ts) (hk : Kids H s Fk ts kids rs) (hdis : ∀ x, F x → ¬ Fk x) (hlen : kids.length ≤ 300) (hsz : ts.length + 300 * 65536 + 65536 ≤ 4294967296) (hN : n0 + kids.length * 65535 ≤ N) :
    solve_manager_build.p64 (fun H' q => OpRes H0 m F0 ts0 N (fun ρ => (kids.map (Fm.val ρ)).foldl op start) H' q) s (ref ts (leaf start)) fn H := by
  unfold solve_manager_build.p64
  have hl : rs.length = kids.length := by have := congrArg List.length (hk.val fun _ => false); simpa using this
  refine LenS.of hk.own.slr ?_
  rw [List.length_map, hl]
  unfold solve_manager_build.l68
  refine LoopT.rule (fun mm s0 H2 => ∃ (i : Nat) (F2 : Nat → Prop) (ts2 : List DT) (a : DT), i ≤ kids.length ∧ mm = kids.length - i ∧ s0 = (ref ts2 a, fn, s, (kids.length : Int), (i : Int), ()) ∧ After H m F ts (i * 65535) H2 F2 ts2 ∧ In ts2 a ∧ (∀ x, F2 x → ¬ Fk x) ∧
    (∀ ρ, a.eval ρ = ((kids.take i).map (Fm.val ρ)).foldl op start) ∧ Kids H2 s Fk ts2 kids rs) kids.length
    ⟨0, F, ts, leaf start, by omega, by omega, by cases start <;> rfl, .refl af.mgr _, In.leaf _ _, hdis, fun ρ => by simp [eval], hk⟩ ?_
  rintro mm s0 H2 back ⟨i, F2, ts2, a, hi, rfl, rfl, af2, ha, hdis2, hva, hk2⟩ hback
  simp only [solve_manager_build.b68]
  refine CondB.dec (fun hlt => ?_) fun hge => ?_
  · have hi' : i < kids.length := by omega
    obtain ⟨r, k, hri, hki, hin, hev, hro⟩ := hk2.at' hi'
    refine IA.of hk2.own.slr (by omega) (by rw [Int.toNat_natCast]; exact hro) fun b o hld => Ld.a1 hld (ref ts2 r) rfl rfl ?_
    have hl2 := af2.len
    have hmul : i * 65535 ≤ 300 * 65535 := Nat.mul_le_mul_right _ (by omega)
    refine CVT.imp ?_ (hf af2.mgr ha hin (by omega))
    rintro H3 q ⟨F3, ts3, a3, af3, hin3, rfl, hev3⟩
    refine hback (kids.length - (i + 1)) _ _ (by omega) ⟨i + 1, F3, ts3, a3, by omega, rfl, ?_, ?_, hin3, fun x hx => ?_, fun ρ => ?_, ?_⟩
    · exact tc rfl (tc rfl (tc rfl (tc rfl (tc ((wrap64 (by omega) (by omega)).trans (by omega)) rfl))))
    · have := af2.trans af3
      exact ⟨this.mgr, this.pre, by have := this.len; omega, this.keep, this.fresh⟩
    · rcases af3.fresh x hx with h | h
      · exact hdis2 x h
      · intro hf'; have := hk2.own.lt x hf'; omega
    · rw [hev3 ρ]
      show op (a.eval ρ) (r.eval ρ) = _
      rw [hva ρ, hev ρ]
      have ht : kids.take (i + 1) = kids.take i ++ [k] := by
        rw [List.take_succ_eq_append_getElem hi']
        rw [List.getElem?_eq_getElem hi'] at hki
        simp only [Option.some.injEq] at hki
        rw [hki]
      rw [ht]; simp
    · refine ⟨?_, fun r hr => (hk2.inn r hr).mono af3.pre, hk2.val⟩
      have e : (rs.map fun r => [AC.int .i64 (ref ts3 r)]) = rs.map fun r => [AC.int .i64 (ref ts2 r)] := by
        apply List.map_congr_left
        intro r hr
        rw [ref_mono (hk2.inn r hr) af3.pre]
      rw [e]
      exact hk2.own.keep af3.keep fun x hx => hdis2 x hx
  · have hil : i = kids.length := by omega
    subst hil
    have := af.trans af2
    refine ⟨F2, ts2, a, ⟨this.mgr, this.pre, by have := this.len; omega, this.keep, this.fresh⟩, ha, rfl, fun ρ => ?_⟩
    rw [hva ρ, List.take_of_length_le (Nat.le_refl _)]

theorem foldl_and : ∀ (l : List Bool) (b : Bool), l.foldl (fun x y => x && y) b = (b && l.all id)
  | [], b => by simp
  | x :: l, b => by rw [List.foldl_cons, foldl_and l]; simp [Bool.and_assoc]
theorem foldl_or : ∀ (l : List Bool) (b : Bool), l.foldl (fun x y => x || y) b = (b || l.any id)
  | [], b => by simp
  | x :: l, b => by rw [List.foldl_cons, foldl_or l]; simp [Bool.or_assoc]

theorem build_c : ∀ (n : Nat) {op var : Int} {s : AC} {f : Fm} {H : AHeap} {m : AC} {F : Nat → Prop} {ts : List DT} {base : Nat}, f.size ≤ n → f.size ≤ 300 → f.fault = 0 → FmB base H op var s f → base ≤ H.size → Mgr H m F ts → (∀ x, F x → base ≤ x) →
    ts.length + 131070 * f.size + 39321600 ≤ 4294967296 →
    Fn.solve_manager_build m op var s H fun H' q => OpRes H m F ts (131070 * f.size - 65535) (fun ρ => f.val ρ) H' q := by
  intro n
  induction n with
  | zero => intro op var s f H m F ts base hn; have := f.size_pos; omega
  | succ n ih =>
    intro op var s f H m F ts base hn h300 hok hf hbase hm hFb hsz
    obtain ⟨kids, rows, rfl, hl, hs, hsb, hk⟩ := hf.inv
    obtain ⟨o1, o2, o3, o4, o5, o6⟩ := Fm.ok_inv hok
    have hsize : Fm.size (.mk op var kids) = Fm.sizes kids + 1 := by rw [Fm.size]
    have hlen := Fm.sizes_len kids
    rw [hsize] at hn h300 hsz ⊢
    have hlt := hm.lt
    refine solve_manager_build.run ?_
    unfold solve_manager_build.W
    refine New.own fun b H1 hb hs1 ho hkp => ?_
    refine FA.mk (Ld.oc ho rfl (LenS.of (hs.kp hkp) ?_))
    rw [List.length_map, hl]
    have hbF : ¬ F b := fun h => by have := hlt _ h; omega
    unfold solve_manager_build.l8
    refine LoopT.rule (fun mm s0 H2 => ∃ (i : Nat) (F2 : Nat → Prop) (ts2 : List DT) (ks : AC) (Fk : Nat → Prop) (rs : List DT), i ≤ kids.length ∧ mm = kids.length - i ∧ s0 = (m, .ptr (some (b, 0)), ks, s, (kids.length : Int), (i : Int), ()) ∧
      After H1 m F ts (131070 * Fm.sizes (kids.take i) - 65535 * i) H2 F2 ts2 ∧ Kids H2 ks Fk ts2 (kids.take i) rs ∧ (∀ x, F2 x → ¬ Fk x) ∧ (∀ x, Fk x → H1.size ≤ x) ∧ ¬ Fk b ∧ Own H2 b [.int .i64 op, .int .i64 var, s]) kids.length
      ⟨0, F, ts, .sl none 0 0 (some 0), fun _ => False, [], by omega, by omega, rfl, After.refl (hm.kp hkp) _, ⟨OwnS.nil _ _, fun _ h => (by cases h), fun _ => rfl⟩, fun _ _ => id, fun _ h => h.elim, id, ho⟩ ?_
    rintro mm s0 H2 back ⟨i, F2, ts2, ks, Fk, rs, hi, rfl, rfl, af2, hki2, hdis2, hFkb, hbk, ho2⟩ hback
    simp only [solve_manager_build.b8]
    have hsz2 := af2.keep.size
    have hsame : ∀ x, x < base → H2.get x = H.get x := fun x hx => by rw [af2.keep.get x (by omega) (fun h => by have := hFb x h; omega), hkp.get x (by omega) id]
    have hF2 : ∀ x, F2 x → base ≤ x := fun x h => by rcases af2.fresh x h with h | h; exact hFb x h; omega
    have hs2 : SlR H2 s 3 (rows.map fun r : Int × Int × AC => [.int .i64 r.1, .int .i64 r.2.1, r.2.2]) := by
      obtain ⟨a, z, cap, e, hr⟩ := hs.ex
      refine ⟨a, z, cap, e, fun j r hj => ?_⟩
      obtain ⟨hz, b', o', e1, hld⟩ := hr j r hj
      subst e1
      exact ⟨hz, b', o', rfl, af2.keep.loadS (hkp.load hld) (fun h => by have := hFb _ h; have := hsb b' o' _ _ _ e; omega)⟩
    have hl2 := af2.len
    have htl := Fm.sizes_le kids i
    have hSi := Fm.sizes_len (kids.take i)
    rw [List.length_take, Nat.min_eq_left hi] at hSi
    refine CondB.dec (fun hlt2 => ?_) fun hge => ?_
    · have hi' : i < kids.length := by omega
      obtain ⟨r, k, hri, hki, hro⟩ := kid_at hl hi'
      have hle := Fm.size_mem kids i k hki
      have htk := Fm.sizes_take kids i k hki
      have htl' := Fm.sizes_le kids (i + 1)
      have hkp0 := k.size_pos
      refine IA.of hs2 (by omega) (by rw [Int.toNat_natCast]; exact hro) fun b' o' hld => Ld.a3 hld r.1 r.2.1 r.2.2 rfl rfl ?_
      refine NewSto.own rfl fun p H3 hp hs3 hbox hk3 => ?_
      refine Ld.o3 hbox r.1 r.2.1 r.2.2 rfl ?_
      have hkB : FmB base H3 r.1 r.2.1 r.2.2 k := (hk i r k hri hki).move fun x hx => by rw [hk3.get x (by omega) id, hsame x hx]
      refine RunT.imp ?_ (ih (by omega) (by omega) (o6 k (List.mem_of_getElem? hki)) hkB (by omega) (af2.mgr.kp hk3) hF2 (by omega))
      rintro H4 q ⟨F4, ts4, r4, af4, in4, rfl, hev4⟩
      have af4' := After.kp hk3 af4
      have hl4 := af4.len
      have hsz34 := af4.keep.size
      refine NewS.own fun p2 H5 hp2 hs5 hbox5 hk5 => ?_
      have hbF2 : ¬ F2 b := fun h => by rcases af2.fresh _ h with h | h; exact hbF h; omega
      have ho4 := (ho2.kp hk3).keep af4.keep hbF2
      have own4 := (hki2.own.kp hk3).keep af4.keep hdis2
      have hrl : rs.length = i := by have := congrArg List.length (hki2.val fun _ => false); simp at this; omega
      refine App.own (own4.kp hk5) (r := [.int .i64 (ref ts4 r4)]) ⟨p2, _, rfl, hbox5.all⟩ rfl (by rw [List.length_map]; omega) (by rw [List.length_map]; omega) fun s6 H6 own6 hk6 hs6 => ?_
      have hFklt : ∀ x, Fk x → x < H2.size := hki2.own.lt
      have hF4Fk : ∀ x, F4 x → ¬ Fk x := fun x h hf => by
        rcases af4.fresh x h with h | h
        · exact hdis2 x h hf
        · have := hFklt x hf; omega
      have afAll := af2.trans af4'
      have hF4lt := af4.mgr.lt
      refine hback (kids.length - (i + 1)) _ _ (by omega) ⟨i + 1, F4, ts4, s6, fun y => Fk y ∨ y = H5.size, rs ++ [r4], by omega, rfl, ?_, ?_, ⟨?_, fun x hx => ?_, fun ρ => ?_⟩, fun x hx => ?_, fun x hx => ?_, fun hx => ?_, ?_⟩
      · exact tc rfl (tc rfl (tc rfl (tc rfl (tc rfl (tc ((wrap64 (by omega) (by omega)).trans (by omega)) rfl)))))
      · refine ⟨(af4.mgr.kp hk5).keep hk6 (fun x h hf => hF4Fk x hf h), afAll.pre, ?_, ?_, afAll.fresh⟩
        · have := afAll.len
          rw [htk]
          omega
        · have hszH := afAll.keep.size
          refine ⟨by omega, fun x hx hn => ?_, fun x hx hn => ?_⟩
          · rw [hk6.get x (by omega) (fun h => by have := hFkb x h; omega), hk5.get x (by omega) id, afAll.keep.get x hx hn]
          · rw [hk6.ext x (by omega) (fun h => by have := hFkb x h; omega), hk5.ext x (by omega) id, afAll.keep.ext x hx hn]
      · have e : ((rs ++ [r4]).map fun r => [AC.int .i64 (ref ts4 r)]) = (rs.map fun r => [AC.int .i64 (ref ts2 r)]) ++ [[AC.int .i64 (ref ts4 r4)]] := by
          rw [List.map_append]
          congr 1
          apply List.map_congr_left
          intro x hx
          rw [ref_mono (hki2.inn x hx) af4.pre]
        rw [e]; exact own6
      · rcases List.mem_append.1 hx with hx | hx
        · exact (hki2.inn x hx).mono af4.pre
        · simp at hx; subst hx; exact in4
      · have ht : kids.take (i + 1) = kids.take i ++ [k] := by
          rw [List.take_succ_eq_append_getElem hi']
          rw [List.getElem?_eq_getElem hi'] at hki
          simp only [Option.some.injEq] at hki
          rw [hki]
        rw [ht, List.map_append, List.map_append, hki2.val ρ]
        simp only [List.map_cons, List.map_nil, hev4 ρ]
      · rintro (h | h)
        · exact hF4Fk x hx h
        · have := hF4lt x hx; omega
      · rcases hx with h | h
        · exact hFkb x h
        · have := afAll.keep.size; omega
      · rcases hx with h | h
        · exact hbk h
        · have := ho2.lt; omega
      · exact (ho4.kp hk5).keep hk6 hbk
    · have hil : i = kids.length := by omega
      subst hil
      rw [List.take_of_length_le (Nat.le_refl _)] at af2 hki2 hl2
      have af2 := After.kp hkp af2
      have hv0 : ∀ ρ, Fm.val ρ (.mk op var kids) = _ := fun ρ => Fm.val.eq_1 ρ op var kids
      have hvl : ∀ ρ, Fm.vals ρ kids = kids.map (Fm.val ρ) := fun ρ => Fm.vals_map ρ kids
      have hin1 : ∀ b, In ts2 (leaf b) := In.leaf ts2
      refine FA.mk (Ld.oi ho2 rfl (CondB.eq (fun e => ?_) fun e1 => ?_))
      · refine FA.mk (Ld.oi ho2 rfl ?_)
        have hv : var ≤ 15 := by rw [Fm.most, if_pos e] at o5; exact o5
        obtain ⟨w, rfl⟩ := Int.eq_ofNat_of_zero_le o4
        have := node_c af2.mgr (v := w) (hin1 false) (hin1 true) (by omega) (by simp [top]; omega) (by simp [top]; omega) (by omega)
        refine RunT.imp ?_ this
        rintro H3 q ⟨F3, ts3, af3, in3, rfl⟩
        refine OpRes.of af2 ⟨F3, ts3, _, af3, in3, rfl, fun ρ => mk_eval ρ⟩ (by omega) fun ρ => ?_
        rw [hv0 ρ, if_pos e, Int.toNat_natCast]
        simp only [eval]
        cases ρ w <;> rfl
      refine CondB.eq (fun e => ?_) fun e2 => ?_
      · refine NewS.own fun p H3 hp hs3 hbox hk3 => ?_
        refine FA.mk (Ld.oi (ho2.kp hk3) rfl ?_)
        have hv : var ≤ 1 := by rw [Fm.most, if_neg (by omega), if_pos e] at o5; exact o5
        have af3 := af2.trans ((After.refl (af2.mgr.kp hk3) 0).kp hk3)
        have hcase : var = 0 ∨ var = 1 := by omega
        refine IA.mk o4 (by omega) ?_
        rcases hcase with rfl | rfl
        · refine Ld.i (hbox.cell (c := .int .i64 (-1)) rfl) ⟨F2, ts2, leaf false, ⟨af3.mgr, af3.pre, by have := af3.len; omega, af3.keep, af3.fresh⟩, hin1 false, rfl, fun ρ => ?_⟩
          show (leaf false).eval ρ = Fm.val ρ (.mk op 0 kids)
          rw [hv0 ρ, if_neg (by omega), if_pos e]; rfl
        · refine Ld.i (hbox.cell (c := .int .i64 (-2)) rfl) ⟨F2, ts2, leaf true, ⟨af3.mgr, af3.pre, by have := af3.len; omega, af3.keep, af3.fresh⟩, hin1 true, rfl, fun ρ => ?_⟩
          show (leaf true).eval ρ = Fm.val ρ (.mk op 1 kids)
          rw [hv0 ρ, if_neg (by omega), if_pos e]; rfl
      refine CondB.eq (fun e => ?_) fun e3 => ?_
      · have hkl : kids.length = 1 := by have := o3; simp [Fm.want, e] at this; omega
        obtain ⟨r, k, hri, hki, hin, hev, hro⟩ := hki2.at' (i := 0) (by omega)
        refine IA.of hki2.own.slr (by omega) (by exact hro) fun b' o' hld => Ld.a1 hld (ref ts2 r) rfl rfl ?_
        refine RunT.imp ?_ (not_c af2.mgr hin (by omega))
        intro H3 q hq
        refine OpRes.of af2 hq (by omega) fun ρ => ?_
        rw [hv0 ρ, if_neg (by omega), if_neg (by omega), if_pos e, hvl]
        cases kids with
        | nil => simp at hkl
        | cons a l => simp at hki; subst hki; simp [hev ρ]
      refine CondB.eq (fun e => ?_) fun e6 => ?_
      · have hkl : kids.length = 2 := by have := o3; simp [Fm.want, e] at this; omega
        obtain ⟨r, k, hri, hki, hin, hev, hro⟩ := hki2.at' (i := 0) (by omega)
        obtain ⟨r', k', hri', hki', hin', hev', hro'⟩ := hki2.at' (i := 1) (by omega)
        refine IA.of hki2.own.slr (by omega) (by exact hro) fun b' o' hld => Ld.a1 hld (ref ts2 r) rfl rfl ?_
        refine IA.of hki2.own.slr (by omega) (by exact hro') fun b' o' hld => Ld.a1 hld (ref ts2 r') rfl rfl ?_
        refine RunT.imp ?_ (xor_c af2.mgr hin hin' (by omega))
        intro H3 q hq
        refine OpRes.of af2 hq (by omega) fun ρ => ?_
        rw [hv0 ρ, if_neg (by omega), if_neg (by omega), if_neg (by omega), if_pos e, hvl]
        cases kids with
        | nil => simp at hkl
        | cons a l => cases l with
          | nil => simp at hkl
          | cons a' l => simp at hki hki'; subst hki hki'; simp [hev ρ, hev' ρ]
      refine CondB.eq (fun e => ?_) fun e7 => ?_
      · have hkl : kids.length = 3 := by have := o3; simp [Fm.want, e] at this; omega
        obtain ⟨r, k, hri, hki, hin, hev, hro⟩ := hki2.at' (i := 0) (by omega)
        obtain ⟨r', k', hri', hki', hin', hev', hro'⟩ := hki2.at' (i := 1) (by omega)
        obtain ⟨r'', k'', hri'', hki'', hin'', hev'', hro''⟩ := hki2.at' (i := 2) (by omega)
        refine IA.of hki2.own.slr (by omega) (by exact hro) fun b' o' hld => Ld.a1 hld (ref ts2 r) rfl rfl ?_
        refine IA.of hki2.own.slr (by omega) (by exact hro') fun b' o' hld => Ld.a1 hld (ref ts2 r') rfl rfl ?_
        refine IA.of hki2.own.slr (by omega) (by exact hro'') fun b' o' hld => Ld.a1 hld (ref ts2 r'') rfl rfl ?_
        refine RunT.imp ?_ (ite_op af2.mgr hin hin' hin'' (by omega))
        intro H3 q hq
        refine OpRes.of af2 hq (by omega) fun ρ => ?_
        rw [hv0 ρ]
        simp only [e, hvl]
        cases kids with
        | nil => simp at hkl
        | cons a l => cases l with
          | nil => simp at hkl
          | cons a' l => cases l with
            | nil => simp at hkl
            | cons a'' l => simp at hki hki' hki''; subst hki hki' hki''; simp [hev ρ, hev' ρ, hev'' ρ]
      obtain ⟨mb, hmb⟩ : ∃ mb, m = .ptr (some (mb, 0)) := by obtain ⟨mb, _, _, _, _, _, _, hx⟩ := af2.mgr; exact ⟨mb, hx.m_eq⟩
      have hmul : kids.length * 65535 ≤ 65535 * Fm.sizes kids := by rw [Nat.mul_comm]; exact Nat.mul_le_mul_left _ hlen
      have hbnd : 131070 * Fm.sizes kids - 65535 * kids.length + kids.length * 65535 ≤ 131070 * (Fm.sizes kids + 1) - 65535 := by omega
      refine Fnc.mk (show ptrsC [m] = some [(mb, 0)] by rw [hmb]; rfl) (show ptrsC [] = some [] from rfl) (FA.mk (Ld.oi ho2 rfl (CondB.eq (fun e => ?_) fun e5 => ?_)))
      · refine Fnc.mk (show ptrsC [m] = some [(mb, 0)] by rw [hmb]; rfl) (show ptrsC [] = some [] from rfl) ?_
        have := join_c (m := m) (fn := .fn 53 [(mb, 0)] []) (op := fun x y => x || y) (start := false) (fun hm ha hb hsz => by
          have := or_c hm ha hb hsz
          rw [hmb] at this ⊢
          exact CVT.mk lt53 this) af2 hki2 hdis2 (by omega) (by omega) hbnd
        have e9 : (fun (H' : AHeap) (q : Int) => OpRes H m F ts (131070 * (Fm.sizes kids + 1) - 65535) (fun ρ => (kids.map (Fm.val ρ)).foldl (fun x y => x || y) false) H' q) = fun H' q => OpRes H m F ts (131070 * (Fm.sizes kids + 1) - 65535) (fun ρ => Fm.val ρ (.mk op var kids)) H' q := by
          have : (fun ρ => (kids.map (Fm.val ρ)).foldl (fun x y => x || y) false) = fun ρ => Fm.val ρ (.mk op var kids) := by
            funext ρ
            rw [hv0 ρ, if_neg (by omega), if_neg (by omega), if_neg (by omega), if_neg (by omega), if_neg (by omega), if_pos e, hvl, foldl_or]; rfl
          rw [this]
        rw [e9] at this
        exact this
      · have := join_c (m := m) (fn := .fn 52 [(mb, 0)] []) (op := fun x y => x && y) (start := true) (fun hm ha hb hsz => by
          have := and_c hm ha hb hsz
          rw [hmb] at this ⊢
          exact CVT.mk lt52 this) af2 hki2 hdis2 (by omega) (by omega) hbnd
        have e9 : (fun (H' : AHeap) (q : Int) => OpRes H m F ts (131070 * (Fm.sizes kids + 1) - 65535) (fun ρ => (kids.map (Fm.val ρ)).foldl (fun x y => x && y) true) H' q) = fun H' q => OpRes H m F ts (131070 * (Fm.sizes kids + 1) - 65535) (fun ρ => Fm.val ρ (.mk op var kids)) H' q := by
          have : (fun ρ => (kids.map (Fm.val ρ)).foldl (fun x y => x && y) true) = fun ρ => Fm.val ρ (.mk op var kids) := by
            funext ρ
            rw [hv0 ρ, if_neg (by omega), if_neg (by omega), if_neg (by omega), if_neg (by omega), if_neg (by omega), if_neg (by omega), hvl, foldl_and]; rfl
          rw [this]
        rw [e9] at this
        exact this
end Go.Proofs.Ytanaaabejeeakaa
end
section
/- Printed by a program: functions and what must hold ahead of them. -/
namespace Go.Proofs.Ytanaaabejeeakaa
open Go.AI
set_option maxRecDepth 100000
set_option maxHeartbeats 2000000
set_option linter.unusedVariables false
attribute [local irreducible] Ld Sto New NewS NewM NN NZ GE0 FA IA IAP LenS Slc App Cpy Clr MkS Fnc NilQ IxS Look MSet Run CV RunT CVT LoopT Same1 Same2 wpC wpOs wpT wpO wpOp

def solve_manager_diagram.c : RC := (.seq (.ops [.put 2 (.box 64 (.tm 0)),
    .put 4 (.new 27 [(.sl none 0 0 (some 0)), (.int .i64 0)])]) (.seq (.ops [.put 5 (.new 27 [(.sl none 0 0 (some 0)), (.int .i64 0)])]) (.seq (.ops [.put 8 (.mkm),
    .put 6 (.new 109 [(.map none)]),
    .run (.st 1 (.tm 6) (.tm 8))]) (.seq (.ops [.put 7 (.new 75 [.nilFn])]) (.seq (.ops [.put 9 (.fn 88 [] [(.tm 6), (.tm 7), (.tm 2), (.tm 5)]),
    .run (.st 1 (.tm 7) (.tm 9))]) (.seq (.ops [.put 10 (.ld false [.ac] (.tm 7)),
    .put 11 (.mov (.tm 1)),
    .put 12 (.callv (.tm 10) [(.tm 11)]),
    .put 13 (.fa 1 (.tm 5)),
    .run (.st 1 (.tm 13) (.tm 12))]) (.seq (.ops [.put 14 (.ld true [.ac, .int .i64] (.tm 5)),
    .run (.st 2 (.tm 4) (.tm 14))]) .ret)))))))
abbrev solve_manager_diagram.KQ (Q : AHeap → AC → Int → Prop) : AV → AHeap → Prop := fun v H => ∃ xs : Tup (flat [(true, [.ac, .int .i64])]), v = joinR (splitP [(true, [.ac, .int .i64])] (cellsOf (flat [(true, [.ac, .int .i64])]) xs)) ∧ app (flat [(true, [.ac, .int .i64])]) (Q H) xs
abbrev solve_manager_diagram.K (Q : AHeap → AC → Int → Prop) : Ex → Env → AHeap → Prop := kTop [.cell 4 true [.ac, .int .i64]] (solve_manager_diagram.KQ Q)
def solve_manager_diagram.W (a0 : AC) (a1 : Int) (H : AHeap) (Q : AHeap → AC → Int → Prop) : Prop :=
  New 64 [a0] H fun p_1 H_2 =>
  New 27 [(.sl none 0 0 (some 0)), (.int .i64 0)] H_2 fun p_3 H_4 =>
  New 27 [(.sl none 0 0 (some 0)), (.int .i64 0)] H_4 fun p_5 H_6 =>
  NewM H_6 fun p_7 H_8 =>
  New 109 [(.map none)] H_8 fun p_9 H_10 =>
  Sto H_10 p_9 [p_7] fun H_11 =>
  New 75 [.nilFn] H_11 fun p_12 H_13 =>
  Fnc 88 [] [p_9, p_12, p_1, p_5] fun f_14 =>
  Sto H_13 p_12 [f_14] fun H_15 =>
  Ld [.ac] H_15 p_12 fun (v_16 : AC) =>
  CVT Try.prog [(false, [.int .i64])] v_16 [(.one (.int .i64 a1))] H_15 fun H_17 (v_18 : Int) =>
  FA 1 p_5 fun q_19 =>
  Sto H_17 q_19 [(.int .i64 v_18)] fun H_20 =>
  Ld [.ac, .int .i64] H_20 p_5 fun (v_21 : AC) (v_22 : Int) =>
  Sto H_20 p_3 [v_21, (.int .i64 v_22)] fun H_23 =>
  Ld [.ac, .int .i64] H_23 p_3 fun (r0_24 : AC) (r1_25 : Int) =>
  Q H_23 r0_24 r1_25
theorem solve_manager_diagram.ok {a0 : AC} {a1 : Int} {H : AHeap} (Q : AHeap → AC → Int → Prop) : solve_manager_diagram.W a0 a1 H Q → wpF Try.prog solve_manager_diagram.c [.cell 4 true [.ac, .int .i64]] (envOf [(.one a0), (.one (.int .i64 a1))]) H (solve_manager_diagram.KQ Q) := c_seq (c_ops (s_cons (w_put (o_box rfl (fun p_1 H_2 => s_cons (w_put (o_new (fun p_3 H_4 => s_nil (k_seq (c_seq (c_ops (s_cons (w_put (o_new (fun p_5 H_6 => s_nil (k_seq (c_seq (c_ops (s_cons (w_put (o_mkm (fun p_7 H_8 => s_cons (w_put (o_new (fun p_9 H_10 => s_cons (w_run (o_st rfl rfl rfl (fun H_11 => s_nil (k_seq (c_seq (c_ops (s_cons (w_put (o_new (fun p_12 H_13 => s_nil (k_seq (c_seq (c_ops (s_cons (w_put (o_fn rfl rfl (fun f_14 => s_cons (w_run (o_st rfl rfl rfl (fun H_15 => s_nil (k_seq (c_seq (c_ops (s_cons (w_put (o_ld1 rfl (fun (v_16 : AC) => s_cons (w_put (o_mov rfl (s_cons (w_put (o_callv rfl rfl (cu_1 (fun H_17 (v_18 : Int) => s_cons (w_put (o_fa rfl (fun q_19 => s_cons (w_run (o_st rfl rfl rfl (fun H_20 => s_nil (k_seq (c_seq (c_ops (s_cons (w_put (o_ld2 rfl (fun (v_21 : AC) (v_22 : Int) => s_cons (w_run (o_st rfl rfl rfl (fun H_23 => s_nil (k_seq (c_ret (k_topR (r_cell2 rfl (fun (r0_24 : AC) (r1_25 : Int) => r_nil (fun h => ⟨(r0_24, (r1_25 : Int), ()), rfl, h⟩)))))))))))))))))))))))))))))))))))))))))))))))))))))))))))))))))))))))))))))))))
theorem solve_manager_diagram.slimOk : slimOk [] (Try.f63.body.getD .skip) = true := by kernel_rfl
theorem solve_manager_diagram.resC : resC Try.prog aggs Try.f63.ntmps (slim [] (Try.f63.body.getD .skip)) = some solve_manager_diagram.c := by kernel_rfl
theorem solve_manager_diagram.resR : resR Try.prog Try.f63.results.toList = some [.cell 4 true [.ac, .int .i64]] := by kernel_rfl
theorem solve_manager_diagram.bodyEq : Try.f63.body = some (Try.f63.body.getD .skip) := by kernel_rfl
theorem solve_manager_diagram.run {a0 : AC} {a1 : Int} {H : AHeap} {Q : AHeap → AC → Int → Prop} (h : solve_manager_diagram.W a0 a1 H Q) : Fn.solve_manager_diagram a0 a1 H Q := by
  unfold Fn.solve_manager_diagram RunT
  exact run_of aggs_ok [] Try.func63 solve_manager_diagram.bodyEq solve_manager_diagram.slimOk solve_manager_diagram.resC solve_manager_diagram.resR (Nat.le_of_ble_eq_true (by kernel_rfl)) (solve_manager_diagram.ok Q h)

def slices_Equal_fetterlock_api_Node_fetterlock_api_Node.c15 : RC := (.seq (.ops [.put 14 (.cm .lt (.tm 13) (.tm 12))]) (.seq (.cond 14 .skip (.exit 0)) (.seq (.block 1 (.seq (.ops [.put 15 (.mov (.tm 13)),
    .put 5 (.mov (.tm 15))]) (.seq (.ops [.put 16 (.mov (.tm 0)),
    .put 17 (.mov (.tm 5)),
    .put 18 (.ia 3 (.tm 16) (.tm 17)),
    .put 19 (.ld true [.int .i64, .int .i64, .int .i64] (.tm 18)),
    .put 20 (.mov (.tm 1)),
    .put 21 (.mov (.tm 5)),
    .put 22 (.ia 3 (.tm 20) (.tm 21)),
    .put 23 (.ld true [.int .i64, .int .i64, .int .i64] (.tm 22)),
    .put 24 (.eqa true 3 (.tm 19) (.tm 23))]) (.cond 24 (.seq (.ops [.put 4 (.mov (.ct (.one (.bool false))))]) .ret) .skip)))) (.ops [.put 25 (.ar .add (.tm 13) (.ct (.one (.int .i64 1)))),
    .put 13 (.mov (.tm 25))]))))
def slices_Equal_fetterlock_api_Node_fetterlock_api_Node.c : RC := (.seq (.ops [.put 4 (.mov (.ct (.one (.bool false))))]) (.seq (.seq (.ops [.put 6 (.mov (.tm 0)),
    .put 7 (.lens (.tm 6)),
    .put 8 (.mov (.tm 1)),
    .put 9 (.lens (.tm 8)),
    .put 10 (.cm .ne (.tm 7) (.tm 9))]) (.cond 10 (.seq (.ops [.put 4 (.mov (.ct (.one (.bool false))))]) .ret) .skip)) (.seq (.seq (.ops [.put 11 (.mov (.tm 0)),
    .put 12 (.lens (.tm 11)),
    .put 13 (.mov (.ct (.one (.int .i64 0))))]) (.block 0 (.loop slices_Equal_fetterlock_api_Node_fetterlock_api_Node.c15))) (.seq (.ops [.put 4 (.mov (.ct (.one (.bool true))))]) .ret))))
abbrev slices_Equal_fetterlock_api_Node_fetterlock_api_Node.KQ (Q : AHeap → Bool → Prop) : AV → AHeap → Prop := fun v H => ∃ xs : Tup (flat [(false, [.bool])]), v = joinR (splitP [(false, [.bool])] (cellsOf (flat [(false, [.bool])]) xs)) ∧ app (flat [(false, [.bool])]) (Q H) xs
abbrev slices_Equal_fetterlock_api_Node_fetterlock_api_Node.K (Q : AHeap → Bool → Prop) : Ex → Env → AHeap → Prop := kTop [.tm 4] (slices_Equal_fetterlock_api_Node_fetterlock_api_Node.KQ Q)
abbrev slices_Equal_fetterlock_api_Node_fetterlock_api_Node.k11 (Q : AHeap → Bool → Prop) : Ex → Env → AHeap → Prop := kSeq (fun t H => wpC Try.prog (.seq (.ops [.put 4 (.mov (.ct (.one (.bool true))))]) .ret) t H (slices_Equal_fetterlock_api_Node_fetterlock_api_Node.K Q)) (slices_Equal_fetterlock_api_Node_fetterlock_api_Node.K Q)
def slices_Equal_fetterlock_api_Node_fetterlock_api_Node.R14 (s : Tup [.ac, .ac, .int .i64, .int .i64]) (t : Env) : Prop := t 0 = (.one (s.1)) ∧ t 1 = (.one (s.2.1)) ∧ t 12 = (.one (.int .i64 (s.2.2.1))) ∧ t 13 = (.one (.int .i64 (s.2.2.2.1))) ∧ True
def slices_Equal_fetterlock_api_Node_fetterlock_api_Node.b14 (Q : AHeap → Bool → Prop) (Y14 : Tup [.ac, .ac, .int .i64, .int .i64] → AHeap → Prop) (x0 : AC) (x1 : AC) (x12 : Int) (x13 : Int) (H : AHeap) : Prop :=
  CondB (decide (x13 < x12))
    (IA 3 x0 x13 fun q_1 =>
    Ld [.int .i64, .int .i64, .int .i64] H q_1 fun (v_2 : Int) (v_3 : Int) (v_4 : Int) =>
    IA 3 x1 x13 fun q_5 =>
    Ld [.int .i64, .int .i64, .int .i64] H q_5 fun (v_6 : Int) (v_7 : Int) (v_8 : Int) =>
    CondB (!(decide (([v_2, v_3, v_4] : List Int) = ([v_6, v_7, v_8] : List Int))))
      (Q H false)
      (Y14 (x0, x1, (x12 : Int), ((IntKind.wrap .i64 (x13 + 1)) : Int), ()) H))
    (Q H true)
def slices_Equal_fetterlock_api_Node_fetterlock_api_Node.l14 (Q : AHeap → Bool → Prop) (x0 : AC) (x1 : AC) (x12 : Int) (x13 : Int) (H : AHeap) : Prop := LoopT (Tup [.ac, .ac, .int .i64, .int .i64]) (fun Y s H => slices_Equal_fetterlock_api_Node_fetterlock_api_Node.b14 Q Y (s.1) (s.2.1) (s.2.2.1) (s.2.2.2.1) H) (x0, x1, x12, x13, ()) H
def slices_Equal_fetterlock_api_Node_fetterlock_api_Node.W (a0 : AC) (a1 : AC) (H : AHeap) (Q : AHeap → Bool → Prop) : Prop :=
  LenS a0 fun n_1 =>
  LenS a1 fun n_2 =>
  CondB (n_1 != n_2)
    (Q H false)
    (LenS a0 fun n_3 =>
    slices_Equal_fetterlock_api_Node_fetterlock_api_Node.l14 Q a0 a1 n_3 0 H)
theorem slices_Equal_fetterlock_api_Node_fetterlock_api_Node.b14_ok (Q : AHeap → Bool → Prop) (Y14 : Tup [.ac, .ac, .int .i64, .int .i64] → AHeap → Prop) (X14 : Env → AHeap → Prop) (hX14 : ∀ s t H, slices_Equal_fetterlock_api_Node_fetterlock_api_Node.R14 s t → Y14 s H → X14 t H) {x0 : AC} {x1 : AC} {x12 : Int} {x13 : Int} {H : AHeap} (j : Env) : slices_Equal_fetterlock_api_Node_fetterlock_api_Node.b14 Q Y14 x0 x1 x12 x13 H → wpC Try.prog slices_Equal_fetterlock_api_Node_fetterlock_api_Node.c15 (upd (upd (upd (upd j 0 (.one x0)) 1 (.one x1)) 12 (.one (.int .i64 x12))) 13 (.one (.int .i64 x13))) H (kSeq X14 (kBlk 0 (slices_Equal_fetterlock_api_Node_fetterlock_api_Node.k11 Q))) := c_seq (c_ops (s_cons (w_put (o_lt rfl rfl (s_nil (k_seq (c_seq (c_if rfl (c_skip (k_seq (c_seq (c_blk (c_seq (c_ops (s_cons (w_put (o_mov rfl (s_cons (w_put (o_mov rfl (s_nil (k_seq (c_seq (c_ops (s_cons (w_put (o_mov rfl (s_cons (w_put (o_mov rfl (s_cons (w_put (o_ia rfl rfl (fun q_1 => s_cons (w_put (o_ld3 rfl (fun (v_2 : Int) (v_3 : Int) (v_4 : Int) => s_cons (w_put (o_mov rfl (s_cons (w_put (o_mov rfl (s_cons (w_put (o_ia rfl rfl (fun q_5 => s_cons (w_put (o_ld3 rfl (fun (v_6 : Int) (v_7 : Int) (v_8 : Int) => s_cons (w_put (o_nea rfl rfl rfl rfl rfl (s_nil (k_seq (c_if rfl (c_seq (c_ops (s_cons (w_put (o_mov rfl (s_nil (k_seq (c_ret (k_blkR (k_seqR (k_seqR (k_blkR (k_seqR (k_topR (r_one rfl (r_nil (fun h => ⟨((false : Bool), ()), rfl, h⟩))))))))))))))))) (c_skip (k_blk (k_seq (c_ops (s_cons (w_put (o_add rfl rfl (s_cons (w_put (o_mov rfl (s_nil (k_seq (hX14 _ _ _ ⟨rfl, rfl, rfl, rfl, trivial⟩))))))))))))))))))))))))))))))))))))))))))))))))))))))))))) (c_exit (k_seqE (k_seqE (k_blkH (k_seq (c_seq (c_ops (s_cons (w_put (o_mov rfl (s_nil (k_seq (c_ret (k_topR (r_one rfl (r_nil (fun h => ⟨((true : Bool), ()), rfl, h⟩)))))))))))))))))))))))))
theorem slices_Equal_fetterlock_api_Node_fetterlock_api_Node.l14_ok (Q : AHeap → Bool → Prop) {x0 : AC} {x1 : AC} {x12 : Int} {x13 : Int} {H : AHeap} {t : Env} (h0 : t 0 = (.one x0)) (h1 : t 1 = (.one x1)) (h12 : t 12 = (.one (.int .i64 x12))) (h13 : t 13 = (.one (.int .i64 x13))) : slices_Equal_fetterlock_api_Node_fetterlock_api_Node.l14 Q x0 x1 x12 x13 H → wpC Try.prog (.loop slices_Equal_fetterlock_api_Node_fetterlock_api_Node.c15) t H (kBlk 0 (slices_Equal_fetterlock_api_Node_fetterlock_api_Node.k11 Q)) :=
  m_loop slices_Equal_fetterlock_api_Node_fetterlock_api_Node.R14 ⟨h0, h1, h12, h13, trivial⟩ fun X Y hX s t H hR hB => by
    have g := slices_Equal_fetterlock_api_Node_fetterlock_api_Node.b14_ok Q Y X hX t hB
    rw [upd_self hR.1] at g
    rw [upd_self hR.2.1] at g
    rw [upd_self hR.2.2.1] at g
    rw [upd_self hR.2.2.2.1] at g
    exact g
theorem slices_Equal_fetterlock_api_Node_fetterlock_api_Node.ok {a0 : AC} {a1 : AC} {H : AHeap} (Q : AHeap → Bool → Prop) : slices_Equal_fetterlock_api_Node_fetterlock_api_Node.W a0 a1 H Q → wpF Try.prog slices_Equal_fetterlock_api_Node_fetterlock_api_Node.c [.tm 4] (envOf [(.one a0), (.one a1)]) H (slices_Equal_fetterlock_api_Node_fetterlock_api_Node.KQ Q) := c_seq (c_ops (s_cons (w_put (o_mov rfl (s_nil (k_seq (c_seq (c_seq (c_ops (s_cons (w_put (o_mov rfl (s_cons (w_put (o_lens rfl (fun n_1 => s_cons (w_put (o_mov rfl (s_cons (w_put (o_lens rfl (fun n_2 => s_cons (w_put (o_ne rfl rfl (s_nil (k_seq (c_if rfl (c_seq (c_ops (s_cons (w_put (o_mov rfl (s_nil (k_seq (c_ret (k_seqR (k_topR (r_one rfl (r_nil (fun h => ⟨((false : Bool), ()), rfl, h⟩))))))))))))) (c_skip (k_seq (c_seq (c_seq (c_ops (s_cons (w_put (o_mov rfl (s_cons (w_put (o_lens rfl (fun n_3 => s_cons (w_put (o_mov rfl (s_nil (k_seq (c_blk (slices_Equal_fetterlock_api_Node_fetterlock_api_Node.l14_ok Q rfl rfl rfl rfl)))))))))))))))))))))))))))))))))))))))))))))
theorem slices_Equal_fetterlock_api_Node_fetterlock_api_Node.slimOk : slimOk [(6, [])] (Try.f64.body.getD .skip) = true := by kernel_rfl
theorem slices_Equal_fetterlock_api_Node_fetterlock_api_Node.resC : resC Try.prog aggs Try.f64.ntmps (slim [(6, [])] (Try.f64.body.getD .skip)) = some slices_Equal_fetterlock_api_Node_fetterlock_api_Node.c := by kernel_rfl
theorem slices_Equal_fetterlock_api_Node_fetterlock_api_Node.resR : resR Try.prog Try.f64.results.toList = some [.tm 4] := by kernel_rfl
theorem slices_Equal_fetterlock_api_Node_fetterlock_api_Node.bodyEq : Try.f64.body = some (Try.f64.body.getD .skip) := by kernel_rfl
theorem slices_Equal_fetterlock_api_Node_fetterlock_api_Node.run {a0 : AC} {a1 : AC} {H : AHeap} {Q : AHeap → Bool → Prop} (h : slices_Equal_fetterlock_api_Node_fetterlock_api_Node.W a0 a1 H Q) : Fn.slices_Equal_fetterlock_api_Node_fetterlock_api_Node a0 a1 H Q := by
  unfold Fn.slices_Equal_fetterlock_api_Node_fetterlock_api_Node RunT
  exact run_of aggs_ok [(6, [])] Try.func64 slices_Equal_fetterlock_api_Node_fetterlock_api_Node.bodyEq slices_Equal_fetterlock_api_Node_fetterlock_api_Node.slimOk slices_Equal_fetterlock_api_Node_fetterlock_api_Node.resC slices_Equal_fetterlock_api_Node_fetterlock_api_Node.resR (Nat.le_of_ble_eq_true (by kernel_rfl)) (slices_Equal_fetterlock_api_Node_fetterlock_api_Node.ok Q h)

end Go.Proofs.Ytanaaabejeeakaa
end
section
/- The diagram of a node. -/
namespace Go.Proofs.Ytanaaabejeeakaa
open Go.AI Go.AI.DT

theorem lt88 : 88 < Try.prog.funcs.size := (Array.getElem?_eq_some_iff.1 Try.func88).1

/-- Where the walk over a manager's nodes keeps what it has. -/
structure DP where
  (nb wb xb ob nm : Nat)
def DP.loc (p : DP) (y : Nat) : Prop := y = p.nb ∨ y = p.wb ∨ y = p.xb ∨ y = p.ob ∨ y = p.nm
structure DS (H : AHeap) (m : AC) (F : Nat → Prop) (ts : List DT) (p : DP) (Fo : Nat → Prop) (ns : AC) (es : List (List Int × Int)) (st : List DT) : Prop where
  mgr : Mgr H m F ts
  o1 : Own H p.nb [.map (some p.nm)]
  o2 : Own H p.wb [.fn 88 [] [(p.nb, 0), (p.wb, 0), (p.xb, 0), (p.ob, 0)]]
  o3 : Own H p.xb [m]
  o4 : ∃ r0, Own H p.ob [ns, .int .i64 r0]
  sl : OwnS H ns 3 Fo (st.map fun x => nodeCells (row st x))
  mp : MapI H p.nm none es
  eok : ∀ x n, In ts x → (findI [ref ts x] es = some n ↔ x ∈ st ∧ n = ref st x)
  fin : Fin st
  sub : ∀ x ∈ st, x ∈ ts
  d1 : ∀ y, F y → ¬ Fo y ∧ ¬ p.loc y
  d2 : ∀ y, Fo y → ¬ p.loc y
  ne : p.ob ≠ p.nb ∧ p.ob ≠ p.wb ∧ p.ob ≠ p.xb ∧ p.nm ≠ p.nb ∧ p.nm ≠ p.wb ∧ p.nm ≠ p.xb ∧ p.nm ≠ p.ob

theorem DS.kp {H H' : AHeap} {m : AC} {F : Nat → Prop} {ts : List DT} {p : DP} {Fo : Nat → Prop} {ns : AC} {es : List (List Int × Int)} {st : List DT} (h : DS H m F ts p Fo ns es st) (k : Kp H H') : DS H' m F ts p Fo ns es st :=
  ⟨h.mgr.kp k, h.o1.kp k, h.o2.kp k, h.o3.kp k, let ⟨r, o⟩ := h.o4; ⟨r, o.kp k⟩, h.sl.kp k, h.mp.kp k, h.eok, h.fin, h.sub, h.d1, h.d2, h.ne⟩

/-- What a walk turns. -/
def Turned (p : DP) (Fo : Nat → Prop) (y : Nat) : Prop := y = p.ob ∨ y = p.nm ∨ Fo y

def DPost (H : AHeap) (m : AC) (F : Nat → Prop) (ts : List DT) (p : DP) (Fo : Nat → Prop) (st : List DT) (x : DT) (H' : AHeap) (q : Int) : Prop :=
  ∃ Fo' ns' es', DS H' m F ts p Fo' ns' es' (ser x st) ∧ Keep (Turned p Fo) H H' ∧ (∀ y, Fo' y → Fo y ∨ H.size ≤ y) ∧ q = ref (ser x st) x

theorem dwalk_c {m : AC} {F : Nat → Prop} {ts : List DT} {p : DP} (htl : ts.length < 4294967296) : ∀ (x : DT) {H : AHeap} {Fo : Nat → Prop} {ns : AC} {es : List (List Int × Int)} {st : List DT}, In ts x → DS H m F ts p Fo ns es st →
    Fn.solve_manager_diagram_1 (ref ts x) (.ptr (some (p.nb, 0))) (.ptr (some (p.wb, 0))) (.ptr (some (p.xb, 0))) (.ptr (some (p.ob, 0))) H fun H' q => DPost H m F ts p Fo st x H' q := by
  intro x
  induction x with
  | leaf b =>
    intro H Fo ns es st hx hd
    refine solve_manager_diagram_1.run ?_
    unfold solve_manager_diagram_1.W
    refine CondB.pos ?_ ⟨Fo, ns, es, hd, Keep.refl _ _, fun y h => .inl h, ?_⟩
    · rw [decide_eq_true_iff]; exact ref_leaf.2 ⟨b, rfl⟩
    · cases b <;> rfl
  | nd v l h ihl ihh =>
    intro H Fo ns es st hx hd
    have h0 : 0 ≤ ref ts (nd v l h) := by rw [ref_ge]; omega
    have hg := ref_get hx h0
    have hfin := hd.mgr.fin
    have hxm : nd v l h ∈ ts := hx.elim (fun ⟨b, e⟩ => by cases e) id
    obtain ⟨hinl, hinh, hro⟩ : In ts l ∧ In ts h ∧ (nd v l h).RO := by
      obtain ⟨_, _, _, e0, a1, a2, a3⟩ := hfin.parts _ hxm
      cases e0
      exact ⟨a1, a2, a3⟩
    refine solve_manager_diagram_1.run ?_
    unfold solve_manager_diagram_1.W
    refine CondB.neg (by rw [decide_eq_false_iff_not]; omega) (Ld.oc hd.o1 rfl (Look.i hd.mp rfl (fun n hf => ?_) fun hf => ?_))
    · obtain ⟨h1, h2⟩ := (hd.eok _ n hx).1 hf
      have hser : ser (nd v l h) st = st := by simp only [ser]; rw [if_pos h1]
      exact CondB.pos rfl ⟨Fo, ns, es, by rw [hser]; exact hd, Keep.refl _ _, fun y h => .inl h, by rw [hser]; exact h2⟩
    have hnin : nd v l h ∉ st := fun hin => by
      have := (hd.eok _ _ hx).2 ⟨hin, rfl⟩
      rw [hf] at this; cases this
    refine CondB.neg rfl (Ld.oc hd.o2 rfl (Ld.oc hd.o3 rfl ?_))
    -- the manager's node
    have node : ∀ {H : AHeap} {k : AC → Prop}, Mgr H m F ts → (∀ slc b o, SlR H slc 3 (ts.map fun x => nodeCells (row ts x)) → H.load (b, o) 3 = some (nodeCells (row ts (nd v l h))) → k (.ptr (some (b, o)))) →
        NN m (FA 0 m fun q => Ld [.ac] H q fun (vv : AC) => IA 3 vv (ref ts (nd v l h)) k) := by
      intro H k hm hk
      obtain ⟨mb, ib, db, Fs, slc, idx, done, hx'⟩ := hm
      obtain rfl := hx'.m_eq
      exact NN.ptr (FA.mk (Ld.oc hx'.own rfl (IA.of hx'.sl.slr h0 (r := nodeCells (row ts (nd v l h))) (by simp [hg]) fun b o hld => hk slc b o hx'.sl.slr hld)))
    refine node hd.mgr ?_; intro slc b o _ hld; refine FA.mk (Ld.ei hld rfl ?_)
    refine CVT.imp ?_ (CVT.mk lt88 (ihl hinl hd))
    rintro H1 q ⟨Fo1, ns1, es1, hd1, kp1, fr1, rfl⟩
    refine Ld.oc hd1.o2 rfl (Ld.oc hd1.o3 rfl (node hd1.mgr ?_)); intro slc b o _ hld; refine FA.mk (Ld.ei hld rfl ?_)
    refine CVT.imp ?_ (CVT.mk lt88 (ihh hinh hd1))
    rintro H2 q ⟨Fo2, ns2, es2, hd2, kp2, fr2, rfl⟩
    obtain ⟨r0, ho4⟩ := hd2.o4
    refine FA.mk (Ld.oc ho4 rfl (Ld.oc hd2.o3 rfl (node hd2.mgr ?_))); intro slc b o _ hld; refine FA.mk (Ld.ei hld rfl ?_)
    have hnin2 : nd v l h ∉ ser h (ser l st) := ser_new hnin
    have hil2 : In (ser h (ser l st)) l := (ser_in l st).mono (ser_prefix h _)
    have hih2 : In (ser h (ser l st)) h := ser_in h _
    have hrl : ref (ser l st) l = ref (ser h (ser l st)) l := (ref_mono (ser_in l st) (ser_prefix h _)).symm
    have hst2 : (ser h (ser l st)).length ≤ ts.length := hd2.fin.nodup.length_le_of_subset fun y hy => hd2.sub y hy
    have hser : ser (nd v l h) st = ser h (ser l st) ++ [nd v l h] := by simp only [ser]; rw [if_neg hnin]
    rw [hrl]
    obtain ⟨st2, hs2⟩ : ∃ s, s = ser h (ser l st) := ⟨_, rfl⟩
    rw [← hs2] at hd2 hnin2 hil2 hih2 hst2 hser ⊢
    refine NewS.own fun pb H3 hpb hs3 hbox3 hk3 => ?_
    have hd3 := hd2.kp hk3
    have hlF : ∀ y, Fo2 y → y < H2.size := hd2.sl.lt
    have hmF : ∀ y, F y → y < H2.size := hd2.mgr.lt
    have hob := ho4.lt
    have hnmb := hd2.mp.lt
    refine App.own hd3.sl (r := nodeCells ((v : Int), ref st2 l, ref st2 h)) ⟨pb, _, rfl, hbox3.all⟩ rfl (by rw [List.length_map]; omega) (by rw [List.length_map]; omega) fun ns4 H4 sl4 hk4 hs4 => ?_
    have ho4' := (ho4.kp hk3).keep hk4 (fun e => hd2.d2 _ e (.inr (.inr (.inr (.inl rfl)))))
    refine FA.mk (Sto.own ho4' (show 0 + 0 + 1 ≤ 2 by omega) fun H5 ho5 hk5 hs5 => ?_)
    simp only [List.take_zero, List.nil_append, List.cons_append, List.length_cons, List.length_nil, Nat.zero_add, Nat.add_zero, List.drop_succ_cons, List.drop_zero] at ho5
    have o15 := (hd3.o1.keep hk4 (fun e => hd2.d2 _ e (.inl rfl))).keep hk5 (fun e => hd2.ne.1 e.symm)
    have sl5 := sl4.keep hk5 (fun y e h => by
      subst e
      rcases h with h | h
      · exact hd2.d2 _ h (.inr (.inr (.inr (.inl rfl))))
      · omega)
    have mp5 := (hd3.mp.keep hk4 (fun e => hd2.d2 _ e (.inr (.inr (.inr (.inr rfl)))))).keep hk5 hd2.ne.2.2.2.2.2.2
    refine Ld.oc o15 rfl (FA.mk (Ld.oc ho5 rfl (LenS.of sl5.slr (MSet.i mp5 rfl fun H6 mp6 hk6 hs6 => ?_))))
    have o16 := o15.keep hk6 (fun e => hd2.ne.2.2.2.1 e.symm)
    have hlen : IntKind.wrap .i64 ((((st2.map fun x => nodeCells (row st2 x)) ++ [nodeCells ((v : Int), ref st2 l, ref st2 h)]).length : Int) - 1) = (st2.length : Int) := by
      simp only [List.length_append, List.length_map, List.length_cons, List.length_nil]
      exact (wrap64 (by omega) (by omega)).trans (by omega)
    rw [hlen] at mp6
    have hp : st2 <+: st2 ++ [nd v l h] := List.prefix_append _ _
    refine Ld.oc o16 rfl (Look.i mp6 rfl (fun n hf6 => ?_) fun hf6 => ?_)
    · rw [findI_set, if_pos rfl] at hf6
      simp only [Option.some.injEq] at hf6
      subst hf6
      refine ⟨fun y => Fo2 y ∨ y = H3.size, ns4, setI [ref ts (nd v l h)] (st2.length : Int) es2, ?_, ?_, ?_, ?_⟩
      · rw [hser]
        refine ⟨?_, o16, ?_, ?_, ⟨r0, ho5.keep hk6 (fun e => hd2.ne.2.2.2.2.2.2 e.symm)⟩, ?_, mp6, ?_, hd2.fin.snoc hnin2 hil2 hih2 hro, ?_, ?_, ?_, hd2.ne⟩
        · refine ((hd3.mgr.keep hk4 (fun y h1 h2 => (hd2.d1 y h2).1 h1)).keep hk5 (fun y e h2 => (hd2.d1 y h2).2 (.inr (.inr (.inr (.inl e)))))).keep hk6 (fun y e h2 => (hd2.d1 y h2).2 (.inr (.inr (.inr (.inr e)))))
        · exact ((hd3.o2.keep hk4 (fun e => hd2.d2 _ e (.inr (.inl rfl)))).keep hk5 (fun e => hd2.ne.2.1 e.symm)).keep hk6 (fun e => hd2.ne.2.2.2.2.1 e.symm)
        · exact ((hd3.o3.keep hk4 (fun e => hd2.d2 _ e (.inr (.inr (.inl rfl))))).keep hk5 (fun e => hd2.ne.2.2.1 e.symm)).keep hk6 (fun e => hd2.ne.2.2.2.2.2.1 e.symm)
        · have hrows : (st2 ++ [nd v l h]).map (fun x => nodeCells (row (st2 ++ [nd v l h]) x)) = (st2.map fun x => nodeCells (row st2 x)) ++ [nodeCells ((v : Int), ref st2 l, ref st2 h)] := by
            have e2 : st2.map (fun x => nodeCells (row (st2 ++ [nd v l h]) x)) = st2.map fun x => nodeCells (row st2 x) := by
              have := congrArg (List.map nodeCells) (hd2.fin.row_mono hp)
              simpa [List.map_map, Function.comp_def] using this
            rw [List.map_append, e2]
            simp only [List.map_cons, List.map_nil, row, ref_mono hil2 hp, ref_mono hih2 hp]
          rw [hrows]
          exact sl5.keep hk6 (fun y e h => by
            subst e
            rcases h with h | h
            · exact hd2.d2 _ h (.inr (.inr (.inr (.inr rfl))))
            · omega)
        · intro y n hy
          rw [findI_set]
          by_cases hyx : y = nd v l h
          · subst hyx
            rw [if_pos rfl, ref_new hnin2]
            constructor
            · intro e; simp only [Option.some.injEq] at e; exact ⟨by simp, e.symm⟩
            · rintro ⟨_, e⟩; rw [e]
          · rw [if_neg (fun e => hyx (ref_inj hy hx (by simpa using e.symm))), hd2.eok y n hy]
            constructor
            · rintro ⟨h1, h2⟩; exact ⟨List.mem_append_left _ h1, by rw [h2, ref_mono (.inr h1) hp]⟩
            · rintro ⟨h1, h2⟩
              rcases List.mem_append.1 h1 with h1 | h1
              · exact ⟨h1, by rw [h2, ref_mono (.inr h1) hp]⟩
              · simp at h1; exact absurd h1 hyx
        · intro y hy
          rcases List.mem_append.1 hy with hy | hy
          · exact hd2.sub y hy
          · simp at hy; subst hy; exact hxm
        · intro y hy
          refine ⟨?_, (hd2.d1 y hy).2⟩
          rintro (h | h)
          · exact (hd2.d1 y hy).1 h
          · have := hmF y hy; omega
        · rintro y (h | h) hl
          · exact hd2.d2 y h hl
          · have hloc : ∀ z, p.loc z → z < H2.size := by
              rintro z (e | e | e | e | e)
              · rw [e]; exact hd2.o1.lt
              · rw [e]; exact hd2.o2.lt
              · rw [e]; exact hd2.o3.lt
              · rw [e]; exact hob
              · rw [e]; exact hnmb
            have := hloc y hl; omega
      · have hz1 := kp1.size
        have hz2 := kp2.size
        have hT1 : ∀ y, y < H.size → Turned p Fo1 y → Turned p Fo y := by
          rintro y hy (e | e | e)
          · exact .inl e
          · exact .inr (.inl e)
          · rcases fr1 y e with e | e
            · exact .inr (.inr e)
            · omega
        have hF2 : ∀ y, y < H.size → Fo2 y → Fo y := by
          intro y hy e
          rcases fr2 y e with e | e
          · rcases fr1 y e with e | e
            · exact e
            · omega
          · omega
        refine Keep.trans (Keep.trans (Keep.trans (Keep.trans (Keep.trans kp1 kp2 hT1) hk3 fun _ _ h => h.elim) hk4 fun y hy e => .inr (.inr (hF2 y hy e))) hk5 fun y _ e => .inl e) hk6 fun y _ e => .inr (.inl e)
      · have hz1 := kp1.size
        have hz2 := kp2.size
        rintro y (h | h)
        · rcases fr2 y h with h | h
          · rcases fr1 y h with h | h
            · exact .inl h
            · exact .inr h
          · exact .inr (by omega)
        · exact .inr (by omega)
      · rw [hser, ref_new hnin2]
    · rw [findI_set, if_pos rfl] at hf6
      cases hf6
end Go.Proofs.Ytanaaabejeeakaa
end
