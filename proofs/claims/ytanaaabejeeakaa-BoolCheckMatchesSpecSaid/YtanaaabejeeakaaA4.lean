/- Joined by a program: what the proof of the law leans on, part 4. -/
import Derived.Test.YtanaaabejeeakaaA3
set_option linter.unusedVariables false
set_option linter.unusedSimpArgs false
section
/- Printed by a program: the aggregates of whole numbers that are compared or used asx keys. -/
namespace Go.Proofs.Ytanaaabejeeakaa
open Go.AI
set_option maxRecDepth 100000
set_option maxHeartbeats 2000000
set_option linter.unusedVariables false
theorem agg77 : AggFact Try.prog 77 3 := AggFact.struct _ Try.underlying77 (by kernel_rfl) (by kernel_rfl) (by kernel_rfl)
theorem agg115 : AggFact Try.prog 115 3 := AggFact.array Try.underlying115 (by kernel_rfl) Try.underlying3 (by kernel_rfl)
theorem aggs_ok : Facts Try.prog aggs := by
  intro e he
  simp only [aggs, List.mem_cons, List.not_mem_nil, or_false] at he
  rcases he with rfl | rfl
  · exact agg77
  · exact agg115
end Go.Proofs.Ytanaaabejeeakaa
end
section
/- Printed by a program: functions and what must hold ahead of them. -/
namespace Go.Proofs.Ytanaaabejeeakaa
open Go.AI
set_option maxRecDepth 100000
set_option maxHeartbeats 2000000
set_option linter.unusedVariables false
attribute [local irreducible] Ld Sto New NewS NewM NN NZ GE0 FA IA IAP LenS Slc App Cpy Clr MkS Fnc NilQ IxS Look MSet Run CV RunT CVT LoopT Same1 Same2 wpC wpOs wpT wpO wpOp

def fetterlocklaw6_BoolCheckMatchesSpec.c : RC := (.seq (.ops [.put 1 (.box 27 (.tm 0)),
    .put 2 (.mov (.ct (.one (.bool false))))]) (.seq (.ops [.put 6 (.ld true [.ac, .int .i64] (.tm 1)),
    .put 7 (.call 29 [(.tm 6)]),
    .put 3 (.mov (.tm 7))]) (.seq (.ops [.put 9 (.ld true [.ac, .int .i64] (.tm 1)),
    .put 10 (.call 30 [(.tm 9)]),
    .put 8 (.mov (.tm 10)),
    .put 11 (.ex (.tm 8) 0),
    .put 12 (.ex (.tm 8) 1),
    .put 4 (.mov (.tm 11)),
    .put 5 (.mov (.tm 12))]) (.seq (.seq (.ops [.put 13 (.mov (.tm 3)),
    .put 14 (.cm .ne (.tm 13) (.ct (.one (.int .i64 0))))]) (.cond 14 (.seq (.ops [.put 15 (.ld true [.ac, .int .i64] (.tm 1)),
    .put 16 (.call 31 [(.tm 15)]),
    .put 17 (.mov (.tm 3)),
    .put 18 (.cm .eq (.tm 16) (.tm 17)),
    .put 19 (.mov (.tm 18)),
    .gput 20 19 true (.mov (.tm 5)),
    .gput 21 19 true (.mov (.tm 3)),
    .gput 22 19 true (.cm .eq (.tm 20) (.tm 21)),
    .put 23 (.pick (.tm 19) (.tm 22) (.ct (.one (.bool false)))),
    .put 24 (.mov (.tm 23)),
    .gput 25 24 true (.mov (.tm 4)),
    .gput 26 24 true (.lens (.tm 25)),
    .gput 27 24 true (.cm .eq (.tm 26) (.ct (.one (.int .i64 0)))),
    .put 28 (.pick (.tm 24) (.tm 27) (.ct (.one (.bool false)))),
    .put 29 (.mov (.tm 28)),
    .gput 30 29 true (.call 19 []),
    .put 31 (.pick (.tm 29) (.tm 30) (.ct (.one (.bool false)))),
    .put 2 (.mov (.tm 31))]) .ret) .skip)) (.seq (.ops [.put 32 (.ld true [.ac, .int .i64] (.tm 1)),
    .put 33 (.call 31 [(.tm 32)]),
    .put 34 (.cm .eq (.tm 33) (.ct (.one (.int .i64 0)))),
    .put 35 (.mov (.tm 34)),
    .gput 36 35 true (.mov (.tm 5)),
    .gput 37 35 true (.cm .eq (.tm 36) (.ct (.one (.int .i64 0)))),
    .put 38 (.pick (.tm 35) (.tm 37) (.ct (.one (.bool false)))),
    .put 39 (.mov (.tm 38)),
    .gput 40 39 true (.mov (.tm 4)),
    .gput 41 39 true (.ld true [.ac, .int .i64] (.tm 1)),
    .gput 42 39 true (.call 33 [(.tm 41)]),
    .gput 43 39 true (.call 32 [(.tm 40), (.tm 42)]),
    .put 44 (.pick (.tm 39) (.tm 43) (.ct (.one (.bool false)))),
    .put 45 (.mov (.tm 44)),
    .gput 46 45 true (.call 19 []),
    .put 47 (.pick (.tm 45) (.tm 46) (.ct (.one (.bool false)))),
    .put 2 (.mov (.tm 47))]) .ret)))))
abbrev fetterlocklaw6_BoolCheckMatchesSpec.KQ (Q : AHeap → Bool → Prop) : AV → AHeap → Prop := fun v H => ∃ xs : Tup (flat [(false, [.bool])]), v = joinR (splitP [(false, [.bool])] (cellsOf (flat [(false, [.bool])]) xs)) ∧ app (flat [(false, [.bool])]) (Q H) xs
abbrev fetterlocklaw6_BoolCheckMatchesSpec.K (Q : AHeap → Bool → Prop) : Ex → Env → AHeap → Prop := kTop [.tm 2] (fetterlocklaw6_BoolCheckMatchesSpec.KQ Q)
def fetterlocklaw6_BoolCheckMatchesSpec.W (a0_0 : AC) (a0_1 : Int) (H : AHeap) (Q : AHeap → Bool → Prop) : Prop :=
  New 27 [a0_0, (.int .i64 a0_1)] H fun p_1 H_2 =>
  Ld [.ac, .int .i64] H_2 p_1 fun (v_3 : AC) (v_4 : Int) =>
  Fn.fetterlockref6_DiagramFault v_3 v_4 H_2 fun H_5 (v_6 : Int) =>
  Ld [.ac, .int .i64] H_5 p_1 fun (v_7 : AC) (v_8 : Int) =>
  Fn.solve_Support v_7 v_8 H_5 fun H_9 (v_10 : AC) (v_11 : Int) =>
  CondB (v_6 != 0)
    (Ld [.ac, .int .i64] H_9 p_1 fun (v_12 : AC) (v_13 : Int) =>
    Fn.solve_CheckDiagram v_12 v_13 H_9 fun H_14 (v_15 : Int) =>
    CondB (v_15 == v_6)
      (CondB (v_11 == v_6)
        (LenS v_10 fun n_16 =>
        CondB (n_16 == 0)
          (Fn.fetterlocklaw6_built  H_14 fun H_17 (v_18 : Bool) =>
          Q H_17 v_18)
          (Q H_14 false))
        (Q H_14 false))
      (Q H_14 false))
    (Ld [.ac, .int .i64] H_9 p_1 fun (v_19 : AC) (v_20 : Int) =>
    Fn.solve_CheckDiagram v_19 v_20 H_9 fun H_21 (v_22 : Int) =>
    CondB (v_22 == 0)
      (CondB (v_11 == 0)
        (Ld [.ac, .int .i64] H_21 p_1 fun (v_23 : AC) (v_24 : Int) =>
        Fn.fetterlockref6_Supports v_23 v_24 H_21 fun H_25 (v_26 : AC) =>
        Fn.fetterlocklaw6_sameInts v_10 v_26 H_25 fun H_27 (v_28 : Bool) =>
        CondB v_28
          (Fn.fetterlocklaw6_built  H_27 fun H_29 (v_30 : Bool) =>
          Q H_29 v_30)
          (Q H_27 false))
        (Q H_21 false))
      (Q H_21 false))
theorem fetterlocklaw6_BoolCheckMatchesSpec.ok {a0_0 : AC} {a0_1 : Int} {H : AHeap} (Q : AHeap → Bool → Prop) : fetterlocklaw6_BoolCheckMatchesSpec.W a0_0 a0_1 H Q → wpF Try.prog fetterlocklaw6_BoolCheckMatchesSpec.c [.tm 2] (envOf [(.agg [a0_0, (.int .i64 a0_1)])]) H (fetterlocklaw6_BoolCheckMatchesSpec.KQ Q) := c_seq (c_ops (s_cons (w_put (o_box rfl (fun p_1 H_2 => s_cons (w_put (o_mov rfl (s_nil (k_seq (c_seq (c_ops (s_cons (w_put (o_ld2 rfl (fun (v_3 : AC) (v_4 : Int) => s_cons (w_put (o_call rfl (cv_1 (fun H_5 (v_6 : Int) => s_cons (w_put (o_mov rfl (s_nil (k_seq (c_seq (c_ops (s_cons (w_put (o_ld2 rfl (fun (v_7 : AC) (v_8 : Int) => s_cons (w_put (o_call rfl (cv_o1_o1 (fun H_9 (v_10 : AC) (v_11 : Int) => s_cons (w_put (o_mov rfl (s_cons (w_put (o_ex rfl rfl rfl (s_cons (w_put (o_ex rfl rfl rfl (s_cons (w_put (o_mov rfl (s_cons (w_put (o_mov rfl (s_nil (k_seq (c_seq (c_seq (c_ops (s_cons (w_put (o_mov rfl (s_cons (w_put (o_ne rfl rfl (s_nil (k_seq (c_if rfl (c_seq (c_ops (s_cons (w_put (o_ld2 rfl (fun (v_12 : AC) (v_13 : Int) => s_cons (w_put (o_call rfl (cv_1 (fun H_14 (v_15 : Int) => s_cons (w_put (o_mov rfl (s_cons (w_put (o_eq rfl rfl (s_cons (w_put (o_mov rfl (s_cons (w_gputT rfl (o_mov rfl (s_cons (w_gputY rfl (o_mov rfl (s_cons (w_gputY rfl (o_eq rfl rfl (s_cons (w_put (o_pickT rfl rfl (s_cons (w_put (o_mov rfl (s_cons (w_gputT rfl (o_mov rfl (s_cons (w_gputY rfl (o_lens rfl (fun n_16 => s_cons (w_gputY rfl (o_eq rfl rfl (s_cons (w_put (o_pickT rfl rfl (s_cons (w_put (o_mov rfl (s_cons (w_gputT rfl (o_call rfl (cv_1 (fun H_17 (v_18 : Bool) => s_cons (w_put (o_pickT rfl rfl (s_cons (w_put (o_mov rfl (s_nil (k_seq (c_ret (k_seqR (k_topR (r_one rfl (r_nil (fun h => ⟨((v_18 : Bool), ()), rfl, h⟩)))))))))))))))) (s_cons (w_put (o_pickF rfl rfl (s_cons (w_put (o_mov rfl (s_nil (k_seq (c_ret (k_seqR (k_topR (r_one rfl (r_nil (fun h => ⟨((false : Bool), ()), rfl, h⟩))))))))))))))))))))))))))))) (s_cons (w_gputN rfl (s_cons (w_gputN rfl (s_cons (w_put (o_pickF rfl rfl (s_cons (w_put (o_mov rfl (s_cons (w_gputN rfl (s_cons (w_put (o_pickF rfl rfl (s_cons (w_put (o_mov rfl (s_nil (k_seq (c_ret (k_seqR (k_topR (r_one rfl (r_nil (fun h => ⟨((false : Bool), ()), rfl, h⟩))))))))))))))))))))))))))))))))))))))))) (s_cons (w_gputN rfl (s_cons (w_gputN rfl (s_cons (w_put (o_pickF rfl rfl (s_cons (w_put (o_mov rfl (s_cons (w_gputN rfl (s_cons (w_gputN rfl (s_cons (w_gputN rfl (s_cons (w_put (o_pickF rfl rfl (s_cons (w_put (o_mov rfl (s_cons (w_gputN rfl (s_cons (w_put (o_pickF rfl rfl (s_cons (w_put (o_mov rfl (s_nil (k_seq (c_ret (k_seqR (k_topR (r_one rfl (r_nil (fun h => ⟨((false : Bool), ()), rfl, h⟩)))))))))))))))))))))))))))))))))))))))))))))))))))))))))) (c_skip (k_seq (c_seq (c_ops (s_cons (w_put (o_ld2 rfl (fun (v_19 : AC) (v_20 : Int) => s_cons (w_put (o_call rfl (cv_1 (fun H_21 (v_22 : Int) => s_cons (w_put (o_eq rfl rfl (s_cons (w_put (o_mov rfl (s_cons (w_gputT rfl (o_mov rfl (s_cons (w_gputY rfl (o_eq rfl rfl (s_cons (w_put (o_pickT rfl rfl (s_cons (w_put (o_mov rfl (s_cons (w_gputT rfl (o_mov rfl (s_cons (w_gputY rfl (o_ld2 rfl (fun (v_23 : AC) (v_24 : Int) => s_cons (w_gputY rfl (o_call rfl (cv_1 (fun H_25 (v_26 : AC) => s_cons (w_gputY rfl (o_call rfl (cv_1 (fun H_27 (v_28 : Bool) => s_cons (w_put (o_pickT rfl rfl (s_cons (w_put (o_mov rfl (s_cons (w_gputT rfl (o_call rfl (cv_1 (fun H_29 (v_30 : Bool) => s_cons (w_put (o_pickT rfl rfl (s_cons (w_put (o_mov rfl (s_nil (k_seq (c_ret (k_topR (r_one rfl (r_nil (fun h => ⟨((v_30 : Bool), ()), rfl, h⟩))))))))))))))) (s_cons (w_put (o_pickF rfl rfl (s_cons (w_put (o_mov rfl (s_nil (k_seq (c_ret (k_topR (r_one rfl (r_nil (fun h => ⟨((false : Bool), ()), rfl, h⟩))))))))))))))))))))))))))))))))) (s_cons (w_gputN rfl (s_cons (w_gputN rfl (s_cons (w_gputN rfl (s_cons (w_put (o_pickF rfl rfl (s_cons (w_put (o_mov rfl (s_cons (w_gputN rfl (s_cons (w_put (o_pickF rfl rfl (s_cons (w_put (o_mov rfl (s_nil (k_seq (c_ret (k_topR (r_one rfl (r_nil (fun h => ⟨((false : Bool), ()), rfl, h⟩))))))))))))))))))))))))))))))))))))))) (s_cons (w_gputN rfl (s_cons (w_put (o_pickF rfl rfl (s_cons (w_put (o_mov rfl (s_cons (w_gputN rfl (s_cons (w_gputN rfl (s_cons (w_gputN rfl (s_cons (w_gputN rfl (s_cons (w_put (o_pickF rfl rfl (s_cons (w_put (o_mov rfl (s_cons (w_gputN rfl (s_cons (w_put (o_pickF rfl rfl (s_cons (w_put (o_mov rfl (s_nil (k_seq (c_ret (k_topR (r_one rfl (r_nil (fun h => ⟨((false : Bool), ()), rfl, h⟩)))))))))))))))))))))))))))))))))))))))))))))))))))))))))))))))))))))))))))))))))))))))))))))))))))))))))))))))))))))
theorem fetterlocklaw6_BoolCheckMatchesSpec.slimOk : slimOk [] (Try.f8.body.getD .skip) = true := by kernel_rfl
theorem fetterlocklaw6_BoolCheckMatchesSpec.resC : resC Try.prog aggs Try.f8.ntmps (slim [] (Try.f8.body.getD .skip)) = some fetterlocklaw6_BoolCheckMatchesSpec.c := by kernel_rfl
theorem fetterlocklaw6_BoolCheckMatchesSpec.resR : resR Try.prog Try.f8.results.toList = some [.tm 2] := by kernel_rfl
theorem fetterlocklaw6_BoolCheckMatchesSpec.bodyEq : Try.f8.body = some (Try.f8.body.getD .skip) := by kernel_rfl
theorem fetterlocklaw6_BoolCheckMatchesSpec.run {a0_0 : AC} {a0_1 : Int} {H : AHeap} {Q : AHeap → Bool → Prop} (h : fetterlocklaw6_BoolCheckMatchesSpec.W a0_0 a0_1 H Q) : Fn.fetterlocklaw6_BoolCheckMatchesSpec a0_0 a0_1 H Q := by
  unfold Fn.fetterlocklaw6_BoolCheckMatchesSpec RunT
  exact run_of aggs_ok [] rfl Try.func8 fetterlocklaw6_BoolCheckMatchesSpec.bodyEq fetterlocklaw6_BoolCheckMatchesSpec.slimOk fetterlocklaw6_BoolCheckMatchesSpec.resC fetterlocklaw6_BoolCheckMatchesSpec.resR (Nat.le_of_ble_eq_true (by kernel_rfl)) (fetterlocklaw6_BoolCheckMatchesSpec.ok Q h)

end Go.Proofs.Ytanaaabejeeakaa
end
section
/- Printed by a program: functions and what must hold ahead of them. -/
namespace Go.Proofs.Ytanaaabejeeakaa
open Go.AI
set_option maxRecDepth 100000
set_option maxHeartbeats 2000000
set_option linter.unusedVariables false
attribute [local irreducible] Ld Sto New NewS NewM NN NZ GE0 FA IA IAP LenS Slc App Cpy Clr MkS Fnc NilQ IxS Look MSet Run CV RunT CVT LoopT Same1 Same2 wpC wpOs wpT wpO wpOp

def solve_Build.c : RC := (.seq (.ops [.put 1 (.box 24 (.tm 0)),
    .put 2 (.new 27 [(.sl none 0 0 (some 0)), (.int .i64 0)]),
    .put 3 (.mov (.ct (.one (.int .i64 0))))]) (.seq (.seq (.ops [.put 6 (.ld true [.int .i64, .int .i64, .ac] (.tm 1)),
    .put 7 (.call 15 [(.tm 6)]),
    .put 4 (.mov (.tm 7))]) (.seq (.ops [.put 8 (.mov (.tm 4)),
    .put 9 (.cm .ne (.tm 8) (.ct (.one (.int .i64 0))))]) (.cond 9 (.seq (.ops [.put 10 (.bld [(.sl none 0 0 (some 0)), (.int .i64 0)] []),
    .put 11 (.mov (.tm 4)),
    .run (.st 2 (.tm 2) (.tm 10)),
    .put 3 (.mov (.tm 11))]) .ret) .skip))) (.seq (.ops [.put 12 (.call 41 []),
    .put 5 (.mov (.tm 12))]) (.seq (.ops [.put 13 (.mov (.tm 5)),
    .put 14 (.mov (.tm 5)),
    .put 15 (.ld true [.int .i64, .int .i64, .ac] (.tm 1)),
    .put 16 (.call 43 [(.tm 14), (.tm 15)]),
    .put 17 (.call 42 [(.tm 13), (.tm 16)]),
    .put 18 (.ex (.tm 17) 0),
    .put 19 (.ex (.tm 17) 1),
    .run (.st 2 (.tm 2) (.tm 18)),
    .put 3 (.mov (.tm 19))]) .ret))))
abbrev solve_Build.KQ (Q : AHeap → AC → Int → Int → Prop) : AV → AHeap → Prop := fun v H => ∃ xs : Tup (flat [(true, [.ac, .int .i64]), (false, [.int .i64])]), v = joinR (splitP [(true, [.ac, .int .i64]), (false, [.int .i64])] (cellsOf (flat [(true, [.ac, .int .i64]), (false, [.int .i64])]) xs)) ∧ app (flat [(true, [.ac, .int .i64]), (false, [.int .i64])]) (Q H) xs
abbrev solve_Build.K (Q : AHeap → AC → Int → Int → Prop) : Ex → Env → AHeap → Prop := kTop [.cell 2 true [.ac, .int .i64], .tm 3] (solve_Build.KQ Q)
def solve_Build.W (a0_0 : Int) (a0_1 : Int) (a0_2 : AC) (H : AHeap) (Q : AHeap → AC → Int → Int → Prop) : Prop :=
  New 24 [(.int .i64 a0_0), (.int .i64 a0_1), a0_2] H fun p_1 H_2 =>
  New 27 [(.sl none 0 0 (some 0)), (.int .i64 0)] H_2 fun p_3 H_4 =>
  Ld [.int .i64, .int .i64, .ac] H_4 p_1 fun (v_5 : Int) (v_6 : Int) (v_7 : AC) =>
  Fn.solve_CheckBool v_5 v_6 v_7 H_4 fun H_8 (v_9 : Int) =>
  CondB (v_9 != 0)
    (Sto H_8 p_3 [(.sl none 0 0 (some 0)), (.int .i64 0)] fun H_10 =>
    Ld [.ac, .int .i64] H_10 p_3 fun (r0_11 : AC) (r1_12 : Int) =>
    Q H_10 r0_11 r1_12 v_9)
    (Fn.solve_newManager  H_8 fun H_13 (v_14 : AC) =>
    Ld [.int .i64, .int .i64, .ac] H_13 p_1 fun (v_15 : Int) (v_16 : Int) (v_17 : AC) =>
    Fn.solve_manager_build v_14 v_15 v_16 v_17 H_13 fun H_18 (v_19 : Int) =>
    Fn.solve_manager_result v_14 v_19 H_18 fun H_20 (v_21 : AC) (v_22 : Int) (v_23 : Int) =>
    Sto H_20 p_3 [v_21, (.int .i64 v_22)] fun H_24 =>
    Ld [.ac, .int .i64] H_24 p_3 fun (r0_25 : AC) (r1_26 : Int) =>
    Q H_24 r0_25 r1_26 v_23)
theorem solve_Build.ok {a0_0 : Int} {a0_1 : Int} {a0_2 : AC} {H : AHeap} (Q : AHeap → AC → Int → Int → Prop) : solve_Build.W a0_0 a0_1 a0_2 H Q → wpF Try.prog solve_Build.c [.cell 2 true [.ac, .int .i64], .tm 3] (envOf [(.agg [(.int .i64 a0_0), (.int .i64 a0_1), a0_2])]) H (solve_Build.KQ Q) := c_seq (c_ops (s_cons (w_put (o_box rfl (fun p_1 H_2 => s_cons (w_put (o_new (fun p_3 H_4 => s_cons (w_put (o_mov rfl (s_nil (k_seq (c_seq (c_seq (c_ops (s_cons (w_put (o_ld3 rfl (fun (v_5 : Int) (v_6 : Int) (v_7 : AC) => s_cons (w_put (o_call rfl (cv_1 (fun H_8 (v_9 : Int) => s_cons (w_put (o_mov rfl (s_nil (k_seq (c_seq (c_ops (s_cons (w_put (o_mov rfl (s_cons (w_put (o_ne rfl rfl (s_nil (k_seq (c_if rfl (c_seq (c_ops (s_cons (w_put (o_bld rfl (s_cons (w_put (o_mov rfl (s_cons (w_run (o_st rfl rfl rfl (fun H_10 => s_cons (w_put (o_mov rfl (s_nil (k_seq (c_ret (k_seqR (k_topR (r_cell2 rfl (fun (r0_11 : AC) (r1_12 : Int) => r_one rfl (r_nil (fun h => ⟨(r0_11, (r1_12 : Int), (v_9 : Int), ()), rfl, h⟩))))))))))))))))))))))) (c_skip (k_seq (c_seq (c_ops (s_cons (w_put (o_call rfl (cv_1 (fun H_13 (v_14 : AC) => s_cons (w_put (o_mov rfl (s_nil (k_seq (c_seq (c_ops (s_cons (w_put (o_mov rfl (s_cons (w_put (o_mov rfl (s_cons (w_put (o_ld3 rfl (fun (v_15 : Int) (v_16 : Int) (v_17 : AC) => s_cons (w_put (o_call rfl (cv_1 (fun H_18 (v_19 : Int) => s_cons (w_put (o_call rfl (cv_a2_o1 (fun H_20 (v_21 : AC) (v_22 : Int) (v_23 : Int) => s_cons (w_put (o_ex rfl rfl rfl (s_cons (w_put (o_ex rfl rfl rfl (s_cons (w_run (o_st rfl rfl rfl (fun H_24 => s_cons (w_put (o_mov rfl (s_nil (k_seq (c_ret (k_topR (r_cell2 rfl (fun (r0_25 : AC) (r1_26 : Int) => r_one rfl (r_nil (fun h => ⟨(r0_25, (r1_26 : Int), (v_23 : Int), ()), rfl, h⟩))))))))))))))))))))))))))))))))))))))))))))))))))))))))))))))))))))))))))))))))))))))))))
theorem solve_Build.slimOk : slimOk [] (Try.f13.body.getD .skip) = true := by kernel_rfl
theorem solve_Build.resC : resC Try.prog aggs Try.f13.ntmps (slim [] (Try.f13.body.getD .skip)) = some solve_Build.c := by kernel_rfl
theorem solve_Build.resR : resR Try.prog Try.f13.results.toList = some [.cell 2 true [.ac, .int .i64], .tm 3] := by kernel_rfl
theorem solve_Build.bodyEq : Try.f13.body = some (Try.f13.body.getD .skip) := by kernel_rfl
theorem solve_Build.run {a0_0 : Int} {a0_1 : Int} {a0_2 : AC} {H : AHeap} {Q : AHeap → AC → Int → Int → Prop} (h : solve_Build.W a0_0 a0_1 a0_2 H Q) : Fn.solve_Build a0_0 a0_1 a0_2 H Q := by
  unfold Fn.solve_Build RunT
  exact run_of aggs_ok [] rfl Try.func13 solve_Build.bodyEq solve_Build.slimOk solve_Build.resC solve_Build.resR (Nat.le_of_ble_eq_true (by kernel_rfl)) (solve_Build.ok Q h)

def solve_CheckBool.c : RC := (.seq (.ops [.put 1 (.box 24 (.tm 0)),
    .put 2 (.mov (.ct (.one (.int .i64 0))))]) (.seq (.seq (.ops [.put 3 (.ld true [.int .i64, .int .i64, .ac] (.tm 1)),
    .put 4 (.call 46 [(.tm 3), (.ct (.one (.int .i64 300)))]),
    .put 5 (.cm .gt (.tm 4) (.ct (.one (.int .i64 300))))]) (.cond 5 (.seq (.ops [.put 2 (.mov (.ct (.one (.int .i64 3))))]) .ret) .skip)) (.seq (.ops [.put 6 (.ld true [.int .i64, .int .i64, .ac] (.tm 1)),
    .put 7 (.call 47 [(.tm 6)]),
    .put 2 (.mov (.tm 7))]) .ret)))
abbrev solve_CheckBool.KQ (Q : AHeap → Int → Prop) : AV → AHeap → Prop := fun v H => ∃ xs : Tup (flat [(false, [.int .i64])]), v = joinR (splitP [(false, [.int .i64])] (cellsOf (flat [(false, [.int .i64])]) xs)) ∧ app (flat [(false, [.int .i64])]) (Q H) xs
abbrev solve_CheckBool.K (Q : AHeap → Int → Prop) : Ex → Env → AHeap → Prop := kTop [.tm 2] (solve_CheckBool.KQ Q)
def solve_CheckBool.W (a0_0 : Int) (a0_1 : Int) (a0_2 : AC) (H : AHeap) (Q : AHeap → Int → Prop) : Prop :=
  New 24 [(.int .i64 a0_0), (.int .i64 a0_1), a0_2] H fun p_1 H_2 =>
  Ld [.int .i64, .int .i64, .ac] H_2 p_1 fun (v_3 : Int) (v_4 : Int) (v_5 : AC) =>
  Fn.solve_nodes v_3 v_4 v_5 300 H_2 fun H_6 (v_7 : Int) =>
  CondB (decide (v_7 > 300))
    (Q H_6 3)
    (Ld [.int .i64, .int .i64, .ac] H_6 p_1 fun (v_8 : Int) (v_9 : Int) (v_10 : AC) =>
    Fn.solve_boolFault v_8 v_9 v_10 H_6 fun H_11 (v_12 : Int) =>
    Q H_11 v_12)
theorem solve_CheckBool.ok {a0_0 : Int} {a0_1 : Int} {a0_2 : AC} {H : AHeap} (Q : AHeap → Int → Prop) : solve_CheckBool.W a0_0 a0_1 a0_2 H Q → wpF Try.prog solve_CheckBool.c [.tm 2] (envOf [(.agg [(.int .i64 a0_0), (.int .i64 a0_1), a0_2])]) H (solve_CheckBool.KQ Q) := c_seq (c_ops (s_cons (w_put (o_box rfl (fun p_1 H_2 => s_cons (w_put (o_mov rfl (s_nil (k_seq (c_seq (c_seq (c_ops (s_cons (w_put (o_ld3 rfl (fun (v_3 : Int) (v_4 : Int) (v_5 : AC) => s_cons (w_put (o_call rfl (cv_1 (fun H_6 (v_7 : Int) => s_cons (w_put (o_gt rfl rfl (s_nil (k_seq (c_if rfl (c_seq (c_ops (s_cons (w_put (o_mov rfl (s_nil (k_seq (c_ret (k_seqR (k_topR (r_one rfl (r_nil (fun h => ⟨((3 : Int), ()), rfl, h⟩))))))))))))) (c_skip (k_seq (c_seq (c_ops (s_cons (w_put (o_ld3 rfl (fun (v_8 : Int) (v_9 : Int) (v_10 : AC) => s_cons (w_put (o_call rfl (cv_1 (fun H_11 (v_12 : Int) => s_cons (w_put (o_mov rfl (s_nil (k_seq (c_ret (k_topR (r_one rfl (r_nil (fun h => ⟨((v_12 : Int), ()), rfl, h⟩))))))))))))))))))))))))))))))))))))))))))))))
theorem solve_CheckBool.slimOk : slimOk [] (Try.f15.body.getD .skip) = true := by kernel_rfl
theorem solve_CheckBool.resC : resC Try.prog aggs Try.f15.ntmps (slim [] (Try.f15.body.getD .skip)) = some solve_CheckBool.c := by kernel_rfl
theorem solve_CheckBool.resR : resR Try.prog Try.f15.results.toList = some [.tm 2] := by kernel_rfl
theorem solve_CheckBool.bodyEq : Try.f15.body = some (Try.f15.body.getD .skip) := by kernel_rfl
theorem solve_CheckBool.run {a0_0 : Int} {a0_1 : Int} {a0_2 : AC} {H : AHeap} {Q : AHeap → Int → Prop} (h : solve_CheckBool.W a0_0 a0_1 a0_2 H Q) : Fn.solve_CheckBool a0_0 a0_1 a0_2 H Q := by
  unfold Fn.solve_CheckBool RunT
  exact run_of aggs_ok [] rfl Try.func15 solve_CheckBool.bodyEq solve_CheckBool.slimOk solve_CheckBool.resC solve_CheckBool.resR (Nat.le_of_ble_eq_true (by kernel_rfl)) (solve_CheckBool.ok Q h)

def fetterlocklaw6_built.c11 : RC := (.cond 29 (.seq (.ops [.put 0 (.mov (.ct (.one (.bool false))))]) .ret) .skip)
def fetterlocklaw6_built.c : RC := (.seq (.ops [.put 0 (.mov (.ct (.one (.bool false))))]) (.seq (.ops [.put 7 (.bld [(.int .i64 0), (.int .i64 0), (.sl none 0 0 (some 0))] [(0, 1, (.ct (.one (.int .i64 1))))]),
    .put 1 (.new 24 [(.int .i64 0), (.int .i64 0), (.sl none 0 0 (some 0))]),
    .run (.st 3 (.tm 1) (.tm 7))]) (.seq (.ops [.put 8 (.bld [(.int .i64 0), (.int .i64 0), (.sl none 0 0 (some 0))] [(0, 1, (.ct (.one (.int .i64 1)))), (1, 1, (.ct (.one (.int .i64 2))))]),
    .put 2 (.new 24 [(.int .i64 0), (.int .i64 0), (.sl none 0 0 (some 0))]),
    .run (.st 3 (.tm 2) (.tm 8))]) (.seq (.ops [.put 10 (.ld true [.int .i64, .int .i64, .ac] (.tm 1)),
    .put 11 (.ld true [.int .i64, .int .i64, .ac] (.tm 2)),
    .put 12 (.blds 24 3 2 [(.int .i64 0), (.int .i64 0), (.sl none 0 0 (some 0)), (.int .i64 0), (.int .i64 0), (.sl none 0 0 (some 0))] [(0, 3, (.tm 10)), (3, 3, (.tm 11))]),
    .put 13 (.bld [(.int .i64 0), (.int .i64 0), (.sl none 0 0 (some 0))] [(0, 1, (.ct (.one (.int .i64 4)))), (2, 1, (.tm 12))]),
    .put 14 (.call 13 [(.tm 13)]),
    .put 9 (.mov (.tm 14)),
    .put 15 (.ex (.tm 9) 0),
    .put 16 (.ex (.tm 9) 1),
    .put 3 (.new 27 [(.sl none 0 0 (some 0)), (.int .i64 0)]),
    .run (.st 2 (.tm 3) (.tm 15)),
    .put 4 (.mov (.tm 16))]) (.seq (.seq (.ops [.put 17 (.mov (.tm 4)),
    .put 18 (.cm .ne (.tm 17) (.ct (.one (.int .i64 0)))),
    .put 19 (.mov (.tm 18)),
    .gput 20 19 false (.fa 1 (.tm 3)),
    .gput 21 19 false (.ld false [.int .i64] (.tm 20)),
    .gput 22 19 false (.cm .ne (.tm 21) (.ct (.one (.int .i64 1)))),
    .put 23 (.pick (.tm 19) (.ct (.one (.bool true))) (.tm 22)),
    .put 24 (.mov (.tm 23)),
    .gput 25 24 false (.fa 0 (.tm 3)),
    .gput 26 24 false (.ld false [.ac] (.tm 25)),
    .gput 27 24 false (.lens (.tm 26)),
    .gput 28 24 false (.cm .ne (.tm 27) (.ct (.one (.int .i64 2)))),
    .put 29 (.pick (.tm 24) (.ct (.one (.bool true))) (.tm 28))]) fetterlocklaw6_built.c11) (.seq (.ops [.put 31 (.ld true [.ac, .int .i64] (.tm 3)),
    .put 32 (.call 24 [(.tm 31), (.ct (.one (.int .i64 3)))]),
    .put 30 (.mov (.tm 32)),
    .put 33 (.ex (.tm 30) 0),
    .put 34 (.ex (.tm 30) 1),
    .put 5 (.mov (.tm 33)),
    .put 6 (.mov (.tm 34))]) (.seq (.ops [.put 35 (.fa 0 (.tm 3)),
    .put 36 (.ld false [.ac] (.tm 35)),
    .put 37 (.ia 3 (.tm 36) (.ct (.one (.int .i64 0)))),
    .put 38 (.ld true [.int .i64, .int .i64, .int .i64] (.tm 37)),
    .put 39 (.bld [(.int .i64 0), (.int .i64 0), (.int .i64 0)] [(0, 1, (.ct (.one (.int .i64 2)))), (1, 1, (.ct (.one (.int .i64 (-1))))), (2, 1, (.ct (.one (.int .i64 (-2)))))]),
    .put 40 (.eqa false 3 (.tm 38) (.tm 39)),
    .put 41 (.mov (.tm 40)),
    .gput 42 41 true (.fa 0 (.tm 3)),
    .gput 43 41 true (.ld false [.ac] (.tm 42)),
    .gput 44 41 true (.ia 3 (.tm 43) (.ct (.one (.int .i64 1)))),
    .gput 45 41 true (.ld true [.int .i64, .int .i64, .int .i64] (.tm 44)),
    .gput 46 41 true (.bld [(.int .i64 0), (.int .i64 0), (.int .i64 0)] [(0, 1, (.ct (.one (.int .i64 0)))), (1, 1, (.ct (.one (.int .i64 (-1))))), (2, 1, (.ct (.one (.int .i64 0))))]),
    .gput 47 41 true (.eqa false 3 (.tm 45) (.tm 46)),
    .put 48 (.pick (.tm 41) (.tm 47) (.ct (.one (.bool false)))),
    .put 49 (.mov (.tm 48)),
    .gput 50 49 true (.mov (.tm 6)),
    .gput 51 49 true (.cm .eq (.tm 50) (.ct (.one (.int .i64 0)))),
    .put 52 (.pick (.tm 49) (.tm 51) (.ct (.one (.bool false)))),
    .put 53 (.mov (.tm 52)),
    .gput 54 53 true (.mov (.tm 5)),
    .gput 55 53 true (.cm .eq (.tm 54) (.ct (.one (.int .i64 2)))),
    .put 56 (.pick (.tm 53) (.tm 55) (.ct (.one (.bool false)))),
    .put 0 (.mov (.tm 56))]) .ret)))))))
abbrev fetterlocklaw6_built.KQ (Q : AHeap → Bool → Prop) : AV → AHeap → Prop := fun v H => ∃ xs : Tup (flat [(false, [.bool])]), v = joinR (splitP [(false, [.bool])] (cellsOf (flat [(false, [.bool])]) xs)) ∧ app (flat [(false, [.bool])]) (Q H) xs
abbrev fetterlocklaw6_built.K (Q : AHeap → Bool → Prop) : Ex → Env → AHeap → Prop := kTop [.tm 0] (fetterlocklaw6_built.KQ Q)
abbrev fetterlocklaw6_built.k9 (Q : AHeap → Bool → Prop) : Ex → Env → AHeap → Prop := kSeq (fun t H => wpC Try.prog (.seq (.ops [.put 31 (.ld true [.ac, .int .i64] (.tm 3)),
    .put 32 (.call 24 [(.tm 31), (.ct (.one (.int .i64 3)))]),
    .put 30 (.mov (.tm 32)),
    .put 33 (.ex (.tm 30) 0),
    .put 34 (.ex (.tm 30) 1),
    .put 5 (.mov (.tm 33)),
    .put 6 (.mov (.tm 34))]) (.seq (.ops [.put 35 (.fa 0 (.tm 3)),
    .put 36 (.ld false [.ac] (.tm 35)),
    .put 37 (.ia 3 (.tm 36) (.ct (.one (.int .i64 0)))),
    .put 38 (.ld true [.int .i64, .int .i64, .int .i64] (.tm 37)),
    .put 39 (.bld [(.int .i64 0), (.int .i64 0), (.int .i64 0)] [(0, 1, (.ct (.one (.int .i64 2)))), (1, 1, (.ct (.one (.int .i64 (-1))))), (2, 1, (.ct (.one (.int .i64 (-2)))))]),
    .put 40 (.eqa false 3 (.tm 38) (.tm 39)),
    .put 41 (.mov (.tm 40)),
    .gput 42 41 true (.fa 0 (.tm 3)),
    .gput 43 41 true (.ld false [.ac] (.tm 42)),
    .gput 44 41 true (.ia 3 (.tm 43) (.ct (.one (.int .i64 1)))),
    .gput 45 41 true (.ld true [.int .i64, .int .i64, .int .i64] (.tm 44)),
    .gput 46 41 true (.bld [(.int .i64 0), (.int .i64 0), (.int .i64 0)] [(0, 1, (.ct (.one (.int .i64 0)))), (1, 1, (.ct (.one (.int .i64 (-1))))), (2, 1, (.ct (.one (.int .i64 0))))]),
    .gput 47 41 true (.eqa false 3 (.tm 45) (.tm 46)),
    .put 48 (.pick (.tm 41) (.tm 47) (.ct (.one (.bool false)))),
    .put 49 (.mov (.tm 48)),
    .gput 50 49 true (.mov (.tm 6)),
    .gput 51 49 true (.cm .eq (.tm 50) (.ct (.one (.int .i64 0)))),
    .put 52 (.pick (.tm 49) (.tm 51) (.ct (.one (.bool false)))),
    .put 53 (.mov (.tm 52)),
    .gput 54 53 true (.mov (.tm 5)),
    .gput 55 53 true (.cm .eq (.tm 54) (.ct (.one (.int .i64 2)))),
    .put 56 (.pick (.tm 53) (.tm 55) (.ct (.one (.bool false)))),
    .put 0 (.mov (.tm 56))]) .ret)) t H (fetterlocklaw6_built.K Q)) (fetterlocklaw6_built.K Q)
def fetterlocklaw6_built.p11 (Q : AHeap → Bool → Prop) (x3 : AC) (x29 : Bool) (H : AHeap) : Prop :=
  CondB x29
    (Q H false)
    (Ld [.ac, .int .i64] H x3 fun (v_1 : AC) (v_2 : Int) =>
    Fn.solve_Count v_1 v_2 3 H fun H_3 (v_4 : Int) (v_5 : Int) =>
    FA 0 x3 fun q_6 =>
    Ld [.ac] H_3 q_6 fun (v_7 : AC) =>
    IA 3 v_7 0 fun q_8 =>
    Ld [.int .i64, .int .i64, .int .i64] H_3 q_8 fun (v_9 : Int) (v_10 : Int) (v_11 : Int) =>
    CondB (decide (([v_9, v_10, v_11] : List Int) = ([2, (-1), (-2)] : List Int)))
      (FA 0 x3 fun q_12 =>
      Ld [.ac] H_3 q_12 fun (v_13 : AC) =>
      IA 3 v_13 1 fun q_14 =>
      Ld [.int .i64, .int .i64, .int .i64] H_3 q_14 fun (v_15 : Int) (v_16 : Int) (v_17 : Int) =>
      CondB (decide (([v_15, v_16, v_17] : List Int) = ([0, (-1), 0] : List Int)))
        (CondB (v_5 == 0)
          (Q H_3 (v_4 == 2))
          (Q H_3 false))
        (Q H_3 false))
      (Q H_3 false))
def fetterlocklaw6_built.W (H : AHeap) (Q : AHeap → Bool → Prop) : Prop :=
  New 24 [(.int .i64 0), (.int .i64 0), (.sl none 0 0 (some 0))] H fun p_1 H_2 =>
  Sto H_2 p_1 [(.int .i64 1), (.int .i64 0), (.sl none 0 0 (some 0))] fun H_3 =>
  New 24 [(.int .i64 0), (.int .i64 0), (.sl none 0 0 (some 0))] H_3 fun p_4 H_5 =>
  Sto H_5 p_4 [(.int .i64 1), (.int .i64 2), (.sl none 0 0 (some 0))] fun H_6 =>
  Ld [.int .i64, .int .i64, .ac] H_6 p_1 fun (v_7 : Int) (v_8 : Int) (v_9 : AC) =>
  Ld [.int .i64, .int .i64, .ac] H_6 p_4 fun (v_10 : Int) (v_11 : Int) (v_12 : AC) =>
  NewS 24 3 2 [(.int .i64 v_7), (.int .i64 v_8), v_9, (.int .i64 v_10), (.int .i64 v_11), v_12] H_6 fun p_13 H_14 =>
  Fn.solve_Build 4 0 p_13 H_14 fun H_15 (v_16 : AC) (v_17 : Int) (v_18 : Int) =>
  New 27 [(.sl none 0 0 (some 0)), (.int .i64 0)] H_15 fun p_19 H_20 =>
  Sto H_20 p_19 [v_16, (.int .i64 v_17)] fun H_21 =>
  CondB (v_18 != 0)
    (fetterlocklaw6_built.p11 Q p_19 true H_21)
    (FA 1 p_19 fun q_22 =>
    Ld [.int .i64] H_21 q_22 fun (v_23 : Int) =>
    CondB (v_23 != 1)
      (fetterlocklaw6_built.p11 Q p_19 true H_21)
      (FA 0 p_19 fun q_24 =>
      Ld [.ac] H_21 q_24 fun (v_25 : AC) =>
      LenS v_25 fun n_26 =>
      fetterlocklaw6_built.p11 Q p_19 (n_26 != 2) H_21))
theorem fetterlocklaw6_built.p11_okE (Q : AHeap → Bool → Prop) {x3 : AC} {x29 : Bool} {H : AHeap} (j : Env) : fetterlocklaw6_built.p11 Q x3 x29 H → wpC Try.prog fetterlocklaw6_built.c11 (upd (upd j 3 (.one x3)) 29 (.one (.bool x29))) H (fetterlocklaw6_built.k9 Q) := c_if rfl (c_seq (c_ops (s_cons (w_put (o_mov rfl (s_nil (k_seq (c_ret (k_seqR (k_topR (r_one rfl (r_nil (fun h => ⟨((false : Bool), ()), rfl, h⟩))))))))))))) (c_skip (k_seq (c_seq (c_ops (s_cons (w_put (o_ld2 rfl (fun (v_1 : AC) (v_2 : Int) => s_cons (w_put (o_call rfl (cv_o1_o1 (fun H_3 (v_4 : Int) (v_5 : Int) => s_cons (w_put (o_mov rfl (s_cons (w_put (o_ex rfl rfl rfl (s_cons (w_put (o_ex rfl rfl rfl (s_cons (w_put (o_mov rfl (s_cons (w_put (o_mov rfl (s_nil (k_seq (c_seq (c_ops (s_cons (w_put (o_fa rfl (fun q_6 => s_cons (w_put (o_ld1 rfl (fun (v_7 : AC) => s_cons (w_put (o_ia rfl rfl (fun q_8 => s_cons (w_put (o_ld3 rfl (fun (v_9 : Int) (v_10 : Int) (v_11 : Int) => s_cons (w_put (o_bld rfl (s_cons (w_put (o_eqa rfl rfl rfl rfl rfl (s_cons (w_put (o_mov rfl (s_cons (w_gputT rfl (o_fa rfl (fun q_12 => s_cons (w_gputY rfl (o_ld1 rfl (fun (v_13 : AC) => s_cons (w_gputY rfl (o_ia rfl rfl (fun q_14 => s_cons (w_gputY rfl (o_ld3 rfl (fun (v_15 : Int) (v_16 : Int) (v_17 : Int) => s_cons (w_gputY rfl (o_bld rfl (s_cons (w_gputY rfl (o_eqa rfl rfl rfl rfl rfl (s_cons (w_put (o_pickT rfl rfl (s_cons (w_put (o_mov rfl (s_cons (w_gputT rfl (o_mov rfl (s_cons (w_gputY rfl (o_eq rfl rfl (s_cons (w_put (o_pickT rfl rfl (s_cons (w_put (o_mov rfl (s_cons (w_gputT rfl (o_mov rfl (s_cons (w_gputY rfl (o_eq rfl rfl (s_cons (w_put (o_pickT rfl rfl (s_cons (w_put (o_mov rfl (s_nil (k_seq (c_ret (k_topR (r_one rfl (r_nil (fun h => ⟨(((v_4 == 2) : Bool), ()), rfl, h⟩))))))))))))))))) (s_cons (w_gputN rfl (s_cons (w_put (o_pickF rfl rfl (s_cons (w_put (o_mov rfl (s_nil (k_seq (c_ret (k_topR (r_one rfl (r_nil (fun h => ⟨((false : Bool), ()), rfl, h⟩))))))))))))))))))))))))))) (s_cons (w_gputN rfl (s_cons (w_put (o_pickF rfl rfl (s_cons (w_put (o_mov rfl (s_cons (w_gputN rfl (s_cons (w_gputN rfl (s_cons (w_put (o_pickF rfl rfl (s_cons (w_put (o_mov rfl (s_nil (k_seq (c_ret (k_topR (r_one rfl (r_nil (fun h => ⟨((false : Bool), ()), rfl, h⟩))))))))))))))))))))))))))))))))))))))))))))))))) (s_cons (w_gputN rfl (s_cons (w_gputN rfl (s_cons (w_gputN rfl (s_cons (w_gputN rfl (s_cons (w_gputN rfl (s_cons (w_put (o_pickF rfl rfl (s_cons (w_put (o_mov rfl (s_cons (w_gputN rfl (s_cons (w_gputN rfl (s_cons (w_put (o_pickF rfl rfl (s_cons (w_put (o_mov rfl (s_cons (w_gputN rfl (s_cons (w_gputN rfl (s_cons (w_put (o_pickF rfl rfl (s_cons (w_put (o_mov rfl (s_nil (k_seq (c_ret (k_topR (r_one rfl (r_nil (fun h => ⟨((false : Bool), ()), rfl, h⟩))))))))))))))))))))))))))))))))))))))))))))))))))))))))))))))))))))))))))))))))))))))))))))))))
theorem fetterlocklaw6_built.p11_ok (Q : AHeap → Bool → Prop) {x3 : AC} {x29 : Bool} {H : AHeap} {t : Env} (h3 : t 3 = (.one x3)) (h29 : t 29 = (.one (.bool x29))) (h : fetterlocklaw6_built.p11 Q x3 x29 H) : wpC Try.prog fetterlocklaw6_built.c11 t H (fetterlocklaw6_built.k9 Q) := by
  have g := fetterlocklaw6_built.p11_okE Q t h
  rw [upd_self h3] at g
  rw [upd_self h29] at g
  exact g
theorem fetterlocklaw6_built.ok {H : AHeap} (Q : AHeap → Bool → Prop) : fetterlocklaw6_built.W H Q → wpF Try.prog fetterlocklaw6_built.c [.tm 0] (envOf []) H (fetterlocklaw6_built.KQ Q) := c_seq (c_ops (s_cons (w_put (o_mov rfl (s_nil (k_seq (c_seq (c_ops (s_cons (w_put (o_bld rfl (s_cons (w_put (o_new (fun p_1 H_2 => s_cons (w_run (o_st rfl rfl rfl (fun H_3 => s_nil (k_seq (c_seq (c_ops (s_cons (w_put (o_bld rfl (s_cons (w_put (o_new (fun p_4 H_5 => s_cons (w_run (o_st rfl rfl rfl (fun H_6 => s_nil (k_seq (c_seq (c_ops (s_cons (w_put (o_ld3 rfl (fun (v_7 : Int) (v_8 : Int) (v_9 : AC) => s_cons (w_put (o_ld3 rfl (fun (v_10 : Int) (v_11 : Int) (v_12 : AC) => s_cons (w_put (o_blds rfl (fun p_13 H_14 => s_cons (w_put (o_bld rfl (s_cons (w_put (o_call rfl (cv_a2_o1 (fun H_15 (v_16 : AC) (v_17 : Int) (v_18 : Int) => s_cons (w_put (o_mov rfl (s_cons (w_put (o_ex rfl rfl rfl (s_cons (w_put (o_ex rfl rfl rfl (s_cons (w_put (o_new (fun p_19 H_20 => s_cons (w_run (o_st rfl rfl rfl (fun H_21 => s_cons (w_put (o_mov rfl (s_nil (k_seq (c_seq (c_seq (c_ops (s_cons (w_put (o_mov rfl (s_cons (w_put (o_ne rfl rfl (s_cons (w_put (o_mov rfl (s_cons (w_gputF rfl (s_cons (w_gputN rfl (s_cons (w_gputN rfl (s_cons (w_put (o_pickT rfl rfl (s_cons (w_put (o_mov rfl (s_cons (w_gputN rfl (s_cons (w_gputN rfl (s_cons (w_gputN rfl (s_cons (w_gputN rfl (s_cons (w_put (o_pickT rfl rfl (s_nil (k_seq (fetterlocklaw6_built.p11_ok Q rfl rfl)))))))))))))))))))))))) (o_fa rfl (fun q_22 => s_cons (w_gputY rfl (o_ld1 rfl (fun (v_23 : Int) => s_cons (w_gputY rfl (o_ne rfl rfl (s_cons (w_put (o_pickF rfl rfl (s_cons (w_put (o_mov rfl (s_cons (w_gputF rfl (s_cons (w_gputN rfl (s_cons (w_gputN rfl (s_cons (w_gputN rfl (s_cons (w_put (o_pickT rfl rfl (s_nil (k_seq (fetterlocklaw6_built.p11_ok Q rfl rfl)))))))))))) (o_fa rfl (fun q_24 => s_cons (w_gputY rfl (o_ld1 rfl (fun (v_25 : AC) => s_cons (w_gputY rfl (o_lens rfl (fun n_26 => s_cons (w_gputY rfl (o_ne rfl rfl (s_cons (w_put (o_pickF rfl rfl (s_nil (k_seq (fetterlocklaw6_built.p11_ok Q rfl rfl)))))))))))))))))))))))))))))))))))))))))))))))))))))))))))))))))))))))))))))))))))))))))))))))))))))))))))))))))))
theorem fetterlocklaw6_built.slimOk : slimOk [] (Try.f19.body.getD .skip) = true := by kernel_rfl
theorem fetterlocklaw6_built.resC : resC Try.prog aggs Try.f19.ntmps (slim [] (Try.f19.body.getD .skip)) = some fetterlocklaw6_built.c := by kernel_rfl
theorem fetterlocklaw6_built.resR : resR Try.prog Try.f19.results.toList = some [.tm 0] := by kernel_rfl
theorem fetterlocklaw6_built.bodyEq : Try.f19.body = some (Try.f19.body.getD .skip) := by kernel_rfl
theorem fetterlocklaw6_built.run {H : AHeap} {Q : AHeap → Bool → Prop} (h : fetterlocklaw6_built.W H Q) : Fn.fetterlocklaw6_built H Q := by
  unfold Fn.fetterlocklaw6_built RunT
  exact run_of aggs_ok [] rfl Try.func19 fetterlocklaw6_built.bodyEq fetterlocklaw6_built.slimOk fetterlocklaw6_built.resC fetterlocklaw6_built.resR (Nat.le_of_ble_eq_true (by kernel_rfl)) (fetterlocklaw6_built.ok Q h)
end Go.Proofs.Ytanaaabejeeakaa
end
section
/- Printed by a program: functions and what must hold ahead of them. -/
namespace Go.Proofs.Ytanaaabejeeakaa
open Go.AI
set_option maxRecDepth 100000
set_option maxHeartbeats 2000000
set_option linter.unusedVariables false
attribute [local irreducible] Ld Sto New NewS NewM NN NZ GE0 FA IA IAP LenS Slc App Cpy Clr MkS Fnc NilQ IxS Look MSet Run CV RunT CVT LoopT Same1 Same2 wpC wpOs wpT wpO wpOp

def solve_Count.c21 : RC := (.seq (.ops [.put 26 (.cm .lt (.tm 25) (.tm 24))]) (.seq (.cond 26 .skip (.exit 0)) (.seq (.block 1 (.seq (.ops [.put 27 (.mov (.tm 25)),
    .put 28 (.ia 3 (.tm 23) (.tm 25)),
    .put 29 (.ld true [.int .i64, .int .i64, .int .i64] (.tm 28)),
    .put 10 (.new 77 [(.int .i64 0), (.int .i64 0), (.int .i64 0)]),
    .put 9 (.mov (.tm 27)),
    .run (.st 3 (.tm 10) (.tm 29))]) (.held [.put 30 (.ld false [.ac] (.tm 7)),
    .put 31 (.mov (.tm 9)),
    .put 32 (.mov (.tm 8)),
    .put 33 (.fa 1 (.tm 10)),
    .put 34 (.ld false [.int .i64] (.tm 33)),
    .put 35 (.fa 0 (.tm 10)),
    .put 36 (.ld false [.int .i64] (.tm 35)),
    .put 37 (.ar .add (.tm 36) (.ct (.one (.int .i64 1)))),
    .put 38 (.callv (.tm 32) [(.tm 34), (.tm 37)]),
    .put 39 (.mov (.tm 8)),
    .put 40 (.fa 2 (.tm 10)),
    .put 41 (.ld false [.int .i64] (.tm 40)),
    .put 42 (.fa 0 (.tm 10)),
    .put 43 (.ld false [.int .i64] (.tm 42)),
    .put 44 (.ar .add (.tm 43) (.ct (.one (.int .i64 1)))),
    .put 45 (.callv (.tm 39) [(.tm 41), (.tm 44)]),
    .put 46 (.ar .add (.tm 38) (.tm 45)),
    .put 47 (.ia 1 (.tm 30) (.tm 31)),
    .run (.st 1 (.tm 47) (.tm 46))] [(0, 8), (0, 15), (11, 8), (13, 8)]))) (.ops [.put 48 (.ar .add (.tm 25) (.ct (.one (.int .i64 1)))),
    .put 25 (.mov (.tm 48))]))))
def solve_Count.c : RC := (.seq (.ops [.put 2 (.box 27 (.tm 0)),
    .put 3 (.box 3 (.tm 1)),
    .put 4 (.mov (.ct (.one (.int .i64 0)))),
    .put 5 (.mov (.ct (.one (.int .i64 0))))]) (.seq (.seq (.ops [.put 11 (.ld true [.ac, .int .i64] (.tm 2)),
    .put 12 (.ld false [.int .i64] (.tm 3)),
    .put 13 (.call 57 [(.tm 11), (.tm 12)]),
    .put 6 (.mov (.tm 13))]) (.seq (.ops [.put 14 (.mov (.tm 6)),
    .put 15 (.cm .ne (.tm 14) (.ct (.one (.int .i64 0))))]) (.cond 15 (.seq (.ops [.put 16 (.mov (.tm 6)),
    .put 4 (.mov (.ct (.one (.int .i64 0)))),
    .put 5 (.mov (.tm 16))]) .ret) .skip))) (.seq (.ops [.put 17 (.fa 0 (.tm 2)),
    .put 18 (.ld false [.ac] (.tm 17)),
    .put 19 (.lens (.tm 18)),
    .put 20 (.mks 3 1 8 [(.int .i64 0)] (.tm 19) (.tm 19)),
    .put 7 (.new 53 [(.sl none 0 0 (some 0))]),
    .run (.st 1 (.tm 7) (.tm 20))]) (.seq (.ops [.put 21 (.fn 58 [] [(.tm 3), (.tm 7), (.tm 2)]),
    .put 8 (.mov (.tm 21))]) (.seq (.seq (.ops [.put 22 (.fa 0 (.tm 2)),
    .put 23 (.ld false [.ac] (.tm 22)),
    .put 24 (.lens (.tm 23)),
    .put 25 (.mov (.ct (.one (.int .i64 0))))]) (.block 0 (.loop solve_Count.c21))) (.seq (.ops [.put 49 (.mov (.tm 8)),
    .put 50 (.fa 1 (.tm 2)),
    .put 51 (.ld false [.int .i64] (.tm 50)),
    .put 52 (.callv (.tm 49) [(.tm 51), (.ct (.one (.int .i64 0)))]),
    .put 4 (.mov (.tm 52)),
    .put 5 (.mov (.ct (.one (.int .i64 0))))]) .ret))))))
abbrev solve_Count.KQ (Q : AHeap → Int → Int → Prop) : AV → AHeap → Prop := fun v H => ∃ xs : Tup (flat [(false, [.int .i64]), (false, [.int .i64])]), v = joinR (splitP [(false, [.int .i64]), (false, [.int .i64])] (cellsOf (flat [(false, [.int .i64]), (false, [.int .i64])]) xs)) ∧ app (flat [(false, [.int .i64]), (false, [.int .i64])]) (Q H) xs
abbrev solve_Count.K (Q : AHeap → Int → Int → Prop) : Ex → Env → AHeap → Prop := kTop [.tm 4, .tm 5] (solve_Count.KQ Q)
abbrev solve_Count.k17 (Q : AHeap → Int → Int → Prop) : Ex → Env → AHeap → Prop := kSeq (fun t H => wpC Try.prog (.seq (.ops [.put 49 (.mov (.tm 8)),
    .put 50 (.fa 1 (.tm 2)),
    .put 51 (.ld false [.int .i64] (.tm 50)),
    .put 52 (.callv (.tm 49) [(.tm 51), (.ct (.one (.int .i64 0)))]),
    .put 4 (.mov (.tm 52)),
    .put 5 (.mov (.ct (.one (.int .i64 0))))]) .ret) t H (solve_Count.K Q)) (solve_Count.K Q)
def solve_Count.R20 (s : Tup [.ac, .ac, .ac, .ac, .int .i64, .int .i64]) (t : Env) : Prop := t 2 = (.one (s.1)) ∧ t 7 = (.one (s.2.1)) ∧ t 8 = (.one (s.2.2.1)) ∧ t 23 = (.one (s.2.2.2.1)) ∧ t 24 = (.one (.int .i64 (s.2.2.2.2.1))) ∧ t 25 = (.one (.int .i64 (s.2.2.2.2.2.1))) ∧ True
def solve_Count.b20 (Q : AHeap → Int → Int → Prop) (Y20 : Tup [.ac, .ac, .ac, .ac, .int .i64, .int .i64] → AHeap → Prop) (x2 : AC) (x7 : AC) (x8 : AC) (x23 : AC) (x24 : Int) (x25 : Int) (H : AHeap) : Prop :=
  CondB (decide (x25 < x24))
    (IA 3 x23 x25 fun q_1 =>
    Ld [.int .i64, .int .i64, .int .i64] H q_1 fun (v_2 : Int) (v_3 : Int) (v_4 : Int) =>
    New 77 [(.int .i64 0), (.int .i64 0), (.int .i64 0)] H fun p_5 H_6 =>
    Sto H_6 p_5 [(.int .i64 v_2), (.int .i64 v_3), (.int .i64 v_4)] fun H_7 =>
    Ld [.ac] H_7 x7 fun (v_8 : AC) =>
    FA 1 p_5 fun q_9 =>
    Ld [.int .i64] H_7 q_9 fun (v_10 : Int) =>
    FA 0 p_5 fun q_11 =>
    Ld [.int .i64] H_7 q_11 fun (v_12 : Int) =>
    CVT Try.prog [(false, [.int .i64])] x8 [(.one (.int .i64 v_10)), (.one (.int .i64 (IntKind.wrap .i64 (v_12 + 1))))] H_7 fun H_13 (v_14 : Int) =>
    FA 2 p_5 fun q_15 =>
    Ld [.int .i64] H_13 q_15 fun (v_16 : Int) =>
    FA 0 p_5 fun q_17 =>
    Ld [.int .i64] H_13 q_17 fun (v_18 : Int) =>
    CVT Try.prog [(false, [.int .i64])] x8 [(.one (.int .i64 v_16)), (.one (.int .i64 (IntKind.wrap .i64 (v_18 + 1))))] H_13 fun H_19 (v_20 : Int) =>
    IA 1 v_8 x25 fun q_21 =>
    Sto H_19 q_21 [(.int .i64 (IntKind.wrap .i64 (v_14 + v_20)))] fun H_22 =>
    Same1 H_7 H_13 x7 1 ∧
    Same1 H_7 H_19 x7 1 ∧
    Same2 H_13 H_7 q_15 1 ∧
    Same2 H_13 H_7 q_17 1 ∧
    Y20 (x2, x7, x8, x23, (x24 : Int), ((IntKind.wrap .i64 (x25 + 1)) : Int), ()) H_22)
    (FA 1 x2 fun q_23 =>
    Ld [.int .i64] H q_23 fun (v_24 : Int) =>
    CVT Try.prog [(false, [.int .i64])] x8 [(.one (.int .i64 v_24)), (.one (.int .i64 0))] H fun H_25 (v_26 : Int) =>
    Q H_25 v_26 0)
def solve_Count.l20 (Q : AHeap → Int → Int → Prop) (x2 : AC) (x7 : AC) (x8 : AC) (x23 : AC) (x24 : Int) (x25 : Int) (H : AHeap) : Prop := LoopT (Tup [.ac, .ac, .ac, .ac, .int .i64, .int .i64]) (fun Y s H => solve_Count.b20 Q Y (s.1) (s.2.1) (s.2.2.1) (s.2.2.2.1) (s.2.2.2.2.1) (s.2.2.2.2.2.1) H) (x2, x7, x8, x23, x24, x25, ()) H
def solve_Count.W (a0_0 : AC) (a0_1 : Int) (a1 : Int) (H : AHeap) (Q : AHeap → Int → Int → Prop) : Prop :=
  New 27 [a0_0, (.int .i64 a0_1)] H fun p_1 H_2 =>
  New 3 [(.int .i64 a1)] H_2 fun p_3 H_4 =>
  Ld [.ac, .int .i64] H_4 p_1 fun (v_5 : AC) (v_6 : Int) =>
  Ld [.int .i64] H_4 p_3 fun (v_7 : Int) =>
  Fn.solve_varsFault v_5 v_6 v_7 H_4 fun H_8 (v_9 : Int) =>
  CondB (v_9 != 0)
    (Q H_8 0 v_9)
    (FA 0 p_1 fun q_10 =>
    Ld [.ac] H_8 q_10 fun (v_11 : AC) =>
    LenS v_11 fun n_12 =>
    MkS 3 1 8 [(.int .i64 0)] n_12 n_12 H_8 fun p_13 H_14 =>
    New 53 [(.sl none 0 0 (some 0))] H_14 fun p_15 H_16 =>
    Sto H_16 p_15 [p_13] fun H_17 =>
    Fnc 58 [] [p_3, p_15, p_1] fun f_18 =>
    FA 0 p_1 fun q_19 =>
    Ld [.ac] H_17 q_19 fun (v_20 : AC) =>
    LenS v_20 fun n_21 =>
    solve_Count.l20 Q p_1 p_15 f_18 v_20 n_21 0 H_17)
theorem solve_Count.b20_ok (Q : AHeap → Int → Int → Prop) (Y20 : Tup [.ac, .ac, .ac, .ac, .int .i64, .int .i64] → AHeap → Prop) (X20 : Env → AHeap → Prop) (hX20 : ∀ s t H, solve_Count.R20 s t → Y20 s H → X20 t H) {x2 : AC} {x7 : AC} {x8 : AC} {x23 : AC} {x24 : Int} {x25 : Int} {H : AHeap} (j : Env) : solve_Count.b20 Q Y20 x2 x7 x8 x23 x24 x25 H → wpC Try.prog solve_Count.c21 (upd (upd (upd (upd (upd (upd j 2 (.one x2)) 7 (.one x7)) 8 (.one x8)) 23 (.one x23)) 24 (.one (.int .i64 x24))) 25 (.one (.int .i64 x25))) H (kSeq X20 (kBlk 0 (solve_Count.k17 Q))) := c_seq (c_ops (s_cons (w_put (o_lt rfl rfl (s_nil (k_seq (c_seq (c_if rfl (c_skip (k_seq (c_seq (c_blk (c_seq (c_ops (s_cons (w_put (o_mov rfl (s_cons (w_put (o_ia rfl rfl (fun q_1 => s_cons (w_put (o_ld3 rfl (fun (v_2 : Int) (v_3 : Int) (v_4 : Int) => s_cons (w_put (o_new (fun p_5 H_6 => s_cons (w_put (o_mov rfl (s_cons (w_run (o_st rfl rfl rfl (fun H_7 => s_nil (k_seq (c_held (t_cons (w_put (o_ld1 rfl (fun (v_8 : AC) => t_cons (w_put (o_mov rfl (t_cons (w_put (o_mov rfl (t_cons (w_put (o_fa rfl (fun q_9 => t_cons (w_put (o_ld1 rfl (fun (v_10 : Int) => t_cons (w_put (o_fa rfl (fun q_11 => t_cons (w_put (o_ld1 rfl (fun (v_12 : Int) => t_cons (w_put (o_add rfl rfl (t_cons (w_put (o_callv rfl rfl (cu_1 (fun H_13 (v_14 : Int) => t_cons (w_put (o_mov rfl (t_cons (w_put (o_fa rfl (fun q_15 => t_cons (w_put (o_ld1 rfl (fun (v_16 : Int) => t_cons (w_put (o_fa rfl (fun q_17 => t_cons (w_put (o_ld1 rfl (fun (v_18 : Int) => t_cons (w_put (o_add rfl rfl (t_cons (w_put (o_callv rfl rfl (cu_1 (fun H_19 (v_20 : Int) => t_cons (w_put (o_add rfl rfl (t_cons (w_put (o_ia rfl rfl (fun q_21 => t_cons (w_run (o_st rfl rfl rfl (fun H_22 => t_nil (p_one rfl rfl rfl rfl rfl rfl rfl rfl (p_one rfl rfl rfl rfl rfl rfl rfl rfl (p_two rfl rfl rfl rfl rfl rfl rfl rfl (p_two rfl rfl rfl rfl rfl rfl rfl rfl (p_nil (k_blk (k_seq (c_ops (s_cons (w_put (o_add rfl rfl (s_cons (w_put (o_mov rfl (s_nil (k_seq (hX20 _ _ _ ⟨rfl, rfl, rfl, rfl, rfl, rfl, trivial⟩)))))))))))))))))))))))))))))))))))))))))))))))))))))))))))))))))))))))))))))))))))))))))))))))))))))))) (c_exit (k_seqE (k_seqE (k_blkH (k_seq (c_seq (c_ops (s_cons (w_put (o_mov rfl (s_cons (w_put (o_fa rfl (fun q_23 => s_cons (w_put (o_ld1 rfl (fun (v_24 : Int) => s_cons (w_put (o_callv rfl rfl (cu_1 (fun H_25 (v_26 : Int) => s_cons (w_put (o_mov rfl (s_cons (w_put (o_mov rfl (s_nil (k_seq (c_ret (k_topR (r_one rfl (r_one rfl (r_nil (fun h => ⟨((v_26 : Int), (0 : Int), ()), rfl, h⟩))))))))))))))))))))))))))))))))))))))))))
theorem solve_Count.l20_ok (Q : AHeap → Int → Int → Prop) {x2 : AC} {x7 : AC} {x8 : AC} {x23 : AC} {x24 : Int} {x25 : Int} {H : AHeap} {t : Env} (h2 : t 2 = (.one x2)) (h7 : t 7 = (.one x7)) (h8 : t 8 = (.one x8)) (h23 : t 23 = (.one x23)) (h24 : t 24 = (.one (.int .i64 x24))) (h25 : t 25 = (.one (.int .i64 x25))) : solve_Count.l20 Q x2 x7 x8 x23 x24 x25 H → wpC Try.prog (.loop solve_Count.c21) t H (kBlk 0 (solve_Count.k17 Q)) :=
  m_loop solve_Count.R20 ⟨h2, h7, h8, h23, h24, h25, trivial⟩ fun X Y hX s t H hR hB => by
    have g := solve_Count.b20_ok Q Y X hX t hB
    rw [upd_self hR.1] at g
    rw [upd_self hR.2.1] at g
    rw [upd_self hR.2.2.1] at g
    rw [upd_self hR.2.2.2.1] at g
    rw [upd_self hR.2.2.2.2.1] at g
    rw [upd_self hR.2.2.2.2.2.1] at g
    exact g
theorem solve_Count.ok {a0_0 : AC} {a0_1 : Int} {a1 : Int} {H : AHeap} (Q : AHeap → Int → Int → Prop) : solve_Count.W a0_0 a0_1 a1 H Q → wpF Try.prog solve_Count.c [.tm 4, .tm 5] (envOf [(.agg [a0_0, (.int .i64 a0_1)]), (.one (.int .i64 a1))]) H (solve_Count.KQ Q) := c_seq (c_ops (s_cons (w_put (o_box rfl (fun p_1 H_2 => s_cons (w_put (o_box rfl (fun p_3 H_4 => s_cons (w_put (o_mov rfl (s_cons (w_put (o_mov rfl (s_nil (k_seq (c_seq (c_seq (c_ops (s_cons (w_put (o_ld2 rfl (fun (v_5 : AC) (v_6 : Int) => s_cons (w_put (o_ld1 rfl (fun (v_7 : Int) => s_cons (w_put (o_call rfl (cv_1 (fun H_8 (v_9 : Int) => s_cons (w_put (o_mov rfl (s_nil (k_seq (c_seq (c_ops (s_cons (w_put (o_mov rfl (s_cons (w_put (o_ne rfl rfl (s_nil (k_seq (c_if rfl (c_seq (c_ops (s_cons (w_put (o_mov rfl (s_cons (w_put (o_mov rfl (s_cons (w_put (o_mov rfl (s_nil (k_seq (c_ret (k_seqR (k_topR (r_one rfl (r_one rfl (r_nil (fun h => ⟨((0 : Int), (v_9 : Int), ()), rfl, h⟩)))))))))))))))))))) (c_skip (k_seq (c_seq (c_ops (s_cons (w_put (o_fa rfl (fun q_10 => s_cons (w_put (o_ld1 rfl (fun (v_11 : AC) => s_cons (w_put (o_lens rfl (fun n_12 => s_cons (w_put (o_mks rfl rfl (fun p_13 H_14 => s_cons (w_put (o_new (fun p_15 H_16 => s_cons (w_run (o_st rfl rfl rfl (fun H_17 => s_nil (k_seq (c_seq (c_ops (s_cons (w_put (o_fn rfl rfl (fun f_18 => s_cons (w_put (o_mov rfl (s_nil (k_seq (c_seq (c_seq (c_ops (s_cons (w_put (o_fa rfl (fun q_19 => s_cons (w_put (o_ld1 rfl (fun (v_20 : AC) => s_cons (w_put (o_lens rfl (fun n_21 => s_cons (w_put (o_mov rfl (s_nil (k_seq (c_blk (solve_Count.l20_ok Q rfl rfl rfl rfl rfl rfl)))))))))))))))))))))))))))))))))))))))))))))))))))))))))))))))))))))))))))))))))))))))))))))))))
theorem solve_Count.slimOk : slimOk [(9, [(0, 8), (0, 15), (11, 8), (13, 8)])] (Try.f24.body.getD .skip) = true := by kernel_rfl
theorem solve_Count.resC : resC Try.prog aggs Try.f24.ntmps (slim [(9, [(0, 8), (0, 15), (11, 8), (13, 8)])] (Try.f24.body.getD .skip)) = some solve_Count.c := by kernel_rfl
theorem solve_Count.resR : resR Try.prog Try.f24.results.toList = some [.tm 4, .tm 5] := by kernel_rfl
theorem solve_Count.bodyEq : Try.f24.body = some (Try.f24.body.getD .skip) := by kernel_rfl
theorem solve_Count.run {a0_0 : AC} {a0_1 : Int} {a1 : Int} {H : AHeap} {Q : AHeap → Int → Int → Prop} (h : solve_Count.W a0_0 a0_1 a1 H Q) : Fn.solve_Count a0_0 a0_1 a1 H Q := by
  unfold Fn.solve_Count RunT
  exact run_of aggs_ok [(9, [(0, 8), (0, 15), (11, 8), (13, 8)])] rfl Try.func24 solve_Count.bodyEq solve_Count.slimOk solve_Count.resC solve_Count.resR (Nat.le_of_ble_eq_true (by kernel_rfl)) (solve_Count.ok Q h)

end Go.Proofs.Ytanaaabejeeakaa
end
section
/- Printed by a program: functions and what must hold ahead of them. -/
namespace Go.Proofs.Ytanaaabejeeakaa
open Go.AI
set_option maxRecDepth 100000
set_option maxHeartbeats 2000000
set_option linter.unusedVariables false
attribute [local irreducible] Ld Sto New NewS NewM NN NZ GE0 FA IA IAP LenS Slc App Cpy Clr MkS Fnc NilQ IxS Look MSet Run CV RunT CVT LoopT Same1 Same2 wpC wpOs wpT wpO wpOp

def fetterlockref6_DiagramFault.c124 : RC := (.seq (.seq (.ops [.put 146 (.mov (.tm 9)),
    .put 147 (.mov (.tm 8)),
    .put 148 (.lens (.tm 147)),
    .put 149 (.cm .lt (.tm 146) (.tm 148))]) (.cond 149 .skip (.exit 6))) (.seq (.block 7 (.seq (.ops [.put 152 (.mov (.tm 8)),
    .put 153 (.mov (.tm 9)),
    .put 154 (.ia 1 (.tm 152) (.tm 153)),
    .put 155 (.ld false [.int .i64] (.tm 154)),
    .put 156 (.mov (.tm 9)),
    .put 157 (.cm .ne (.tm 155) (.tm 156))]) (.cond 157 (.seq (.ops [.put 2 (.mov (.ct (.one (.int .i64 2))))]) .ret) .skip))) (.ops [.put 150 (.mov (.tm 9)),
    .put 151 (.ar .add (.tm 150) (.ct (.one (.int .i64 1)))),
    .put 9 (.mov (.tm 151))])))
def fetterlockref6_DiagramFault.c92 : RC := (.cond 128 (.seq (.ops [.put 2 (.mov (.ct (.one (.int .i64 2))))]) .ret) .skip)
def fetterlockref6_DiagramFault.c68 : RC := (.seq (.seq (.ops [.put 105 (.mov (.tm 7)),
    .put 106 (.mov (.tm 5)),
    .put 107 (.cm .lt (.tm 105) (.tm 106))]) (.cond 107 .skip (.exit 4))) (.seq (.block 5 (.seq (.ops [.put 110 (.fa 0 (.tm 1)),
    .put 111 (.ld false [.ac] (.tm 110)),
    .put 112 (.mov (.tm 7)),
    .put 113 (.ia 3 (.tm 111) (.tm 112)),
    .put 114 (.ld true [.int .i64, .int .i64, .int .i64] (.tm 113)),
    .put 115 (.ld true [.int .i64, .int .i64, .int .i64] (.tm 6)),
    .put 116 (.eqa false 3 (.tm 114) (.tm 115))]) (.cond 116 (.seq (.ops [.put 2 (.mov (.ct (.one (.int .i64 2))))]) .ret) .skip))) (.ops [.put 108 (.mov (.tm 7)),
    .put 109 (.ar .add (.tm 108) (.ct (.one (.int .i64 1)))),
    .put 7 (.mov (.tm 109))])))
def fetterlockref6_DiagramFault.c59 : RC := (.cond 104 (.seq (.ops [.put 2 (.mov (.ct (.one (.int .i64 2))))]) .ret) .skip)
def fetterlockref6_DiagramFault.c46 : RC := (.seq (.seq (.ops [.put 54 (.mov (.tm 5)),
    .put 55 (.fa 0 (.tm 1)),
    .put 56 (.ld false [.ac] (.tm 55)),
    .put 57 (.lens (.tm 56)),
    .put 58 (.cm .lt (.tm 54) (.tm 57))]) (.cond 58 .skip (.exit 2))) (.seq (.block 3 (.seq (.ops [.put 61 (.fa 0 (.tm 1)),
    .put 62 (.ld false [.ac] (.tm 61)),
    .put 63 (.mov (.tm 5)),
    .put 64 (.ia 3 (.tm 62) (.tm 63)),
    .put 65 (.ld true [.int .i64, .int .i64, .int .i64] (.tm 64)),
    .put 6 (.new 77 [(.int .i64 0), (.int .i64 0), (.int .i64 0)]),
    .run (.st 3 (.tm 6) (.tm 65))]) (.seq (.seq (.ops [.put 66 (.fa 1 (.tm 6)),
    .put 67 (.ld false [.int .i64] (.tm 66)),
    .put 68 (.fa 2 (.tm 6)),
    .put 69 (.ld false [.int .i64] (.tm 68)),
    .put 70 (.cm .eq (.tm 67) (.tm 69)),
    .put 71 (.mov (.tm 70)),
    .gput 72 71 false (.fa 1 (.tm 6)),
    .gput 73 71 false (.ld false [.int .i64] (.tm 72)),
    .gput 74 71 false (.cm .ge (.tm 73) (.ct (.one (.int .i64 0)))),
    .gput 75 71 false (.mov (.tm 74)),
    .gput 76 75 true (.fa 0 (.tm 1)),
    .gput 77 75 true (.ld false [.ac] (.tm 76)),
    .gput 78 75 true (.fa 1 (.tm 6)),
    .gput 79 75 true (.ld false [.int .i64] (.tm 78)),
    .gput 80 75 true (.ia 3 (.tm 77) (.tm 79)),
    .gput 81 75 true (.fa 0 (.tm 80)),
    .gput 82 75 true (.ld false [.int .i64] (.tm 81)),
    .gput 83 75 true (.fa 0 (.tm 6)),
    .gput 84 75 true (.ld false [.int .i64] (.tm 83)),
    .gput 85 75 true (.cm .le (.tm 82) (.tm 84)),
    .gput 86 71 false (.pick (.tm 75) (.tm 85) (.ct (.one (.bool false)))),
    .put 87 (.pick (.tm 71) (.ct (.one (.bool true))) (.tm 86)),
    .put 88 (.mov (.tm 87)),
    .gput 89 88 false (.fa 2 (.tm 6)),
    .gput 90 88 false (.ld false [.int .i64] (.tm 89)),
    .gput 91 88 false (.cm .ge (.tm 90) (.ct (.one (.int .i64 0)))),
    .gput 92 88 false (.mov (.tm 91)),
    .gput 93 92 true (.fa 0 (.tm 1)),
    .gput 94 92 true (.ld false [.ac] (.tm 93)),
    .gput 95 92 true (.fa 2 (.tm 6)),
    .gput 96 92 true (.ld false [.int .i64] (.tm 95)),
    .gput 97 92 true (.ia 3 (.tm 94) (.tm 96)),
    .gput 98 92 true (.fa 0 (.tm 97)),
    .gput 99 92 true (.ld false [.int .i64] (.tm 98)),
    .gput 100 92 true (.fa 0 (.tm 6)),
    .gput 101 92 true (.ld false [.int .i64] (.tm 100)),
    .gput 102 92 true (.cm .le (.tm 99) (.tm 101)),
    .gput 103 88 false (.pick (.tm 92) (.tm 102) (.ct (.one (.bool false)))),
    .put 104 (.pick (.tm 88) (.ct (.one (.bool true))) (.tm 103))]) fetterlockref6_DiagramFault.c59) (.seq (.ops [.put 7 (.mov (.ct (.one (.int .i64 0))))]) (.block 4 (.loop fetterlockref6_DiagramFault.c68)))))) (.ops [.put 59 (.mov (.tm 5)),
    .put 60 (.ar .add (.tm 59) (.ct (.one (.int .i64 1)))),
    .put 5 (.mov (.tm 60))])))
def fetterlockref6_DiagramFault.c35 : RC := (.cond 53 (.seq (.ops [.put 2 (.mov (.ct (.one (.int .i64 2))))]) .ret) .skip)
def fetterlockref6_DiagramFault.c28 : RC := (.cond 33 (.seq (.ops [.put 2 (.mov (.ct (.one (.int .i64 1))))]) .ret) .skip)
def fetterlockref6_DiagramFault.c15 : RC := (.seq (.seq (.ops [.put 14 (.mov (.tm 3)),
    .put 15 (.fa 0 (.tm 1)),
    .put 16 (.ld false [.ac] (.tm 15)),
    .put 17 (.lens (.tm 16)),
    .put 18 (.cm .lt (.tm 14) (.tm 17))]) (.cond 18 .skip (.exit 0))) (.seq (.block 1 (.seq (.ops [.put 21 (.fa 0 (.tm 1)),
    .put 22 (.ld false [.ac] (.tm 21)),
    .put 23 (.mov (.tm 3)),
    .put 24 (.ia 3 (.tm 22) (.tm 23)),
    .put 25 (.ld true [.int .i64, .int .i64, .int .i64] (.tm 24)),
    .put 4 (.new 77 [(.int .i64 0), (.int .i64 0), (.int .i64 0)]),
    .run (.st 3 (.tm 4) (.tm 25))]) (.seq (.seq (.ops [.put 26 (.fa 0 (.tm 4)),
    .put 27 (.ld false [.int .i64] (.tm 26)),
    .put 28 (.cm .lt (.tm 27) (.ct (.one (.int .i64 0)))),
    .put 29 (.mov (.tm 28)),
    .gput 30 29 false (.fa 0 (.tm 4)),
    .gput 31 29 false (.ld false [.int .i64] (.tm 30)),
    .gput 32 29 false (.cm .ge (.tm 31) (.ct (.one (.int .i64 16)))),
    .put 33 (.pick (.tm 29) (.ct (.one (.bool true))) (.tm 32))]) fetterlockref6_DiagramFault.c28) (.seq (.ops [.put 34 (.fa 1 (.tm 4)),
    .put 35 (.ld false [.int .i64] (.tm 34)),
    .put 36 (.cm .lt (.tm 35) (.ct (.one (.int .i64 (-2))))),
    .put 37 (.mov (.tm 36)),
    .gput 38 37 false (.fa 1 (.tm 4)),
    .gput 39 37 false (.ld false [.int .i64] (.tm 38)),
    .gput 40 37 false (.mov (.tm 3)),
    .gput 41 37 false (.cm .ge (.tm 39) (.tm 40)),
    .put 42 (.pick (.tm 37) (.ct (.one (.bool true))) (.tm 41)),
    .put 43 (.mov (.tm 42)),
    .gput 44 43 false (.fa 2 (.tm 4)),
    .gput 45 43 false (.ld false [.int .i64] (.tm 44)),
    .gput 46 43 false (.cm .lt (.tm 45) (.ct (.one (.int .i64 (-2))))),
    .put 47 (.pick (.tm 43) (.ct (.one (.bool true))) (.tm 46)),
    .put 48 (.mov (.tm 47)),
    .gput 49 48 false (.fa 2 (.tm 4)),
    .gput 50 48 false (.ld false [.int .i64] (.tm 49)),
    .gput 51 48 false (.mov (.tm 3)),
    .gput 52 48 false (.cm .ge (.tm 50) (.tm 51)),
    .put 53 (.pick (.tm 48) (.ct (.one (.bool true))) (.tm 52))]) fetterlockref6_DiagramFault.c35)))) (.ops [.put 19 (.mov (.tm 3)),
    .put 20 (.ar .add (.tm 19) (.ct (.one (.int .i64 1)))),
    .put 3 (.mov (.tm 20))])))
def fetterlockref6_DiagramFault.c : RC := (.seq (.ops [.put 1 (.box 27 (.tm 0)),
    .put 2 (.mov (.ct (.one (.int .i64 0))))]) (.seq (.seq (.ops [.put 10 (.fa 0 (.tm 1)),
    .put 11 (.ld false [.ac] (.tm 10)),
    .put 12 (.lens (.tm 11)),
    .put 13 (.cm .gt (.tm 12) (.ct (.one (.int .i64 2000))))]) (.cond 13 (.seq (.ops [.put 2 (.mov (.ct (.one (.int .i64 3))))]) .ret) .skip)) (.seq (.seq (.ops [.put 3 (.mov (.ct (.one (.int .i64 0))))]) (.block 0 (.loop fetterlockref6_DiagramFault.c15))) (.seq (.seq (.ops [.put 5 (.mov (.ct (.one (.int .i64 0))))]) (.block 2 (.loop fetterlockref6_DiagramFault.c46))) (.seq (.seq (.ops [.put 117 (.fa 0 (.tm 1)),
    .put 118 (.ld false [.ac] (.tm 117)),
    .put 119 (.lens (.tm 118)),
    .put 120 (.cm .eq (.tm 119) (.ct (.one (.int .i64 0))))]) (.cond 120 (.seq (.seq (.ops [.put 121 (.fa 1 (.tm 1)),
    .put 122 (.ld false [.int .i64] (.tm 121)),
    .put 123 (.cm .ne (.tm 122) (.ct (.one (.int .i64 (-1))))),
    .put 124 (.mov (.tm 123)),
    .gput 125 124 true (.fa 1 (.tm 1)),
    .gput 126 124 true (.ld false [.int .i64] (.tm 125)),
    .gput 127 124 true (.cm .ne (.tm 126) (.ct (.one (.int .i64 (-2))))),
    .put 128 (.pick (.tm 124) (.tm 127) (.ct (.one (.bool false))))]) fetterlockref6_DiagramFault.c92) (.seq (.ops [.put 2 (.mov (.ct (.one (.int .i64 0))))]) .ret)) .skip)) (.seq (.seq (.ops [.put 129 (.fa 1 (.tm 1)),
    .put 130 (.ld false [.int .i64] (.tm 129)),
    .put 131 (.fa 0 (.tm 1)),
    .put 132 (.ld false [.ac] (.tm 131)),
    .put 133 (.lens (.tm 132)),
    .put 134 (.ar .sub (.tm 133) (.ct (.one (.int .i64 1)))),
    .put 135 (.cm .ne (.tm 130) (.tm 134))]) (.cond 135 (.seq (.ops [.put 2 (.mov (.ct (.one (.int .i64 2))))]) .ret) .skip)) (.seq (.ops [.put 136 (.ld true [.ac, .int .i64] (.tm 1)),
    .put 137 (.fa 1 (.tm 1)),
    .put 138 (.ld false [.int .i64] (.tm 137)),
    .put 139 (.call 61 [(.tm 136), (.tm 138), (.ct (.one (.sl none 0 0 (some 0))))]),
    .put 8 (.mov (.tm 139))]) (.seq (.seq (.ops [.put 140 (.mov (.tm 8)),
    .put 141 (.lens (.tm 140)),
    .put 142 (.fa 0 (.tm 1)),
    .put 143 (.ld false [.ac] (.tm 142)),
    .put 144 (.lens (.tm 143)),
    .put 145 (.cm .ne (.tm 141) (.tm 144))]) (.cond 145 (.seq (.ops [.put 2 (.mov (.ct (.one (.int .i64 2))))]) .ret) .skip)) (.seq (.seq (.ops [.put 9 (.mov (.ct (.one (.int .i64 0))))]) (.block 6 (.loop fetterlockref6_DiagramFault.c124))) (.seq (.ops [.put 2 (.mov (.ct (.one (.int .i64 0))))]) .ret))))))))))
abbrev fetterlockref6_DiagramFault.KQ (Q : AHeap → Int → Prop) : AV → AHeap → Prop := fun v H => ∃ xs : Tup (flat [(false, [.int .i64])]), v = joinR (splitP [(false, [.int .i64])] (cellsOf (flat [(false, [.int .i64])]) xs)) ∧ app (flat [(false, [.int .i64])]) (Q H) xs
abbrev fetterlockref6_DiagramFault.K (Q : AHeap → Int → Prop) : Ex → Env → AHeap → Prop := kTop [.tm 2] (fetterlockref6_DiagramFault.KQ Q)
abbrev fetterlockref6_DiagramFault.k11 (Q : AHeap → Int → Prop) : Ex → Env → AHeap → Prop := kSeq (fun t H => wpC Try.prog (.seq (.seq (.ops [.put 5 (.mov (.ct (.one (.int .i64 0))))]) (.block 2 (.loop fetterlockref6_DiagramFault.c46))) (.seq (.seq (.ops [.put 117 (.fa 0 (.tm 1)),
    .put 118 (.ld false [.ac] (.tm 117)),
    .put 119 (.lens (.tm 118)),
    .put 120 (.cm .eq (.tm 119) (.ct (.one (.int .i64 0))))]) (.cond 120 (.seq (.seq (.ops [.put 121 (.fa 1 (.tm 1)),
    .put 122 (.ld false [.int .i64] (.tm 121)),
    .put 123 (.cm .ne (.tm 122) (.ct (.one (.int .i64 (-1))))),
    .put 124 (.mov (.tm 123)),
    .gput 125 124 true (.fa 1 (.tm 1)),
    .gput 126 124 true (.ld false [.int .i64] (.tm 125)),
    .gput 127 124 true (.cm .ne (.tm 126) (.ct (.one (.int .i64 (-2))))),
    .put 128 (.pick (.tm 124) (.tm 127) (.ct (.one (.bool false))))]) fetterlockref6_DiagramFault.c92) (.seq (.ops [.put 2 (.mov (.ct (.one (.int .i64 0))))]) .ret)) .skip)) (.seq (.seq (.ops [.put 129 (.fa 1 (.tm 1)),
    .put 130 (.ld false [.int .i64] (.tm 129)),
    .put 131 (.fa 0 (.tm 1)),
    .put 132 (.ld false [.ac] (.tm 131)),
    .put 133 (.lens (.tm 132)),
    .put 134 (.ar .sub (.tm 133) (.ct (.one (.int .i64 1)))),
    .put 135 (.cm .ne (.tm 130) (.tm 134))]) (.cond 135 (.seq (.ops [.put 2 (.mov (.ct (.one (.int .i64 2))))]) .ret) .skip)) (.seq (.ops [.put 136 (.ld true [.ac, .int .i64] (.tm 1)),
    .put 137 (.fa 1 (.tm 1)),
    .put 138 (.ld false [.int .i64] (.tm 137)),
    .put 139 (.call 61 [(.tm 136), (.tm 138), (.ct (.one (.sl none 0 0 (some 0))))]),
    .put 8 (.mov (.tm 139))]) (.seq (.seq (.ops [.put 140 (.mov (.tm 8)),
    .put 141 (.lens (.tm 140)),
    .put 142 (.fa 0 (.tm 1)),
    .put 143 (.ld false [.ac] (.tm 142)),
    .put 144 (.lens (.tm 143)),
    .put 145 (.cm .ne (.tm 141) (.tm 144))]) (.cond 145 (.seq (.ops [.put 2 (.mov (.ct (.one (.int .i64 2))))]) .ret) .skip)) (.seq (.seq (.ops [.put 9 (.mov (.ct (.one (.int .i64 0))))]) (.block 6 (.loop fetterlockref6_DiagramFault.c124))) (.seq (.ops [.put 2 (.mov (.ct (.one (.int .i64 0))))]) .ret))))))) t H (fetterlockref6_DiagramFault.K Q)) (fetterlockref6_DiagramFault.K Q)
abbrev fetterlockref6_DiagramFault.k22 (Q : AHeap → Int → Prop) (X14 : Env → AHeap → Prop) : Ex → Env → AHeap → Prop := kSeq (fun t H => wpC Try.prog (.ops [.put 19 (.mov (.tm 3)),
    .put 20 (.ar .add (.tm 19) (.ct (.one (.int .i64 1)))),
    .put 3 (.mov (.tm 20))]) t H (kSeq X14 (kBlk 0 (fetterlockref6_DiagramFault.k11 Q)))) (kSeq X14 (kBlk 0 (fetterlockref6_DiagramFault.k11 Q)))
abbrev fetterlockref6_DiagramFault.k26 (Q : AHeap → Int → Prop) (X14 : Env → AHeap → Prop) : Ex → Env → AHeap → Prop := kSeq (fun t H => wpC Try.prog (.seq (.ops [.put 34 (.fa 1 (.tm 4)),
    .put 35 (.ld false [.int .i64] (.tm 34)),
    .put 36 (.cm .lt (.tm 35) (.ct (.one (.int .i64 (-2))))),
    .put 37 (.mov (.tm 36)),
    .gput 38 37 false (.fa 1 (.tm 4)),
    .gput 39 37 false (.ld false [.int .i64] (.tm 38)),
    .gput 40 37 false (.mov (.tm 3)),
    .gput 41 37 false (.cm .ge (.tm 39) (.tm 40)),
    .put 42 (.pick (.tm 37) (.ct (.one (.bool true))) (.tm 41)),
    .put 43 (.mov (.tm 42)),
    .gput 44 43 false (.fa 2 (.tm 4)),
    .gput 45 43 false (.ld false [.int .i64] (.tm 44)),
    .gput 46 43 false (.cm .lt (.tm 45) (.ct (.one (.int .i64 (-2))))),
    .put 47 (.pick (.tm 43) (.ct (.one (.bool true))) (.tm 46)),
    .put 48 (.mov (.tm 47)),
    .gput 49 48 false (.fa 2 (.tm 4)),
    .gput 50 48 false (.ld false [.int .i64] (.tm 49)),
    .gput 51 48 false (.mov (.tm 3)),
    .gput 52 48 false (.cm .ge (.tm 50) (.tm 51)),
    .put 53 (.pick (.tm 48) (.ct (.one (.bool true))) (.tm 52))]) fetterlockref6_DiagramFault.c35) t H (kBlk 1 (fetterlockref6_DiagramFault.k22 Q X14))) (kBlk 1 (fetterlockref6_DiagramFault.k22 Q X14))
abbrev fetterlockref6_DiagramFault.k42 (Q : AHeap → Int → Prop) : Ex → Env → AHeap → Prop := kSeq (fun t H => wpC Try.prog (.seq (.seq (.ops [.put 117 (.fa 0 (.tm 1)),
    .put 118 (.ld false [.ac] (.tm 117)),
    .put 119 (.lens (.tm 118)),
    .put 120 (.cm .eq (.tm 119) (.ct (.one (.int .i64 0))))]) (.cond 120 (.seq (.seq (.ops [.put 121 (.fa 1 (.tm 1)),
    .put 122 (.ld false [.int .i64] (.tm 121)),
    .put 123 (.cm .ne (.tm 122) (.ct (.one (.int .i64 (-1))))),
    .put 124 (.mov (.tm 123)),
    .gput 125 124 true (.fa 1 (.tm 1)),
    .gput 126 124 true (.ld false [.int .i64] (.tm 125)),
    .gput 127 124 true (.cm .ne (.tm 126) (.ct (.one (.int .i64 (-2))))),
    .put 128 (.pick (.tm 124) (.tm 127) (.ct (.one (.bool false))))]) fetterlockref6_DiagramFault.c92) (.seq (.ops [.put 2 (.mov (.ct (.one (.int .i64 0))))]) .ret)) .skip)) (.seq (.seq (.ops [.put 129 (.fa 1 (.tm 1)),
    .put 130 (.ld false [.int .i64] (.tm 129)),
    .put 131 (.fa 0 (.tm 1)),
    .put 132 (.ld false [.ac] (.tm 131)),
    .put 133 (.lens (.tm 132)),
    .put 134 (.ar .sub (.tm 133) (.ct (.one (.int .i64 1)))),
    .put 135 (.cm .ne (.tm 130) (.tm 134))]) (.cond 135 (.seq (.ops [.put 2 (.mov (.ct (.one (.int .i64 2))))]) .ret) .skip)) (.seq (.ops [.put 136 (.ld true [.ac, .int .i64] (.tm 1)),
    .put 137 (.fa 1 (.tm 1)),
    .put 138 (.ld false [.int .i64] (.tm 137)),
    .put 139 (.call 61 [(.tm 136), (.tm 138), (.ct (.one (.sl none 0 0 (some 0))))]),
    .put 8 (.mov (.tm 139))]) (.seq (.seq (.ops [.put 140 (.mov (.tm 8)),
    .put 141 (.lens (.tm 140)),
    .put 142 (.fa 0 (.tm 1)),
    .put 143 (.ld false [.ac] (.tm 142)),
    .put 144 (.lens (.tm 143)),
    .put 145 (.cm .ne (.tm 141) (.tm 144))]) (.cond 145 (.seq (.ops [.put 2 (.mov (.ct (.one (.int .i64 2))))]) .ret) .skip)) (.seq (.seq (.ops [.put 9 (.mov (.ct (.one (.int .i64 0))))]) (.block 6 (.loop fetterlockref6_DiagramFault.c124))) (.seq (.ops [.put 2 (.mov (.ct (.one (.int .i64 0))))]) .ret)))))) t H (fetterlockref6_DiagramFault.K Q)) (fetterlockref6_DiagramFault.K Q)
abbrev fetterlockref6_DiagramFault.k53 (Q : AHeap → Int → Prop) (X45 : Env → AHeap → Prop) : Ex → Env → AHeap → Prop := kSeq (fun t H => wpC Try.prog (.ops [.put 59 (.mov (.tm 5)),
    .put 60 (.ar .add (.tm 59) (.ct (.one (.int .i64 1)))),
    .put 5 (.mov (.tm 60))]) t H (kSeq X45 (kBlk 2 (fetterlockref6_DiagramFault.k42 Q)))) (kSeq X45 (kBlk 2 (fetterlockref6_DiagramFault.k42 Q)))
abbrev fetterlockref6_DiagramFault.k57 (Q : AHeap → Int → Prop) (X45 : Env → AHeap → Prop) : Ex → Env → AHeap → Prop := kSeq (fun t H => wpC Try.prog (.seq (.ops [.put 7 (.mov (.ct (.one (.int .i64 0))))]) (.block 4 (.loop fetterlockref6_DiagramFault.c68))) t H (kBlk 3 (fetterlockref6_DiagramFault.k53 Q X45))) (kBlk 3 (fetterlockref6_DiagramFault.k53 Q X45))
abbrev fetterlockref6_DiagramFault.k86 (Q : AHeap → Int → Prop) : Ex → Env → AHeap → Prop := kSeq (fun t H => wpC Try.prog (.seq (.seq (.ops [.put 129 (.fa 1 (.tm 1)),
    .put 130 (.ld false [.int .i64] (.tm 129)),
    .put 131 (.fa 0 (.tm 1)),
    .put 132 (.ld false [.ac] (.tm 131)),
    .put 133 (.lens (.tm 132)),
    .put 134 (.ar .sub (.tm 133) (.ct (.one (.int .i64 1)))),
    .put 135 (.cm .ne (.tm 130) (.tm 134))]) (.cond 135 (.seq (.ops [.put 2 (.mov (.ct (.one (.int .i64 2))))]) .ret) .skip)) (.seq (.ops [.put 136 (.ld true [.ac, .int .i64] (.tm 1)),
    .put 137 (.fa 1 (.tm 1)),
    .put 138 (.ld false [.int .i64] (.tm 137)),
    .put 139 (.call 61 [(.tm 136), (.tm 138), (.ct (.one (.sl none 0 0 (some 0))))]),
    .put 8 (.mov (.tm 139))]) (.seq (.seq (.ops [.put 140 (.mov (.tm 8)),
    .put 141 (.lens (.tm 140)),
    .put 142 (.fa 0 (.tm 1)),
    .put 143 (.ld false [.ac] (.tm 142)),
    .put 144 (.lens (.tm 143)),
    .put 145 (.cm .ne (.tm 141) (.tm 144))]) (.cond 145 (.seq (.ops [.put 2 (.mov (.ct (.one (.int .i64 2))))]) .ret) .skip)) (.seq (.seq (.ops [.put 9 (.mov (.ct (.one (.int .i64 0))))]) (.block 6 (.loop fetterlockref6_DiagramFault.c124))) (.seq (.ops [.put 2 (.mov (.ct (.one (.int .i64 0))))]) .ret))))) t H (fetterlockref6_DiagramFault.K Q)) (fetterlockref6_DiagramFault.K Q)
abbrev fetterlockref6_DiagramFault.k90 (Q : AHeap → Int → Prop) : Ex → Env → AHeap → Prop := kSeq (fun t H => wpC Try.prog (.seq (.ops [.put 2 (.mov (.ct (.one (.int .i64 0))))]) .ret) t H (fetterlockref6_DiagramFault.k86 Q)) (fetterlockref6_DiagramFault.k86 Q)
abbrev fetterlockref6_DiagramFault.k120 (Q : AHeap → Int → Prop) : Ex → Env → AHeap → Prop := kSeq (fun t H => wpC Try.prog (.seq (.ops [.put 2 (.mov (.ct (.one (.int .i64 0))))]) .ret) t H (fetterlockref6_DiagramFault.K Q)) (fetterlockref6_DiagramFault.K Q)
def fetterlockref6_DiagramFault.R123 (s : Tup [.ac, .int .i64]) (t : Env) : Prop := t 8 = (.one (s.1)) ∧ t 9 = (.one (.int .i64 (s.2.1))) ∧ True
def fetterlockref6_DiagramFault.R67 (s : Tup [.ac, .int .i64, .ac, .int .i64]) (t : Env) : Prop := t 1 = (.one (s.1)) ∧ t 5 = (.one (.int .i64 (s.2.1))) ∧ t 6 = (.one (s.2.2.1)) ∧ t 7 = (.one (.int .i64 (s.2.2.2.1))) ∧ True
def fetterlockref6_DiagramFault.R45 (s : Tup [.ac, .int .i64]) (t : Env) : Prop := t 1 = (.one (s.1)) ∧ t 5 = (.one (.int .i64 (s.2.1))) ∧ True
def fetterlockref6_DiagramFault.R14 (s : Tup [.ac, .int .i64]) (t : Env) : Prop := t 1 = (.one (s.1)) ∧ t 3 = (.one (.int .i64 (s.2.1))) ∧ True
def fetterlockref6_DiagramFault.b123 (Q : AHeap → Int → Prop) (Y123 : Tup [.ac, .int .i64] → AHeap → Prop) (x8 : AC) (x9 : Int) (H : AHeap) : Prop :=
  LenS x8 fun n_1 =>
  CondB (decide (x9 < n_1))
    (IA 1 x8 x9 fun q_2 =>
    Ld [.int .i64] H q_2 fun (v_3 : Int) =>
    CondB (v_3 != x9)
      (Q H 2)
      (Y123 (x8, ((IntKind.wrap .i64 (x9 + 1)) : Int), ()) H))
    (Q H 0)
def fetterlockref6_DiagramFault.l123 (Q : AHeap → Int → Prop) (x8 : AC) (x9 : Int) (H : AHeap) : Prop := LoopT (Tup [.ac, .int .i64]) (fun Y s H => fetterlockref6_DiagramFault.b123 Q Y (s.1) (s.2.1) H) (x8, x9, ()) H
def fetterlockref6_DiagramFault.p92 (Q : AHeap → Int → Prop) (x128 : Bool) (H : AHeap) : Prop :=
  CondB x128
    (Q H 2)
    (Q H 0)
def fetterlockref6_DiagramFault.b67 (Q : AHeap → Int → Prop) (Y45 : Tup [.ac, .int .i64] → AHeap → Prop) (Y67 : Tup [.ac, .int .i64, .ac, .int .i64] → AHeap → Prop) (x1 : AC) (x5 : Int) (x6 : AC) (x7 : Int) (H : AHeap) : Prop :=
  CondB (decide (x7 < x5))
    (FA 0 x1 fun q_1 =>
    Ld [.ac] H q_1 fun (v_2 : AC) =>
    IA 3 v_2 x7 fun q_3 =>
    Ld [.int .i64, .int .i64, .int .i64] H q_3 fun (v_4 : Int) (v_5 : Int) (v_6 : Int) =>
    Ld [.int .i64, .int .i64, .int .i64] H x6 fun (v_7 : Int) (v_8 : Int) (v_9 : Int) =>
    CondB (decide (([v_4, v_5, v_6] : List Int) = ([v_7, v_8, v_9] : List Int)))
      (Q H 2)
      (Y67 (x1, (x5 : Int), x6, ((IntKind.wrap .i64 (x7 + 1)) : Int), ()) H))
    (Y45 (x1, ((IntKind.wrap .i64 (x5 + 1)) : Int), ()) H)
def fetterlockref6_DiagramFault.l67 (Q : AHeap → Int → Prop) (Y45 : Tup [.ac, .int .i64] → AHeap → Prop) (x1 : AC) (x5 : Int) (x6 : AC) (x7 : Int) (H : AHeap) : Prop := LoopT (Tup [.ac, .int .i64, .ac, .int .i64]) (fun Y s H => fetterlockref6_DiagramFault.b67 Q Y45 Y (s.1) (s.2.1) (s.2.2.1) (s.2.2.2.1) H) (x1, x5, x6, x7, ()) H
def fetterlockref6_DiagramFault.p59 (Q : AHeap → Int → Prop) (Y45 : Tup [.ac, .int .i64] → AHeap → Prop) (x1 : AC) (x5 : Int) (x6 : AC) (x104 : Bool) (H : AHeap) : Prop :=
  CondB x104
    (Q H 2)
    (fetterlockref6_DiagramFault.l67 Q Y45 x1 x5 x6 0 H)
def fetterlockref6_DiagramFault.b45 (Q : AHeap → Int → Prop) (Y45 : Tup [.ac, .int .i64] → AHeap → Prop) (x1 : AC) (x5 : Int) (H : AHeap) : Prop :=
  FA 0 x1 fun q_1 =>
  Ld [.ac] H q_1 fun (v_2 : AC) =>
  LenS v_2 fun n_3 =>
  CondB (decide (x5 < n_3))
    (FA 0 x1 fun q_4 =>
    Ld [.ac] H q_4 fun (v_5 : AC) =>
    IA 3 v_5 x5 fun q_6 =>
    Ld [.int .i64, .int .i64, .int .i64] H q_6 fun (v_7 : Int) (v_8 : Int) (v_9 : Int) =>
    New 77 [(.int .i64 0), (.int .i64 0), (.int .i64 0)] H fun p_10 H_11 =>
    Sto H_11 p_10 [(.int .i64 v_7), (.int .i64 v_8), (.int .i64 v_9)] fun H_12 =>
    FA 1 p_10 fun q_13 =>
    Ld [.int .i64] H_12 q_13 fun (v_14 : Int) =>
    FA 2 p_10 fun q_15 =>
    Ld [.int .i64] H_12 q_15 fun (v_16 : Int) =>
    CondB (v_14 == v_16)
      (fetterlockref6_DiagramFault.p59 Q Y45 x1 x5 p_10 true H_12)
      (FA 1 p_10 fun q_17 =>
      Ld [.int .i64] H_12 q_17 fun (v_18 : Int) =>
      CondB (decide (v_18 ≥ 0))
        (FA 0 x1 fun q_19 =>
        Ld [.ac] H_12 q_19 fun (v_20 : AC) =>
        FA 1 p_10 fun q_21 =>
        Ld [.int .i64] H_12 q_21 fun (v_22 : Int) =>
        IA 3 v_20 v_22 fun q_23 =>
        FA 0 q_23 fun q_24 =>
        Ld [.int .i64] H_12 q_24 fun (v_25 : Int) =>
        FA 0 p_10 fun q_26 =>
        Ld [.int .i64] H_12 q_26 fun (v_27 : Int) =>
        CondB (decide (v_25 ≤ v_27))
          (fetterlockref6_DiagramFault.p59 Q Y45 x1 x5 p_10 true H_12)
          (FA 2 p_10 fun q_28 =>
          Ld [.int .i64] H_12 q_28 fun (v_29 : Int) =>
          CondB (decide (v_29 ≥ 0))
            (FA 0 x1 fun q_30 =>
            Ld [.ac] H_12 q_30 fun (v_31 : AC) =>
            FA 2 p_10 fun q_32 =>
            Ld [.int .i64] H_12 q_32 fun (v_33 : Int) =>
            IA 3 v_31 v_33 fun q_34 =>
            FA 0 q_34 fun q_35 =>
            Ld [.int .i64] H_12 q_35 fun (v_36 : Int) =>
            FA 0 p_10 fun q_37 =>
            Ld [.int .i64] H_12 q_37 fun (v_38 : Int) =>
            fetterlockref6_DiagramFault.p59 Q Y45 x1 x5 p_10 (decide (v_36 ≤ v_38)) H_12)
            (fetterlockref6_DiagramFault.p59 Q Y45 x1 x5 p_10 false H_12)))
        (FA 2 p_10 fun q_39 =>
        Ld [.int .i64] H_12 q_39 fun (v_40 : Int) =>
        CondB (decide (v_40 ≥ 0))
          (FA 0 x1 fun q_41 =>
          Ld [.ac] H_12 q_41 fun (v_42 : AC) =>
          FA 2 p_10 fun q_43 =>
          Ld [.int .i64] H_12 q_43 fun (v_44 : Int) =>
          IA 3 v_42 v_44 fun q_45 =>
          FA 0 q_45 fun q_46 =>
          Ld [.int .i64] H_12 q_46 fun (v_47 : Int) =>
          FA 0 p_10 fun q_48 =>
          Ld [.int .i64] H_12 q_48 fun (v_49 : Int) =>
          fetterlockref6_DiagramFault.p59 Q Y45 x1 x5 p_10 (decide (v_47 ≤ v_49)) H_12)
          (fetterlockref6_DiagramFault.p59 Q Y45 x1 x5 p_10 false H_12))))
    (FA 0 x1 fun q_50 =>
    Ld [.ac] H q_50 fun (v_51 : AC) =>
    LenS v_51 fun n_52 =>
    CondB (n_52 == 0)
      (FA 1 x1 fun q_53 =>
      Ld [.int .i64] H q_53 fun (v_54 : Int) =>
      CondB (v_54 != (-1))
        (FA 1 x1 fun q_55 =>
        Ld [.int .i64] H q_55 fun (v_56 : Int) =>
        fetterlockref6_DiagramFault.p92 Q (v_56 != (-2)) H)
        (fetterlockref6_DiagramFault.p92 Q false H))
      (FA 1 x1 fun q_57 =>
      Ld [.int .i64] H q_57 fun (v_58 : Int) =>
      FA 0 x1 fun q_59 =>
      Ld [.ac] H q_59 fun (v_60 : AC) =>
      LenS v_60 fun n_61 =>
      CondB (v_58 != (IntKind.wrap .i64 (n_61 - 1)))
        (Q H 2)
        (Ld [.ac, .int .i64] H x1 fun (v_62 : AC) (v_63 : Int) =>
        FA 1 x1 fun q_64 =>
        Ld [.int .i64] H q_64 fun (v_65 : Int) =>
        Fn.fetterlockref6_numbered v_62 v_63 v_65 (.sl none 0 0 (some 0)) H fun H_66 (v_67 : AC) =>
        LenS v_67 fun n_68 =>
        FA 0 x1 fun q_69 =>
        Ld [.ac] H_66 q_69 fun (v_70 : AC) =>
        LenS v_70 fun n_71 =>
        CondB (n_68 != n_71)
          (Q H_66 2)
          (fetterlockref6_DiagramFault.l123 Q v_67 0 H_66))))
def fetterlockref6_DiagramFault.l45 (Q : AHeap → Int → Prop) (x1 : AC) (x5 : Int) (H : AHeap) : Prop := LoopT (Tup [.ac, .int .i64]) (fun Y s H => fetterlockref6_DiagramFault.b45 Q Y (s.1) (s.2.1) H) (x1, x5, ()) H
def fetterlockref6_DiagramFault.p35 (Q : AHeap → Int → Prop) (Y14 : Tup [.ac, .int .i64] → AHeap → Prop) (x1 : AC) (x3 : Int) (x53 : Bool) (H : AHeap) : Prop :=
  CondB x53
    (Q H 2)
    (Y14 (x1, ((IntKind.wrap .i64 (x3 + 1)) : Int), ()) H)
def fetterlockref6_DiagramFault.p28 (Q : AHeap → Int → Prop) (Y14 : Tup [.ac, .int .i64] → AHeap → Prop) (x1 : AC) (x3 : Int) (x4 : AC) (x33 : Bool) (H : AHeap) : Prop :=
  CondB x33
    (Q H 1)
    (FA 1 x4 fun q_1 =>
    Ld [.int .i64] H q_1 fun (v_2 : Int) =>
    CondB (decide (v_2 < (-2)))
      (fetterlockref6_DiagramFault.p35 Q Y14 x1 x3 true H)
      (FA 1 x4 fun q_3 =>
      Ld [.int .i64] H q_3 fun (v_4 : Int) =>
      CondB (decide (v_4 ≥ x3))
        (fetterlockref6_DiagramFault.p35 Q Y14 x1 x3 true H)
        (FA 2 x4 fun q_5 =>
        Ld [.int .i64] H q_5 fun (v_6 : Int) =>
        CondB (decide (v_6 < (-2)))
          (fetterlockref6_DiagramFault.p35 Q Y14 x1 x3 true H)
          (FA 2 x4 fun q_7 =>
          Ld [.int .i64] H q_7 fun (v_8 : Int) =>
          fetterlockref6_DiagramFault.p35 Q Y14 x1 x3 (decide (v_8 ≥ x3)) H))))
def fetterlockref6_DiagramFault.b14 (Q : AHeap → Int → Prop) (Y14 : Tup [.ac, .int .i64] → AHeap → Prop) (x1 : AC) (x3 : Int) (H : AHeap) : Prop :=
  FA 0 x1 fun q_1 =>
  Ld [.ac] H q_1 fun (v_2 : AC) =>
  LenS v_2 fun n_3 =>
  CondB (decide (x3 < n_3))
    (FA 0 x1 fun q_4 =>
    Ld [.ac] H q_4 fun (v_5 : AC) =>
    IA 3 v_5 x3 fun q_6 =>
    Ld [.int .i64, .int .i64, .int .i64] H q_6 fun (v_7 : Int) (v_8 : Int) (v_9 : Int) =>
    New 77 [(.int .i64 0), (.int .i64 0), (.int .i64 0)] H fun p_10 H_11 =>
    Sto H_11 p_10 [(.int .i64 v_7), (.int .i64 v_8), (.int .i64 v_9)] fun H_12 =>
    FA 0 p_10 fun q_13 =>
    Ld [.int .i64] H_12 q_13 fun (v_14 : Int) =>
    CondB (decide (v_14 < 0))
      (fetterlockref6_DiagramFault.p28 Q Y14 x1 x3 p_10 true H_12)
      (FA 0 p_10 fun q_15 =>
      Ld [.int .i64] H_12 q_15 fun (v_16 : Int) =>
      fetterlockref6_DiagramFault.p28 Q Y14 x1 x3 p_10 (decide (v_16 ≥ 16)) H_12))
    (fetterlockref6_DiagramFault.l45 Q x1 0 H)
def fetterlockref6_DiagramFault.l14 (Q : AHeap → Int → Prop) (x1 : AC) (x3 : Int) (H : AHeap) : Prop := LoopT (Tup [.ac, .int .i64]) (fun Y s H => fetterlockref6_DiagramFault.b14 Q Y (s.1) (s.2.1) H) (x1, x3, ()) H
def fetterlockref6_DiagramFault.W (a0_0 : AC) (a0_1 : Int) (H : AHeap) (Q : AHeap → Int → Prop) : Prop :=
  New 27 [a0_0, (.int .i64 a0_1)] H fun p_1 H_2 =>
  FA 0 p_1 fun q_3 =>
  Ld [.ac] H_2 q_3 fun (v_4 : AC) =>
  LenS v_4 fun n_5 =>
  CondB (decide (n_5 > 2000))
    (Q H_2 3)
    (fetterlockref6_DiagramFault.l14 Q p_1 0 H_2)
theorem fetterlockref6_DiagramFault.b123_ok (Q : AHeap → Int → Prop) (Y123 : Tup [.ac, .int .i64] → AHeap → Prop) (X123 : Env → AHeap → Prop) (hX123 : ∀ s t H, fetterlockref6_DiagramFault.R123 s t → Y123 s H → X123 t H) {x8 : AC} {x9 : Int} {H : AHeap} (j : Env) : fetterlockref6_DiagramFault.b123 Q Y123 x8 x9 H → wpC Try.prog fetterlockref6_DiagramFault.c124 (upd (upd j 8 (.one x8)) 9 (.one (.int .i64 x9))) H (kSeq X123 (kBlk 6 (fetterlockref6_DiagramFault.k120 Q))) := c_seq (c_seq (c_ops (s_cons (w_put (o_mov rfl (s_cons (w_put (o_mov rfl (s_cons (w_put (o_lens rfl (fun n_1 => s_cons (w_put (o_lt rfl rfl (s_nil (k_seq (c_if rfl (c_skip (k_seq (c_seq (c_blk (c_seq (c_ops (s_cons (w_put (o_mov rfl (s_cons (w_put (o_mov rfl (s_cons (w_put (o_ia rfl rfl (fun q_2 => s_cons (w_put (o_ld1 rfl (fun (v_3 : Int) => s_cons (w_put (o_mov rfl (s_cons (w_put (o_ne rfl rfl (s_nil (k_seq (c_if rfl (c_seq (c_ops (s_cons (w_put (o_mov rfl (s_nil (k_seq (c_ret (k_blkR (k_seqR (k_seqR (k_blkR (k_seqR (k_topR (r_one rfl (r_nil (fun h => ⟨((2 : Int), ()), rfl, h⟩))))))))))))))))) (c_skip (k_blk (k_seq (c_ops (s_cons (w_put (o_mov rfl (s_cons (w_put (o_add rfl rfl (s_cons (w_put (o_mov rfl (s_nil (k_seq (hX123 _ _ _ ⟨rfl, rfl, trivial⟩))))))))))))))))))))))))))))))))))))))))))) (c_exit (k_seqE (k_seqE (k_blkH (k_seq (c_seq (c_ops (s_cons (w_put (o_mov rfl (s_nil (k_seq (c_ret (k_topR (r_one rfl (r_nil (fun h => ⟨((0 : Int), ()), rfl, h⟩))))))))))))))))))))))))))))))))))
theorem fetterlockref6_DiagramFault.l123_ok (Q : AHeap → Int → Prop) {x8 : AC} {x9 : Int} {H : AHeap} {t : Env} (h8 : t 8 = (.one x8)) (h9 : t 9 = (.one (.int .i64 x9))) : fetterlockref6_DiagramFault.l123 Q x8 x9 H → wpC Try.prog (.loop fetterlockref6_DiagramFault.c124) t H (kBlk 6 (fetterlockref6_DiagramFault.k120 Q)) :=
  m_loop fetterlockref6_DiagramFault.R123 ⟨h8, h9, trivial⟩ fun X Y hX s t H hR hB => by
    have g := fetterlockref6_DiagramFault.b123_ok Q Y X hX t hB
    rw [upd_self hR.1] at g
    rw [upd_self hR.2.1] at g
    exact g
theorem fetterlockref6_DiagramFault.p92_okE (Q : AHeap → Int → Prop) {x128 : Bool} {H : AHeap} (j : Env) : fetterlockref6_DiagramFault.p92 Q x128 H → wpC Try.prog fetterlockref6_DiagramFault.c92 (upd j 128 (.one (.bool x128))) H (fetterlockref6_DiagramFault.k90 Q) := c_if rfl (c_seq (c_ops (s_cons (w_put (o_mov rfl (s_nil (k_seq (c_ret (k_seqR (k_seqR (k_topR (r_one rfl (r_nil (fun h => ⟨((2 : Int), ()), rfl, h⟩)))))))))))))) (c_skip (k_seq (c_seq (c_ops (s_cons (w_put (o_mov rfl (s_nil (k_seq (c_ret (k_seqR (k_topR (r_one rfl (r_nil (fun h => ⟨((0 : Int), ()), rfl, h⟩)))))))))))))))
theorem fetterlockref6_DiagramFault.p92_ok (Q : AHeap → Int → Prop) {x128 : Bool} {H : AHeap} {t : Env} (h128 : t 128 = (.one (.bool x128))) (h : fetterlockref6_DiagramFault.p92 Q x128 H) : wpC Try.prog fetterlockref6_DiagramFault.c92 t H (fetterlockref6_DiagramFault.k90 Q) := by
  have g := fetterlockref6_DiagramFault.p92_okE Q t h
  rw [upd_self h128] at g
  exact g
theorem fetterlockref6_DiagramFault.b67_ok (Q : AHeap → Int → Prop) (Y45 : Tup [.ac, .int .i64] → AHeap → Prop) (X45 : Env → AHeap → Prop) (hX45 : ∀ s t H, fetterlockref6_DiagramFault.R45 s t → Y45 s H → X45 t H) (Y67 : Tup [.ac, .int .i64, .ac, .int .i64] → AHeap → Prop) (X67 : Env → AHeap → Prop) (hX67 : ∀ s t H, fetterlockref6_DiagramFault.R67 s t → Y67 s H → X67 t H) {x1 : AC} {x5 : Int} {x6 : AC} {x7 : Int} {H : AHeap} (j : Env) : fetterlockref6_DiagramFault.b67 Q Y45 Y67 x1 x5 x6 x7 H → wpC Try.prog fetterlockref6_DiagramFault.c68 (upd (upd (upd (upd j 1 (.one x1)) 5 (.one (.int .i64 x5))) 6 (.one x6)) 7 (.one (.int .i64 x7))) H (kSeq X67 (kBlk 4 (kBlk 3 (fetterlockref6_DiagramFault.k53 Q X45)))) := c_seq (c_seq (c_ops (s_cons (w_put (o_mov rfl (s_cons (w_put (o_mov rfl (s_cons (w_put (o_lt rfl rfl (s_nil (k_seq (c_if rfl (c_skip (k_seq (c_seq (c_blk (c_seq (c_ops (s_cons (w_put (o_fa rfl (fun q_1 => s_cons (w_put (o_ld1 rfl (fun (v_2 : AC) => s_cons (w_put (o_mov rfl (s_cons (w_put (o_ia rfl rfl (fun q_3 => s_cons (w_put (o_ld3 rfl (fun (v_4 : Int) (v_5 : Int) (v_6 : Int) => s_cons (w_put (o_ld3 rfl (fun (v_7 : Int) (v_8 : Int) (v_9 : Int) => s_cons (w_put (o_eqa rfl rfl rfl rfl rfl (s_nil (k_seq (c_if rfl (c_seq (c_ops (s_cons (w_put (o_mov rfl (s_nil (k_seq (c_ret (k_blkR (k_seqR (k_seqR (k_blkR (k_blkR (k_seqR (k_seqR (k_blkR (k_seqR (k_topR (r_one rfl (r_nil (fun h => ⟨((2 : Int), ()), rfl, h⟩))))))))))))))))))))) (c_skip (k_blk (k_seq (c_ops (s_cons (w_put (o_mov rfl (s_cons (w_put (o_add rfl rfl (s_cons (w_put (o_mov rfl (s_nil (k_seq (hX67 _ _ _ ⟨rfl, rfl, rfl, rfl, trivial⟩)))))))))))))))))))))))))))))))))))))))))))))) (c_exit (k_seqE (k_seqE (k_blkH (k_blk (k_seq (c_ops (s_cons (w_put (o_mov rfl (s_cons (w_put (o_add rfl rfl (s_cons (w_put (o_mov rfl (s_nil (k_seq (hX45 _ _ _ ⟨rfl, rfl, trivial⟩)))))))))))))))))))))))))))))))))
theorem fetterlockref6_DiagramFault.l67_ok (Q : AHeap → Int → Prop) (Y45 : Tup [.ac, .int .i64] → AHeap → Prop) (X45 : Env → AHeap → Prop) (hX45 : ∀ s t H, fetterlockref6_DiagramFault.R45 s t → Y45 s H → X45 t H) {x1 : AC} {x5 : Int} {x6 : AC} {x7 : Int} {H : AHeap} {t : Env} (h1 : t 1 = (.one x1)) (h5 : t 5 = (.one (.int .i64 x5))) (h6 : t 6 = (.one x6)) (h7 : t 7 = (.one (.int .i64 x7))) : fetterlockref6_DiagramFault.l67 Q Y45 x1 x5 x6 x7 H → wpC Try.prog (.loop fetterlockref6_DiagramFault.c68) t H (kBlk 4 (kBlk 3 (fetterlockref6_DiagramFault.k53 Q X45))) :=
  m_loop fetterlockref6_DiagramFault.R67 ⟨h1, h5, h6, h7, trivial⟩ fun X Y hX s t H hR hB => by
    have g := fetterlockref6_DiagramFault.b67_ok Q Y45 X45 hX45 Y X hX t hB
    rw [upd_self hR.1] at g
    rw [upd_self hR.2.1] at g
    rw [upd_self hR.2.2.1] at g
    rw [upd_self hR.2.2.2.1] at g
    exact g
theorem fetterlockref6_DiagramFault.p59_okE (Q : AHeap → Int → Prop) (Y45 : Tup [.ac, .int .i64] → AHeap → Prop) (X45 : Env → AHeap → Prop) (hX45 : ∀ s t H, fetterlockref6_DiagramFault.R45 s t → Y45 s H → X45 t H) {x1 : AC} {x5 : Int} {x6 : AC} {x104 : Bool} {H : AHeap} (j : Env) : fetterlockref6_DiagramFault.p59 Q Y45 x1 x5 x6 x104 H → wpC Try.prog fetterlockref6_DiagramFault.c59 (upd (upd (upd (upd j 1 (.one x1)) 5 (.one (.int .i64 x5))) 6 (.one x6)) 104 (.one (.bool x104))) H (fetterlockref6_DiagramFault.k57 Q X45) := c_if rfl (c_seq (c_ops (s_cons (w_put (o_mov rfl (s_nil (k_seq (c_ret (k_seqR (k_blkR (k_seqR (k_seqR (k_blkR (k_seqR (k_topR (r_one rfl (r_nil (fun h => ⟨((2 : Int), ()), rfl, h⟩)))))))))))))))))) (c_skip (k_seq (c_seq (c_ops (s_cons (w_put (o_mov rfl (s_nil (k_seq (c_blk (fetterlockref6_DiagramFault.l67_ok Q Y45 X45 hX45 rfl rfl rfl rfl)))))))))))
theorem fetterlockref6_DiagramFault.p59_ok (Q : AHeap → Int → Prop) (Y45 : Tup [.ac, .int .i64] → AHeap → Prop) (X45 : Env → AHeap → Prop) (hX45 : ∀ s t H, fetterlockref6_DiagramFault.R45 s t → Y45 s H → X45 t H) {x1 : AC} {x5 : Int} {x6 : AC} {x104 : Bool} {H : AHeap} {t : Env} (h1 : t 1 = (.one x1)) (h5 : t 5 = (.one (.int .i64 x5))) (h6 : t 6 = (.one x6)) (h104 : t 104 = (.one (.bool x104))) (h : fetterlockref6_DiagramFault.p59 Q Y45 x1 x5 x6 x104 H) : wpC Try.prog fetterlockref6_DiagramFault.c59 t H (fetterlockref6_DiagramFault.k57 Q X45) := by
  have g := fetterlockref6_DiagramFault.p59_okE Q Y45 X45 hX45 t h
  rw [upd_self h1] at g
  rw [upd_self h5] at g
  rw [upd_self h6] at g
  rw [upd_self h104] at g
  exact g
theorem fetterlockref6_DiagramFault.b45_ok (Q : AHeap → Int → Prop) (Y45 : Tup [.ac, .int .i64] → AHeap → Prop) (X45 : Env → AHeap → Prop) (hX45 : ∀ s t H, fetterlockref6_DiagramFault.R45 s t → Y45 s H → X45 t H) {x1 : AC} {x5 : Int} {H : AHeap} (j : Env) : fetterlockref6_DiagramFault.b45 Q Y45 x1 x5 H → wpC Try.prog fetterlockref6_DiagramFault.c46 (upd (upd j 1 (.one x1)) 5 (.one (.int .i64 x5))) H (kSeq X45 (kBlk 2 (fetterlockref6_DiagramFault.k42 Q))) := c_seq (c_seq (c_ops (s_cons (w_put (o_mov rfl (s_cons (w_put (o_fa rfl (fun q_1 => s_cons (w_put (o_ld1 rfl (fun (v_2 : AC) => s_cons (w_put (o_lens rfl (fun n_3 => s_cons (w_put (o_lt rfl rfl (s_nil (k_seq (c_if rfl (c_skip (k_seq (c_seq (c_blk (c_seq (c_ops (s_cons (w_put (o_fa rfl (fun q_4 => s_cons (w_put (o_ld1 rfl (fun (v_5 : AC) => s_cons (w_put (o_mov rfl (s_cons (w_put (o_ia rfl rfl (fun q_6 => s_cons (w_put (o_ld3 rfl (fun (v_7 : Int) (v_8 : Int) (v_9 : Int) => s_cons (w_put (o_new (fun p_10 H_11 => s_cons (w_run (o_st rfl rfl rfl (fun H_12 => s_nil (k_seq (c_seq (c_seq (c_ops (s_cons (w_put (o_fa rfl (fun q_13 => s_cons (w_put (o_ld1 rfl (fun (v_14 : Int) => s_cons (w_put (o_fa rfl (fun q_15 => s_cons (w_put (o_ld1 rfl (fun (v_16 : Int) => s_cons (w_put (o_eq rfl rfl (s_cons (w_put (o_mov rfl (s_cons (w_gputF rfl (s_cons (w_gputN rfl (s_cons (w_gputN rfl (s_cons (w_gputN rfl (s_cons (w_gputJ rfl (s_cons (w_gputJ rfl (s_cons (w_gputJ rfl (s_cons (w_gputJ rfl (s_cons (w_gputJ rfl (s_cons (w_gputJ rfl (s_cons (w_gputJ rfl (s_cons (w_gputJ rfl (s_cons (w_gputJ rfl (s_cons (w_gputJ rfl (s_cons (w_gputN rfl (s_cons (w_put (o_pickT rfl rfl (s_cons (w_put (o_mov rfl (s_cons (w_gputN rfl (s_cons (w_gputN rfl (s_cons (w_gputN rfl (s_cons (w_gputN rfl (s_cons (w_gputJ rfl (s_cons (w_gputJ rfl (s_cons (w_gputJ rfl (s_cons (w_gputJ rfl (s_cons (w_gputJ rfl (s_cons (w_gputJ rfl (s_cons (w_gputJ rfl (s_cons (w_gputJ rfl (s_cons (w_gputJ rfl (s_cons (w_gputJ rfl (s_cons (w_gputN rfl (s_cons (w_put (o_pickT rfl rfl (s_nil (k_seq (fetterlockref6_DiagramFault.p59_ok Q Y45 X45 hX45 rfl rfl rfl rfl)))))))))))))))))))))))))))))))))))))))))))))))))))))))))))))))))))))) (o_fa rfl (fun q_17 => s_cons (w_gputY rfl (o_ld1 rfl (fun (v_18 : Int) => s_cons (w_gputY rfl (o_ge rfl rfl (s_cons (w_gputY rfl (o_mov rfl (s_cons (w_gputT rfl (o_fa rfl (fun q_19 => s_cons (w_gputY rfl (o_ld1 rfl (fun (v_20 : AC) => s_cons (w_gputY rfl (o_fa rfl (fun q_21 => s_cons (w_gputY rfl (o_ld1 rfl (fun (v_22 : Int) => s_cons (w_gputY rfl (o_ia rfl rfl (fun q_23 => s_cons (w_gputY rfl (o_fa rfl (fun q_24 => s_cons (w_gputY rfl (o_ld1 rfl (fun (v_25 : Int) => s_cons (w_gputY rfl (o_fa rfl (fun q_26 => s_cons (w_gputY rfl (o_ld1 rfl (fun (v_27 : Int) => s_cons (w_gputY rfl (o_le rfl rfl (s_cons (w_gputY rfl (o_pickT rfl rfl (s_cons (w_put (o_pickF rfl rfl (s_cons (w_put (o_mov rfl (s_cons (w_gputF rfl (s_cons (w_gputN rfl (s_cons (w_gputN rfl (s_cons (w_gputN rfl (s_cons (w_gputJ rfl (s_cons (w_gputJ rfl (s_cons (w_gputJ rfl (s_cons (w_gputJ rfl (s_cons (w_gputJ rfl (s_cons (w_gputJ rfl (s_cons (w_gputJ rfl (s_cons (w_gputJ rfl (s_cons (w_gputJ rfl (s_cons (w_gputJ rfl (s_cons (w_gputN rfl (s_cons (w_put (o_pickT rfl rfl (s_nil (k_seq (fetterlockref6_DiagramFault.p59_ok Q Y45 X45 hX45 rfl rfl rfl rfl)))))))))))))))))))))))))))))))))) (o_fa rfl (fun q_28 => s_cons (w_gputY rfl (o_ld1 rfl (fun (v_29 : Int) => s_cons (w_gputY rfl (o_ge rfl rfl (s_cons (w_gputY rfl (o_mov rfl (s_cons (w_gputT rfl (o_fa rfl (fun q_30 => s_cons (w_gputY rfl (o_ld1 rfl (fun (v_31 : AC) => s_cons (w_gputY rfl (o_fa rfl (fun q_32 => s_cons (w_gputY rfl (o_ld1 rfl (fun (v_33 : Int) => s_cons (w_gputY rfl (o_ia rfl rfl (fun q_34 => s_cons (w_gputY rfl (o_fa rfl (fun q_35 => s_cons (w_gputY rfl (o_ld1 rfl (fun (v_36 : Int) => s_cons (w_gputY rfl (o_fa rfl (fun q_37 => s_cons (w_gputY rfl (o_ld1 rfl (fun (v_38 : Int) => s_cons (w_gputY rfl (o_le rfl rfl (s_cons (w_gputY rfl (o_pickT rfl rfl (s_cons (w_put (o_pickF rfl rfl (s_nil (k_seq (fetterlockref6_DiagramFault.p59_ok Q Y45 X45 hX45 rfl rfl rfl rfl))))))))))))))))))))))))))))))))))))) (s_cons (w_gputN rfl (s_cons (w_gputN rfl (s_cons (w_gputN rfl (s_cons (w_gputN rfl (s_cons (w_gputN rfl (s_cons (w_gputN rfl (s_cons (w_gputN rfl (s_cons (w_gputN rfl (s_cons (w_gputN rfl (s_cons (w_gputY rfl (o_pickF rfl rfl (s_cons (w_put (o_pickF rfl rfl (s_nil (k_seq (fetterlockref6_DiagramFault.p59_ok Q Y45 X45 hX45 rfl rfl rfl rfl)))))))))))))))))))))))))))))))))))))))))))))))))))))))))))))))))))))))))))))) (s_cons (w_gputN rfl (s_cons (w_gputN rfl (s_cons (w_gputN rfl (s_cons (w_gputN rfl (s_cons (w_gputN rfl (s_cons (w_gputN rfl (s_cons (w_gputN rfl (s_cons (w_gputN rfl (s_cons (w_gputN rfl (s_cons (w_gputY rfl (o_pickF rfl rfl (s_cons (w_put (o_pickF rfl rfl (s_cons (w_put (o_mov rfl (s_cons (w_gputY rfl (o_fa rfl (fun q_39 => s_cons (w_gputY rfl (o_ld1 rfl (fun (v_40 : Int) => s_cons (w_gputY rfl (o_ge rfl rfl (s_cons (w_gputY rfl (o_mov rfl (s_cons (w_gputT rfl (o_fa rfl (fun q_41 => s_cons (w_gputY rfl (o_ld1 rfl (fun (v_42 : AC) => s_cons (w_gputY rfl (o_fa rfl (fun q_43 => s_cons (w_gputY rfl (o_ld1 rfl (fun (v_44 : Int) => s_cons (w_gputY rfl (o_ia rfl rfl (fun q_45 => s_cons (w_gputY rfl (o_fa rfl (fun q_46 => s_cons (w_gputY rfl (o_ld1 rfl (fun (v_47 : Int) => s_cons (w_gputY rfl (o_fa rfl (fun q_48 => s_cons (w_gputY rfl (o_ld1 rfl (fun (v_49 : Int) => s_cons (w_gputY rfl (o_le rfl rfl (s_cons (w_gputY rfl (o_pickT rfl rfl (s_cons (w_put (o_pickF rfl rfl (s_nil (k_seq (fetterlockref6_DiagramFault.p59_ok Q Y45 X45 hX45 rfl rfl rfl rfl))))))))))))))))))))))))))))))))))))) (s_cons (w_gputN rfl (s_cons (w_gputN rfl (s_cons (w_gputN rfl (s_cons (w_gputN rfl (s_cons (w_gputN rfl (s_cons (w_gputN rfl (s_cons (w_gputN rfl (s_cons (w_gputN rfl (s_cons (w_gputN rfl (s_cons (w_gputY rfl (o_pickF rfl rfl (s_cons (w_put (o_pickF rfl rfl (s_nil (k_seq (fetterlockref6_DiagramFault.p59_ok Q Y45 X45 hX45 rfl rfl rfl rfl)))))))))))))))))))))))))))))))))))))))))))))))))))))))))))))))))))))))))))))))))))))))))))))))))))))))))))))))))))))))))))))))))))) (c_exit (k_seqE (k_seqE (k_blkH (k_seq (c_seq (c_seq (c_ops (s_cons (w_put (o_fa rfl (fun q_50 => s_cons (w_put (o_ld1 rfl (fun (v_51 : AC) => s_cons (w_put (o_lens rfl (fun n_52 => s_cons (w_put (o_eq rfl rfl (s_nil (k_seq (c_if rfl (c_seq (c_seq (c_ops (s_cons (w_put (o_fa rfl (fun q_53 => s_cons (w_put (o_ld1 rfl (fun (v_54 : Int) => s_cons (w_put (o_ne rfl rfl (s_cons (w_put (o_mov rfl (s_cons (w_gputT rfl (o_fa rfl (fun q_55 => s_cons (w_gputY rfl (o_ld1 rfl (fun (v_56 : Int) => s_cons (w_gputY rfl (o_ne rfl rfl (s_cons (w_put (o_pickT rfl rfl (s_nil (k_seq (fetterlockref6_DiagramFault.p92_ok Q rfl))))))))))))) (s_cons (w_gputN rfl (s_cons (w_gputN rfl (s_cons (w_put (o_pickF rfl rfl (s_nil (k_seq (fetterlockref6_DiagramFault.p92_ok Q rfl))))))))))))))))))))))))))) (c_skip (k_seq (c_seq (c_seq (c_ops (s_cons (w_put (o_fa rfl (fun q_57 => s_cons (w_put (o_ld1 rfl (fun (v_58 : Int) => s_cons (w_put (o_fa rfl (fun q_59 => s_cons (w_put (o_ld1 rfl (fun (v_60 : AC) => s_cons (w_put (o_lens rfl (fun n_61 => s_cons (w_put (o_sub rfl rfl (s_cons (w_put (o_ne rfl rfl (s_nil (k_seq (c_if rfl (c_seq (c_ops (s_cons (w_put (o_mov rfl (s_nil (k_seq (c_ret (k_seqR (k_topR (r_one rfl (r_nil (fun h => ⟨((2 : Int), ()), rfl, h⟩))))))))))))) (c_skip (k_seq (c_seq (c_ops (s_cons (w_put (o_ld2 rfl (fun (v_62 : AC) (v_63 : Int) => s_cons (w_put (o_fa rfl (fun q_64 => s_cons (w_put (o_ld1 rfl (fun (v_65 : Int) => s_cons (w_put (o_call rfl (cv_1 (fun H_66 (v_67 : AC) => s_cons (w_put (o_mov rfl (s_nil (k_seq (c_seq (c_seq (c_ops (s_cons (w_put (o_mov rfl (s_cons (w_put (o_lens rfl (fun n_68 => s_cons (w_put (o_fa rfl (fun q_69 => s_cons (w_put (o_ld1 rfl (fun (v_70 : AC) => s_cons (w_put (o_lens rfl (fun n_71 => s_cons (w_put (o_ne rfl rfl (s_nil (k_seq (c_if rfl (c_seq (c_ops (s_cons (w_put (o_mov rfl (s_nil (k_seq (c_ret (k_seqR (k_topR (r_one rfl (r_nil (fun h => ⟨((2 : Int), ()), rfl, h⟩))))))))))))) (c_skip (k_seq (c_seq (c_seq (c_ops (s_cons (w_put (o_mov rfl (s_nil (k_seq (c_blk (fetterlockref6_DiagramFault.l123_ok Q rfl rfl))))))))))))))))))))))))))))))))))))))))))))))))))))))))))))))))))))))))))))))))))))))))))))))))))))))))))))))))))))))))))))))))))
theorem fetterlockref6_DiagramFault.l45_ok (Q : AHeap → Int → Prop) {x1 : AC} {x5 : Int} {H : AHeap} {t : Env} (h1 : t 1 = (.one x1)) (h5 : t 5 = (.one (.int .i64 x5))) : fetterlockref6_DiagramFault.l45 Q x1 x5 H → wpC Try.prog (.loop fetterlockref6_DiagramFault.c46) t H (kBlk 2 (fetterlockref6_DiagramFault.k42 Q)) :=
  m_loop fetterlockref6_DiagramFault.R45 ⟨h1, h5, trivial⟩ fun X Y hX s t H hR hB => by
    have g := fetterlockref6_DiagramFault.b45_ok Q Y X hX t hB
    rw [upd_self hR.1] at g
    rw [upd_self hR.2.1] at g
    exact g
theorem fetterlockref6_DiagramFault.p35_okE (Q : AHeap → Int → Prop) (Y14 : Tup [.ac, .int .i64] → AHeap → Prop) (X14 : Env → AHeap → Prop) (hX14 : ∀ s t H, fetterlockref6_DiagramFault.R14 s t → Y14 s H → X14 t H) {x1 : AC} {x3 : Int} {x53 : Bool} {H : AHeap} (j : Env) : fetterlockref6_DiagramFault.p35 Q Y14 x1 x3 x53 H → wpC Try.prog fetterlockref6_DiagramFault.c35 (upd (upd (upd j 1 (.one x1)) 3 (.one (.int .i64 x3))) 53 (.one (.bool x53))) H (kBlk 1 (fetterlockref6_DiagramFault.k22 Q X14)) := c_if rfl (c_seq (c_ops (s_cons (w_put (o_mov rfl (s_nil (k_seq (c_ret (k_blkR (k_seqR (k_seqR (k_blkR (k_seqR (k_topR (r_one rfl (r_nil (fun h => ⟨((2 : Int), ()), rfl, h⟩))))))))))))))))) (c_skip (k_blk (k_seq (c_ops (s_cons (w_put (o_mov rfl (s_cons (w_put (o_add rfl rfl (s_cons (w_put (o_mov rfl (s_nil (k_seq (hX14 _ _ _ ⟨rfl, rfl, trivial⟩))))))))))))))))
theorem fetterlockref6_DiagramFault.p35_ok (Q : AHeap → Int → Prop) (Y14 : Tup [.ac, .int .i64] → AHeap → Prop) (X14 : Env → AHeap → Prop) (hX14 : ∀ s t H, fetterlockref6_DiagramFault.R14 s t → Y14 s H → X14 t H) {x1 : AC} {x3 : Int} {x53 : Bool} {H : AHeap} {t : Env} (h1 : t 1 = (.one x1)) (h3 : t 3 = (.one (.int .i64 x3))) (h53 : t 53 = (.one (.bool x53))) (h : fetterlockref6_DiagramFault.p35 Q Y14 x1 x3 x53 H) : wpC Try.prog fetterlockref6_DiagramFault.c35 t H (kBlk 1 (fetterlockref6_DiagramFault.k22 Q X14)) := by
  have g := fetterlockref6_DiagramFault.p35_okE Q Y14 X14 hX14 t h
  rw [upd_self h1] at g
  rw [upd_self h3] at g
  rw [upd_self h53] at g
  exact g
theorem fetterlockref6_DiagramFault.p28_okE (Q : AHeap → Int → Prop) (Y14 : Tup [.ac, .int .i64] → AHeap → Prop) (X14 : Env → AHeap → Prop) (hX14 : ∀ s t H, fetterlockref6_DiagramFault.R14 s t → Y14 s H → X14 t H) {x1 : AC} {x3 : Int} {x4 : AC} {x33 : Bool} {H : AHeap} (j : Env) : fetterlockref6_DiagramFault.p28 Q Y14 x1 x3 x4 x33 H → wpC Try.prog fetterlockref6_DiagramFault.c28 (upd (upd (upd (upd j 1 (.one x1)) 3 (.one (.int .i64 x3))) 4 (.one x4)) 33 (.one (.bool x33))) H (fetterlockref6_DiagramFault.k26 Q X14) := c_if rfl (c_seq (c_ops (s_cons (w_put (o_mov rfl (s_nil (k_seq (c_ret (k_seqR (k_blkR (k_seqR (k_seqR (k_blkR (k_seqR (k_topR (r_one rfl (r_nil (fun h => ⟨((1 : Int), ()), rfl, h⟩)))))))))))))))))) (c_skip (k_seq (c_seq (c_ops (s_cons (w_put (o_fa rfl (fun q_1 => s_cons (w_put (o_ld1 rfl (fun (v_2 : Int) => s_cons (w_put (o_lt rfl rfl (s_cons (w_put (o_mov rfl (s_cons (w_gputF rfl (s_cons (w_gputN rfl (s_cons (w_gputN rfl (s_cons (w_gputN rfl (s_cons (w_put (o_pickT rfl rfl (s_cons (w_put (o_mov rfl (s_cons (w_gputN rfl (s_cons (w_gputN rfl (s_cons (w_gputN rfl (s_cons (w_put (o_pickT rfl rfl (s_cons (w_put (o_mov rfl (s_cons (w_gputN rfl (s_cons (w_gputN rfl (s_cons (w_gputN rfl (s_cons (w_gputN rfl (s_cons (w_put (o_pickT rfl rfl (s_nil (k_seq (fetterlockref6_DiagramFault.p35_ok Q Y14 X14 hX14 rfl rfl rfl)))))))))))))))))))))))))))))))))))))) (o_fa rfl (fun q_3 => s_cons (w_gputY rfl (o_ld1 rfl (fun (v_4 : Int) => s_cons (w_gputY rfl (o_mov rfl (s_cons (w_gputY rfl (o_ge rfl rfl (s_cons (w_put (o_pickF rfl rfl (s_cons (w_put (o_mov rfl (s_cons (w_gputF rfl (s_cons (w_gputN rfl (s_cons (w_gputN rfl (s_cons (w_put (o_pickT rfl rfl (s_cons (w_put (o_mov rfl (s_cons (w_gputN rfl (s_cons (w_gputN rfl (s_cons (w_gputN rfl (s_cons (w_gputN rfl (s_cons (w_put (o_pickT rfl rfl (s_nil (k_seq (fetterlockref6_DiagramFault.p35_ok Q Y14 X14 hX14 rfl rfl rfl)))))))))))))))))))))))) (o_fa rfl (fun q_5 => s_cons (w_gputY rfl (o_ld1 rfl (fun (v_6 : Int) => s_cons (w_gputY rfl (o_lt rfl rfl (s_cons (w_put (o_pickF rfl rfl (s_cons (w_put (o_mov rfl (s_cons (w_gputF rfl (s_cons (w_gputN rfl (s_cons (w_gputN rfl (s_cons (w_gputN rfl (s_cons (w_put (o_pickT rfl rfl (s_nil (k_seq (fetterlockref6_DiagramFault.p35_ok Q Y14 X14 hX14 rfl rfl rfl)))))))))))) (o_fa rfl (fun q_7 => s_cons (w_gputY rfl (o_ld1 rfl (fun (v_8 : Int) => s_cons (w_gputY rfl (o_mov rfl (s_cons (w_gputY rfl (o_ge rfl rfl (s_cons (w_put (o_pickF rfl rfl (s_nil (k_seq (fetterlockref6_DiagramFault.p35_ok Q Y14 X14 hX14 rfl rfl rfl)))))))))))))))))))))))))))))))))))))))))))))))))))))))))))))))))))
theorem fetterlockref6_DiagramFault.p28_ok (Q : AHeap → Int → Prop) (Y14 : Tup [.ac, .int .i64] → AHeap → Prop) (X14 : Env → AHeap → Prop) (hX14 : ∀ s t H, fetterlockref6_DiagramFault.R14 s t → Y14 s H → X14 t H) {x1 : AC} {x3 : Int} {x4 : AC} {x33 : Bool} {H : AHeap} {t : Env} (h1 : t 1 = (.one x1)) (h3 : t 3 = (.one (.int .i64 x3))) (h4 : t 4 = (.one x4)) (h33 : t 33 = (.one (.bool x33))) (h : fetterlockref6_DiagramFault.p28 Q Y14 x1 x3 x4 x33 H) : wpC Try.prog fetterlockref6_DiagramFault.c28 t H (fetterlockref6_DiagramFault.k26 Q X14) := by
  have g := fetterlockref6_DiagramFault.p28_okE Q Y14 X14 hX14 t h
  rw [upd_self h1] at g
  rw [upd_self h3] at g
  rw [upd_self h4] at g
  rw [upd_self h33] at g
  exact g
theorem fetterlockref6_DiagramFault.b14_ok (Q : AHeap → Int → Prop) (Y14 : Tup [.ac, .int .i64] → AHeap → Prop) (X14 : Env → AHeap → Prop) (hX14 : ∀ s t H, fetterlockref6_DiagramFault.R14 s t → Y14 s H → X14 t H) {x1 : AC} {x3 : Int} {H : AHeap} (j : Env) : fetterlockref6_DiagramFault.b14 Q Y14 x1 x3 H → wpC Try.prog fetterlockref6_DiagramFault.c15 (upd (upd j 1 (.one x1)) 3 (.one (.int .i64 x3))) H (kSeq X14 (kBlk 0 (fetterlockref6_DiagramFault.k11 Q))) := c_seq (c_seq (c_ops (s_cons (w_put (o_mov rfl (s_cons (w_put (o_fa rfl (fun q_1 => s_cons (w_put (o_ld1 rfl (fun (v_2 : AC) => s_cons (w_put (o_lens rfl (fun n_3 => s_cons (w_put (o_lt rfl rfl (s_nil (k_seq (c_if rfl (c_skip (k_seq (c_seq (c_blk (c_seq (c_ops (s_cons (w_put (o_fa rfl (fun q_4 => s_cons (w_put (o_ld1 rfl (fun (v_5 : AC) => s_cons (w_put (o_mov rfl (s_cons (w_put (o_ia rfl rfl (fun q_6 => s_cons (w_put (o_ld3 rfl (fun (v_7 : Int) (v_8 : Int) (v_9 : Int) => s_cons (w_put (o_new (fun p_10 H_11 => s_cons (w_run (o_st rfl rfl rfl (fun H_12 => s_nil (k_seq (c_seq (c_seq (c_ops (s_cons (w_put (o_fa rfl (fun q_13 => s_cons (w_put (o_ld1 rfl (fun (v_14 : Int) => s_cons (w_put (o_lt rfl rfl (s_cons (w_put (o_mov rfl (s_cons (w_gputF rfl (s_cons (w_gputN rfl (s_cons (w_gputN rfl (s_cons (w_put (o_pickT rfl rfl (s_nil (k_seq (fetterlockref6_DiagramFault.p28_ok Q Y14 X14 hX14 rfl rfl rfl rfl)))))))))) (o_fa rfl (fun q_15 => s_cons (w_gputY rfl (o_ld1 rfl (fun (v_16 : Int) => s_cons (w_gputY rfl (o_ge rfl rfl (s_cons (w_put (o_pickF rfl rfl (s_nil (k_seq (fetterlockref6_DiagramFault.p28_ok Q Y14 X14 hX14 rfl rfl rfl rfl))))))))))))))))))))))))))))))))))))))))))))))))))))))))))) (c_exit (k_seqE (k_seqE (k_blkH (k_seq (c_seq (c_seq (c_ops (s_cons (w_put (o_mov rfl (s_nil (k_seq (c_blk (fetterlockref6_DiagramFault.l45_ok Q rfl rfl)))))))))))))))))))))))))))))))))))
theorem fetterlockref6_DiagramFault.l14_ok (Q : AHeap → Int → Prop) {x1 : AC} {x3 : Int} {H : AHeap} {t : Env} (h1 : t 1 = (.one x1)) (h3 : t 3 = (.one (.int .i64 x3))) : fetterlockref6_DiagramFault.l14 Q x1 x3 H → wpC Try.prog (.loop fetterlockref6_DiagramFault.c15) t H (kBlk 0 (fetterlockref6_DiagramFault.k11 Q)) :=
  m_loop fetterlockref6_DiagramFault.R14 ⟨h1, h3, trivial⟩ fun X Y hX s t H hR hB => by
    have g := fetterlockref6_DiagramFault.b14_ok Q Y X hX t hB
    rw [upd_self hR.1] at g
    rw [upd_self hR.2.1] at g
    exact g
theorem fetterlockref6_DiagramFault.ok {a0_0 : AC} {a0_1 : Int} {H : AHeap} (Q : AHeap → Int → Prop) : fetterlockref6_DiagramFault.W a0_0 a0_1 H Q → wpF Try.prog fetterlockref6_DiagramFault.c [.tm 2] (envOf [(.agg [a0_0, (.int .i64 a0_1)])]) H (fetterlockref6_DiagramFault.KQ Q) := c_seq (c_ops (s_cons (w_put (o_box rfl (fun p_1 H_2 => s_cons (w_put (o_mov rfl (s_nil (k_seq (c_seq (c_seq (c_ops (s_cons (w_put (o_fa rfl (fun q_3 => s_cons (w_put (o_ld1 rfl (fun (v_4 : AC) => s_cons (w_put (o_lens rfl (fun n_5 => s_cons (w_put (o_gt rfl rfl (s_nil (k_seq (c_if rfl (c_seq (c_ops (s_cons (w_put (o_mov rfl (s_nil (k_seq (c_ret (k_seqR (k_topR (r_one rfl (r_nil (fun h => ⟨((3 : Int), ()), rfl, h⟩))))))))))))) (c_skip (k_seq (c_seq (c_seq (c_ops (s_cons (w_put (o_mov rfl (s_nil (k_seq (c_blk (fetterlockref6_DiagramFault.l14_ok Q rfl rfl)))))))))))))))))))))))))))))))))))))))
theorem fetterlockref6_DiagramFault.slimOk : slimOk [(15, []), (20, [])] (Try.f29.body.getD .skip) = true := by kernel_rfl
theorem fetterlockref6_DiagramFault.resC : resC Try.prog aggs Try.f29.ntmps (slim [(15, []), (20, [])] (Try.f29.body.getD .skip)) = some fetterlockref6_DiagramFault.c := by kernel_rfl
theorem fetterlockref6_DiagramFault.resR : resR Try.prog Try.f29.results.toList = some [.tm 2] := by kernel_rfl
theorem fetterlockref6_DiagramFault.bodyEq : Try.f29.body = some (Try.f29.body.getD .skip) := by kernel_rfl
theorem fetterlockref6_DiagramFault.run {a0_0 : AC} {a0_1 : Int} {H : AHeap} {Q : AHeap → Int → Prop} (h : fetterlockref6_DiagramFault.W a0_0 a0_1 H Q) : Fn.fetterlockref6_DiagramFault a0_0 a0_1 H Q := by
  unfold Fn.fetterlockref6_DiagramFault RunT
  exact run_of aggs_ok [(15, []), (20, [])] rfl Try.func29 fetterlockref6_DiagramFault.bodyEq fetterlockref6_DiagramFault.slimOk fetterlockref6_DiagramFault.resC fetterlockref6_DiagramFault.resR (Nat.le_of_ble_eq_true (by kernel_rfl)) (fetterlockref6_DiagramFault.ok Q h)

def solve_Support.c : RC := (.seq (.ops [.put 1 (.box 27 (.tm 0)),
    .put 2 (.mov (.ct (.one (.sl none 0 0 (some 0))))),
    .put 3 (.mov (.ct (.one (.int .i64 0))))]) (.seq (.seq (.ops [.put 5 (.ld true [.ac, .int .i64] (.tm 1)),
    .put 6 (.call 31 [(.tm 5)]),
    .put 4 (.mov (.tm 6))]) (.seq (.ops [.put 7 (.mov (.tm 4)),
    .put 8 (.cm .ne (.tm 7) (.ct (.one (.int .i64 0))))]) (.cond 8 (.seq (.ops [.put 9 (.mov (.tm 4)),
    .put 2 (.mov (.ct (.one (.sl none 0 0 (some 0))))),
    .put 3 (.mov (.tm 9))]) .ret) .skip))) (.seq (.ops [.put 10 (.ld true [.ac, .int .i64] (.tm 1)),
    .put 11 (.call 62 [(.tm 10)]),
    .put 2 (.mov (.tm 11)),
    .put 3 (.mov (.ct (.one (.int .i64 0))))]) .ret)))
abbrev solve_Support.KQ (Q : AHeap → AC → Int → Prop) : AV → AHeap → Prop := fun v H => ∃ xs : Tup (flat [(false, [.ac]), (false, [.int .i64])]), v = joinR (splitP [(false, [.ac]), (false, [.int .i64])] (cellsOf (flat [(false, [.ac]), (false, [.int .i64])]) xs)) ∧ app (flat [(false, [.ac]), (false, [.int .i64])]) (Q H) xs
abbrev solve_Support.K (Q : AHeap → AC → Int → Prop) : Ex → Env → AHeap → Prop := kTop [.tm 2, .tm 3] (solve_Support.KQ Q)
def solve_Support.W (a0_0 : AC) (a0_1 : Int) (H : AHeap) (Q : AHeap → AC → Int → Prop) : Prop :=
  New 27 [a0_0, (.int .i64 a0_1)] H fun p_1 H_2 =>
  Ld [.ac, .int .i64] H_2 p_1 fun (v_3 : AC) (v_4 : Int) =>
  Fn.solve_CheckDiagram v_3 v_4 H_2 fun H_5 (v_6 : Int) =>
  CondB (v_6 != 0)
    (Q H_5 (.sl none 0 0 (some 0)) v_6)
    (Ld [.ac, .int .i64] H_5 p_1 fun (v_7 : AC) (v_8 : Int) =>
    Fn.solve_support v_7 v_8 H_5 fun H_9 (v_10 : AC) =>
    Q H_9 v_10 0)
theorem solve_Support.ok {a0_0 : AC} {a0_1 : Int} {H : AHeap} (Q : AHeap → AC → Int → Prop) : solve_Support.W a0_0 a0_1 H Q → wpF Try.prog solve_Support.c [.tm 2, .tm 3] (envOf [(.agg [a0_0, (.int .i64 a0_1)])]) H (solve_Support.KQ Q) := c_seq (c_ops (s_cons (w_put (o_box rfl (fun p_1 H_2 => s_cons (w_put (o_mov rfl (s_cons (w_put (o_mov rfl (s_nil (k_seq (c_seq (c_seq (c_ops (s_cons (w_put (o_ld2 rfl (fun (v_3 : AC) (v_4 : Int) => s_cons (w_put (o_call rfl (cv_1 (fun H_5 (v_6 : Int) => s_cons (w_put (o_mov rfl (s_nil (k_seq (c_seq (c_ops (s_cons (w_put (o_mov rfl (s_cons (w_put (o_ne rfl rfl (s_nil (k_seq (c_if rfl (c_seq (c_ops (s_cons (w_put (o_mov rfl (s_cons (w_put (o_mov rfl (s_cons (w_put (o_mov rfl (s_nil (k_seq (c_ret (k_seqR (k_topR (r_one rfl (r_one rfl (r_nil (fun h => ⟨((.sl none 0 0 (some 0)), (v_6 : Int), ()), rfl, h⟩)))))))))))))))))))) (c_skip (k_seq (c_seq (c_ops (s_cons (w_put (o_ld2 rfl (fun (v_7 : AC) (v_8 : Int) => s_cons (w_put (o_call rfl (cv_1 (fun H_9 (v_10 : AC) => s_cons (w_put (o_mov rfl (s_cons (w_put (o_mov rfl (s_nil (k_seq (c_ret (k_topR (r_one rfl (r_one rfl (r_nil (fun h => ⟨(v_10, (0 : Int), ()), rfl, h⟩)))))))))))))))))))))))))))))))))))))))))))))))))))))))))))))))
theorem solve_Support.slimOk : slimOk [] (Try.f30.body.getD .skip) = true := by kernel_rfl
theorem solve_Support.resC : resC Try.prog aggs Try.f30.ntmps (slim [] (Try.f30.body.getD .skip)) = some solve_Support.c := by kernel_rfl
theorem solve_Support.resR : resR Try.prog Try.f30.results.toList = some [.tm 2, .tm 3] := by kernel_rfl
theorem solve_Support.bodyEq : Try.f30.body = some (Try.f30.body.getD .skip) := by kernel_rfl
theorem solve_Support.run {a0_0 : AC} {a0_1 : Int} {H : AHeap} {Q : AHeap → AC → Int → Prop} (h : solve_Support.W a0_0 a0_1 H Q) : Fn.solve_Support a0_0 a0_1 H Q := by
  unfold Fn.solve_Support RunT
  exact run_of aggs_ok [] rfl Try.func30 solve_Support.bodyEq solve_Support.slimOk solve_Support.resC solve_Support.resR (Nat.le_of_ble_eq_true (by kernel_rfl)) (solve_Support.ok Q h)
end Go.Proofs.Ytanaaabejeeakaa
end
section
/- Printed by a program: functions and what must hold ahead of them. -/
namespace Go.Proofs.Ytanaaabejeeakaa
open Go.AI
set_option maxRecDepth 100000
set_option maxHeartbeats 2000000
set_option linter.unusedVariables false
attribute [local irreducible] Ld Sto New NewS NewM NN NZ GE0 FA IA IAP LenS Slc App Cpy Clr MkS Fnc NilQ IxS Look MSet Run CV RunT CVT LoopT Same1 Same2 wpC wpOs wpT wpO wpOp

def solve_CheckDiagram.c93 : RC := (.cond 115 (.seq (.ops [.put 2 (.mov (.ct (.one (.int .i64 2))))]) .ret) .skip)
def solve_CheckDiagram.c81 : RC := (.cond 96 (.seq (.ops [.put 2 (.mov (.ct (.one (.int .i64 2))))]) .ret) .skip)
def solve_CheckDiagram.c71 : RC := (.cond 83 (.seq (.ops [.put 2 (.mov (.ct (.one (.int .i64 2))))]) .ret) .skip)
def solve_CheckDiagram.c59 : RC := (.seq (.ops [.put 68 (.cm .lt (.tm 67) (.tm 66))]) (.seq (.cond 68 .skip (.exit 5)) (.seq (.block 6 (.seq (.ops [.put 69 (.ia 1 (.tm 65) (.tm 67)),
    .put 70 (.ld false [.int .i64] (.tm 69)),
    .put 8 (.mov (.tm 70))]) (.seq (.ops [.put 71 (.mov (.tm 8)),
    .put 72 (.cm .ge (.tm 71) (.ct (.one (.int .i64 0)))),
    .put 73 (.mov (.tm 72)),
    .gput 74 73 true (.fa 0 (.tm 1)),
    .gput 75 73 true (.ld false [.ac] (.tm 74)),
    .gput 76 73 true (.mov (.tm 8)),
    .gput 77 73 true (.ia 3 (.tm 75) (.tm 76)),
    .gput 78 73 true (.fa 0 (.tm 77)),
    .gput 79 73 true (.ld false [.int .i64] (.tm 78)),
    .gput 80 73 true (.fa 0 (.tm 6)),
    .gput 81 73 true (.ld false [.int .i64] (.tm 80)),
    .gput 82 73 true (.cm .le (.tm 79) (.tm 81)),
    .put 83 (.pick (.tm 73) (.tm 82) (.ct (.one (.bool false))))]) solve_CheckDiagram.c71))) (.ops [.put 84 (.ar .add (.tm 67) (.ct (.one (.int .i64 1)))),
    .put 67 (.mov (.tm 84))]))))
def solve_CheckDiagram.c45 : RC := (.seq (.ops [.put 58 (.cm .lt (.tm 57) (.tm 56))]) (.seq (.cond 58 .skip (.exit 3)) (.seq (.block 4 (.seq (.ops [.put 59 (.ia 3 (.tm 55) (.tm 57)),
    .put 60 (.ld true [.int .i64, .int .i64, .int .i64] (.tm 59)),
    .put 6 (.new 77 [(.int .i64 0), (.int .i64 0), (.int .i64 0)]),
    .run (.st 3 (.tm 6) (.tm 60))]) (.seq (.ops [.put 61 (.fa 1 (.tm 6)),
    .put 62 (.ld false [.int .i64] (.tm 61)),
    .put 63 (.fa 2 (.tm 6)),
    .put 64 (.ld false [.int .i64] (.tm 63)),
    .put 65 (.blds 3 1 2 [(.int .i64 0), (.int .i64 0)] [(0, 1, (.tm 62)), (1, 1, (.tm 64))]),
    .put 66 (.lens (.tm 65)),
    .put 67 (.mov (.ct (.one (.int .i64 0))))]) (.block 5 (.loop solve_CheckDiagram.c59))))) (.ops [.put 85 (.ar .add (.tm 57) (.ct (.one (.int .i64 1)))),
    .put 57 (.mov (.tm 85))]))))
def solve_CheckDiagram.c34 : RC := (.cond 32 (.seq (.ops [.put 2 (.mov (.ct (.one (.int .i64 2))))]) .ret) .skip)
def solve_CheckDiagram.c28 : RC := (.cond 23 (.seq (.ops [.put 2 (.mov (.ct (.one (.int .i64 1))))]) .ret) (.seq (.ops [.put 33 (.fa 1 (.tm 4)),
    .put 34 (.ld false [.int .i64] (.tm 33)),
    .put 35 (.cm .lt (.tm 34) (.ct (.one (.int .i64 (-2))))),
    .put 36 (.mov (.tm 35)),
    .gput 37 36 false (.fa 1 (.tm 4)),
    .gput 38 36 false (.ld false [.int .i64] (.tm 37)),
    .gput 39 36 false (.mov (.tm 3)),
    .gput 40 36 false (.cm .ge (.tm 38) (.tm 39)),
    .put 41 (.pick (.tm 36) (.ct (.one (.bool true))) (.tm 40)),
    .put 42 (.mov (.tm 41)),
    .gput 43 42 false (.fa 2 (.tm 4)),
    .gput 44 42 false (.ld false [.int .i64] (.tm 43)),
    .gput 45 42 false (.cm .lt (.tm 44) (.ct (.one (.int .i64 (-2))))),
    .put 46 (.pick (.tm 42) (.ct (.one (.bool true))) (.tm 45)),
    .put 47 (.mov (.tm 46)),
    .gput 48 47 false (.fa 2 (.tm 4)),
    .gput 49 47 false (.ld false [.int .i64] (.tm 48)),
    .gput 50 47 false (.mov (.tm 3)),
    .gput 51 47 false (.cm .ge (.tm 49) (.tm 50)),
    .put 52 (.pick (.tm 47) (.ct (.one (.bool true))) (.tm 51)),
    .put 32 (.mov (.tm 52))]) solve_CheckDiagram.c34))
def solve_CheckDiagram.c15 : RC := (.seq (.ops [.put 19 (.cm .lt (.tm 18) (.tm 17))]) (.seq (.cond 19 .skip (.exit 0)) (.seq (.block 1 (.seq (.ops [.put 20 (.mov (.tm 18)),
    .put 21 (.ia 3 (.tm 16) (.tm 18)),
    .put 22 (.ld true [.int .i64, .int .i64, .int .i64] (.tm 21)),
    .put 4 (.new 77 [(.int .i64 0), (.int .i64 0), (.int .i64 0)]),
    .put 3 (.mov (.tm 20)),
    .run (.st 3 (.tm 4) (.tm 22))]) (.block 2 (.seq (.ops [.put 24 (.fa 0 (.tm 4)),
    .put 25 (.ld false [.int .i64] (.tm 24)),
    .put 26 (.cm .lt (.tm 25) (.ct (.one (.int .i64 0)))),
    .put 27 (.mov (.tm 26)),
    .gput 28 27 false (.fa 0 (.tm 4)),
    .gput 29 27 false (.ld false [.int .i64] (.tm 28)),
    .gput 30 27 false (.cm .ge (.tm 29) (.ct (.one (.int .i64 16)))),
    .put 31 (.pick (.tm 27) (.ct (.one (.bool true))) (.tm 30)),
    .put 23 (.mov (.tm 31))]) solve_CheckDiagram.c28)))) (.ops [.put 53 (.ar .add (.tm 18) (.ct (.one (.int .i64 1)))),
    .put 18 (.mov (.tm 53))]))))
def solve_CheckDiagram.c : RC := (.seq (.ops [.put 1 (.box 27 (.tm 0)),
    .put 2 (.mov (.ct (.one (.int .i64 0))))]) (.seq (.seq (.ops [.put 11 (.fa 0 (.tm 1)),
    .put 12 (.ld false [.ac] (.tm 11)),
    .put 13 (.lens (.tm 12)),
    .put 14 (.cm .gt (.tm 13) (.ct (.one (.int .i64 2000))))]) (.cond 14 (.seq (.ops [.put 2 (.mov (.ct (.one (.int .i64 3))))]) .ret) .skip)) (.seq (.seq (.ops [.put 15 (.fa 0 (.tm 1)),
    .put 16 (.ld false [.ac] (.tm 15)),
    .put 17 (.lens (.tm 16)),
    .put 18 (.mov (.ct (.one (.int .i64 0))))]) (.block 0 (.loop solve_CheckDiagram.c15))) (.seq (.seq (.ops [.put 54 (.fa 0 (.tm 1)),
    .put 55 (.ld false [.ac] (.tm 54)),
    .put 56 (.lens (.tm 55)),
    .put 57 (.mov (.ct (.one (.int .i64 0))))]) (.block 3 (.loop solve_CheckDiagram.c45))) (.seq (.seq (.ops [.put 86 (.fa 1 (.tm 1)),
    .put 87 (.ld false [.int .i64] (.tm 86)),
    .put 88 (.cm .lt (.tm 87) (.ct (.one (.int .i64 (-2))))),
    .put 89 (.mov (.tm 88)),
    .gput 90 89 false (.fa 1 (.tm 1)),
    .gput 91 89 false (.ld false [.int .i64] (.tm 90)),
    .gput 92 89 false (.fa 0 (.tm 1)),
    .gput 93 89 false (.ld false [.ac] (.tm 92)),
    .gput 94 89 false (.lens (.tm 93)),
    .gput 95 89 false (.cm .ge (.tm 91) (.tm 94)),
    .put 96 (.pick (.tm 89) (.ct (.one (.bool true))) (.tm 95))]) solve_CheckDiagram.c81) (.seq (.ops [.put 97 (.call 41 []),
    .put 9 (.mov (.tm 97))]) (.seq (.seq (.ops [.put 98 (.mov (.tm 9)),
    .put 99 (.mov (.tm 9)),
    .put 100 (.ld true [.ac, .int .i64] (.tm 1)),
    .put 101 (.call 51 [(.tm 99), (.tm 100)]),
    .put 102 (.call 63 [(.tm 98), (.tm 101)]),
    .put 10 (.new 27 [(.sl none 0 0 (some 0)), (.int .i64 0)]),
    .run (.st 2 (.tm 10) (.tm 102))]) (.seq (.ops [.put 103 (.fa 1 (.tm 10)),
    .put 104 (.ld false [.int .i64] (.tm 103)),
    .put 105 (.fa 1 (.tm 1)),
    .put 106 (.ld false [.int .i64] (.tm 105)),
    .put 107 (.cm .ne (.tm 104) (.tm 106)),
    .put 108 (.mov (.tm 107)),
    .gput 109 108 false (.fa 0 (.tm 10)),
    .gput 110 108 false (.ld false [.ac] (.tm 109)),
    .gput 111 108 false (.fa 0 (.tm 1)),
    .gput 112 108 false (.ld false [.ac] (.tm 111)),
    .gput 113 108 false (.call 64 [(.tm 110), (.tm 112)]),
    .gput 114 108 false (.not (.tm 113)),
    .put 115 (.pick (.tm 108) (.ct (.one (.bool true))) (.tm 114))]) solve_CheckDiagram.c93)) (.seq (.ops [.put 2 (.mov (.ct (.one (.int .i64 0))))]) .ret))))))))
abbrev solve_CheckDiagram.KQ (Q : AHeap → Int → Prop) : AV → AHeap → Prop := fun v H => ∃ xs : Tup (flat [(false, [.int .i64])]), v = joinR (splitP [(false, [.int .i64])] (cellsOf (flat [(false, [.int .i64])]) xs)) ∧ app (flat [(false, [.int .i64])]) (Q H) xs
abbrev solve_CheckDiagram.K (Q : AHeap → Int → Prop) : Ex → Env → AHeap → Prop := kTop [.tm 2] (solve_CheckDiagram.KQ Q)
abbrev solve_CheckDiagram.k11 (Q : AHeap → Int → Prop) : Ex → Env → AHeap → Prop := kSeq (fun t H => wpC Try.prog (.seq (.seq (.ops [.put 54 (.fa 0 (.tm 1)),
    .put 55 (.ld false [.ac] (.tm 54)),
    .put 56 (.lens (.tm 55)),
    .put 57 (.mov (.ct (.one (.int .i64 0))))]) (.block 3 (.loop solve_CheckDiagram.c45))) (.seq (.seq (.ops [.put 86 (.fa 1 (.tm 1)),
    .put 87 (.ld false [.int .i64] (.tm 86)),
    .put 88 (.cm .lt (.tm 87) (.ct (.one (.int .i64 (-2))))),
    .put 89 (.mov (.tm 88)),
    .gput 90 89 false (.fa 1 (.tm 1)),
    .gput 91 89 false (.ld false [.int .i64] (.tm 90)),
    .gput 92 89 false (.fa 0 (.tm 1)),
    .gput 93 89 false (.ld false [.ac] (.tm 92)),
    .gput 94 89 false (.lens (.tm 93)),
    .gput 95 89 false (.cm .ge (.tm 91) (.tm 94)),
    .put 96 (.pick (.tm 89) (.ct (.one (.bool true))) (.tm 95))]) solve_CheckDiagram.c81) (.seq (.ops [.put 97 (.call 41 []),
    .put 9 (.mov (.tm 97))]) (.seq (.seq (.ops [.put 98 (.mov (.tm 9)),
    .put 99 (.mov (.tm 9)),
    .put 100 (.ld true [.ac, .int .i64] (.tm 1)),
    .put 101 (.call 51 [(.tm 99), (.tm 100)]),
    .put 102 (.call 63 [(.tm 98), (.tm 101)]),
    .put 10 (.new 27 [(.sl none 0 0 (some 0)), (.int .i64 0)]),
    .run (.st 2 (.tm 10) (.tm 102))]) (.seq (.ops [.put 103 (.fa 1 (.tm 10)),
    .put 104 (.ld false [.int .i64] (.tm 103)),
    .put 105 (.fa 1 (.tm 1)),
    .put 106 (.ld false [.int .i64] (.tm 105)),
    .put 107 (.cm .ne (.tm 104) (.tm 106)),
    .put 108 (.mov (.tm 107)),
    .gput 109 108 false (.fa 0 (.tm 10)),
    .gput 110 108 false (.ld false [.ac] (.tm 109)),
    .gput 111 108 false (.fa 0 (.tm 1)),
    .gput 112 108 false (.ld false [.ac] (.tm 111)),
    .gput 113 108 false (.call 64 [(.tm 110), (.tm 112)]),
    .gput 114 108 false (.not (.tm 113)),
    .put 115 (.pick (.tm 108) (.ct (.one (.bool true))) (.tm 114))]) solve_CheckDiagram.c93)) (.seq (.ops [.put 2 (.mov (.ct (.one (.int .i64 0))))]) .ret))))) t H (solve_CheckDiagram.K Q)) (solve_CheckDiagram.K Q)
abbrev solve_CheckDiagram.k22 (Q : AHeap → Int → Prop) (X14 : Env → AHeap → Prop) : Ex → Env → AHeap → Prop := kSeq (fun t H => wpC Try.prog (.ops [.put 53 (.ar .add (.tm 18) (.ct (.one (.int .i64 1)))),
    .put 18 (.mov (.tm 53))]) t H (kSeq X14 (kBlk 0 (solve_CheckDiagram.k11 Q)))) (kSeq X14 (kBlk 0 (solve_CheckDiagram.k11 Q)))
abbrev solve_CheckDiagram.k41 (Q : AHeap → Int → Prop) : Ex → Env → AHeap → Prop := kSeq (fun t H => wpC Try.prog (.seq (.seq (.ops [.put 86 (.fa 1 (.tm 1)),
    .put 87 (.ld false [.int .i64] (.tm 86)),
    .put 88 (.cm .lt (.tm 87) (.ct (.one (.int .i64 (-2))))),
    .put 89 (.mov (.tm 88)),
    .gput 90 89 false (.fa 1 (.tm 1)),
    .gput 91 89 false (.ld false [.int .i64] (.tm 90)),
    .gput 92 89 false (.fa 0 (.tm 1)),
    .gput 93 89 false (.ld false [.ac] (.tm 92)),
    .gput 94 89 false (.lens (.tm 93)),
    .gput 95 89 false (.cm .ge (.tm 91) (.tm 94)),
    .put 96 (.pick (.tm 89) (.ct (.one (.bool true))) (.tm 95))]) solve_CheckDiagram.c81) (.seq (.ops [.put 97 (.call 41 []),
    .put 9 (.mov (.tm 97))]) (.seq (.seq (.ops [.put 98 (.mov (.tm 9)),
    .put 99 (.mov (.tm 9)),
    .put 100 (.ld true [.ac, .int .i64] (.tm 1)),
    .put 101 (.call 51 [(.tm 99), (.tm 100)]),
    .put 102 (.call 63 [(.tm 98), (.tm 101)]),
    .put 10 (.new 27 [(.sl none 0 0 (some 0)), (.int .i64 0)]),
    .run (.st 2 (.tm 10) (.tm 102))]) (.seq (.ops [.put 103 (.fa 1 (.tm 10)),
    .put 104 (.ld false [.int .i64] (.tm 103)),
    .put 105 (.fa 1 (.tm 1)),
    .put 106 (.ld false [.int .i64] (.tm 105)),
    .put 107 (.cm .ne (.tm 104) (.tm 106)),
    .put 108 (.mov (.tm 107)),
    .gput 109 108 false (.fa 0 (.tm 10)),
    .gput 110 108 false (.ld false [.ac] (.tm 109)),
    .gput 111 108 false (.fa 0 (.tm 1)),
    .gput 112 108 false (.ld false [.ac] (.tm 111)),
    .gput 113 108 false (.call 64 [(.tm 110), (.tm 112)]),
    .gput 114 108 false (.not (.tm 113)),
    .put 115 (.pick (.tm 108) (.ct (.one (.bool true))) (.tm 114))]) solve_CheckDiagram.c93)) (.seq (.ops [.put 2 (.mov (.ct (.one (.int .i64 0))))]) .ret)))) t H (solve_CheckDiagram.K Q)) (solve_CheckDiagram.K Q)
abbrev solve_CheckDiagram.k52 (Q : AHeap → Int → Prop) (X44 : Env → AHeap → Prop) : Ex → Env → AHeap → Prop := kSeq (fun t H => wpC Try.prog (.ops [.put 85 (.ar .add (.tm 57) (.ct (.one (.int .i64 1)))),
    .put 57 (.mov (.tm 85))]) t H (kSeq X44 (kBlk 3 (solve_CheckDiagram.k41 Q)))) (kSeq X44 (kBlk 3 (solve_CheckDiagram.k41 Q)))
abbrev solve_CheckDiagram.k66 (Q : AHeap → Int → Prop) (X44 : Env → AHeap → Prop) (X58 : Env → AHeap → Prop) : Ex → Env → AHeap → Prop := kSeq (fun t H => wpC Try.prog (.ops [.put 84 (.ar .add (.tm 67) (.ct (.one (.int .i64 1)))),
    .put 67 (.mov (.tm 84))]) t H (kSeq X58 (kBlk 5 (kBlk 4 (solve_CheckDiagram.k52 Q X44))))) (kSeq X58 (kBlk 5 (kBlk 4 (solve_CheckDiagram.k52 Q X44))))
abbrev solve_CheckDiagram.k79 (Q : AHeap → Int → Prop) : Ex → Env → AHeap → Prop := kSeq (fun t H => wpC Try.prog (.seq (.ops [.put 97 (.call 41 []),
    .put 9 (.mov (.tm 97))]) (.seq (.seq (.ops [.put 98 (.mov (.tm 9)),
    .put 99 (.mov (.tm 9)),
    .put 100 (.ld true [.ac, .int .i64] (.tm 1)),
    .put 101 (.call 51 [(.tm 99), (.tm 100)]),
    .put 102 (.call 63 [(.tm 98), (.tm 101)]),
    .put 10 (.new 27 [(.sl none 0 0 (some 0)), (.int .i64 0)]),
    .run (.st 2 (.tm 10) (.tm 102))]) (.seq (.ops [.put 103 (.fa 1 (.tm 10)),
    .put 104 (.ld false [.int .i64] (.tm 103)),
    .put 105 (.fa 1 (.tm 1)),
    .put 106 (.ld false [.int .i64] (.tm 105)),
    .put 107 (.cm .ne (.tm 104) (.tm 106)),
    .put 108 (.mov (.tm 107)),
    .gput 109 108 false (.fa 0 (.tm 10)),
    .gput 110 108 false (.ld false [.ac] (.tm 109)),
    .gput 111 108 false (.fa 0 (.tm 1)),
    .gput 112 108 false (.ld false [.ac] (.tm 111)),
    .gput 113 108 false (.call 64 [(.tm 110), (.tm 112)]),
    .gput 114 108 false (.not (.tm 113)),
    .put 115 (.pick (.tm 108) (.ct (.one (.bool true))) (.tm 114))]) solve_CheckDiagram.c93)) (.seq (.ops [.put 2 (.mov (.ct (.one (.int .i64 0))))]) .ret))) t H (solve_CheckDiagram.K Q)) (solve_CheckDiagram.K Q)
abbrev solve_CheckDiagram.k89 (Q : AHeap → Int → Prop) : Ex → Env → AHeap → Prop := kSeq (fun t H => wpC Try.prog (.seq (.ops [.put 2 (.mov (.ct (.one (.int .i64 0))))]) .ret) t H (solve_CheckDiagram.K Q)) (solve_CheckDiagram.K Q)
def solve_CheckDiagram.R58 (s : Tup [.ac, .ac, .ac, .int .i64, .int .i64, .ac, .int .i64, .int .i64]) (t : Env) : Prop := t 1 = (.one (s.1)) ∧ t 6 = (.one (s.2.1)) ∧ t 55 = (.one (s.2.2.1)) ∧ t 56 = (.one (.int .i64 (s.2.2.2.1))) ∧ t 57 = (.one (.int .i64 (s.2.2.2.2.1))) ∧ t 65 = (.one (s.2.2.2.2.2.1)) ∧ t 66 = (.one (.int .i64 (s.2.2.2.2.2.2.1))) ∧ t 67 = (.one (.int .i64 (s.2.2.2.2.2.2.2.1))) ∧ True
def solve_CheckDiagram.R44 (s : Tup [.ac, .ac, .int .i64, .int .i64]) (t : Env) : Prop := t 1 = (.one (s.1)) ∧ t 55 = (.one (s.2.1)) ∧ t 56 = (.one (.int .i64 (s.2.2.1))) ∧ t 57 = (.one (.int .i64 (s.2.2.2.1))) ∧ True
def solve_CheckDiagram.R14 (s : Tup [.ac, .ac, .int .i64, .int .i64]) (t : Env) : Prop := t 1 = (.one (s.1)) ∧ t 16 = (.one (s.2.1)) ∧ t 17 = (.one (.int .i64 (s.2.2.1))) ∧ t 18 = (.one (.int .i64 (s.2.2.2.1))) ∧ True
def solve_CheckDiagram.p93 (Q : AHeap → Int → Prop) (x115 : Bool) (H : AHeap) : Prop :=
  CondB x115
    (Q H 2)
    (Q H 0)
def solve_CheckDiagram.p81 (Q : AHeap → Int → Prop) (x1 : AC) (x96 : Bool) (H : AHeap) : Prop :=
  CondB x96
    (Q H 2)
    (Fn.solve_newManager  H fun H_1 (v_2 : AC) =>
    Ld [.ac, .int .i64] H_1 x1 fun (v_3 : AC) (v_4 : Int) =>
    Fn.solve_manager_add v_2 v_3 v_4 H_1 fun H_5 (v_6 : Int) =>
    Fn.solve_manager_diagram v_2 v_6 H_5 fun H_7 (v_8 : AC) (v_9 : Int) =>
    New 27 [(.sl none 0 0 (some 0)), (.int .i64 0)] H_7 fun p_10 H_11 =>
    Sto H_11 p_10 [v_8, (.int .i64 v_9)] fun H_12 =>
    FA 1 p_10 fun q_13 =>
    Ld [.int .i64] H_12 q_13 fun (v_14 : Int) =>
    FA 1 x1 fun q_15 =>
    Ld [.int .i64] H_12 q_15 fun (v_16 : Int) =>
    CondB (v_14 != v_16)
      (solve_CheckDiagram.p93 Q true H_12)
      (FA 0 p_10 fun q_17 =>
      Ld [.ac] H_12 q_17 fun (v_18 : AC) =>
      FA 0 x1 fun q_19 =>
      Ld [.ac] H_12 q_19 fun (v_20 : AC) =>
      Fn.slices_Equal_fetterlock_api_Node_fetterlock_api_Node v_18 v_20 H_12 fun H_21 (v_22 : Bool) =>
      solve_CheckDiagram.p93 Q (!v_22) H_21))
def solve_CheckDiagram.p71 (Q : AHeap → Int → Prop) (Y44 : Tup [.ac, .ac, .int .i64, .int .i64] → AHeap → Prop) (Y58 : Tup [.ac, .ac, .ac, .int .i64, .int .i64, .ac, .int .i64, .int .i64] → AHeap → Prop) (x1 : AC) (x6 : AC) (x55 : AC) (x56 : Int) (x57 : Int) (x65 : AC) (x66 : Int) (x67 : Int) (x83 : Bool) (H : AHeap) : Prop :=
  CondB x83
    (Q H 2)
    (Y58 (x1, x6, x55, (x56 : Int), (x57 : Int), x65, (x66 : Int), ((IntKind.wrap .i64 (x67 + 1)) : Int), ()) H)
def solve_CheckDiagram.b58 (Q : AHeap → Int → Prop) (Y44 : Tup [.ac, .ac, .int .i64, .int .i64] → AHeap → Prop) (Y58 : Tup [.ac, .ac, .ac, .int .i64, .int .i64, .ac, .int .i64, .int .i64] → AHeap → Prop) (x1 : AC) (x6 : AC) (x55 : AC) (x56 : Int) (x57 : Int) (x65 : AC) (x66 : Int) (x67 : Int) (H : AHeap) : Prop :=
  CondB (decide (x67 < x66))
    (IA 1 x65 x67 fun q_1 =>
    Ld [.int .i64] H q_1 fun (v_2 : Int) =>
    CondB (decide (v_2 ≥ 0))
      (FA 0 x1 fun q_3 =>
      Ld [.ac] H q_3 fun (v_4 : AC) =>
      IA 3 v_4 v_2 fun q_5 =>
      FA 0 q_5 fun q_6 =>
      Ld [.int .i64] H q_6 fun (v_7 : Int) =>
      FA 0 x6 fun q_8 =>
      Ld [.int .i64] H q_8 fun (v_9 : Int) =>
      solve_CheckDiagram.p71 Q Y44 Y58 x1 x6 x55 x56 x57 x65 x66 x67 (decide (v_7 ≤ v_9)) H)
      (solve_CheckDiagram.p71 Q Y44 Y58 x1 x6 x55 x56 x57 x65 x66 x67 false H))
    (Y44 (x1, x55, (x56 : Int), ((IntKind.wrap .i64 (x57 + 1)) : Int), ()) H)
def solve_CheckDiagram.l58 (Q : AHeap → Int → Prop) (Y44 : Tup [.ac, .ac, .int .i64, .int .i64] → AHeap → Prop) (x1 : AC) (x6 : AC) (x55 : AC) (x56 : Int) (x57 : Int) (x65 : AC) (x66 : Int) (x67 : Int) (H : AHeap) : Prop := LoopT (Tup [.ac, .ac, .ac, .int .i64, .int .i64, .ac, .int .i64, .int .i64]) (fun Y s H => solve_CheckDiagram.b58 Q Y44 Y (s.1) (s.2.1) (s.2.2.1) (s.2.2.2.1) (s.2.2.2.2.1) (s.2.2.2.2.2.1) (s.2.2.2.2.2.2.1) (s.2.2.2.2.2.2.2.1) H) (x1, x6, x55, x56, x57, x65, x66, x67, ()) H
def solve_CheckDiagram.b44 (Q : AHeap → Int → Prop) (Y44 : Tup [.ac, .ac, .int .i64, .int .i64] → AHeap → Prop) (x1 : AC) (x55 : AC) (x56 : Int) (x57 : Int) (H : AHeap) : Prop :=
  CondB (decide (x57 < x56))
    (IA 3 x55 x57 fun q_1 =>
    Ld [.int .i64, .int .i64, .int .i64] H q_1 fun (v_2 : Int) (v_3 : Int) (v_4 : Int) =>
    New 77 [(.int .i64 0), (.int .i64 0), (.int .i64 0)] H fun p_5 H_6 =>
    Sto H_6 p_5 [(.int .i64 v_2), (.int .i64 v_3), (.int .i64 v_4)] fun H_7 =>
    FA 1 p_5 fun q_8 =>
    Ld [.int .i64] H_7 q_8 fun (v_9 : Int) =>
    FA 2 p_5 fun q_10 =>
    Ld [.int .i64] H_7 q_10 fun (v_11 : Int) =>
    NewS 3 1 2 [(.int .i64 v_9), (.int .i64 v_11)] H_7 fun p_12 H_13 =>
    LenS p_12 fun n_14 =>
    solve_CheckDiagram.l58 Q Y44 x1 p_5 x55 x56 x57 p_12 n_14 0 H_13)
    (FA 1 x1 fun q_15 =>
    Ld [.int .i64] H q_15 fun (v_16 : Int) =>
    CondB (decide (v_16 < (-2)))
      (solve_CheckDiagram.p81 Q x1 true H)
      (FA 1 x1 fun q_17 =>
      Ld [.int .i64] H q_17 fun (v_18 : Int) =>
      FA 0 x1 fun q_19 =>
      Ld [.ac] H q_19 fun (v_20 : AC) =>
      LenS v_20 fun n_21 =>
      solve_CheckDiagram.p81 Q x1 (decide (v_18 ≥ n_21)) H))
def solve_CheckDiagram.l44 (Q : AHeap → Int → Prop) (x1 : AC) (x55 : AC) (x56 : Int) (x57 : Int) (H : AHeap) : Prop := LoopT (Tup [.ac, .ac, .int .i64, .int .i64]) (fun Y s H => solve_CheckDiagram.b44 Q Y (s.1) (s.2.1) (s.2.2.1) (s.2.2.2.1) H) (x1, x55, x56, x57, ()) H
def solve_CheckDiagram.p34 (Q : AHeap → Int → Prop) (Y14 : Tup [.ac, .ac, .int .i64, .int .i64] → AHeap → Prop) (x1 : AC) (x16 : AC) (x17 : Int) (x18 : Int) (x32 : Bool) (H : AHeap) : Prop :=
  CondB x32
    (Q H 2)
    (Y14 (x1, x16, (x17 : Int), ((IntKind.wrap .i64 (x18 + 1)) : Int), ()) H)
def solve_CheckDiagram.p28 (Q : AHeap → Int → Prop) (Y14 : Tup [.ac, .ac, .int .i64, .int .i64] → AHeap → Prop) (x1 : AC) (x3 : Int) (x4 : AC) (x16 : AC) (x17 : Int) (x18 : Int) (x23 : Bool) (H : AHeap) : Prop :=
  CondB x23
    (Q H 1)
    (FA 1 x4 fun q_1 =>
    Ld [.int .i64] H q_1 fun (v_2 : Int) =>
    CondB (decide (v_2 < (-2)))
      (solve_CheckDiagram.p34 Q Y14 x1 x16 x17 x18 true H)
      (FA 1 x4 fun q_3 =>
      Ld [.int .i64] H q_3 fun (v_4 : Int) =>
      CondB (decide (v_4 ≥ x3))
        (solve_CheckDiagram.p34 Q Y14 x1 x16 x17 x18 true H)
        (FA 2 x4 fun q_5 =>
        Ld [.int .i64] H q_5 fun (v_6 : Int) =>
        CondB (decide (v_6 < (-2)))
          (solve_CheckDiagram.p34 Q Y14 x1 x16 x17 x18 true H)
          (FA 2 x4 fun q_7 =>
          Ld [.int .i64] H q_7 fun (v_8 : Int) =>
          solve_CheckDiagram.p34 Q Y14 x1 x16 x17 x18 (decide (v_8 ≥ x3)) H))))
def solve_CheckDiagram.b14 (Q : AHeap → Int → Prop) (Y14 : Tup [.ac, .ac, .int .i64, .int .i64] → AHeap → Prop) (x1 : AC) (x16 : AC) (x17 : Int) (x18 : Int) (H : AHeap) : Prop :=
  CondB (decide (x18 < x17))
    (IA 3 x16 x18 fun q_1 =>
    Ld [.int .i64, .int .i64, .int .i64] H q_1 fun (v_2 : Int) (v_3 : Int) (v_4 : Int) =>
    New 77 [(.int .i64 0), (.int .i64 0), (.int .i64 0)] H fun p_5 H_6 =>
    Sto H_6 p_5 [(.int .i64 v_2), (.int .i64 v_3), (.int .i64 v_4)] fun H_7 =>
    FA 0 p_5 fun q_8 =>
    Ld [.int .i64] H_7 q_8 fun (v_9 : Int) =>
    CondB (decide (v_9 < 0))
      (solve_CheckDiagram.p28 Q Y14 x1 x18 p_5 x16 x17 x18 true H_7)
      (FA 0 p_5 fun q_10 =>
      Ld [.int .i64] H_7 q_10 fun (v_11 : Int) =>
      solve_CheckDiagram.p28 Q Y14 x1 x18 p_5 x16 x17 x18 (decide (v_11 ≥ 16)) H_7))
    (FA 0 x1 fun q_12 =>
    Ld [.ac] H q_12 fun (v_13 : AC) =>
    LenS v_13 fun n_14 =>
    solve_CheckDiagram.l44 Q x1 v_13 n_14 0 H)
def solve_CheckDiagram.l14 (Q : AHeap → Int → Prop) (x1 : AC) (x16 : AC) (x17 : Int) (x18 : Int) (H : AHeap) : Prop := LoopT (Tup [.ac, .ac, .int .i64, .int .i64]) (fun Y s H => solve_CheckDiagram.b14 Q Y (s.1) (s.2.1) (s.2.2.1) (s.2.2.2.1) H) (x1, x16, x17, x18, ()) H
def solve_CheckDiagram.W (a0_0 : AC) (a0_1 : Int) (H : AHeap) (Q : AHeap → Int → Prop) : Prop :=
  New 27 [a0_0, (.int .i64 a0_1)] H fun p_1 H_2 =>
  FA 0 p_1 fun q_3 =>
  Ld [.ac] H_2 q_3 fun (v_4 : AC) =>
  LenS v_4 fun n_5 =>
  CondB (decide (n_5 > 2000))
    (Q H_2 3)
    (FA 0 p_1 fun q_6 =>
    Ld [.ac] H_2 q_6 fun (v_7 : AC) =>
    LenS v_7 fun n_8 =>
    solve_CheckDiagram.l14 Q p_1 v_7 n_8 0 H_2)
theorem solve_CheckDiagram.p93_okE (Q : AHeap → Int → Prop) {x115 : Bool} {H : AHeap} (j : Env) : solve_CheckDiagram.p93 Q x115 H → wpC Try.prog solve_CheckDiagram.c93 (upd j 115 (.one (.bool x115))) H (solve_CheckDiagram.k89 Q) := c_if rfl (c_seq (c_ops (s_cons (w_put (o_mov rfl (s_nil (k_seq (c_ret (k_seqR (k_topR (r_one rfl (r_nil (fun h => ⟨((2 : Int), ()), rfl, h⟩))))))))))))) (c_skip (k_seq (c_seq (c_ops (s_cons (w_put (o_mov rfl (s_nil (k_seq (c_ret (k_topR (r_one rfl (r_nil (fun h => ⟨((0 : Int), ()), rfl, h⟩))))))))))))))
theorem solve_CheckDiagram.p93_ok (Q : AHeap → Int → Prop) {x115 : Bool} {H : AHeap} {t : Env} (h115 : t 115 = (.one (.bool x115))) (h : solve_CheckDiagram.p93 Q x115 H) : wpC Try.prog solve_CheckDiagram.c93 t H (solve_CheckDiagram.k89 Q) := by
  have g := solve_CheckDiagram.p93_okE Q t h
  rw [upd_self h115] at g
  exact g
theorem solve_CheckDiagram.p81_okE (Q : AHeap → Int → Prop) {x1 : AC} {x96 : Bool} {H : AHeap} (j : Env) : solve_CheckDiagram.p81 Q x1 x96 H → wpC Try.prog solve_CheckDiagram.c81 (upd (upd j 1 (.one x1)) 96 (.one (.bool x96))) H (solve_CheckDiagram.k79 Q) := c_if rfl (c_seq (c_ops (s_cons (w_put (o_mov rfl (s_nil (k_seq (c_ret (k_seqR (k_topR (r_one rfl (r_nil (fun h => ⟨((2 : Int), ()), rfl, h⟩))))))))))))) (c_skip (k_seq (c_seq (c_ops (s_cons (w_put (o_call rfl (cv_1 (fun H_1 (v_2 : AC) => s_cons (w_put (o_mov rfl (s_nil (k_seq (c_seq (c_seq (c_ops (s_cons (w_put (o_mov rfl (s_cons (w_put (o_mov rfl (s_cons (w_put (o_ld2 rfl (fun (v_3 : AC) (v_4 : Int) => s_cons (w_put (o_call rfl (cv_1 (fun H_5 (v_6 : Int) => s_cons (w_put (o_call rfl (cv_a2 (fun H_7 (v_8 : AC) (v_9 : Int) => s_cons (w_put (o_new (fun p_10 H_11 => s_cons (w_run (o_st rfl rfl rfl (fun H_12 => s_nil (k_seq (c_seq (c_ops (s_cons (w_put (o_fa rfl (fun q_13 => s_cons (w_put (o_ld1 rfl (fun (v_14 : Int) => s_cons (w_put (o_fa rfl (fun q_15 => s_cons (w_put (o_ld1 rfl (fun (v_16 : Int) => s_cons (w_put (o_ne rfl rfl (s_cons (w_put (o_mov rfl (s_cons (w_gputF rfl (s_cons (w_gputN rfl (s_cons (w_gputN rfl (s_cons (w_gputN rfl (s_cons (w_gputN rfl (s_cons (w_gputN rfl (s_cons (w_put (o_pickT rfl rfl (s_nil (k_seq (solve_CheckDiagram.p93_ok Q rfl)))))))))))))))) (o_fa rfl (fun q_17 => s_cons (w_gputY rfl (o_ld1 rfl (fun (v_18 : AC) => s_cons (w_gputY rfl (o_fa rfl (fun q_19 => s_cons (w_gputY rfl (o_ld1 rfl (fun (v_20 : AC) => s_cons (w_gputY rfl (o_call rfl (cv_1 (fun H_21 (v_22 : Bool) => s_cons (w_gputY rfl (o_not rfl (s_cons (w_put (o_pickF rfl rfl (s_nil (k_seq (solve_CheckDiagram.p93_ok Q rfl))))))))))))))))))))))))))))))))))))))))))))))))))))))))))))))))))))))))))))))))))))))
theorem solve_CheckDiagram.p81_ok (Q : AHeap → Int → Prop) {x1 : AC} {x96 : Bool} {H : AHeap} {t : Env} (h1 : t 1 = (.one x1)) (h96 : t 96 = (.one (.bool x96))) (h : solve_CheckDiagram.p81 Q x1 x96 H) : wpC Try.prog solve_CheckDiagram.c81 t H (solve_CheckDiagram.k79 Q) := by
  have g := solve_CheckDiagram.p81_okE Q t h
  rw [upd_self h1] at g
  rw [upd_self h96] at g
  exact g
theorem solve_CheckDiagram.p71_okE (Q : AHeap → Int → Prop) (Y44 : Tup [.ac, .ac, .int .i64, .int .i64] → AHeap → Prop) (X44 : Env → AHeap → Prop) (hX44 : ∀ s t H, solve_CheckDiagram.R44 s t → Y44 s H → X44 t H) (Y58 : Tup [.ac, .ac, .ac, .int .i64, .int .i64, .ac, .int .i64, .int .i64] → AHeap → Prop) (X58 : Env → AHeap → Prop) (hX58 : ∀ s t H, solve_CheckDiagram.R58 s t → Y58 s H → X58 t H) {x1 : AC} {x6 : AC} {x55 : AC} {x56 : Int} {x57 : Int} {x65 : AC} {x66 : Int} {x67 : Int} {x83 : Bool} {H : AHeap} (j : Env) : solve_CheckDiagram.p71 Q Y44 Y58 x1 x6 x55 x56 x57 x65 x66 x67 x83 H → wpC Try.prog solve_CheckDiagram.c71 (upd (upd (upd (upd (upd (upd (upd (upd (upd j 1 (.one x1)) 6 (.one x6)) 55 (.one x55)) 56 (.one (.int .i64 x56))) 57 (.one (.int .i64 x57))) 65 (.one x65)) 66 (.one (.int .i64 x66))) 67 (.one (.int .i64 x67))) 83 (.one (.bool x83))) H (kBlk 6 (solve_CheckDiagram.k66 Q X44 X58)) := c_if rfl (c_seq (c_ops (s_cons (w_put (o_mov rfl (s_nil (k_seq (c_ret (k_blkR (k_seqR (k_seqR (k_blkR (k_blkR (k_seqR (k_seqR (k_blkR (k_seqR (k_topR (r_one rfl (r_nil (fun h => ⟨((2 : Int), ()), rfl, h⟩))))))))))))))))))))) (c_skip (k_blk (k_seq (c_ops (s_cons (w_put (o_add rfl rfl (s_cons (w_put (o_mov rfl (s_nil (k_seq (hX58 _ _ _ ⟨rfl, rfl, rfl, rfl, rfl, rfl, rfl, rfl, trivial⟩)))))))))))))
theorem solve_CheckDiagram.p71_ok (Q : AHeap → Int → Prop) (Y44 : Tup [.ac, .ac, .int .i64, .int .i64] → AHeap → Prop) (X44 : Env → AHeap → Prop) (hX44 : ∀ s t H, solve_CheckDiagram.R44 s t → Y44 s H → X44 t H) (Y58 : Tup [.ac, .ac, .ac, .int .i64, .int .i64, .ac, .int .i64, .int .i64] → AHeap → Prop) (X58 : Env → AHeap → Prop) (hX58 : ∀ s t H, solve_CheckDiagram.R58 s t → Y58 s H → X58 t H) {x1 : AC} {x6 : AC} {x55 : AC} {x56 : Int} {x57 : Int} {x65 : AC} {x66 : Int} {x67 : Int} {x83 : Bool} {H : AHeap} {t : Env} (h1 : t 1 = (.one x1)) (h6 : t 6 = (.one x6)) (h55 : t 55 = (.one x55)) (h56 : t 56 = (.one (.int .i64 x56))) (h57 : t 57 = (.one (.int .i64 x57))) (h65 : t 65 = (.one x65)) (h66 : t 66 = (.one (.int .i64 x66))) (h67 : t 67 = (.one (.int .i64 x67))) (h83 : t 83 = (.one (.bool x83))) (h : solve_CheckDiagram.p71 Q Y44 Y58 x1 x6 x55 x56 x57 x65 x66 x67 x83 H) : wpC Try.prog solve_CheckDiagram.c71 t H (kBlk 6 (solve_CheckDiagram.k66 Q X44 X58)) := by
  have g := solve_CheckDiagram.p71_okE Q Y44 X44 hX44 Y58 X58 hX58 t h
  rw [upd_self h1] at g
  rw [upd_self h6] at g
  rw [upd_self h55] at g
  rw [upd_self h56] at g
  rw [upd_self h57] at g
  rw [upd_self h65] at g
  rw [upd_self h66] at g
  rw [upd_self h67] at g
  rw [upd_self h83] at g
  exact g
theorem solve_CheckDiagram.b58_ok (Q : AHeap → Int → Prop) (Y44 : Tup [.ac, .ac, .int .i64, .int .i64] → AHeap → Prop) (X44 : Env → AHeap → Prop) (hX44 : ∀ s t H, solve_CheckDiagram.R44 s t → Y44 s H → X44 t H) (Y58 : Tup [.ac, .ac, .ac, .int .i64, .int .i64, .ac, .int .i64, .int .i64] → AHeap → Prop) (X58 : Env → AHeap → Prop) (hX58 : ∀ s t H, solve_CheckDiagram.R58 s t → Y58 s H → X58 t H) {x1 : AC} {x6 : AC} {x55 : AC} {x56 : Int} {x57 : Int} {x65 : AC} {x66 : Int} {x67 : Int} {H : AHeap} (j : Env) : solve_CheckDiagram.b58 Q Y44 Y58 x1 x6 x55 x56 x57 x65 x66 x67 H → wpC Try.prog solve_CheckDiagram.c59 (upd (upd (upd (upd (upd (upd (upd (upd j 1 (.one x1)) 6 (.one x6)) 55 (.one x55)) 56 (.one (.int .i64 x56))) 57 (.one (.int .i64 x57))) 65 (.one x65)) 66 (.one (.int .i64 x66))) 67 (.one (.int .i64 x67))) H (kSeq X58 (kBlk 5 (kBlk 4 (solve_CheckDiagram.k52 Q X44)))) := c_seq (c_ops (s_cons (w_put (o_lt rfl rfl (s_nil (k_seq (c_seq (c_if rfl (c_skip (k_seq (c_seq (c_blk (c_seq (c_ops (s_cons (w_put (o_ia rfl rfl (fun q_1 => s_cons (w_put (o_ld1 rfl (fun (v_2 : Int) => s_cons (w_put (o_mov rfl (s_nil (k_seq (c_seq (c_ops (s_cons (w_put (o_mov rfl (s_cons (w_put (o_ge rfl rfl (s_cons (w_put (o_mov rfl (s_cons (w_gputT rfl (o_fa rfl (fun q_3 => s_cons (w_gputY rfl (o_ld1 rfl (fun (v_4 : AC) => s_cons (w_gputY rfl (o_mov rfl (s_cons (w_gputY rfl (o_ia rfl rfl (fun q_5 => s_cons (w_gputY rfl (o_fa rfl (fun q_6 => s_cons (w_gputY rfl (o_ld1 rfl (fun (v_7 : Int) => s_cons (w_gputY rfl (o_fa rfl (fun q_8 => s_cons (w_gputY rfl (o_ld1 rfl (fun (v_9 : Int) => s_cons (w_gputY rfl (o_le rfl rfl (s_cons (w_put (o_pickT rfl rfl (s_nil (k_seq (solve_CheckDiagram.p71_ok Q Y44 X44 hX44 Y58 X58 hX58 rfl rfl rfl rfl rfl rfl rfl rfl rfl))))))))))))))))))))))))))))))) (s_cons (w_gputN rfl (s_cons (w_gputN rfl (s_cons (w_gputN rfl (s_cons (w_gputN rfl (s_cons (w_gputN rfl (s_cons (w_gputN rfl (s_cons (w_gputN rfl (s_cons (w_gputN rfl (s_cons (w_put (o_pickF rfl rfl (s_nil (k_seq (solve_CheckDiagram.p71_ok Q Y44 X44 hX44 Y58 X58 hX58 rfl rfl rfl rfl rfl rfl rfl rfl rfl)))))))))))))))))))))))))))))))))))))))))))))))))))) (c_exit (k_seqE (k_seqE (k_blkH (k_blk (k_seq (c_ops (s_cons (w_put (o_add rfl rfl (s_cons (w_put (o_mov rfl (s_nil (k_seq (hX44 _ _ _ ⟨rfl, rfl, rfl, rfl, trivial⟩))))))))))))))))))))))))
theorem solve_CheckDiagram.l58_ok (Q : AHeap → Int → Prop) (Y44 : Tup [.ac, .ac, .int .i64, .int .i64] → AHeap → Prop) (X44 : Env → AHeap → Prop) (hX44 : ∀ s t H, solve_CheckDiagram.R44 s t → Y44 s H → X44 t H) {x1 : AC} {x6 : AC} {x55 : AC} {x56 : Int} {x57 : Int} {x65 : AC} {x66 : Int} {x67 : Int} {H : AHeap} {t : Env} (h1 : t 1 = (.one x1)) (h6 : t 6 = (.one x6)) (h55 : t 55 = (.one x55)) (h56 : t 56 = (.one (.int .i64 x56))) (h57 : t 57 = (.one (.int .i64 x57))) (h65 : t 65 = (.one x65)) (h66 : t 66 = (.one (.int .i64 x66))) (h67 : t 67 = (.one (.int .i64 x67))) : solve_CheckDiagram.l58 Q Y44 x1 x6 x55 x56 x57 x65 x66 x67 H → wpC Try.prog (.loop solve_CheckDiagram.c59) t H (kBlk 5 (kBlk 4 (solve_CheckDiagram.k52 Q X44))) :=
  m_loop solve_CheckDiagram.R58 ⟨h1, h6, h55, h56, h57, h65, h66, h67, trivial⟩ fun X Y hX s t H hR hB => by
    have g := solve_CheckDiagram.b58_ok Q Y44 X44 hX44 Y X hX t hB
    rw [upd_self hR.1] at g
    rw [upd_self hR.2.1] at g
    rw [upd_self hR.2.2.1] at g
    rw [upd_self hR.2.2.2.1] at g
    rw [upd_self hR.2.2.2.2.1] at g
    rw [upd_self hR.2.2.2.2.2.1] at g
    rw [upd_self hR.2.2.2.2.2.2.1] at g
    rw [upd_self hR.2.2.2.2.2.2.2.1] at g
    exact g
theorem solve_CheckDiagram.b44_ok (Q : AHeap → Int → Prop) (Y44 : Tup [.ac, .ac, .int .i64, .int .i64] → AHeap → Prop) (X44 : Env → AHeap → Prop) (hX44 : ∀ s t H, solve_CheckDiagram.R44 s t → Y44 s H → X44 t H) {x1 : AC} {x55 : AC} {x56 : Int} {x57 : Int} {H : AHeap} (j : Env) : solve_CheckDiagram.b44 Q Y44 x1 x55 x56 x57 H → wpC Try.prog solve_CheckDiagram.c45 (upd (upd (upd (upd j 1 (.one x1)) 55 (.one x55)) 56 (.one (.int .i64 x56))) 57 (.one (.int .i64 x57))) H (kSeq X44 (kBlk 3 (solve_CheckDiagram.k41 Q))) := c_seq (c_ops (s_cons (w_put (o_lt rfl rfl (s_nil (k_seq (c_seq (c_if rfl (c_skip (k_seq (c_seq (c_blk (c_seq (c_ops (s_cons (w_put (o_ia rfl rfl (fun q_1 => s_cons (w_put (o_ld3 rfl (fun (v_2 : Int) (v_3 : Int) (v_4 : Int) => s_cons (w_put (o_new (fun p_5 H_6 => s_cons (w_run (o_st rfl rfl rfl (fun H_7 => s_nil (k_seq (c_seq (c_ops (s_cons (w_put (o_fa rfl (fun q_8 => s_cons (w_put (o_ld1 rfl (fun (v_9 : Int) => s_cons (w_put (o_fa rfl (fun q_10 => s_cons (w_put (o_ld1 rfl (fun (v_11 : Int) => s_cons (w_put (o_blds rfl (fun p_12 H_13 => s_cons (w_put (o_lens rfl (fun n_14 => s_cons (w_put (o_mov rfl (s_nil (k_seq (c_blk (solve_CheckDiagram.l58_ok Q Y44 X44 hX44 rfl rfl rfl rfl rfl rfl rfl rfl))))))))))))))))))))))))))))))))))))))))))))))) (c_exit (k_seqE (k_seqE (k_blkH (k_seq (c_seq (c_seq (c_ops (s_cons (w_put (o_fa rfl (fun q_15 => s_cons (w_put (o_ld1 rfl (fun (v_16 : Int) => s_cons (w_put (o_lt rfl rfl (s_cons (w_put (o_mov rfl (s_cons (w_gputF rfl (s_cons (w_gputN rfl (s_cons (w_gputN rfl (s_cons (w_gputN rfl (s_cons (w_gputN rfl (s_cons (w_gputN rfl (s_cons (w_put (o_pickT rfl rfl (s_nil (k_seq (solve_CheckDiagram.p81_ok Q rfl rfl)))))))))))))))) (o_fa rfl (fun q_17 => s_cons (w_gputY rfl (o_ld1 rfl (fun (v_18 : Int) => s_cons (w_gputY rfl (o_fa rfl (fun q_19 => s_cons (w_gputY rfl (o_ld1 rfl (fun (v_20 : AC) => s_cons (w_gputY rfl (o_lens rfl (fun n_21 => s_cons (w_gputY rfl (o_ge rfl rfl (s_cons (w_put (o_pickF rfl rfl (s_nil (k_seq (solve_CheckDiagram.p81_ok Q rfl rfl))))))))))))))))))))))))))))))))))))))))))))))))))))
theorem solve_CheckDiagram.l44_ok (Q : AHeap → Int → Prop) {x1 : AC} {x55 : AC} {x56 : Int} {x57 : Int} {H : AHeap} {t : Env} (h1 : t 1 = (.one x1)) (h55 : t 55 = (.one x55)) (h56 : t 56 = (.one (.int .i64 x56))) (h57 : t 57 = (.one (.int .i64 x57))) : solve_CheckDiagram.l44 Q x1 x55 x56 x57 H → wpC Try.prog (.loop solve_CheckDiagram.c45) t H (kBlk 3 (solve_CheckDiagram.k41 Q)) :=
  m_loop solve_CheckDiagram.R44 ⟨h1, h55, h56, h57, trivial⟩ fun X Y hX s t H hR hB => by
    have g := solve_CheckDiagram.b44_ok Q Y X hX t hB
    rw [upd_self hR.1] at g
    rw [upd_self hR.2.1] at g
    rw [upd_self hR.2.2.1] at g
    rw [upd_self hR.2.2.2.1] at g
    exact g
theorem solve_CheckDiagram.p34_okE (Q : AHeap → Int → Prop) (Y14 : Tup [.ac, .ac, .int .i64, .int .i64] → AHeap → Prop) (X14 : Env → AHeap → Prop) (hX14 : ∀ s t H, solve_CheckDiagram.R14 s t → Y14 s H → X14 t H) {x1 : AC} {x16 : AC} {x17 : Int} {x18 : Int} {x32 : Bool} {H : AHeap} (j : Env) : solve_CheckDiagram.p34 Q Y14 x1 x16 x17 x18 x32 H → wpC Try.prog solve_CheckDiagram.c34 (upd (upd (upd (upd (upd j 1 (.one x1)) 16 (.one x16)) 17 (.one (.int .i64 x17))) 18 (.one (.int .i64 x18))) 32 (.one (.bool x32))) H (kBlk 2 (kBlk 1 (solve_CheckDiagram.k22 Q X14))) := c_if rfl (c_seq (c_ops (s_cons (w_put (o_mov rfl (s_nil (k_seq (c_ret (k_blkR (k_blkR (k_seqR (k_seqR (k_blkR (k_seqR (k_topR (r_one rfl (r_nil (fun h => ⟨((2 : Int), ()), rfl, h⟩)))))))))))))))))) (c_skip (k_blk (k_blk (k_seq (c_ops (s_cons (w_put (o_add rfl rfl (s_cons (w_put (o_mov rfl (s_nil (k_seq (hX14 _ _ _ ⟨rfl, rfl, rfl, rfl, trivial⟩))))))))))))))
theorem solve_CheckDiagram.p34_ok (Q : AHeap → Int → Prop) (Y14 : Tup [.ac, .ac, .int .i64, .int .i64] → AHeap → Prop) (X14 : Env → AHeap → Prop) (hX14 : ∀ s t H, solve_CheckDiagram.R14 s t → Y14 s H → X14 t H) {x1 : AC} {x16 : AC} {x17 : Int} {x18 : Int} {x32 : Bool} {H : AHeap} {t : Env} (h1 : t 1 = (.one x1)) (h16 : t 16 = (.one x16)) (h17 : t 17 = (.one (.int .i64 x17))) (h18 : t 18 = (.one (.int .i64 x18))) (h32 : t 32 = (.one (.bool x32))) (h : solve_CheckDiagram.p34 Q Y14 x1 x16 x17 x18 x32 H) : wpC Try.prog solve_CheckDiagram.c34 t H (kBlk 2 (kBlk 1 (solve_CheckDiagram.k22 Q X14))) := by
  have g := solve_CheckDiagram.p34_okE Q Y14 X14 hX14 t h
  rw [upd_self h1] at g
  rw [upd_self h16] at g
  rw [upd_self h17] at g
  rw [upd_self h18] at g
  rw [upd_self h32] at g
  exact g
theorem solve_CheckDiagram.p28_okE (Q : AHeap → Int → Prop) (Y14 : Tup [.ac, .ac, .int .i64, .int .i64] → AHeap → Prop) (X14 : Env → AHeap → Prop) (hX14 : ∀ s t H, solve_CheckDiagram.R14 s t → Y14 s H → X14 t H) {x1 : AC} {x3 : Int} {x4 : AC} {x16 : AC} {x17 : Int} {x18 : Int} {x23 : Bool} {H : AHeap} (j : Env) : solve_CheckDiagram.p28 Q Y14 x1 x3 x4 x16 x17 x18 x23 H → wpC Try.prog solve_CheckDiagram.c28 (upd (upd (upd (upd (upd (upd (upd j 1 (.one x1)) 3 (.one (.int .i64 x3))) 4 (.one x4)) 16 (.one x16)) 17 (.one (.int .i64 x17))) 18 (.one (.int .i64 x18))) 23 (.one (.bool x23))) H (kBlk 2 (kBlk 1 (solve_CheckDiagram.k22 Q X14))) := c_if rfl (c_seq (c_ops (s_cons (w_put (o_mov rfl (s_nil (k_seq (c_ret (k_blkR (k_blkR (k_seqR (k_seqR (k_blkR (k_seqR (k_topR (r_one rfl (r_nil (fun h => ⟨((1 : Int), ()), rfl, h⟩)))))))))))))))))) (c_seq (c_ops (s_cons (w_put (o_fa rfl (fun q_1 => s_cons (w_put (o_ld1 rfl (fun (v_2 : Int) => s_cons (w_put (o_lt rfl rfl (s_cons (w_put (o_mov rfl (s_cons (w_gputF rfl (s_cons (w_gputN rfl (s_cons (w_gputN rfl (s_cons (w_gputN rfl (s_cons (w_put (o_pickT rfl rfl (s_cons (w_put (o_mov rfl (s_cons (w_gputN rfl (s_cons (w_gputN rfl (s_cons (w_gputN rfl (s_cons (w_put (o_pickT rfl rfl (s_cons (w_put (o_mov rfl (s_cons (w_gputN rfl (s_cons (w_gputN rfl (s_cons (w_gputN rfl (s_cons (w_gputN rfl (s_cons (w_put (o_pickT rfl rfl (s_cons (w_put (o_mov rfl (s_nil (k_seq (solve_CheckDiagram.p34_ok Q Y14 X14 hX14 rfl rfl rfl rfl rfl))))))))))))))))))))))))))))))))))))))))) (o_fa rfl (fun q_3 => s_cons (w_gputY rfl (o_ld1 rfl (fun (v_4 : Int) => s_cons (w_gputY rfl (o_mov rfl (s_cons (w_gputY rfl (o_ge rfl rfl (s_cons (w_put (o_pickF rfl rfl (s_cons (w_put (o_mov rfl (s_cons (w_gputF rfl (s_cons (w_gputN rfl (s_cons (w_gputN rfl (s_cons (w_put (o_pickT rfl rfl (s_cons (w_put (o_mov rfl (s_cons (w_gputN rfl (s_cons (w_gputN rfl (s_cons (w_gputN rfl (s_cons (w_gputN rfl (s_cons (w_put (o_pickT rfl rfl (s_cons (w_put (o_mov rfl (s_nil (k_seq (solve_CheckDiagram.p34_ok Q Y14 X14 hX14 rfl rfl rfl rfl rfl))))))))))))))))))))))))))) (o_fa rfl (fun q_5 => s_cons (w_gputY rfl (o_ld1 rfl (fun (v_6 : Int) => s_cons (w_gputY rfl (o_lt rfl rfl (s_cons (w_put (o_pickF rfl rfl (s_cons (w_put (o_mov rfl (s_cons (w_gputF rfl (s_cons (w_gputN rfl (s_cons (w_gputN rfl (s_cons (w_gputN rfl (s_cons (w_put (o_pickT rfl rfl (s_cons (w_put (o_mov rfl (s_nil (k_seq (solve_CheckDiagram.p34_ok Q Y14 X14 hX14 rfl rfl rfl rfl rfl))))))))))))))) (o_fa rfl (fun q_7 => s_cons (w_gputY rfl (o_ld1 rfl (fun (v_8 : Int) => s_cons (w_gputY rfl (o_mov rfl (s_cons (w_gputY rfl (o_ge rfl rfl (s_cons (w_put (o_pickF rfl rfl (s_cons (w_put (o_mov rfl (s_nil (k_seq (solve_CheckDiagram.p34_ok Q Y14 X14 hX14 rfl rfl rfl rfl rfl))))))))))))))))))))))))))))))))))))))))))))))))))))))))))))))))))))
theorem solve_CheckDiagram.p28_ok (Q : AHeap → Int → Prop) (Y14 : Tup [.ac, .ac, .int .i64, .int .i64] → AHeap → Prop) (X14 : Env → AHeap → Prop) (hX14 : ∀ s t H, solve_CheckDiagram.R14 s t → Y14 s H → X14 t H) {x1 : AC} {x3 : Int} {x4 : AC} {x16 : AC} {x17 : Int} {x18 : Int} {x23 : Bool} {H : AHeap} {t : Env} (h1 : t 1 = (.one x1)) (h3 : t 3 = (.one (.int .i64 x3))) (h4 : t 4 = (.one x4)) (h16 : t 16 = (.one x16)) (h17 : t 17 = (.one (.int .i64 x17))) (h18 : t 18 = (.one (.int .i64 x18))) (h23 : t 23 = (.one (.bool x23))) (h : solve_CheckDiagram.p28 Q Y14 x1 x3 x4 x16 x17 x18 x23 H) : wpC Try.prog solve_CheckDiagram.c28 t H (kBlk 2 (kBlk 1 (solve_CheckDiagram.k22 Q X14))) := by
  have g := solve_CheckDiagram.p28_okE Q Y14 X14 hX14 t h
  rw [upd_self h1] at g
  rw [upd_self h3] at g
  rw [upd_self h4] at g
  rw [upd_self h16] at g
  rw [upd_self h17] at g
  rw [upd_self h18] at g
  rw [upd_self h23] at g
  exact g
theorem solve_CheckDiagram.b14_ok (Q : AHeap → Int → Prop) (Y14 : Tup [.ac, .ac, .int .i64, .int .i64] → AHeap → Prop) (X14 : Env → AHeap → Prop) (hX14 : ∀ s t H, solve_CheckDiagram.R14 s t → Y14 s H → X14 t H) {x1 : AC} {x16 : AC} {x17 : Int} {x18 : Int} {H : AHeap} (j : Env) : solve_CheckDiagram.b14 Q Y14 x1 x16 x17 x18 H → wpC Try.prog solve_CheckDiagram.c15 (upd (upd (upd (upd j 1 (.one x1)) 16 (.one x16)) 17 (.one (.int .i64 x17))) 18 (.one (.int .i64 x18))) H (kSeq X14 (kBlk 0 (solve_CheckDiagram.k11 Q))) := c_seq (c_ops (s_cons (w_put (o_lt rfl rfl (s_nil (k_seq (c_seq (c_if rfl (c_skip (k_seq (c_seq (c_blk (c_seq (c_ops (s_cons (w_put (o_mov rfl (s_cons (w_put (o_ia rfl rfl (fun q_1 => s_cons (w_put (o_ld3 rfl (fun (v_2 : Int) (v_3 : Int) (v_4 : Int) => s_cons (w_put (o_new (fun p_5 H_6 => s_cons (w_put (o_mov rfl (s_cons (w_run (o_st rfl rfl rfl (fun H_7 => s_nil (k_seq (c_blk (c_seq (c_ops (s_cons (w_put (o_fa rfl (fun q_8 => s_cons (w_put (o_ld1 rfl (fun (v_9 : Int) => s_cons (w_put (o_lt rfl rfl (s_cons (w_put (o_mov rfl (s_cons (w_gputF rfl (s_cons (w_gputN rfl (s_cons (w_gputN rfl (s_cons (w_put (o_pickT rfl rfl (s_cons (w_put (o_mov rfl (s_nil (k_seq (solve_CheckDiagram.p28_ok Q Y14 X14 hX14 rfl rfl rfl rfl rfl rfl rfl))))))))))))) (o_fa rfl (fun q_10 => s_cons (w_gputY rfl (o_ld1 rfl (fun (v_11 : Int) => s_cons (w_gputY rfl (o_ge rfl rfl (s_cons (w_put (o_pickF rfl rfl (s_cons (w_put (o_mov rfl (s_nil (k_seq (solve_CheckDiagram.p28_ok Q Y14 X14 hX14 rfl rfl rfl rfl rfl rfl rfl))))))))))))))))))))))))))))))))))))))))))))))))))))))))))) (c_exit (k_seqE (k_seqE (k_blkH (k_seq (c_seq (c_seq (c_ops (s_cons (w_put (o_fa rfl (fun q_12 => s_cons (w_put (o_ld1 rfl (fun (v_13 : AC) => s_cons (w_put (o_lens rfl (fun n_14 => s_cons (w_put (o_mov rfl (s_nil (k_seq (c_blk (solve_CheckDiagram.l44_ok Q rfl rfl rfl rfl))))))))))))))))))))))))))))))))
theorem solve_CheckDiagram.l14_ok (Q : AHeap → Int → Prop) {x1 : AC} {x16 : AC} {x17 : Int} {x18 : Int} {H : AHeap} {t : Env} (h1 : t 1 = (.one x1)) (h16 : t 16 = (.one x16)) (h17 : t 17 = (.one (.int .i64 x17))) (h18 : t 18 = (.one (.int .i64 x18))) : solve_CheckDiagram.l14 Q x1 x16 x17 x18 H → wpC Try.prog (.loop solve_CheckDiagram.c15) t H (kBlk 0 (solve_CheckDiagram.k11 Q)) :=
  m_loop solve_CheckDiagram.R14 ⟨h1, h16, h17, h18, trivial⟩ fun X Y hX s t H hR hB => by
    have g := solve_CheckDiagram.b14_ok Q Y X hX t hB
    rw [upd_self hR.1] at g
    rw [upd_self hR.2.1] at g
    rw [upd_self hR.2.2.1] at g
    rw [upd_self hR.2.2.2.1] at g
    exact g
theorem solve_CheckDiagram.ok {a0_0 : AC} {a0_1 : Int} {H : AHeap} (Q : AHeap → Int → Prop) : solve_CheckDiagram.W a0_0 a0_1 H Q → wpF Try.prog solve_CheckDiagram.c [.tm 2] (envOf [(.agg [a0_0, (.int .i64 a0_1)])]) H (solve_CheckDiagram.KQ Q) := c_seq (c_ops (s_cons (w_put (o_box rfl (fun p_1 H_2 => s_cons (w_put (o_mov rfl (s_nil (k_seq (c_seq (c_seq (c_ops (s_cons (w_put (o_fa rfl (fun q_3 => s_cons (w_put (o_ld1 rfl (fun (v_4 : AC) => s_cons (w_put (o_lens rfl (fun n_5 => s_cons (w_put (o_gt rfl rfl (s_nil (k_seq (c_if rfl (c_seq (c_ops (s_cons (w_put (o_mov rfl (s_nil (k_seq (c_ret (k_seqR (k_topR (r_one rfl (r_nil (fun h => ⟨((3 : Int), ()), rfl, h⟩))))))))))))) (c_skip (k_seq (c_seq (c_seq (c_ops (s_cons (w_put (o_fa rfl (fun q_6 => s_cons (w_put (o_ld1 rfl (fun (v_7 : AC) => s_cons (w_put (o_lens rfl (fun n_8 => s_cons (w_put (o_mov rfl (s_nil (k_seq (c_blk (solve_CheckDiagram.l14_ok Q rfl rfl rfl rfl))))))))))))))))))))))))))))))))))))))))))))))))
theorem solve_CheckDiagram.slimOk : slimOk [(17, [])] (Try.f31.body.getD .skip) = true := by kernel_rfl
theorem solve_CheckDiagram.resC : resC Try.prog aggs Try.f31.ntmps (slim [(17, [])] (Try.f31.body.getD .skip)) = some solve_CheckDiagram.c := by kernel_rfl
theorem solve_CheckDiagram.resR : resR Try.prog Try.f31.results.toList = some [.tm 2] := by kernel_rfl
theorem solve_CheckDiagram.bodyEq : Try.f31.body = some (Try.f31.body.getD .skip) := by kernel_rfl
theorem solve_CheckDiagram.run {a0_0 : AC} {a0_1 : Int} {H : AHeap} {Q : AHeap → Int → Prop} (h : solve_CheckDiagram.W a0_0 a0_1 H Q) : Fn.solve_CheckDiagram a0_0 a0_1 H Q := by
  unfold Fn.solve_CheckDiagram RunT
  exact run_of aggs_ok [(17, [])] rfl Try.func31 solve_CheckDiagram.bodyEq solve_CheckDiagram.slimOk solve_CheckDiagram.resC solve_CheckDiagram.resR (Nat.le_of_ble_eq_true (by kernel_rfl)) (solve_CheckDiagram.ok Q h)

def fetterlocklaw6_sameInts.c15 : RC := (.seq (.seq (.ops [.put 11 (.mov (.tm 5)),
    .put 12 (.mov (.tm 0)),
    .put 13 (.lens (.tm 12)),
    .put 14 (.cm .lt (.tm 11) (.tm 13))]) (.cond 14 .skip (.exit 0))) (.seq (.block 1 (.seq (.ops [.put 17 (.mov (.tm 0)),
    .put 18 (.mov (.tm 5)),
    .put 19 (.ia 1 (.tm 17) (.tm 18)),
    .put 20 (.ld false [.int .i64] (.tm 19)),
    .put 21 (.mov (.tm 1)),
    .put 22 (.mov (.tm 5)),
    .put 23 (.ia 1 (.tm 21) (.tm 22)),
    .put 24 (.ld false [.int .i64] (.tm 23)),
    .put 25 (.cm .ne (.tm 20) (.tm 24))]) (.cond 25 (.seq (.ops [.put 4 (.mov (.ct (.one (.bool false))))]) .ret) .skip))) (.ops [.put 15 (.mov (.tm 5)),
    .put 16 (.ar .add (.tm 15) (.ct (.one (.int .i64 1)))),
    .put 5 (.mov (.tm 16))])))
def fetterlocklaw6_sameInts.c : RC := (.seq (.ops [.put 4 (.mov (.ct (.one (.bool false))))]) (.seq (.seq (.ops [.put 6 (.mov (.tm 0)),
    .put 7 (.lens (.tm 6)),
    .put 8 (.mov (.tm 1)),
    .put 9 (.lens (.tm 8)),
    .put 10 (.cm .ne (.tm 7) (.tm 9))]) (.cond 10 (.seq (.ops [.put 4 (.mov (.ct (.one (.bool false))))]) .ret) .skip)) (.seq (.seq (.ops [.put 5 (.mov (.ct (.one (.int .i64 0))))]) (.block 0 (.loop fetterlocklaw6_sameInts.c15))) (.seq (.ops [.put 4 (.mov (.ct (.one (.bool true))))]) .ret))))
abbrev fetterlocklaw6_sameInts.KQ (Q : AHeap → Bool → Prop) : AV → AHeap → Prop := fun v H => ∃ xs : Tup (flat [(false, [.bool])]), v = joinR (splitP [(false, [.bool])] (cellsOf (flat [(false, [.bool])]) xs)) ∧ app (flat [(false, [.bool])]) (Q H) xs
abbrev fetterlocklaw6_sameInts.K (Q : AHeap → Bool → Prop) : Ex → Env → AHeap → Prop := kTop [.tm 4] (fetterlocklaw6_sameInts.KQ Q)
abbrev fetterlocklaw6_sameInts.k11 (Q : AHeap → Bool → Prop) : Ex → Env → AHeap → Prop := kSeq (fun t H => wpC Try.prog (.seq (.ops [.put 4 (.mov (.ct (.one (.bool true))))]) .ret) t H (fetterlocklaw6_sameInts.K Q)) (fetterlocklaw6_sameInts.K Q)
def fetterlocklaw6_sameInts.R14 (s : Tup [.ac, .ac, .int .i64]) (t : Env) : Prop := t 0 = (.one (s.1)) ∧ t 1 = (.one (s.2.1)) ∧ t 5 = (.one (.int .i64 (s.2.2.1))) ∧ True
def fetterlocklaw6_sameInts.b14 (Q : AHeap → Bool → Prop) (Y14 : Tup [.ac, .ac, .int .i64] → AHeap → Prop) (x0 : AC) (x1 : AC) (x5 : Int) (H : AHeap) : Prop :=
  LenS x0 fun n_1 =>
  CondB (decide (x5 < n_1))
    (IA 1 x0 x5 fun q_2 =>
    Ld [.int .i64] H q_2 fun (v_3 : Int) =>
    IA 1 x1 x5 fun q_4 =>
    Ld [.int .i64] H q_4 fun (v_5 : Int) =>
    CondB (v_3 != v_5)
      (Q H false)
      (Y14 (x0, x1, ((IntKind.wrap .i64 (x5 + 1)) : Int), ()) H))
    (Q H true)
def fetterlocklaw6_sameInts.l14 (Q : AHeap → Bool → Prop) (x0 : AC) (x1 : AC) (x5 : Int) (H : AHeap) : Prop := LoopT (Tup [.ac, .ac, .int .i64]) (fun Y s H => fetterlocklaw6_sameInts.b14 Q Y (s.1) (s.2.1) (s.2.2.1) H) (x0, x1, x5, ()) H
def fetterlocklaw6_sameInts.W (a0 : AC) (a1 : AC) (H : AHeap) (Q : AHeap → Bool → Prop) : Prop :=
  LenS a0 fun n_1 =>
  LenS a1 fun n_2 =>
  CondB (n_1 != n_2)
    (Q H false)
    (fetterlocklaw6_sameInts.l14 Q a0 a1 0 H)
theorem fetterlocklaw6_sameInts.b14_ok (Q : AHeap → Bool → Prop) (Y14 : Tup [.ac, .ac, .int .i64] → AHeap → Prop) (X14 : Env → AHeap → Prop) (hX14 : ∀ s t H, fetterlocklaw6_sameInts.R14 s t → Y14 s H → X14 t H) {x0 : AC} {x1 : AC} {x5 : Int} {H : AHeap} (j : Env) : fetterlocklaw6_sameInts.b14 Q Y14 x0 x1 x5 H → wpC Try.prog fetterlocklaw6_sameInts.c15 (upd (upd (upd j 0 (.one x0)) 1 (.one x1)) 5 (.one (.int .i64 x5))) H (kSeq X14 (kBlk 0 (fetterlocklaw6_sameInts.k11 Q))) := c_seq (c_seq (c_ops (s_cons (w_put (o_mov rfl (s_cons (w_put (o_mov rfl (s_cons (w_put (o_lens rfl (fun n_1 => s_cons (w_put (o_lt rfl rfl (s_nil (k_seq (c_if rfl (c_skip (k_seq (c_seq (c_blk (c_seq (c_ops (s_cons (w_put (o_mov rfl (s_cons (w_put (o_mov rfl (s_cons (w_put (o_ia rfl rfl (fun q_2 => s_cons (w_put (o_ld1 rfl (fun (v_3 : Int) => s_cons (w_put (o_mov rfl (s_cons (w_put (o_mov rfl (s_cons (w_put (o_ia rfl rfl (fun q_4 => s_cons (w_put (o_ld1 rfl (fun (v_5 : Int) => s_cons (w_put (o_ne rfl rfl (s_nil (k_seq (c_if rfl (c_seq (c_ops (s_cons (w_put (o_mov rfl (s_nil (k_seq (c_ret (k_blkR (k_seqR (k_seqR (k_blkR (k_seqR (k_topR (r_one rfl (r_nil (fun h => ⟨((false : Bool), ()), rfl, h⟩))))))))))))))))) (c_skip (k_blk (k_seq (c_ops (s_cons (w_put (o_mov rfl (s_cons (w_put (o_add rfl rfl (s_cons (w_put (o_mov rfl (s_nil (k_seq (hX14 _ _ _ ⟨rfl, rfl, rfl, trivial⟩)))))))))))))))))))))))))))))))))))))))))))))))))))) (c_exit (k_seqE (k_seqE (k_blkH (k_seq (c_seq (c_ops (s_cons (w_put (o_mov rfl (s_nil (k_seq (c_ret (k_topR (r_one rfl (r_nil (fun h => ⟨((true : Bool), ()), rfl, h⟩))))))))))))))))))))))))))))))))))
theorem fetterlocklaw6_sameInts.l14_ok (Q : AHeap → Bool → Prop) {x0 : AC} {x1 : AC} {x5 : Int} {H : AHeap} {t : Env} (h0 : t 0 = (.one x0)) (h1 : t 1 = (.one x1)) (h5 : t 5 = (.one (.int .i64 x5))) : fetterlocklaw6_sameInts.l14 Q x0 x1 x5 H → wpC Try.prog (.loop fetterlocklaw6_sameInts.c15) t H (kBlk 0 (fetterlocklaw6_sameInts.k11 Q)) :=
  m_loop fetterlocklaw6_sameInts.R14 ⟨h0, h1, h5, trivial⟩ fun X Y hX s t H hR hB => by
    have g := fetterlocklaw6_sameInts.b14_ok Q Y X hX t hB
    rw [upd_self hR.1] at g
    rw [upd_self hR.2.1] at g
    rw [upd_self hR.2.2.1] at g
    exact g
theorem fetterlocklaw6_sameInts.ok {a0 : AC} {a1 : AC} {H : AHeap} (Q : AHeap → Bool → Prop) : fetterlocklaw6_sameInts.W a0 a1 H Q → wpF Try.prog fetterlocklaw6_sameInts.c [.tm 4] (envOf [(.one a0), (.one a1)]) H (fetterlocklaw6_sameInts.KQ Q) := c_seq (c_ops (s_cons (w_put (o_mov rfl (s_nil (k_seq (c_seq (c_seq (c_ops (s_cons (w_put (o_mov rfl (s_cons (w_put (o_lens rfl (fun n_1 => s_cons (w_put (o_mov rfl (s_cons (w_put (o_lens rfl (fun n_2 => s_cons (w_put (o_ne rfl rfl (s_nil (k_seq (c_if rfl (c_seq (c_ops (s_cons (w_put (o_mov rfl (s_nil (k_seq (c_ret (k_seqR (k_topR (r_one rfl (r_nil (fun h => ⟨((false : Bool), ()), rfl, h⟩))))))))))))) (c_skip (k_seq (c_seq (c_seq (c_ops (s_cons (w_put (o_mov rfl (s_nil (k_seq (c_blk (fetterlocklaw6_sameInts.l14_ok Q rfl rfl rfl)))))))))))))))))))))))))))))))))))))))
theorem fetterlocklaw6_sameInts.slimOk : slimOk [(6, [])] (Try.f32.body.getD .skip) = true := by kernel_rfl
theorem fetterlocklaw6_sameInts.resC : resC Try.prog aggs Try.f32.ntmps (slim [(6, [])] (Try.f32.body.getD .skip)) = some fetterlocklaw6_sameInts.c := by kernel_rfl
theorem fetterlocklaw6_sameInts.resR : resR Try.prog Try.f32.results.toList = some [.tm 4] := by kernel_rfl
theorem fetterlocklaw6_sameInts.bodyEq : Try.f32.body = some (Try.f32.body.getD .skip) := by kernel_rfl
theorem fetterlocklaw6_sameInts.run {a0 : AC} {a1 : AC} {H : AHeap} {Q : AHeap → Bool → Prop} (h : fetterlocklaw6_sameInts.W a0 a1 H Q) : Fn.fetterlocklaw6_sameInts a0 a1 H Q := by
  unfold Fn.fetterlocklaw6_sameInts RunT
  exact run_of aggs_ok [(6, [])] rfl Try.func32 fetterlocklaw6_sameInts.bodyEq fetterlocklaw6_sameInts.slimOk fetterlocklaw6_sameInts.resC fetterlocklaw6_sameInts.resR (Nat.le_of_ble_eq_true (by kernel_rfl)) (fetterlocklaw6_sameInts.ok Q h)
end Go.Proofs.Ytanaaabejeeakaa
end
section
/- Printed by a program: functions and what must hold ahead of them. -/
namespace Go.Proofs.Ytanaaabejeeakaa
open Go.AI
set_option maxRecDepth 100000
set_option maxHeartbeats 2000000
set_option linter.unusedVariables false
attribute [local irreducible] Ld Sto New NewS NewM NN NZ GE0 FA IA IAP LenS Slc App Cpy Clr MkS Fnc NilQ IxS Look MSet Run CV RunT CVT LoopT Same1 Same2 wpC wpOs wpT wpO wpOp

def fetterlockref6_Supports.c21 : RC := (.seq (.seq (.ops [.put 10 (.mov (.tm 5)),
    .put 11 (.fa 0 (.tm 1)),
    .put 12 (.ld false [.ac] (.tm 11)),
    .put 13 (.lens (.tm 12)),
    .put 14 (.cm .lt (.tm 10) (.tm 13))]) (.cond 14 .skip (.exit 2))) (.seq (.block 3 (.seq (.ops [.put 17 (.fa 0 (.tm 1)),
    .put 18 (.ld false [.ac] (.tm 17)),
    .put 19 (.mov (.tm 5)),
    .put 20 (.ia 3 (.tm 18) (.tm 19)),
    .put 21 (.fa 0 (.tm 20)),
    .put 22 (.ld false [.int .i64] (.tm 21)),
    .put 23 (.mov (.tm 4)),
    .put 24 (.cm .eq (.tm 22) (.tm 23))]) (.cond 24 (.seq (.ops [.put 25 (.mov (.tm 3)),
    .put 26 (.mov (.tm 4)),
    .put 27 (.blds 3 1 1 [(.int .i64 0)] [(0, 1, (.tm 26))]),
    .put 28 (.app 3 1 8 (.tm 25) (.tm 27)),
    .put 3 (.mov (.tm 28))]) (.exit 2)) .skip))) (.ops [.put 15 (.mov (.tm 5)),
    .put 16 (.ar .add (.tm 15) (.ct (.one (.int .i64 1)))),
    .put 5 (.mov (.tm 16))])))
def fetterlockref6_Supports.c9 : RC := (.seq (.seq (.ops [.put 6 (.mov (.tm 4)),
    .put 7 (.cm .lt (.tm 6) (.ct (.one (.int .i64 16))))]) (.cond 7 .skip (.exit 0))) (.seq (.block 1 (.seq (.ops [.put 5 (.mov (.ct (.one (.int .i64 0))))]) (.block 2 (.loop fetterlockref6_Supports.c21)))) (.ops [.put 8 (.mov (.tm 4)),
    .put 9 (.ar .add (.tm 8) (.ct (.one (.int .i64 1)))),
    .put 4 (.mov (.tm 9))])))
def fetterlockref6_Supports.c : RC := (.seq (.ops [.put 1 (.box 27 (.tm 0)),
    .put 2 (.mov (.ct (.one (.sl none 0 0 (some 0)))))]) (.seq (.ops [.put 3 (.mov (.ct (.one (.sl none 0 0 (some 0)))))]) (.seq (.seq (.ops [.put 4 (.mov (.ct (.one (.int .i64 0))))]) (.block 0 (.loop fetterlockref6_Supports.c9))) (.seq (.ops [.put 29 (.mov (.tm 3)),
    .put 2 (.mov (.tm 29))]) .ret))))
abbrev fetterlockref6_Supports.KQ (Q : AHeap → AC → Prop) : AV → AHeap → Prop := fun v H => ∃ xs : Tup (flat [(false, [.ac])]), v = joinR (splitP [(false, [.ac])] (cellsOf (flat [(false, [.ac])]) xs)) ∧ app (flat [(false, [.ac])]) (Q H) xs
abbrev fetterlockref6_Supports.K (Q : AHeap → AC → Prop) : Ex → Env → AHeap → Prop := kTop [.tm 2] (fetterlockref6_Supports.KQ Q)
abbrev fetterlockref6_Supports.k5 (Q : AHeap → AC → Prop) : Ex → Env → AHeap → Prop := kSeq (fun t H => wpC Try.prog (.seq (.ops [.put 29 (.mov (.tm 3)),
    .put 2 (.mov (.tm 29))]) .ret) t H (fetterlockref6_Supports.K Q)) (fetterlockref6_Supports.K Q)
abbrev fetterlockref6_Supports.k16 (Q : AHeap → AC → Prop) (X8 : Env → AHeap → Prop) : Ex → Env → AHeap → Prop := kSeq (fun t H => wpC Try.prog (.ops [.put 8 (.mov (.tm 4)),
    .put 9 (.ar .add (.tm 8) (.ct (.one (.int .i64 1)))),
    .put 4 (.mov (.tm 9))]) t H (kSeq X8 (kBlk 0 (fetterlockref6_Supports.k5 Q)))) (kSeq X8 (kBlk 0 (fetterlockref6_Supports.k5 Q)))
def fetterlockref6_Supports.R20 (s : Tup [.ac, .ac, .int .i64, .int .i64]) (t : Env) : Prop := t 1 = (.one (s.1)) ∧ t 3 = (.one (s.2.1)) ∧ t 4 = (.one (.int .i64 (s.2.2.1))) ∧ t 5 = (.one (.int .i64 (s.2.2.2.1))) ∧ True
def fetterlockref6_Supports.R8 (s : Tup [.ac, .ac, .int .i64]) (t : Env) : Prop := t 1 = (.one (s.1)) ∧ t 3 = (.one (s.2.1)) ∧ t 4 = (.one (.int .i64 (s.2.2.1))) ∧ True
def fetterlockref6_Supports.b20 (Q : AHeap → AC → Prop) (Y8 : Tup [.ac, .ac, .int .i64] → AHeap → Prop) (Y20 : Tup [.ac, .ac, .int .i64, .int .i64] → AHeap → Prop) (x1 : AC) (x3 : AC) (x4 : Int) (x5 : Int) (H : AHeap) : Prop :=
  FA 0 x1 fun q_1 =>
  Ld [.ac] H q_1 fun (v_2 : AC) =>
  LenS v_2 fun n_3 =>
  CondB (decide (x5 < n_3))
    (FA 0 x1 fun q_4 =>
    Ld [.ac] H q_4 fun (v_5 : AC) =>
    IA 3 v_5 x5 fun q_6 =>
    FA 0 q_6 fun q_7 =>
    Ld [.int .i64] H q_7 fun (v_8 : Int) =>
    CondB (v_8 == x4)
      (NewS 3 1 1 [(.int .i64 x4)] H fun p_9 H_10 =>
      App 3 1 8 x3 p_9 H_10 fun s_11 H_12 =>
      Y8 (x1, s_11, ((IntKind.wrap .i64 (x4 + 1)) : Int), ()) H_12)
      (Y20 (x1, x3, (x4 : Int), ((IntKind.wrap .i64 (x5 + 1)) : Int), ()) H))
    (Y8 (x1, x3, ((IntKind.wrap .i64 (x4 + 1)) : Int), ()) H)
def fetterlockref6_Supports.l20 (Q : AHeap → AC → Prop) (Y8 : Tup [.ac, .ac, .int .i64] → AHeap → Prop) (x1 : AC) (x3 : AC) (x4 : Int) (x5 : Int) (H : AHeap) : Prop := LoopT (Tup [.ac, .ac, .int .i64, .int .i64]) (fun Y s H => fetterlockref6_Supports.b20 Q Y8 Y (s.1) (s.2.1) (s.2.2.1) (s.2.2.2.1) H) (x1, x3, x4, x5, ()) H
def fetterlockref6_Supports.b8 (Q : AHeap → AC → Prop) (Y8 : Tup [.ac, .ac, .int .i64] → AHeap → Prop) (x1 : AC) (x3 : AC) (x4 : Int) (H : AHeap) : Prop :=
  CondB (decide (x4 < 16))
    (fetterlockref6_Supports.l20 Q Y8 x1 x3 x4 0 H)
    (Q H x3)
def fetterlockref6_Supports.l8 (Q : AHeap → AC → Prop) (x1 : AC) (x3 : AC) (x4 : Int) (H : AHeap) : Prop := LoopT (Tup [.ac, .ac, .int .i64]) (fun Y s H => fetterlockref6_Supports.b8 Q Y (s.1) (s.2.1) (s.2.2.1) H) (x1, x3, x4, ()) H
def fetterlockref6_Supports.W (a0_0 : AC) (a0_1 : Int) (H : AHeap) (Q : AHeap → AC → Prop) : Prop :=
  New 27 [a0_0, (.int .i64 a0_1)] H fun p_1 H_2 =>
  fetterlockref6_Supports.l8 Q p_1 (.sl none 0 0 (some 0)) 0 H_2
theorem fetterlockref6_Supports.b20_ok (Q : AHeap → AC → Prop) (Y8 : Tup [.ac, .ac, .int .i64] → AHeap → Prop) (X8 : Env → AHeap → Prop) (hX8 : ∀ s t H, fetterlockref6_Supports.R8 s t → Y8 s H → X8 t H) (Y20 : Tup [.ac, .ac, .int .i64, .int .i64] → AHeap → Prop) (X20 : Env → AHeap → Prop) (hX20 : ∀ s t H, fetterlockref6_Supports.R20 s t → Y20 s H → X20 t H) {x1 : AC} {x3 : AC} {x4 : Int} {x5 : Int} {H : AHeap} (j : Env) : fetterlockref6_Supports.b20 Q Y8 Y20 x1 x3 x4 x5 H → wpC Try.prog fetterlockref6_Supports.c21 (upd (upd (upd (upd j 1 (.one x1)) 3 (.one x3)) 4 (.one (.int .i64 x4))) 5 (.one (.int .i64 x5))) H (kSeq X20 (kBlk 2 (kBlk 1 (fetterlockref6_Supports.k16 Q X8)))) := c_seq (c_seq (c_ops (s_cons (w_put (o_mov rfl (s_cons (w_put (o_fa rfl (fun q_1 => s_cons (w_put (o_ld1 rfl (fun (v_2 : AC) => s_cons (w_put (o_lens rfl (fun n_3 => s_cons (w_put (o_lt rfl rfl (s_nil (k_seq (c_if rfl (c_skip (k_seq (c_seq (c_blk (c_seq (c_ops (s_cons (w_put (o_fa rfl (fun q_4 => s_cons (w_put (o_ld1 rfl (fun (v_5 : AC) => s_cons (w_put (o_mov rfl (s_cons (w_put (o_ia rfl rfl (fun q_6 => s_cons (w_put (o_fa rfl (fun q_7 => s_cons (w_put (o_ld1 rfl (fun (v_8 : Int) => s_cons (w_put (o_mov rfl (s_cons (w_put (o_eq rfl rfl (s_nil (k_seq (c_if rfl (c_seq (c_ops (s_cons (w_put (o_mov rfl (s_cons (w_put (o_mov rfl (s_cons (w_put (o_blds rfl (fun p_9 H_10 => s_cons (w_put (o_app rfl rfl (fun s_11 H_12 => s_cons (w_put (o_mov rfl (s_nil (k_seq (c_exit (k_blkP rfl (k_seqE (k_seqE (k_blkH (k_blk (k_seq (c_ops (s_cons (w_put (o_mov rfl (s_cons (w_put (o_add rfl rfl (s_cons (w_put (o_mov rfl (s_nil (k_seq (hX8 _ _ _ ⟨rfl, rfl, rfl, trivial⟩))))))))))))))))))))))))))))))))))))))) (c_skip (k_blk (k_seq (c_ops (s_cons (w_put (o_mov rfl (s_cons (w_put (o_add rfl rfl (s_cons (w_put (o_mov rfl (s_nil (k_seq (hX20 _ _ _ ⟨rfl, rfl, rfl, rfl, trivial⟩))))))))))))))))))))))))))))))))))))))))))))))))) (c_exit (k_seqE (k_seqE (k_blkH (k_blk (k_seq (c_ops (s_cons (w_put (o_mov rfl (s_cons (w_put (o_add rfl rfl (s_cons (w_put (o_mov rfl (s_nil (k_seq (hX8 _ _ _ ⟨rfl, rfl, rfl, trivial⟩)))))))))))))))))))))))))))))))))))))))
theorem fetterlockref6_Supports.l20_ok (Q : AHeap → AC → Prop) (Y8 : Tup [.ac, .ac, .int .i64] → AHeap → Prop) (X8 : Env → AHeap → Prop) (hX8 : ∀ s t H, fetterlockref6_Supports.R8 s t → Y8 s H → X8 t H) {x1 : AC} {x3 : AC} {x4 : Int} {x5 : Int} {H : AHeap} {t : Env} (h1 : t 1 = (.one x1)) (h3 : t 3 = (.one x3)) (h4 : t 4 = (.one (.int .i64 x4))) (h5 : t 5 = (.one (.int .i64 x5))) : fetterlockref6_Supports.l20 Q Y8 x1 x3 x4 x5 H → wpC Try.prog (.loop fetterlockref6_Supports.c21) t H (kBlk 2 (kBlk 1 (fetterlockref6_Supports.k16 Q X8))) :=
  m_loop fetterlockref6_Supports.R20 ⟨h1, h3, h4, h5, trivial⟩ fun X Y hX s t H hR hB => by
    have g := fetterlockref6_Supports.b20_ok Q Y8 X8 hX8 Y X hX t hB
    rw [upd_self hR.1] at g
    rw [upd_self hR.2.1] at g
    rw [upd_self hR.2.2.1] at g
    rw [upd_self hR.2.2.2.1] at g
    exact g
theorem fetterlockref6_Supports.b8_ok (Q : AHeap → AC → Prop) (Y8 : Tup [.ac, .ac, .int .i64] → AHeap → Prop) (X8 : Env → AHeap → Prop) (hX8 : ∀ s t H, fetterlockref6_Supports.R8 s t → Y8 s H → X8 t H) {x1 : AC} {x3 : AC} {x4 : Int} {H : AHeap} (j : Env) : fetterlockref6_Supports.b8 Q Y8 x1 x3 x4 H → wpC Try.prog fetterlockref6_Supports.c9 (upd (upd (upd j 1 (.one x1)) 3 (.one x3)) 4 (.one (.int .i64 x4))) H (kSeq X8 (kBlk 0 (fetterlockref6_Supports.k5 Q))) := c_seq (c_seq (c_ops (s_cons (w_put (o_mov rfl (s_cons (w_put (o_lt rfl rfl (s_nil (k_seq (c_if rfl (c_skip (k_seq (c_seq (c_blk (c_seq (c_ops (s_cons (w_put (o_mov rfl (s_nil (k_seq (c_blk (fetterlockref6_Supports.l20_ok Q Y8 X8 hX8 rfl rfl rfl rfl))))))))))))) (c_exit (k_seqE (k_seqE (k_blkH (k_seq (c_seq (c_ops (s_cons (w_put (o_mov rfl (s_cons (w_put (o_mov rfl (s_nil (k_seq (c_ret (k_topR (r_one rfl (r_nil (fun h => ⟨(x3, ()), rfl, h⟩)))))))))))))))))))))))))))))))
theorem fetterlockref6_Supports.l8_ok (Q : AHeap → AC → Prop) {x1 : AC} {x3 : AC} {x4 : Int} {H : AHeap} {t : Env} (h1 : t 1 = (.one x1)) (h3 : t 3 = (.one x3)) (h4 : t 4 = (.one (.int .i64 x4))) : fetterlockref6_Supports.l8 Q x1 x3 x4 H → wpC Try.prog (.loop fetterlockref6_Supports.c9) t H (kBlk 0 (fetterlockref6_Supports.k5 Q)) :=
  m_loop fetterlockref6_Supports.R8 ⟨h1, h3, h4, trivial⟩ fun X Y hX s t H hR hB => by
    have g := fetterlockref6_Supports.b8_ok Q Y X hX t hB
    rw [upd_self hR.1] at g
    rw [upd_self hR.2.1] at g
    rw [upd_self hR.2.2.1] at g
    exact g
theorem fetterlockref6_Supports.ok {a0_0 : AC} {a0_1 : Int} {H : AHeap} (Q : AHeap → AC → Prop) : fetterlockref6_Supports.W a0_0 a0_1 H Q → wpF Try.prog fetterlockref6_Supports.c [.tm 2] (envOf [(.agg [a0_0, (.int .i64 a0_1)])]) H (fetterlockref6_Supports.KQ Q) := c_seq (c_ops (s_cons (w_put (o_box rfl (fun p_1 H_2 => s_cons (w_put (o_mov rfl (s_nil (k_seq (c_seq (c_ops (s_cons (w_put (o_mov rfl (s_nil (k_seq (c_seq (c_seq (c_ops (s_cons (w_put (o_mov rfl (s_nil (k_seq (c_blk (fetterlockref6_Supports.l8_ok Q rfl rfl rfl))))))))))))))))))))))))))
theorem fetterlockref6_Supports.slimOk : slimOk [] (Try.f33.body.getD .skip) = true := by kernel_rfl
theorem fetterlockref6_Supports.resC : resC Try.prog aggs Try.f33.ntmps (slim [] (Try.f33.body.getD .skip)) = some fetterlockref6_Supports.c := by kernel_rfl
theorem fetterlockref6_Supports.resR : resR Try.prog Try.f33.results.toList = some [.tm 2] := by kernel_rfl
theorem fetterlockref6_Supports.bodyEq : Try.f33.body = some (Try.f33.body.getD .skip) := by kernel_rfl
theorem fetterlockref6_Supports.run {a0_0 : AC} {a0_1 : Int} {H : AHeap} {Q : AHeap → AC → Prop} (h : fetterlockref6_Supports.W a0_0 a0_1 H Q) : Fn.fetterlockref6_Supports a0_0 a0_1 H Q := by
  unfold Fn.fetterlockref6_Supports RunT
  exact run_of aggs_ok [] rfl Try.func33 fetterlockref6_Supports.bodyEq fetterlockref6_Supports.slimOk fetterlockref6_Supports.resC fetterlockref6_Supports.resR (Nat.le_of_ble_eq_true (by kernel_rfl)) (fetterlockref6_Supports.ok Q h)

end Go.Proofs.Ytanaaabejeeakaa
end
section
/- Printed by a program: functions and what must hold ahead of them. -/
namespace Go.Proofs.Ytanaaabejeeakaa
open Go.AI
set_option maxRecDepth 100000
set_option maxHeartbeats 2000000
set_option linter.unusedVariables false
attribute [local irreducible] Ld Sto New NewS NewM NN NZ GE0 FA IA IAP LenS Slc App Cpy Clr MkS Fnc NilQ IxS Look MSet Run CV RunT CVT LoopT Same1 Same2 wpC wpOs wpT wpO wpOp

def solve_newManager.c : RC := (.seq (.ops [.put 0 (.mov (.ct (.one (.ptr none))))]) (.seq (.ops [.put 1 (.mkm),
    .put 2 (.mkm),
    .put 3 (.bld [(.sl none 0 0 (some 0)), (.map none), (.map none)] [(1, 1, (.tm 1)), (2, 1, (.tm 2))]),
    .put 4 (.box 103 (.tm 3)),
    .put 0 (.mov (.tm 4))]) .ret))
abbrev solve_newManager.KQ (Q : AHeap → AC → Prop) : AV → AHeap → Prop := fun v H => ∃ xs : Tup (flat [(false, [.ac])]), v = joinR (splitP [(false, [.ac])] (cellsOf (flat [(false, [.ac])]) xs)) ∧ app (flat [(false, [.ac])]) (Q H) xs
abbrev solve_newManager.K (Q : AHeap → AC → Prop) : Ex → Env → AHeap → Prop := kTop [.tm 0] (solve_newManager.KQ Q)
def solve_newManager.W (H : AHeap) (Q : AHeap → AC → Prop) : Prop :=
  NewM H fun p_1 H_2 =>
  NewM H_2 fun p_3 H_4 =>
  New 103 [(.sl none 0 0 (some 0)), p_1, p_3] H_4 fun p_5 H_6 =>
  Q H_6 p_5
theorem solve_newManager.ok {H : AHeap} (Q : AHeap → AC → Prop) : solve_newManager.W H Q → wpF Try.prog solve_newManager.c [.tm 0] (envOf []) H (solve_newManager.KQ Q) := c_seq (c_ops (s_cons (w_put (o_mov rfl (s_nil (k_seq (c_seq (c_ops (s_cons (w_put (o_mkm (fun p_1 H_2 => s_cons (w_put (o_mkm (fun p_3 H_4 => s_cons (w_put (o_bld rfl (s_cons (w_put (o_box rfl (fun p_5 H_6 => s_cons (w_put (o_mov rfl (s_nil (k_seq (c_ret (k_topR (r_one rfl (r_nil (fun h => ⟨(p_5, ()), rfl, h⟩))))))))))))))))))))))))))))))
theorem solve_newManager.slimOk : slimOk [] (Try.f41.body.getD .skip) = true := by kernel_rfl
theorem solve_newManager.resC : resC Try.prog aggs Try.f41.ntmps (slim [] (Try.f41.body.getD .skip)) = some solve_newManager.c := by kernel_rfl
theorem solve_newManager.resR : resR Try.prog Try.f41.results.toList = some [.tm 0] := by kernel_rfl
theorem solve_newManager.bodyEq : Try.f41.body = some (Try.f41.body.getD .skip) := by kernel_rfl
theorem solve_newManager.run {H : AHeap} {Q : AHeap → AC → Prop} (h : solve_newManager.W H Q) : Fn.solve_newManager H Q := by
  unfold Fn.solve_newManager RunT
  exact run_of aggs_ok [] rfl Try.func41 solve_newManager.bodyEq solve_newManager.slimOk solve_newManager.resC solve_newManager.resR (Nat.le_of_ble_eq_true (by kernel_rfl)) (solve_newManager.ok Q h)

def solve_manager_result.c : RC := (.seq (.ops [.put 4 (.new 27 [(.sl none 0 0 (some 0)), (.int .i64 0)]),
    .put 5 (.mov (.ct (.one (.int .i64 0))))]) (.seq (.ops [.put 7 (.mov (.tm 0)),
    .put 8 (.mov (.tm 1)),
    .put 9 (.call 63 [(.tm 7), (.tm 8)]),
    .put 6 (.new 27 [(.sl none 0 0 (some 0)), (.int .i64 0)]),
    .run (.st 2 (.tm 6) (.tm 9))]) (.seq (.seq (.ops [.put 10 (.fa 0 (.tm 6)),
    .put 11 (.ld false [.ac] (.tm 10)),
    .put 12 (.lens (.tm 11)),
    .put 13 (.cm .gt (.tm 12) (.ct (.one (.int .i64 2000))))]) (.cond 13 (.seq (.ops [.put 14 (.bld [(.sl none 0 0 (some 0)), (.int .i64 0)] []),
    .run (.st 2 (.tm 4) (.tm 14)),
    .put 5 (.mov (.ct (.one (.int .i64 3))))]) .ret) .skip)) (.seq (.ops [.put 15 (.ld true [.ac, .int .i64] (.tm 6)),
    .run (.st 2 (.tm 4) (.tm 15)),
    .put 5 (.mov (.ct (.one (.int .i64 0))))]) .ret))))
abbrev solve_manager_result.KQ (Q : AHeap → AC → Int → Int → Prop) : AV → AHeap → Prop := fun v H => ∃ xs : Tup (flat [(true, [.ac, .int .i64]), (false, [.int .i64])]), v = joinR (splitP [(true, [.ac, .int .i64]), (false, [.int .i64])] (cellsOf (flat [(true, [.ac, .int .i64]), (false, [.int .i64])]) xs)) ∧ app (flat [(true, [.ac, .int .i64]), (false, [.int .i64])]) (Q H) xs
abbrev solve_manager_result.K (Q : AHeap → AC → Int → Int → Prop) : Ex → Env → AHeap → Prop := kTop [.cell 4 true [.ac, .int .i64], .tm 5] (solve_manager_result.KQ Q)
def solve_manager_result.W (a0 : AC) (a1 : Int) (H : AHeap) (Q : AHeap → AC → Int → Int → Prop) : Prop :=
  New 27 [(.sl none 0 0 (some 0)), (.int .i64 0)] H fun p_1 H_2 =>
  Fn.solve_manager_diagram a0 a1 H_2 fun H_3 (v_4 : AC) (v_5 : Int) =>
  New 27 [(.sl none 0 0 (some 0)), (.int .i64 0)] H_3 fun p_6 H_7 =>
  Sto H_7 p_6 [v_4, (.int .i64 v_5)] fun H_8 =>
  FA 0 p_6 fun q_9 =>
  Ld [.ac] H_8 q_9 fun (v_10 : AC) =>
  LenS v_10 fun n_11 =>
  CondB (decide (n_11 > 2000))
    (Sto H_8 p_1 [(.sl none 0 0 (some 0)), (.int .i64 0)] fun H_12 =>
    Ld [.ac, .int .i64] H_12 p_1 fun (r0_13 : AC) (r1_14 : Int) =>
    Q H_12 r0_13 r1_14 3)
    (Ld [.ac, .int .i64] H_8 p_6 fun (v_15 : AC) (v_16 : Int) =>
    Sto H_8 p_1 [v_15, (.int .i64 v_16)] fun H_17 =>
    Ld [.ac, .int .i64] H_17 p_1 fun (r0_18 : AC) (r1_19 : Int) =>
    Q H_17 r0_18 r1_19 0)
theorem solve_manager_result.ok {a0 : AC} {a1 : Int} {H : AHeap} (Q : AHeap → AC → Int → Int → Prop) : solve_manager_result.W a0 a1 H Q → wpF Try.prog solve_manager_result.c [.cell 4 true [.ac, .int .i64], .tm 5] (envOf [(.one a0), (.one (.int .i64 a1))]) H (solve_manager_result.KQ Q) := c_seq (c_ops (s_cons (w_put (o_new (fun p_1 H_2 => s_cons (w_put (o_mov rfl (s_nil (k_seq (c_seq (c_ops (s_cons (w_put (o_mov rfl (s_cons (w_put (o_mov rfl (s_cons (w_put (o_call rfl (cv_a2 (fun H_3 (v_4 : AC) (v_5 : Int) => s_cons (w_put (o_new (fun p_6 H_7 => s_cons (w_run (o_st rfl rfl rfl (fun H_8 => s_nil (k_seq (c_seq (c_seq (c_ops (s_cons (w_put (o_fa rfl (fun q_9 => s_cons (w_put (o_ld1 rfl (fun (v_10 : AC) => s_cons (w_put (o_lens rfl (fun n_11 => s_cons (w_put (o_gt rfl rfl (s_nil (k_seq (c_if rfl (c_seq (c_ops (s_cons (w_put (o_bld rfl (s_cons (w_run (o_st rfl rfl rfl (fun H_12 => s_cons (w_put (o_mov rfl (s_nil (k_seq (c_ret (k_seqR (k_topR (r_cell2 rfl (fun (r0_13 : AC) (r1_14 : Int) => r_one rfl (r_nil (fun h => ⟨(r0_13, (r1_14 : Int), (3 : Int), ()), rfl, h⟩)))))))))))))))))))) (c_skip (k_seq (c_seq (c_ops (s_cons (w_put (o_ld2 rfl (fun (v_15 : AC) (v_16 : Int) => s_cons (w_run (o_st rfl rfl rfl (fun H_17 => s_cons (w_put (o_mov rfl (s_nil (k_seq (c_ret (k_topR (r_cell2 rfl (fun (r0_18 : AC) (r1_19 : Int) => r_one rfl (r_nil (fun h => ⟨(r0_18, (r1_19 : Int), (0 : Int), ()), rfl, h⟩))))))))))))))))))))))))))))))))))))))))))))))))))))))))))))))))))))
theorem solve_manager_result.slimOk : slimOk [] (Try.f42.body.getD .skip) = true := by kernel_rfl
theorem solve_manager_result.resC : resC Try.prog aggs Try.f42.ntmps (slim [] (Try.f42.body.getD .skip)) = some solve_manager_result.c := by kernel_rfl
theorem solve_manager_result.resR : resR Try.prog Try.f42.results.toList = some [.cell 4 true [.ac, .int .i64], .tm 5] := by kernel_rfl
theorem solve_manager_result.bodyEq : Try.f42.body = some (Try.f42.body.getD .skip) := by kernel_rfl
theorem solve_manager_result.run {a0 : AC} {a1 : Int} {H : AHeap} {Q : AHeap → AC → Int → Int → Prop} (h : solve_manager_result.W a0 a1 H Q) : Fn.solve_manager_result a0 a1 H Q := by
  unfold Fn.solve_manager_result RunT
  exact run_of aggs_ok [] rfl Try.func42 solve_manager_result.bodyEq solve_manager_result.slimOk solve_manager_result.resC solve_manager_result.resR (Nat.le_of_ble_eq_true (by kernel_rfl)) (solve_manager_result.ok Q h)
end Go.Proofs.Ytanaaabejeeakaa
end
section
/- Printed by a program: functions and what must hold ahead of them. -/
namespace Go.Proofs.Ytanaaabejeeakaa
open Go.AI
set_option maxRecDepth 100000
set_option maxHeartbeats 2000000
set_option linter.unusedVariables false
attribute [local irreducible] Ld Sto New NewS NewM NN NZ GE0 FA IA IAP LenS Slc App Cpy Clr MkS Fnc NilQ IxS Look MSet Run CV RunT CVT LoopT Same1 Same2 wpC wpOs wpT wpO wpOp

def solve_manager_build.c69 : RC := (.seq (.ops [.put 81 (.cm .lt (.tm 80) (.tm 79))]) (.seq (.cond 81 .skip (.exit 3)) (.seq (.block 4 (.seq (.ops [.put 82 (.ia 1 (.tm 78) (.tm 80)),
    .put 83 (.ld false [.int .i64] (.tm 82)),
    .put 11 (.mov (.tm 83))]) (.ops [.put 84 (.mov (.tm 9)),
    .put 85 (.mov (.tm 8)),
    .put 86 (.mov (.tm 11)),
    .put 87 (.callv (.tm 84) [(.tm 85), (.tm 86)]),
    .put 8 (.mov (.tm 87))]))) (.ops [.put 88 (.ar .add (.tm 80) (.ct (.one (.int .i64 1)))),
    .put 80 (.mov (.tm 88))]))))
def solve_manager_build.c64 : RC := (.seq (.seq (.ops [.put 78 (.mov (.tm 5)),
    .put 79 (.lens (.tm 78)),
    .put 80 (.mov (.ct (.one (.int .i64 0))))]) (.block 3 (.loop solve_manager_build.c69))) (.seq (.ops [.put 89 (.mov (.tm 8)),
    .put 4 (.mov (.tm 89))]) .ret))
def solve_manager_build.c9 : RC := (.seq (.ops [.put 16 (.cm .lt (.tm 15) (.tm 14))]) (.seq (.cond 16 .skip (.exit 0)) (.seq (.block 1 (.seq (.ops [.put 17 (.ia 3 (.tm 13) (.tm 15)),
    .put 18 (.ld true [.int .i64, .int .i64, .ac] (.tm 17)),
    .put 7 (.new 24 [(.int .i64 0), (.int .i64 0), (.sl none 0 0 (some 0))]),
    .run (.st 3 (.tm 7) (.tm 18))]) (.ops [.put 19 (.mov (.tm 5)),
    .put 20 (.mov (.tm 0)),
    .put 21 (.ld true [.int .i64, .int .i64, .ac] (.tm 7)),
    .put 22 (.call 43 [(.tm 20), (.tm 21)]),
    .put 23 (.blds 3 1 1 [(.int .i64 0)] [(0, 1, (.tm 22))]),
    .put 24 (.app 3 1 8 (.tm 19) (.tm 23)),
    .put 5 (.mov (.tm 24))]))) (.ops [.put 25 (.ar .add (.tm 15) (.ct (.one (.int .i64 1)))),
    .put 15 (.mov (.tm 25))]))))
def solve_manager_build.c : RC := (.seq (.ops [.put 3 (.box 24 (.tm 1)),
    .put 4 (.mov (.ct (.one (.int .i64 0))))]) (.seq (.ops [.put 5 (.mov (.ct (.one (.sl none 0 0 (some 0)))))]) (.seq (.seq (.ops [.put 12 (.fa 2 (.tm 3)),
    .put 13 (.ld false [.ac] (.tm 12)),
    .put 14 (.lens (.tm 13)),
    .put 15 (.mov (.ct (.one (.int .i64 0))))]) (.block 0 (.loop solve_manager_build.c9))) (.seq (.seq (.ops [.put 26 (.fa 0 (.tm 3)),
    .put 27 (.ld false [.int .i64] (.tm 26))]) (.block 2 (.seq (.ops [.put 29 (.cm .eq (.tm 27) (.ct (.one (.int .i64 1)))),
    .put 28 (.mov (.tm 29))]) (.cond 28 (.seq (.ops [.put 30 (.mov (.tm 0)),
    .put 31 (.fa 1 (.tm 3)),
    .put 32 (.ld false [.int .i64] (.tm 31)),
    .put 33 (.call 80 [(.tm 30), (.tm 32), (.ct (.one (.int .i64 (-1)))), (.ct (.one (.int .i64 (-2))))]),
    .put 4 (.mov (.tm 33))]) .ret) (.seq (.ops [.put 35 (.cm .eq (.tm 27) (.ct (.one (.int .i64 2)))),
    .put 34 (.mov (.tm 35))]) (.cond 34 (.seq (.ops [.put 36 (.blds 3 1 2 [(.int .i64 0), (.int .i64 0)] [(0, 1, (.ct (.one (.int .i64 (-1))))), (1, 1, (.ct (.one (.int .i64 (-2)))))]),
    .put 37 (.fa 1 (.tm 3)),
    .put 38 (.ld false [.int .i64] (.tm 37)),
    .put 39 (.ia 1 (.tm 36) (.tm 38)),
    .put 40 (.ld false [.int .i64] (.tm 39)),
    .put 4 (.mov (.tm 40))]) .ret) (.seq (.ops [.put 42 (.cm .eq (.tm 27) (.ct (.one (.int .i64 3)))),
    .put 41 (.mov (.tm 42))]) (.cond 41 (.seq (.ops [.put 43 (.mov (.tm 0)),
    .put 44 (.mov (.tm 5)),
    .put 45 (.ia 1 (.tm 44) (.ct (.one (.int .i64 0)))),
    .put 46 (.ld false [.int .i64] (.tm 45)),
    .put 47 (.call 56 [(.tm 43), (.tm 46)]),
    .put 4 (.mov (.tm 47))]) .ret) (.seq (.ops [.put 49 (.cm .eq (.tm 27) (.ct (.one (.int .i64 6)))),
    .put 48 (.mov (.tm 49))]) (.cond 48 (.seq (.ops [.put 50 (.mov (.tm 0)),
    .put 51 (.mov (.tm 5)),
    .put 52 (.ia 1 (.tm 51) (.ct (.one (.int .i64 0)))),
    .put 53 (.ld false [.int .i64] (.tm 52)),
    .put 54 (.mov (.tm 5)),
    .put 55 (.ia 1 (.tm 54) (.ct (.one (.int .i64 1)))),
    .put 56 (.ld false [.int .i64] (.tm 55)),
    .put 57 (.call 54 [(.tm 50), (.tm 53), (.tm 56)]),
    .put 4 (.mov (.tm 57))]) .ret) (.seq (.ops [.put 59 (.cm .eq (.tm 27) (.ct (.one (.int .i64 7)))),
    .put 58 (.mov (.tm 59))]) (.cond 58 (.seq (.ops [.put 60 (.mov (.tm 0)),
    .put 61 (.mov (.tm 5)),
    .put 62 (.ia 1 (.tm 61) (.ct (.one (.int .i64 0)))),
    .put 63 (.ld false [.int .i64] (.tm 62)),
    .put 64 (.mov (.tm 5)),
    .put 65 (.ia 1 (.tm 64) (.ct (.one (.int .i64 1)))),
    .put 66 (.ld false [.int .i64] (.tm 65)),
    .put 67 (.mov (.tm 5)),
    .put 68 (.ia 1 (.tm 67) (.ct (.one (.int .i64 2)))),
    .put 69 (.ld false [.int .i64] (.tm 68)),
    .put 70 (.call 81 [(.tm 60), (.tm 63), (.tm 66), (.tm 69)]),
    .put 4 (.mov (.tm 70))]) .ret) .skip)))))))))))) (.seq (.ops [.put 71 (.mov (.tm 0)),
    .put 72 (.fn 52 [(.tm 71)] []),
    .put 8 (.mov (.ct (.one (.int .i64 (-2))))),
    .put 9 (.mov (.tm 72))]) (.seq (.seq (.ops [.put 73 (.fa 0 (.tm 3)),
    .put 74 (.ld false [.int .i64] (.tm 73)),
    .put 75 (.cm .eq (.tm 74) (.ct (.one (.int .i64 5))))]) (.cond 75 (.ops [.put 76 (.mov (.tm 0)),
    .put 77 (.fn 53 [(.tm 76)] []),
    .put 8 (.mov (.ct (.one (.int .i64 (-1))))),
    .put 9 (.mov (.tm 77))]) .skip)) solve_manager_build.c64))))))
abbrev solve_manager_build.KQ (Q : AHeap → Int → Prop) : AV → AHeap → Prop := fun v H => ∃ xs : Tup (flat [(false, [.int .i64])]), v = joinR (splitP [(false, [.int .i64])] (cellsOf (flat [(false, [.int .i64])]) xs)) ∧ app (flat [(false, [.int .i64])]) (Q H) xs
abbrev solve_manager_build.K (Q : AHeap → Int → Prop) : Ex → Env → AHeap → Prop := kTop [.tm 4] (solve_manager_build.KQ Q)
abbrev solve_manager_build.k5 (Q : AHeap → Int → Prop) : Ex → Env → AHeap → Prop := kSeq (fun t H => wpC Try.prog (.seq (.seq (.ops [.put 26 (.fa 0 (.tm 3)),
    .put 27 (.ld false [.int .i64] (.tm 26))]) (.block 2 (.seq (.ops [.put 29 (.cm .eq (.tm 27) (.ct (.one (.int .i64 1)))),
    .put 28 (.mov (.tm 29))]) (.cond 28 (.seq (.ops [.put 30 (.mov (.tm 0)),
    .put 31 (.fa 1 (.tm 3)),
    .put 32 (.ld false [.int .i64] (.tm 31)),
    .put 33 (.call 80 [(.tm 30), (.tm 32), (.ct (.one (.int .i64 (-1)))), (.ct (.one (.int .i64 (-2))))]),
    .put 4 (.mov (.tm 33))]) .ret) (.seq (.ops [.put 35 (.cm .eq (.tm 27) (.ct (.one (.int .i64 2)))),
    .put 34 (.mov (.tm 35))]) (.cond 34 (.seq (.ops [.put 36 (.blds 3 1 2 [(.int .i64 0), (.int .i64 0)] [(0, 1, (.ct (.one (.int .i64 (-1))))), (1, 1, (.ct (.one (.int .i64 (-2)))))]),
    .put 37 (.fa 1 (.tm 3)),
    .put 38 (.ld false [.int .i64] (.tm 37)),
    .put 39 (.ia 1 (.tm 36) (.tm 38)),
    .put 40 (.ld false [.int .i64] (.tm 39)),
    .put 4 (.mov (.tm 40))]) .ret) (.seq (.ops [.put 42 (.cm .eq (.tm 27) (.ct (.one (.int .i64 3)))),
    .put 41 (.mov (.tm 42))]) (.cond 41 (.seq (.ops [.put 43 (.mov (.tm 0)),
    .put 44 (.mov (.tm 5)),
    .put 45 (.ia 1 (.tm 44) (.ct (.one (.int .i64 0)))),
    .put 46 (.ld false [.int .i64] (.tm 45)),
    .put 47 (.call 56 [(.tm 43), (.tm 46)]),
    .put 4 (.mov (.tm 47))]) .ret) (.seq (.ops [.put 49 (.cm .eq (.tm 27) (.ct (.one (.int .i64 6)))),
    .put 48 (.mov (.tm 49))]) (.cond 48 (.seq (.ops [.put 50 (.mov (.tm 0)),
    .put 51 (.mov (.tm 5)),
    .put 52 (.ia 1 (.tm 51) (.ct (.one (.int .i64 0)))),
    .put 53 (.ld false [.int .i64] (.tm 52)),
    .put 54 (.mov (.tm 5)),
    .put 55 (.ia 1 (.tm 54) (.ct (.one (.int .i64 1)))),
    .put 56 (.ld false [.int .i64] (.tm 55)),
    .put 57 (.call 54 [(.tm 50), (.tm 53), (.tm 56)]),
    .put 4 (.mov (.tm 57))]) .ret) (.seq (.ops [.put 59 (.cm .eq (.tm 27) (.ct (.one (.int .i64 7)))),
    .put 58 (.mov (.tm 59))]) (.cond 58 (.seq (.ops [.put 60 (.mov (.tm 0)),
    .put 61 (.mov (.tm 5)),
    .put 62 (.ia 1 (.tm 61) (.ct (.one (.int .i64 0)))),
    .put 63 (.ld false [.int .i64] (.tm 62)),
    .put 64 (.mov (.tm 5)),
    .put 65 (.ia 1 (.tm 64) (.ct (.one (.int .i64 1)))),
    .put 66 (.ld false [.int .i64] (.tm 65)),
    .put 67 (.mov (.tm 5)),
    .put 68 (.ia 1 (.tm 67) (.ct (.one (.int .i64 2)))),
    .put 69 (.ld false [.int .i64] (.tm 68)),
    .put 70 (.call 81 [(.tm 60), (.tm 63), (.tm 66), (.tm 69)]),
    .put 4 (.mov (.tm 70))]) .ret) .skip)))))))))))) (.seq (.ops [.put 71 (.mov (.tm 0)),
    .put 72 (.fn 52 [(.tm 71)] []),
    .put 8 (.mov (.ct (.one (.int .i64 (-2))))),
    .put 9 (.mov (.tm 72))]) (.seq (.seq (.ops [.put 73 (.fa 0 (.tm 3)),
    .put 74 (.ld false [.int .i64] (.tm 73)),
    .put 75 (.cm .eq (.tm 74) (.ct (.one (.int .i64 5))))]) (.cond 75 (.ops [.put 76 (.mov (.tm 0)),
    .put 77 (.fn 53 [(.tm 76)] []),
    .put 8 (.mov (.ct (.one (.int .i64 (-1))))),
    .put 9 (.mov (.tm 77))]) .skip)) solve_manager_build.c64))) t H (solve_manager_build.K Q)) (solve_manager_build.K Q)
abbrev solve_manager_build.k65 (Q : AHeap → Int → Prop) : Ex → Env → AHeap → Prop := kSeq (fun t H => wpC Try.prog (.seq (.ops [.put 89 (.mov (.tm 8)),
    .put 4 (.mov (.tm 89))]) .ret) t H (solve_manager_build.K Q)) (solve_manager_build.K Q)
def solve_manager_build.R68 (s : Tup [.int .i64, .ac, .ac, .int .i64, .int .i64]) (t : Env) : Prop := t 8 = (.one (.int .i64 (s.1))) ∧ t 9 = (.one (s.2.1)) ∧ t 78 = (.one (s.2.2.1)) ∧ t 79 = (.one (.int .i64 (s.2.2.2.1))) ∧ t 80 = (.one (.int .i64 (s.2.2.2.2.1))) ∧ True
def solve_manager_build.R8 (s : Tup [.ac, .ac, .ac, .ac, .int .i64, .int .i64]) (t : Env) : Prop := t 0 = (.one (s.1)) ∧ t 3 = (.one (s.2.1)) ∧ t 5 = (.one (s.2.2.1)) ∧ t 13 = (.one (s.2.2.2.1)) ∧ t 14 = (.one (.int .i64 (s.2.2.2.2.1))) ∧ t 15 = (.one (.int .i64 (s.2.2.2.2.2.1))) ∧ True
def solve_manager_build.b68 (Q : AHeap → Int → Prop) (Y68 : Tup [.int .i64, .ac, .ac, .int .i64, .int .i64] → AHeap → Prop) (x8 : Int) (x9 : AC) (x78 : AC) (x79 : Int) (x80 : Int) (H : AHeap) : Prop :=
  CondB (decide (x80 < x79))
    (IA 1 x78 x80 fun q_1 =>
    Ld [.int .i64] H q_1 fun (v_2 : Int) =>
    CVT Try.prog [(false, [.int .i64])] x9 [(.one (.int .i64 x8)), (.one (.int .i64 v_2))] H fun H_3 (v_4 : Int) =>
    Y68 ((v_4 : Int), x9, x78, (x79 : Int), ((IntKind.wrap .i64 (x80 + 1)) : Int), ()) H_3)
    (Q H x8)
def solve_manager_build.l68 (Q : AHeap → Int → Prop) (x8 : Int) (x9 : AC) (x78 : AC) (x79 : Int) (x80 : Int) (H : AHeap) : Prop := LoopT (Tup [.int .i64, .ac, .ac, .int .i64, .int .i64]) (fun Y s H => solve_manager_build.b68 Q Y (s.1) (s.2.1) (s.2.2.1) (s.2.2.2.1) (s.2.2.2.2.1) H) (x8, x9, x78, x79, x80, ()) H
def solve_manager_build.p64 (Q : AHeap → Int → Prop) (x5 : AC) (x8 : Int) (x9 : AC) (H : AHeap) : Prop :=
  LenS x5 fun n_1 =>
  solve_manager_build.l68 Q x8 x9 x5 n_1 0 H
def solve_manager_build.b8 (Q : AHeap → Int → Prop) (Y8 : Tup [.ac, .ac, .ac, .ac, .int .i64, .int .i64] → AHeap → Prop) (x0 : AC) (x3 : AC) (x5 : AC) (x13 : AC) (x14 : Int) (x15 : Int) (H : AHeap) : Prop :=
  CondB (decide (x15 < x14))
    (IA 3 x13 x15 fun q_1 =>
    Ld [.int .i64, .int .i64, .ac] H q_1 fun (v_2 : Int) (v_3 : Int) (v_4 : AC) =>
    New 24 [(.int .i64 0), (.int .i64 0), (.sl none 0 0 (some 0))] H fun p_5 H_6 =>
    Sto H_6 p_5 [(.int .i64 v_2), (.int .i64 v_3), v_4] fun H_7 =>
    Ld [.int .i64, .int .i64, .ac] H_7 p_5 fun (v_8 : Int) (v_9 : Int) (v_10 : AC) =>
    Fn.solve_manager_build x0 v_8 v_9 v_10 H_7 fun H_11 (v_12 : Int) =>
    NewS 3 1 1 [(.int .i64 v_12)] H_11 fun p_13 H_14 =>
    App 3 1 8 x5 p_13 H_14 fun s_15 H_16 =>
    Y8 (x0, x3, s_15, x13, (x14 : Int), ((IntKind.wrap .i64 (x15 + 1)) : Int), ()) H_16)
    (FA 0 x3 fun q_17 =>
    Ld [.int .i64] H q_17 fun (v_18 : Int) =>
    CondB (v_18 == 1)
      (FA 1 x3 fun q_19 =>
      Ld [.int .i64] H q_19 fun (v_20 : Int) =>
      Fn.solve_manager_node x0 v_20 (-1) (-2) H fun H_21 (v_22 : Int) =>
      Q H_21 v_22)
      (CondB (v_18 == 2)
        (NewS 3 1 2 [(.int .i64 (-1)), (.int .i64 (-2))] H fun p_23 H_24 =>
        FA 1 x3 fun q_25 =>
        Ld [.int .i64] H_24 q_25 fun (v_26 : Int) =>
        IA 1 p_23 v_26 fun q_27 =>
        Ld [.int .i64] H_24 q_27 fun (v_28 : Int) =>
        Q H_24 v_28)
        (CondB (v_18 == 3)
          (IA 1 x5 0 fun q_29 =>
          Ld [.int .i64] H q_29 fun (v_30 : Int) =>
          Fn.solve_manager_not x0 v_30 H fun H_31 (v_32 : Int) =>
          Q H_31 v_32)
          (CondB (v_18 == 6)
            (IA 1 x5 0 fun q_33 =>
            Ld [.int .i64] H q_33 fun (v_34 : Int) =>
            IA 1 x5 1 fun q_35 =>
            Ld [.int .i64] H q_35 fun (v_36 : Int) =>
            Fn.solve_manager_xor x0 v_34 v_36 H fun H_37 (v_38 : Int) =>
            Q H_37 v_38)
            (CondB (v_18 == 7)
              (IA 1 x5 0 fun q_39 =>
              Ld [.int .i64] H q_39 fun (v_40 : Int) =>
              IA 1 x5 1 fun q_41 =>
              Ld [.int .i64] H q_41 fun (v_42 : Int) =>
              IA 1 x5 2 fun q_43 =>
              Ld [.int .i64] H q_43 fun (v_44 : Int) =>
              Fn.solve_manager_ite x0 v_40 v_42 v_44 H fun H_45 (v_46 : Int) =>
              Q H_45 v_46)
              (Fnc 52 [x0] [] fun f_47 =>
              FA 0 x3 fun q_48 =>
              Ld [.int .i64] H q_48 fun (v_49 : Int) =>
              CondB (v_49 == 5)
                (Fnc 53 [x0] [] fun f_50 =>
                solve_manager_build.p64 Q x5 (-1) f_50 H)
                (solve_manager_build.p64 Q x5 (-2) f_47 H)))))))
def solve_manager_build.l8 (Q : AHeap → Int → Prop) (x0 : AC) (x3 : AC) (x5 : AC) (x13 : AC) (x14 : Int) (x15 : Int) (H : AHeap) : Prop := LoopT (Tup [.ac, .ac, .ac, .ac, .int .i64, .int .i64]) (fun Y s H => solve_manager_build.b8 Q Y (s.1) (s.2.1) (s.2.2.1) (s.2.2.2.1) (s.2.2.2.2.1) (s.2.2.2.2.2.1) H) (x0, x3, x5, x13, x14, x15, ()) H
def solve_manager_build.W (a0 : AC) (a1_0 : Int) (a1_1 : Int) (a1_2 : AC) (H : AHeap) (Q : AHeap → Int → Prop) : Prop :=
  New 24 [(.int .i64 a1_0), (.int .i64 a1_1), a1_2] H fun p_1 H_2 =>
  FA 2 p_1 fun q_3 =>
  Ld [.ac] H_2 q_3 fun (v_4 : AC) =>
  LenS v_4 fun n_5 =>
  solve_manager_build.l8 Q a0 p_1 (.sl none 0 0 (some 0)) v_4 n_5 0 H_2
theorem solve_manager_build.b68_ok (Q : AHeap → Int → Prop) (Y68 : Tup [.int .i64, .ac, .ac, .int .i64, .int .i64] → AHeap → Prop) (X68 : Env → AHeap → Prop) (hX68 : ∀ s t H, solve_manager_build.R68 s t → Y68 s H → X68 t H) {x8 : Int} {x9 : AC} {x78 : AC} {x79 : Int} {x80 : Int} {H : AHeap} (j : Env) : solve_manager_build.b68 Q Y68 x8 x9 x78 x79 x80 H → wpC Try.prog solve_manager_build.c69 (upd (upd (upd (upd (upd j 8 (.one (.int .i64 x8))) 9 (.one x9)) 78 (.one x78)) 79 (.one (.int .i64 x79))) 80 (.one (.int .i64 x80))) H (kSeq X68 (kBlk 3 (solve_manager_build.k65 Q))) := c_seq (c_ops (s_cons (w_put (o_lt rfl rfl (s_nil (k_seq (c_seq (c_if rfl (c_skip (k_seq (c_seq (c_blk (c_seq (c_ops (s_cons (w_put (o_ia rfl rfl (fun q_1 => s_cons (w_put (o_ld1 rfl (fun (v_2 : Int) => s_cons (w_put (o_mov rfl (s_nil (k_seq (c_ops (s_cons (w_put (o_mov rfl (s_cons (w_put (o_mov rfl (s_cons (w_put (o_mov rfl (s_cons (w_put (o_callv rfl rfl (cu_1 (fun H_3 (v_4 : Int) => s_cons (w_put (o_mov rfl (s_nil (k_blk (k_seq (c_ops (s_cons (w_put (o_add rfl rfl (s_cons (w_put (o_mov rfl (s_nil (k_seq (hX68 _ _ _ ⟨rfl, rfl, rfl, rfl, rfl, trivial⟩))))))))))))))))))))))))))))))))))))))))))))))) (c_exit (k_seqE (k_seqE (k_blkH (k_seq (c_seq (c_ops (s_cons (w_put (o_mov rfl (s_cons (w_put (o_mov rfl (s_nil (k_seq (c_ret (k_topR (r_one rfl (r_nil (fun h => ⟨((x8 : Int), ()), rfl, h⟩))))))))))))))))))))))))))))
theorem solve_manager_build.l68_ok (Q : AHeap → Int → Prop) {x8 : Int} {x9 : AC} {x78 : AC} {x79 : Int} {x80 : Int} {H : AHeap} {t : Env} (h8 : t 8 = (.one (.int .i64 x8))) (h9 : t 9 = (.one x9)) (h78 : t 78 = (.one x78)) (h79 : t 79 = (.one (.int .i64 x79))) (h80 : t 80 = (.one (.int .i64 x80))) : solve_manager_build.l68 Q x8 x9 x78 x79 x80 H → wpC Try.prog (.loop solve_manager_build.c69) t H (kBlk 3 (solve_manager_build.k65 Q)) :=
  m_loop solve_manager_build.R68 ⟨h8, h9, h78, h79, h80, trivial⟩ fun X Y hX s t H hR hB => by
    have g := solve_manager_build.b68_ok Q Y X hX t hB
    rw [upd_self hR.1] at g
    rw [upd_self hR.2.1] at g
    rw [upd_self hR.2.2.1] at g
    rw [upd_self hR.2.2.2.1] at g
    rw [upd_self hR.2.2.2.2.1] at g
    exact g
theorem solve_manager_build.p64_okE (Q : AHeap → Int → Prop) {x5 : AC} {x8 : Int} {x9 : AC} {H : AHeap} (j : Env) : solve_manager_build.p64 Q x5 x8 x9 H → wpC Try.prog solve_manager_build.c64 (upd (upd (upd j 5 (.one x5)) 8 (.one (.int .i64 x8))) 9 (.one x9)) H (solve_manager_build.K Q) := c_seq (c_seq (c_ops (s_cons (w_put (o_mov rfl (s_cons (w_put (o_lens rfl (fun n_1 => s_cons (w_put (o_mov rfl (s_nil (k_seq (c_blk (solve_manager_build.l68_ok Q rfl rfl rfl rfl rfl)))))))))))))))
theorem solve_manager_build.p64_ok (Q : AHeap → Int → Prop) {x5 : AC} {x8 : Int} {x9 : AC} {H : AHeap} {t : Env} (h5 : t 5 = (.one x5)) (h8 : t 8 = (.one (.int .i64 x8))) (h9 : t 9 = (.one x9)) (h : solve_manager_build.p64 Q x5 x8 x9 H) : wpC Try.prog solve_manager_build.c64 t H (solve_manager_build.K Q) := by
  have g := solve_manager_build.p64_okE Q t h
  rw [upd_self h5] at g
  rw [upd_self h8] at g
  rw [upd_self h9] at g
  exact g
theorem solve_manager_build.b8_ok (Q : AHeap → Int → Prop) (Y8 : Tup [.ac, .ac, .ac, .ac, .int .i64, .int .i64] → AHeap → Prop) (X8 : Env → AHeap → Prop) (hX8 : ∀ s t H, solve_manager_build.R8 s t → Y8 s H → X8 t H) {x0 : AC} {x3 : AC} {x5 : AC} {x13 : AC} {x14 : Int} {x15 : Int} {H : AHeap} (j : Env) : solve_manager_build.b8 Q Y8 x0 x3 x5 x13 x14 x15 H → wpC Try.prog solve_manager_build.c9 (upd (upd (upd (upd (upd (upd j 0 (.one x0)) 3 (.one x3)) 5 (.one x5)) 13 (.one x13)) 14 (.one (.int .i64 x14))) 15 (.one (.int .i64 x15))) H (kSeq X8 (kBlk 0 (solve_manager_build.k5 Q))) := c_seq (c_ops (s_cons (w_put (o_lt rfl rfl (s_nil (k_seq (c_seq (c_if rfl (c_skip (k_seq (c_seq (c_blk (c_seq (c_ops (s_cons (w_put (o_ia rfl rfl (fun q_1 => s_cons (w_put (o_ld3 rfl (fun (v_2 : Int) (v_3 : Int) (v_4 : AC) => s_cons (w_put (o_new (fun p_5 H_6 => s_cons (w_run (o_st rfl rfl rfl (fun H_7 => s_nil (k_seq (c_ops (s_cons (w_put (o_mov rfl (s_cons (w_put (o_mov rfl (s_cons (w_put (o_ld3 rfl (fun (v_8 : Int) (v_9 : Int) (v_10 : AC) => s_cons (w_put (o_call rfl (cv_1 (fun H_11 (v_12 : Int) => s_cons (w_put (o_blds rfl (fun p_13 H_14 => s_cons (w_put (o_app rfl rfl (fun s_15 H_16 => s_cons (w_put (o_mov rfl (s_nil (k_blk (k_seq (c_ops (s_cons (w_put (o_add rfl rfl (s_cons (w_put (o_mov rfl (s_nil (k_seq (hX8 _ _ _ ⟨rfl, rfl, rfl, rfl, rfl, rfl, trivial⟩)))))))))))))))))))))))))))))))))))))))))))))))))))))))) (c_exit (k_seqE (k_seqE (k_blkH (k_seq (c_seq (c_seq (c_ops (s_cons (w_put (o_fa rfl (fun q_17 => s_cons (w_put (o_ld1 rfl (fun (v_18 : Int) => s_nil (k_seq (c_blk (c_seq (c_ops (s_cons (w_put (o_eq rfl rfl (s_cons (w_put (o_mov rfl (s_nil (k_seq (c_if rfl (c_seq (c_ops (s_cons (w_put (o_mov rfl (s_cons (w_put (o_fa rfl (fun q_19 => s_cons (w_put (o_ld1 rfl (fun (v_20 : Int) => s_cons (w_put (o_call rfl (cv_1 (fun H_21 (v_22 : Int) => s_cons (w_put (o_mov rfl (s_nil (k_seq (c_ret (k_blkR (k_seqR (k_topR (r_one rfl (r_nil (fun h => ⟨((v_22 : Int), ()), rfl, h⟩))))))))))))))))))))))))))) (c_seq (c_ops (s_cons (w_put (o_eq rfl rfl (s_cons (w_put (o_mov rfl (s_nil (k_seq (c_if rfl (c_seq (c_ops (s_cons (w_put (o_blds rfl (fun p_23 H_24 => s_cons (w_put (o_fa rfl (fun q_25 => s_cons (w_put (o_ld1 rfl (fun (v_26 : Int) => s_cons (w_put (o_ia rfl rfl (fun q_27 => s_cons (w_put (o_ld1 rfl (fun (v_28 : Int) => s_cons (w_put (o_mov rfl (s_nil (k_seq (c_ret (k_blkR (k_seqR (k_topR (r_one rfl (r_nil (fun h => ⟨((v_28 : Int), ()), rfl, h⟩))))))))))))))))))))))))))))) (c_seq (c_ops (s_cons (w_put (o_eq rfl rfl (s_cons (w_put (o_mov rfl (s_nil (k_seq (c_if rfl (c_seq (c_ops (s_cons (w_put (o_mov rfl (s_cons (w_put (o_mov rfl (s_cons (w_put (o_ia rfl rfl (fun q_29 => s_cons (w_put (o_ld1 rfl (fun (v_30 : Int) => s_cons (w_put (o_call rfl (cv_1 (fun H_31 (v_32 : Int) => s_cons (w_put (o_mov rfl (s_nil (k_seq (c_ret (k_blkR (k_seqR (k_topR (r_one rfl (r_nil (fun h => ⟨((v_32 : Int), ()), rfl, h⟩)))))))))))))))))))))))))))))) (c_seq (c_ops (s_cons (w_put (o_eq rfl rfl (s_cons (w_put (o_mov rfl (s_nil (k_seq (c_if rfl (c_seq (c_ops (s_cons (w_put (o_mov rfl (s_cons (w_put (o_mov rfl (s_cons (w_put (o_ia rfl rfl (fun q_33 => s_cons (w_put (o_ld1 rfl (fun (v_34 : Int) => s_cons (w_put (o_mov rfl (s_cons (w_put (o_ia rfl rfl (fun q_35 => s_cons (w_put (o_ld1 rfl (fun (v_36 : Int) => s_cons (w_put (o_call rfl (cv_1 (fun H_37 (v_38 : Int) => s_cons (w_put (o_mov rfl (s_nil (k_seq (c_ret (k_blkR (k_seqR (k_topR (r_one rfl (r_nil (fun h => ⟨((v_38 : Int), ()), rfl, h⟩))))))))))))))))))))))))))))))))))))))) (c_seq (c_ops (s_cons (w_put (o_eq rfl rfl (s_cons (w_put (o_mov rfl (s_nil (k_seq (c_if rfl (c_seq (c_ops (s_cons (w_put (o_mov rfl (s_cons (w_put (o_mov rfl (s_cons (w_put (o_ia rfl rfl (fun q_39 => s_cons (w_put (o_ld1 rfl (fun (v_40 : Int) => s_cons (w_put (o_mov rfl (s_cons (w_put (o_ia rfl rfl (fun q_41 => s_cons (w_put (o_ld1 rfl (fun (v_42 : Int) => s_cons (w_put (o_mov rfl (s_cons (w_put (o_ia rfl rfl (fun q_43 => s_cons (w_put (o_ld1 rfl (fun (v_44 : Int) => s_cons (w_put (o_call rfl (cv_1 (fun H_45 (v_46 : Int) => s_cons (w_put (o_mov rfl (s_nil (k_seq (c_ret (k_blkR (k_seqR (k_topR (r_one rfl (r_nil (fun h => ⟨((v_46 : Int), ()), rfl, h⟩)))))))))))))))))))))))))))))))))))))))))))))))) (c_skip (k_blk (k_seq (c_seq (c_ops (s_cons (w_put (o_mov rfl (s_cons (w_put (o_fn rfl rfl (fun f_47 => s_cons (w_put (o_mov rfl (s_cons (w_put (o_mov rfl (s_nil (k_seq (c_seq (c_seq (c_ops (s_cons (w_put (o_fa rfl (fun q_48 => s_cons (w_put (o_ld1 rfl (fun (v_49 : Int) => s_cons (w_put (o_eq rfl rfl (s_nil (k_seq (c_if rfl (c_ops (s_cons (w_put (o_mov rfl (s_cons (w_put (o_fn rfl rfl (fun f_50 => s_cons (w_put (o_mov rfl (s_cons (w_put (o_mov rfl (s_nil (k_seq (solve_manager_build.p64_ok Q rfl rfl rfl)))))))))))))))) (c_skip (k_seq (solve_manager_build.p64_ok Q rfl rfl rfl)))))))))))))))))))))))))))))))))))))))))))))))))))))))))))))))))))))))))))))))))))))))))))))))))))))))))))))))))))))
theorem solve_manager_build.l8_ok (Q : AHeap → Int → Prop) {x0 : AC} {x3 : AC} {x5 : AC} {x13 : AC} {x14 : Int} {x15 : Int} {H : AHeap} {t : Env} (h0 : t 0 = (.one x0)) (h3 : t 3 = (.one x3)) (h5 : t 5 = (.one x5)) (h13 : t 13 = (.one x13)) (h14 : t 14 = (.one (.int .i64 x14))) (h15 : t 15 = (.one (.int .i64 x15))) : solve_manager_build.l8 Q x0 x3 x5 x13 x14 x15 H → wpC Try.prog (.loop solve_manager_build.c9) t H (kBlk 0 (solve_manager_build.k5 Q)) :=
  m_loop solve_manager_build.R8 ⟨h0, h3, h5, h13, h14, h15, trivial⟩ fun X Y hX s t H hR hB => by
    have g := solve_manager_build.b8_ok Q Y X hX t hB
    rw [upd_self hR.1] at g
    rw [upd_self hR.2.1] at g
    rw [upd_self hR.2.2.1] at g
    rw [upd_self hR.2.2.2.1] at g
    rw [upd_self hR.2.2.2.2.1] at g
    rw [upd_self hR.2.2.2.2.2.1] at g
    exact g
theorem solve_manager_build.ok {a0 : AC} {a1_0 : Int} {a1_1 : Int} {a1_2 : AC} {H : AHeap} (Q : AHeap → Int → Prop) : solve_manager_build.W a0 a1_0 a1_1 a1_2 H Q → wpF Try.prog solve_manager_build.c [.tm 4] (envOf [(.one a0), (.agg [(.int .i64 a1_0), (.int .i64 a1_1), a1_2])]) H (solve_manager_build.KQ Q) := c_seq (c_ops (s_cons (w_put (o_box rfl (fun p_1 H_2 => s_cons (w_put (o_mov rfl (s_nil (k_seq (c_seq (c_ops (s_cons (w_put (o_mov rfl (s_nil (k_seq (c_seq (c_seq (c_ops (s_cons (w_put (o_fa rfl (fun q_3 => s_cons (w_put (o_ld1 rfl (fun (v_4 : AC) => s_cons (w_put (o_lens rfl (fun n_5 => s_cons (w_put (o_mov rfl (s_nil (k_seq (c_blk (solve_manager_build.l8_ok Q rfl rfl rfl rfl rfl rfl)))))))))))))))))))))))))))))))))))
theorem solve_manager_build.slimOk : slimOk [(15, []), (17, [])] (Try.f43.body.getD .skip) = true := by kernel_rfl
theorem solve_manager_build.resC : resC Try.prog aggs Try.f43.ntmps (slim [(15, []), (17, [])] (Try.f43.body.getD .skip)) = some solve_manager_build.c := by kernel_rfl
theorem solve_manager_build.resR : resR Try.prog Try.f43.results.toList = some [.tm 4] := by kernel_rfl
theorem solve_manager_build.bodyEq : Try.f43.body = some (Try.f43.body.getD .skip) := by kernel_rfl
theorem solve_manager_build.run {a0 : AC} {a1_0 : Int} {a1_1 : Int} {a1_2 : AC} {H : AHeap} {Q : AHeap → Int → Prop} (h : solve_manager_build.W a0 a1_0 a1_1 a1_2 H Q) : Fn.solve_manager_build a0 a1_0 a1_1 a1_2 H Q := by
  unfold Fn.solve_manager_build RunT
  exact run_of aggs_ok [(15, []), (17, [])] rfl Try.func43 solve_manager_build.bodyEq solve_manager_build.slimOk solve_manager_build.resC solve_manager_build.resR (Nat.le_of_ble_eq_true (by kernel_rfl)) (solve_manager_build.ok Q h)

end Go.Proofs.Ytanaaabejeeakaa
end
section
/- Printed by a program: functions and what must hold ahead of them. -/
namespace Go.Proofs.Ytanaaabejeeakaa
open Go.AI
set_option maxRecDepth 100000
set_option maxHeartbeats 2000000
set_option linter.unusedVariables false
attribute [local irreducible] Ld Sto New NewS NewM NN NZ GE0 FA IA IAP LenS Slc App Cpy Clr MkS Fnc NilQ IxS Look MSet Run CV RunT CVT LoopT Same1 Same2 wpC wpOs wpT wpO wpOp

def solve_nodes.c27 : RC := (.seq (.ops [.put 26 (.mov (.tm 5)),
    .put 27 (.mov (.tm 1)),
    .put 28 (.ar .add (.tm 27) (.ct (.one (.int .i64 1)))),
    .put 29 (.min2 (.tm 26) (.tm 28)),
    .put 4 (.mov (.tm 29))]) .ret)
def solve_nodes.c9 : RC := (.seq (.ops [.put 12 (.cm .lt (.tm 11) (.tm 10))]) (.seq (.cond 12 .skip (.exit 0)) (.seq (.block 1 (.seq (.ops [.put 13 (.ia 3 (.tm 9) (.tm 11)),
    .put 14 (.ld true [.int .i64, .int .i64, .ac] (.tm 13)),
    .put 7 (.new 24 [(.int .i64 0), (.int .i64 0), (.sl none 0 0 (some 0))]),
    .run (.st 3 (.tm 7) (.tm 14))]) (.seq (.seq (.ops [.put 15 (.mov (.tm 5)),
    .put 16 (.mov (.tm 1)),
    .put 17 (.cm .gt (.tm 15) (.tm 16))]) (.cond 17 (.exit 0) .skip)) (.ops [.put 18 (.mov (.tm 5)),
    .put 19 (.ld true [.int .i64, .int .i64, .ac] (.tm 7)),
    .put 20 (.mov (.tm 1)),
    .put 21 (.mov (.tm 5)),
    .put 22 (.ar .sub (.tm 20) (.tm 21)),
    .put 23 (.call 46 [(.tm 19), (.tm 22)]),
    .put 24 (.ar .add (.tm 18) (.tm 23)),
    .put 5 (.mov (.tm 24))])))) (.ops [.put 25 (.ar .add (.tm 11) (.ct (.one (.int .i64 1)))),
    .put 11 (.mov (.tm 25))]))))
def solve_nodes.c : RC := (.seq (.ops [.put 2 (.box 24 (.tm 0)),
    .put 4 (.mov (.ct (.one (.int .i64 0))))]) (.seq (.ops [.put 5 (.mov (.ct (.one (.int .i64 1))))]) (.seq (.seq (.ops [.put 8 (.fa 2 (.tm 2)),
    .put 9 (.ld false [.ac] (.tm 8)),
    .put 10 (.lens (.tm 9)),
    .put 11 (.mov (.ct (.one (.int .i64 0))))]) (.block 0 (.loop solve_nodes.c9))) solve_nodes.c27)))
abbrev solve_nodes.KQ (Q : AHeap → Int → Prop) : AV → AHeap → Prop := fun v H => ∃ xs : Tup (flat [(false, [.int .i64])]), v = joinR (splitP [(false, [.int .i64])] (cellsOf (flat [(false, [.int .i64])]) xs)) ∧ app (flat [(false, [.int .i64])]) (Q H) xs
abbrev solve_nodes.K (Q : AHeap → Int → Prop) : Ex → Env → AHeap → Prop := kTop [.tm 4] (solve_nodes.KQ Q)
abbrev solve_nodes.k5 (Q : AHeap → Int → Prop) : Ex → Env → AHeap → Prop := kSeq (fun t H => wpC Try.prog solve_nodes.c27 t H (solve_nodes.K Q)) (solve_nodes.K Q)
def solve_nodes.R8 (s : Tup [.int .i64, .int .i64, .ac, .int .i64, .int .i64]) (t : Env) : Prop := t 1 = (.one (.int .i64 (s.1))) ∧ t 5 = (.one (.int .i64 (s.2.1))) ∧ t 9 = (.one (s.2.2.1)) ∧ t 10 = (.one (.int .i64 (s.2.2.2.1))) ∧ t 11 = (.one (.int .i64 (s.2.2.2.2.1))) ∧ True
def solve_nodes.p27 (Q : AHeap → Int → Prop) (x1 : Int) (x5 : Int) (H : AHeap) : Prop :=
  Q H (if (IntKind.wrap .i64 (x1 + 1)) < x5 then (IntKind.wrap .i64 (x1 + 1)) else x5)
def solve_nodes.b8 (Q : AHeap → Int → Prop) (Y8 : Tup [.int .i64, .int .i64, .ac, .int .i64, .int .i64] → AHeap → Prop) (x1 : Int) (x5 : Int) (x9 : AC) (x10 : Int) (x11 : Int) (H : AHeap) : Prop :=
  CondB (decide (x11 < x10))
    (IA 3 x9 x11 fun q_1 =>
    Ld [.int .i64, .int .i64, .ac] H q_1 fun (v_2 : Int) (v_3 : Int) (v_4 : AC) =>
    New 24 [(.int .i64 0), (.int .i64 0), (.sl none 0 0 (some 0))] H fun p_5 H_6 =>
    Sto H_6 p_5 [(.int .i64 v_2), (.int .i64 v_3), v_4] fun H_7 =>
    CondB (decide (x5 > x1))
      (solve_nodes.p27 Q x1 x5 H_7)
      (Ld [.int .i64, .int .i64, .ac] H_7 p_5 fun (v_8 : Int) (v_9 : Int) (v_10 : AC) =>
      Fn.solve_nodes v_8 v_9 v_10 (IntKind.wrap .i64 (x1 - x5)) H_7 fun H_11 (v_12 : Int) =>
      Y8 ((x1 : Int), ((IntKind.wrap .i64 (x5 + v_12)) : Int), x9, (x10 : Int), ((IntKind.wrap .i64 (x11 + 1)) : Int), ()) H_11))
    (solve_nodes.p27 Q x1 x5 H)
def solve_nodes.l8 (Q : AHeap → Int → Prop) (x1 : Int) (x5 : Int) (x9 : AC) (x10 : Int) (x11 : Int) (H : AHeap) : Prop := LoopT (Tup [.int .i64, .int .i64, .ac, .int .i64, .int .i64]) (fun Y s H => solve_nodes.b8 Q Y (s.1) (s.2.1) (s.2.2.1) (s.2.2.2.1) (s.2.2.2.2.1) H) (x1, x5, x9, x10, x11, ()) H
def solve_nodes.W (a0_0 : Int) (a0_1 : Int) (a0_2 : AC) (a1 : Int) (H : AHeap) (Q : AHeap → Int → Prop) : Prop :=
  New 24 [(.int .i64 a0_0), (.int .i64 a0_1), a0_2] H fun p_1 H_2 =>
  FA 2 p_1 fun q_3 =>
  Ld [.ac] H_2 q_3 fun (v_4 : AC) =>
  LenS v_4 fun n_5 =>
  solve_nodes.l8 Q a1 1 v_4 n_5 0 H_2
theorem solve_nodes.p27_okE (Q : AHeap → Int → Prop) {x1 : Int} {x5 : Int} {H : AHeap} (j : Env) : solve_nodes.p27 Q x1 x5 H → wpC Try.prog solve_nodes.c27 (upd (upd j 1 (.one (.int .i64 x1))) 5 (.one (.int .i64 x5))) H (solve_nodes.K Q) := c_seq (c_ops (s_cons (w_put (o_mov rfl (s_cons (w_put (o_mov rfl (s_cons (w_put (o_add rfl rfl (s_cons (w_put (o_min2 rfl rfl (s_cons (w_put (o_mov rfl (s_nil (k_seq (c_ret (k_topR (r_one rfl (r_nil (fun h => ⟨(((if (IntKind.wrap .i64 (x1 + 1)) < x5 then (IntKind.wrap .i64 (x1 + 1)) else x5) : Int), ()), rfl, h⟩)))))))))))))))))))))))
theorem solve_nodes.p27_ok (Q : AHeap → Int → Prop) {x1 : Int} {x5 : Int} {H : AHeap} {t : Env} (h1 : t 1 = (.one (.int .i64 x1))) (h5 : t 5 = (.one (.int .i64 x5))) (h : solve_nodes.p27 Q x1 x5 H) : wpC Try.prog solve_nodes.c27 t H (solve_nodes.K Q) := by
  have g := solve_nodes.p27_okE Q t h
  rw [upd_self h1] at g
  rw [upd_self h5] at g
  exact g
theorem solve_nodes.b8_ok (Q : AHeap → Int → Prop) (Y8 : Tup [.int .i64, .int .i64, .ac, .int .i64, .int .i64] → AHeap → Prop) (X8 : Env → AHeap → Prop) (hX8 : ∀ s t H, solve_nodes.R8 s t → Y8 s H → X8 t H) {x1 : Int} {x5 : Int} {x9 : AC} {x10 : Int} {x11 : Int} {H : AHeap} (j : Env) : solve_nodes.b8 Q Y8 x1 x5 x9 x10 x11 H → wpC Try.prog solve_nodes.c9 (upd (upd (upd (upd (upd j 1 (.one (.int .i64 x1))) 5 (.one (.int .i64 x5))) 9 (.one x9)) 10 (.one (.int .i64 x10))) 11 (.one (.int .i64 x11))) H (kSeq X8 (kBlk 0 (solve_nodes.k5 Q))) := c_seq (c_ops (s_cons (w_put (o_lt rfl rfl (s_nil (k_seq (c_seq (c_if rfl (c_skip (k_seq (c_seq (c_blk (c_seq (c_ops (s_cons (w_put (o_ia rfl rfl (fun q_1 => s_cons (w_put (o_ld3 rfl (fun (v_2 : Int) (v_3 : Int) (v_4 : AC) => s_cons (w_put (o_new (fun p_5 H_6 => s_cons (w_run (o_st rfl rfl rfl (fun H_7 => s_nil (k_seq (c_seq (c_seq (c_ops (s_cons (w_put (o_mov rfl (s_cons (w_put (o_mov rfl (s_cons (w_put (o_gt rfl rfl (s_nil (k_seq (c_if rfl (c_exit (k_seqE (k_blkP rfl (k_seqE (k_seqE (k_blkH (k_seq (solve_nodes.p27_ok Q rfl rfl)))))))) (c_skip (k_seq (c_ops (s_cons (w_put (o_mov rfl (s_cons (w_put (o_ld3 rfl (fun (v_8 : Int) (v_9 : Int) (v_10 : AC) => s_cons (w_put (o_mov rfl (s_cons (w_put (o_mov rfl (s_cons (w_put (o_sub rfl rfl (s_cons (w_put (o_call rfl (cv_1 (fun H_11 (v_12 : Int) => s_cons (w_put (o_add rfl rfl (s_cons (w_put (o_mov rfl (s_nil (k_blk (k_seq (c_ops (s_cons (w_put (o_add rfl rfl (s_cons (w_put (o_mov rfl (s_nil (k_seq (hX8 _ _ _ ⟨rfl, rfl, rfl, rfl, rfl, trivial⟩)))))))))))))))))))))))))))))))))))))))))))))))))))))))))))))))))))))))))))) (c_exit (k_seqE (k_seqE (k_blkH (k_seq (solve_nodes.p27_ok Q rfl rfl))))))))))))))
theorem solve_nodes.l8_ok (Q : AHeap → Int → Prop) {x1 : Int} {x5 : Int} {x9 : AC} {x10 : Int} {x11 : Int} {H : AHeap} {t : Env} (h1 : t 1 = (.one (.int .i64 x1))) (h5 : t 5 = (.one (.int .i64 x5))) (h9 : t 9 = (.one x9)) (h10 : t 10 = (.one (.int .i64 x10))) (h11 : t 11 = (.one (.int .i64 x11))) : solve_nodes.l8 Q x1 x5 x9 x10 x11 H → wpC Try.prog (.loop solve_nodes.c9) t H (kBlk 0 (solve_nodes.k5 Q)) :=
  m_loop solve_nodes.R8 ⟨h1, h5, h9, h10, h11, trivial⟩ fun X Y hX s t H hR hB => by
    have g := solve_nodes.b8_ok Q Y X hX t hB
    rw [upd_self hR.1] at g
    rw [upd_self hR.2.1] at g
    rw [upd_self hR.2.2.1] at g
    rw [upd_self hR.2.2.2.1] at g
    rw [upd_self hR.2.2.2.2.1] at g
    exact g
theorem solve_nodes.ok {a0_0 : Int} {a0_1 : Int} {a0_2 : AC} {a1 : Int} {H : AHeap} (Q : AHeap → Int → Prop) : solve_nodes.W a0_0 a0_1 a0_2 a1 H Q → wpF Try.prog solve_nodes.c [.tm 4] (envOf [(.agg [(.int .i64 a0_0), (.int .i64 a0_1), a0_2]), (.one (.int .i64 a1))]) H (solve_nodes.KQ Q) := c_seq (c_ops (s_cons (w_put (o_box rfl (fun p_1 H_2 => s_cons (w_put (o_mov rfl (s_nil (k_seq (c_seq (c_ops (s_cons (w_put (o_mov rfl (s_nil (k_seq (c_seq (c_seq (c_ops (s_cons (w_put (o_fa rfl (fun q_3 => s_cons (w_put (o_ld1 rfl (fun (v_4 : AC) => s_cons (w_put (o_lens rfl (fun n_5 => s_cons (w_put (o_mov rfl (s_nil (k_seq (c_blk (solve_nodes.l8_ok Q rfl rfl rfl rfl rfl)))))))))))))))))))))))))))))))))))
theorem solve_nodes.slimOk : slimOk [] (Try.f46.body.getD .skip) = true := by kernel_rfl
theorem solve_nodes.resC : resC Try.prog aggs Try.f46.ntmps (slim [] (Try.f46.body.getD .skip)) = some solve_nodes.c := by kernel_rfl
theorem solve_nodes.resR : resR Try.prog Try.f46.results.toList = some [.tm 4] := by kernel_rfl
theorem solve_nodes.bodyEq : Try.f46.body = some (Try.f46.body.getD .skip) := by kernel_rfl
theorem solve_nodes.run {a0_0 : Int} {a0_1 : Int} {a0_2 : AC} {a1 : Int} {H : AHeap} {Q : AHeap → Int → Prop} (h : solve_nodes.W a0_0 a0_1 a0_2 a1 H Q) : Fn.solve_nodes a0_0 a0_1 a0_2 a1 H Q := by
  unfold Fn.solve_nodes RunT
  exact run_of aggs_ok [] rfl Try.func46 solve_nodes.bodyEq solve_nodes.slimOk solve_nodes.resC solve_nodes.resR (Nat.le_of_ble_eq_true (by kernel_rfl)) (solve_nodes.ok Q h)

def solve_boolFault.c59 : RC := (.seq (.ops [.put 47 (.cm .lt (.tm 46) (.tm 45))]) (.seq (.cond 47 .skip (.exit 2)) (.seq (.block 3 (.seq (.ops [.put 48 (.ia 3 (.tm 44) (.tm 46)),
    .put 49 (.ld true [.int .i64, .int .i64, .ac] (.tm 48)),
    .put 6 (.new 24 [(.int .i64 0), (.int .i64 0), (.sl none 0 0 (some 0))]),
    .run (.st 3 (.tm 6) (.tm 49))]) (.seq (.ops [.put 50 (.ld true [.int .i64, .int .i64, .ac] (.tm 6)),
    .put 51 (.call 47 [(.tm 50)]),
    .put 7 (.mov (.tm 51))]) (.seq (.ops [.put 52 (.mov (.tm 7)),
    .put 53 (.cm .ne (.tm 52) (.ct (.one (.int .i64 0))))]) (.cond 53 (.seq (.ops [.put 54 (.mov (.tm 7)),
    .put 2 (.mov (.tm 54))]) .ret) .skip))))) (.ops [.put 55 (.ar .add (.tm 46) (.ct (.one (.int .i64 1)))),
    .put 46 (.mov (.tm 55))]))))
def solve_boolFault.c49 : RC := (.cond 33 (.seq (.ops [.put 2 (.mov (.ct (.one (.int .i64 1))))]) .ret) .skip)
def solve_boolFault.c43 : RC := (.cond 23 (.seq (.ops [.put 2 (.mov (.ct (.one (.int .i64 2))))]) .ret) (.seq (.ops [.put 34 (.fa 1 (.tm 1)),
    .put 35 (.ld false [.int .i64] (.tm 34)),
    .put 36 (.cm .lt (.tm 35) (.ct (.one (.int .i64 0)))),
    .put 37 (.mov (.tm 36)),
    .gput 38 37 false (.fa 1 (.tm 1)),
    .gput 39 37 false (.ld false [.int .i64] (.tm 38)),
    .gput 40 37 false (.mov (.tm 4)),
    .gput 41 37 false (.cm .gt (.tm 39) (.tm 40)),
    .put 42 (.pick (.tm 37) (.ct (.one (.bool true))) (.tm 41)),
    .put 33 (.mov (.tm 42))]) solve_boolFault.c49))
def solve_boolFault.c39 : RC := (.seq (.block 1 (.seq (.ops [.put 24 (.mov (.tm 3)),
    .put 25 (.cm .ge (.tm 24) (.ct (.one (.int .i64 0)))),
    .put 26 (.mov (.tm 25)),
    .gput 27 26 true (.fa 2 (.tm 1)),
    .gput 28 26 true (.ld false [.ac] (.tm 27)),
    .gput 29 26 true (.lens (.tm 28)),
    .gput 30 26 true (.mov (.tm 3)),
    .gput 31 26 true (.cm .ne (.tm 29) (.tm 30)),
    .put 32 (.pick (.tm 26) (.tm 31) (.ct (.one (.bool false)))),
    .put 23 (.mov (.tm 32))]) solve_boolFault.c43)) (.seq (.seq (.ops [.put 43 (.fa 2 (.tm 1)),
    .put 44 (.ld false [.ac] (.tm 43)),
    .put 45 (.lens (.tm 44)),
    .put 46 (.mov (.ct (.one (.int .i64 0))))]) (.block 2 (.loop solve_boolFault.c59))) (.seq (.ops [.put 2 (.mov (.ct (.one (.int .i64 0))))]) .ret)))
def solve_boolFault.c34 : RC := (.cond 20 .skip (.seq (.ops [.put 2 (.mov (.ct (.one (.int .i64 7))))]) .ret))
def solve_boolFault.c : RC := (.seq (.ops [.put 1 (.box 24 (.tm 0)),
    .put 2 (.mov (.ct (.one (.int .i64 0))))]) (.seq (.ops [.put 3 (.mov (.ct (.one (.int .i64 (-1))))),
    .put 4 (.mov (.ct (.one (.int .i64 0))))]) (.seq (.seq (.ops [.put 8 (.fa 0 (.tm 1)),
    .put 9 (.ld false [.int .i64] (.tm 8))]) (.block 0 (.seq (.ops [.put 11 (.cm .eq (.tm 9) (.ct (.one (.int .i64 1)))),
    .put 10 (.mov (.tm 11))]) (.cond 10 (.ops [.put 3 (.mov (.ct (.one (.int .i64 0)))),
    .put 4 (.mov (.ct (.one (.int .i64 15))))]) (.seq (.ops [.put 13 (.cm .eq (.tm 9) (.ct (.one (.int .i64 2)))),
    .put 12 (.mov (.tm 13))]) (.cond 12 (.ops [.put 3 (.mov (.ct (.one (.int .i64 0)))),
    .put 4 (.mov (.ct (.one (.int .i64 1))))]) (.seq (.ops [.put 15 (.cm .eq (.tm 9) (.ct (.one (.int .i64 3)))),
    .put 14 (.mov (.tm 15))]) (.cond 14 (.ops [.put 3 (.mov (.ct (.one (.int .i64 1))))]) (.seq (.ops [.put 17 (.cm .eq (.tm 9) (.ct (.one (.int .i64 6)))),
    .put 16 (.mov (.tm 17))]) (.cond 16 (.ops [.put 3 (.mov (.ct (.one (.int .i64 2))))]) (.seq (.ops [.put 19 (.cm .eq (.tm 9) (.ct (.one (.int .i64 7)))),
    .put 18 (.mov (.tm 19))]) (.cond 18 (.ops [.put 3 (.mov (.ct (.one (.int .i64 3))))]) (.seq (.seq (.ops [.put 21 (.cm .eq (.tm 9) (.ct (.one (.int .i64 4)))),
    .put 20 (.mov (.tm 21))]) (.cond 20 .skip (.ops [.put 22 (.cm .eq (.tm 9) (.ct (.one (.int .i64 5)))),
    .put 20 (.mov (.tm 22))]))) solve_boolFault.c34))))))))))))) solve_boolFault.c39)))
abbrev solve_boolFault.KQ (Q : AHeap → Int → Prop) : AV → AHeap → Prop := fun v H => ∃ xs : Tup (flat [(false, [.int .i64])]), v = joinR (splitP [(false, [.int .i64])] (cellsOf (flat [(false, [.int .i64])]) xs)) ∧ app (flat [(false, [.int .i64])]) (Q H) xs
abbrev solve_boolFault.K (Q : AHeap → Int → Prop) : Ex → Env → AHeap → Prop := kTop [.tm 2] (solve_boolFault.KQ Q)
abbrev solve_boolFault.k5 (Q : AHeap → Int → Prop) : Ex → Env → AHeap → Prop := kSeq (fun t H => wpC Try.prog solve_boolFault.c39 t H (solve_boolFault.K Q)) (solve_boolFault.K Q)
abbrev solve_boolFault.k40 (Q : AHeap → Int → Prop) : Ex → Env → AHeap → Prop := kSeq (fun t H => wpC Try.prog (.seq (.seq (.ops [.put 43 (.fa 2 (.tm 1)),
    .put 44 (.ld false [.ac] (.tm 43)),
    .put 45 (.lens (.tm 44)),
    .put 46 (.mov (.ct (.one (.int .i64 0))))]) (.block 2 (.loop solve_boolFault.c59))) (.seq (.ops [.put 2 (.mov (.ct (.one (.int .i64 0))))]) .ret)) t H (solve_boolFault.K Q)) (solve_boolFault.K Q)
abbrev solve_boolFault.k55 (Q : AHeap → Int → Prop) : Ex → Env → AHeap → Prop := kSeq (fun t H => wpC Try.prog (.seq (.ops [.put 2 (.mov (.ct (.one (.int .i64 0))))]) .ret) t H (solve_boolFault.K Q)) (solve_boolFault.K Q)
def solve_boolFault.R58 (s : Tup [.ac, .int .i64, .int .i64]) (t : Env) : Prop := t 44 = (.one (s.1)) ∧ t 45 = (.one (.int .i64 (s.2.1))) ∧ t 46 = (.one (.int .i64 (s.2.2.1))) ∧ True
def solve_boolFault.b58 (Q : AHeap → Int → Prop) (Y58 : Tup [.ac, .int .i64, .int .i64] → AHeap → Prop) (x44 : AC) (x45 : Int) (x46 : Int) (H : AHeap) : Prop :=
  CondB (decide (x46 < x45))
    (IA 3 x44 x46 fun q_1 =>
    Ld [.int .i64, .int .i64, .ac] H q_1 fun (v_2 : Int) (v_3 : Int) (v_4 : AC) =>
    New 24 [(.int .i64 0), (.int .i64 0), (.sl none 0 0 (some 0))] H fun p_5 H_6 =>
    Sto H_6 p_5 [(.int .i64 v_2), (.int .i64 v_3), v_4] fun H_7 =>
    Ld [.int .i64, .int .i64, .ac] H_7 p_5 fun (v_8 : Int) (v_9 : Int) (v_10 : AC) =>
    Fn.solve_boolFault v_8 v_9 v_10 H_7 fun H_11 (v_12 : Int) =>
    CondB (v_12 != 0)
      (Q H_11 v_12)
      (Y58 (x44, (x45 : Int), ((IntKind.wrap .i64 (x46 + 1)) : Int), ()) H_11))
    (Q H 0)
def solve_boolFault.l58 (Q : AHeap → Int → Prop) (x44 : AC) (x45 : Int) (x46 : Int) (H : AHeap) : Prop := LoopT (Tup [.ac, .int .i64, .int .i64]) (fun Y s H => solve_boolFault.b58 Q Y (s.1) (s.2.1) (s.2.2.1) H) (x44, x45, x46, ()) H
def solve_boolFault.p49 (Q : AHeap → Int → Prop) (x1 : AC) (x33 : Bool) (H : AHeap) : Prop :=
  CondB x33
    (Q H 1)
    (FA 2 x1 fun q_1 =>
    Ld [.ac] H q_1 fun (v_2 : AC) =>
    LenS v_2 fun n_3 =>
    solve_boolFault.l58 Q v_2 n_3 0 H)
def solve_boolFault.p43 (Q : AHeap → Int → Prop) (x1 : AC) (x4 : Int) (x23 : Bool) (H : AHeap) : Prop :=
  CondB x23
    (Q H 2)
    (FA 1 x1 fun q_1 =>
    Ld [.int .i64] H q_1 fun (v_2 : Int) =>
    CondB (decide (v_2 < 0))
      (solve_boolFault.p49 Q x1 true H)
      (FA 1 x1 fun q_3 =>
      Ld [.int .i64] H q_3 fun (v_4 : Int) =>
      solve_boolFault.p49 Q x1 (decide (v_4 > x4)) H))
def solve_boolFault.p39 (Q : AHeap → Int → Prop) (x1 : AC) (x3 : Int) (x4 : Int) (H : AHeap) : Prop :=
  CondB (decide (x3 ≥ 0))
    (FA 2 x1 fun q_1 =>
    Ld [.ac] H q_1 fun (v_2 : AC) =>
    LenS v_2 fun n_3 =>
    solve_boolFault.p43 Q x1 x4 (n_3 != x3) H)
    (solve_boolFault.p43 Q x1 x4 false H)
def solve_boolFault.p34 (Q : AHeap → Int → Prop) (x1 : AC) (x3 : Int) (x4 : Int) (x20 : Bool) (H : AHeap) : Prop :=
  CondB x20
    (solve_boolFault.p39 Q x1 x3 x4 H)
    (Q H 7)
def solve_boolFault.W (a0_0 : Int) (a0_1 : Int) (a0_2 : AC) (H : AHeap) (Q : AHeap → Int → Prop) : Prop :=
  New 24 [(.int .i64 a0_0), (.int .i64 a0_1), a0_2] H fun p_1 H_2 =>
  FA 0 p_1 fun q_3 =>
  Ld [.int .i64] H_2 q_3 fun (v_4 : Int) =>
  CondB (v_4 == 1)
    (solve_boolFault.p39 Q p_1 0 15 H_2)
    (CondB (v_4 == 2)
      (solve_boolFault.p39 Q p_1 0 1 H_2)
      (CondB (v_4 == 3)
        (solve_boolFault.p39 Q p_1 1 0 H_2)
        (CondB (v_4 == 6)
          (solve_boolFault.p39 Q p_1 2 0 H_2)
          (CondB (v_4 == 7)
            (solve_boolFault.p39 Q p_1 3 0 H_2)
            (CondB (v_4 == 4)
              (solve_boolFault.p34 Q p_1 (-1) 0 true H_2)
              (solve_boolFault.p34 Q p_1 (-1) 0 (v_4 == 5) H_2))))))
theorem solve_boolFault.b58_ok (Q : AHeap → Int → Prop) (Y58 : Tup [.ac, .int .i64, .int .i64] → AHeap → Prop) (X58 : Env → AHeap → Prop) (hX58 : ∀ s t H, solve_boolFault.R58 s t → Y58 s H → X58 t H) {x44 : AC} {x45 : Int} {x46 : Int} {H : AHeap} (j : Env) : solve_boolFault.b58 Q Y58 x44 x45 x46 H → wpC Try.prog solve_boolFault.c59 (upd (upd (upd j 44 (.one x44)) 45 (.one (.int .i64 x45))) 46 (.one (.int .i64 x46))) H (kSeq X58 (kBlk 2 (solve_boolFault.k55 Q))) := c_seq (c_ops (s_cons (w_put (o_lt rfl rfl (s_nil (k_seq (c_seq (c_if rfl (c_skip (k_seq (c_seq (c_blk (c_seq (c_ops (s_cons (w_put (o_ia rfl rfl (fun q_1 => s_cons (w_put (o_ld3 rfl (fun (v_2 : Int) (v_3 : Int) (v_4 : AC) => s_cons (w_put (o_new (fun p_5 H_6 => s_cons (w_run (o_st rfl rfl rfl (fun H_7 => s_nil (k_seq (c_seq (c_ops (s_cons (w_put (o_ld3 rfl (fun (v_8 : Int) (v_9 : Int) (v_10 : AC) => s_cons (w_put (o_call rfl (cv_1 (fun H_11 (v_12 : Int) => s_cons (w_put (o_mov rfl (s_nil (k_seq (c_seq (c_ops (s_cons (w_put (o_mov rfl (s_cons (w_put (o_ne rfl rfl (s_nil (k_seq (c_if rfl (c_seq (c_ops (s_cons (w_put (o_mov rfl (s_cons (w_put (o_mov rfl (s_nil (k_seq (c_ret (k_blkR (k_seqR (k_seqR (k_blkR (k_seqR (k_topR (r_one rfl (r_nil (fun h => ⟨((v_12 : Int), ()), rfl, h⟩)))))))))))))))))))) (c_skip (k_blk (k_seq (c_ops (s_cons (w_put (o_add rfl rfl (s_cons (w_put (o_mov rfl (s_nil (k_seq (hX58 _ _ _ ⟨rfl, rfl, rfl, trivial⟩)))))))))))))))))))))))))))))))))))))))))))))))))))))))))) (c_exit (k_seqE (k_seqE (k_blkH (k_seq (c_seq (c_ops (s_cons (w_put (o_mov rfl (s_nil (k_seq (c_ret (k_topR (r_one rfl (r_nil (fun h => ⟨((0 : Int), ()), rfl, h⟩)))))))))))))))))))))))))
theorem solve_boolFault.l58_ok (Q : AHeap → Int → Prop) {x44 : AC} {x45 : Int} {x46 : Int} {H : AHeap} {t : Env} (h44 : t 44 = (.one x44)) (h45 : t 45 = (.one (.int .i64 x45))) (h46 : t 46 = (.one (.int .i64 x46))) : solve_boolFault.l58 Q x44 x45 x46 H → wpC Try.prog (.loop solve_boolFault.c59) t H (kBlk 2 (solve_boolFault.k55 Q)) :=
  m_loop solve_boolFault.R58 ⟨h44, h45, h46, trivial⟩ fun X Y hX s t H hR hB => by
    have g := solve_boolFault.b58_ok Q Y X hX t hB
    rw [upd_self hR.1] at g
    rw [upd_self hR.2.1] at g
    rw [upd_self hR.2.2.1] at g
    exact g
theorem solve_boolFault.p49_okE (Q : AHeap → Int → Prop) {x1 : AC} {x33 : Bool} {H : AHeap} (j : Env) : solve_boolFault.p49 Q x1 x33 H → wpC Try.prog solve_boolFault.c49 (upd (upd j 1 (.one x1)) 33 (.one (.bool x33))) H (kBlk 1 (solve_boolFault.k40 Q)) := c_if rfl (c_seq (c_ops (s_cons (w_put (o_mov rfl (s_nil (k_seq (c_ret (k_blkR (k_seqR (k_topR (r_one rfl (r_nil (fun h => ⟨((1 : Int), ()), rfl, h⟩)))))))))))))) (c_skip (k_blk (k_seq (c_seq (c_seq (c_ops (s_cons (w_put (o_fa rfl (fun q_1 => s_cons (w_put (o_ld1 rfl (fun (v_2 : AC) => s_cons (w_put (o_lens rfl (fun n_3 => s_cons (w_put (o_mov rfl (s_nil (k_seq (c_blk (solve_boolFault.l58_ok Q rfl rfl rfl))))))))))))))))))))))
theorem solve_boolFault.p49_ok (Q : AHeap → Int → Prop) {x1 : AC} {x33 : Bool} {H : AHeap} {t : Env} (h1 : t 1 = (.one x1)) (h33 : t 33 = (.one (.bool x33))) (h : solve_boolFault.p49 Q x1 x33 H) : wpC Try.prog solve_boolFault.c49 t H (kBlk 1 (solve_boolFault.k40 Q)) := by
  have g := solve_boolFault.p49_okE Q t h
  rw [upd_self h1] at g
  rw [upd_self h33] at g
  exact g
theorem solve_boolFault.p43_okE (Q : AHeap → Int → Prop) {x1 : AC} {x4 : Int} {x23 : Bool} {H : AHeap} (j : Env) : solve_boolFault.p43 Q x1 x4 x23 H → wpC Try.prog solve_boolFault.c43 (upd (upd (upd j 1 (.one x1)) 4 (.one (.int .i64 x4))) 23 (.one (.bool x23))) H (kBlk 1 (solve_boolFault.k40 Q)) := c_if rfl (c_seq (c_ops (s_cons (w_put (o_mov rfl (s_nil (k_seq (c_ret (k_blkR (k_seqR (k_topR (r_one rfl (r_nil (fun h => ⟨((2 : Int), ()), rfl, h⟩)))))))))))))) (c_seq (c_ops (s_cons (w_put (o_fa rfl (fun q_1 => s_cons (w_put (o_ld1 rfl (fun (v_2 : Int) => s_cons (w_put (o_lt rfl rfl (s_cons (w_put (o_mov rfl (s_cons (w_gputF rfl (s_cons (w_gputN rfl (s_cons (w_gputN rfl (s_cons (w_gputN rfl (s_cons (w_put (o_pickT rfl rfl (s_cons (w_put (o_mov rfl (s_nil (k_seq (solve_boolFault.p49_ok Q rfl rfl))))))))))))))) (o_fa rfl (fun q_3 => s_cons (w_gputY rfl (o_ld1 rfl (fun (v_4 : Int) => s_cons (w_gputY rfl (o_mov rfl (s_cons (w_gputY rfl (o_gt rfl rfl (s_cons (w_put (o_pickF rfl rfl (s_cons (w_put (o_mov rfl (s_nil (k_seq (solve_boolFault.p49_ok Q rfl rfl)))))))))))))))))))))))))))))))))))
theorem solve_boolFault.p43_ok (Q : AHeap → Int → Prop) {x1 : AC} {x4 : Int} {x23 : Bool} {H : AHeap} {t : Env} (h1 : t 1 = (.one x1)) (h4 : t 4 = (.one (.int .i64 x4))) (h23 : t 23 = (.one (.bool x23))) (h : solve_boolFault.p43 Q x1 x4 x23 H) : wpC Try.prog solve_boolFault.c43 t H (kBlk 1 (solve_boolFault.k40 Q)) := by
  have g := solve_boolFault.p43_okE Q t h
  rw [upd_self h1] at g
  rw [upd_self h4] at g
  rw [upd_self h23] at g
  exact g
theorem solve_boolFault.p39_okE (Q : AHeap → Int → Prop) {x1 : AC} {x3 : Int} {x4 : Int} {H : AHeap} (j : Env) : solve_boolFault.p39 Q x1 x3 x4 H → wpC Try.prog solve_boolFault.c39 (upd (upd (upd j 1 (.one x1)) 3 (.one (.int .i64 x3))) 4 (.one (.int .i64 x4))) H (solve_boolFault.K Q) := c_seq (c_blk (c_seq (c_ops (s_cons (w_put (o_mov rfl (s_cons (w_put (o_ge rfl rfl (s_cons (w_put (o_mov rfl (s_cons (w_gputT rfl (o_fa rfl (fun q_1 => s_cons (w_gputY rfl (o_ld1 rfl (fun (v_2 : AC) => s_cons (w_gputY rfl (o_lens rfl (fun n_3 => s_cons (w_gputY rfl (o_mov rfl (s_cons (w_gputY rfl (o_ne rfl rfl (s_cons (w_put (o_pickT rfl rfl (s_cons (w_put (o_mov rfl (s_nil (k_seq (solve_boolFault.p43_ok Q rfl rfl rfl)))))))))))))))))))))) (s_cons (w_gputN rfl (s_cons (w_gputN rfl (s_cons (w_gputN rfl (s_cons (w_gputN rfl (s_cons (w_put (o_pickF rfl rfl (s_cons (w_put (o_mov rfl (s_nil (k_seq (solve_boolFault.p43_ok Q rfl rfl rfl)))))))))))))))))))))))))))))))
theorem solve_boolFault.p39_ok (Q : AHeap → Int → Prop) {x1 : AC} {x3 : Int} {x4 : Int} {H : AHeap} {t : Env} (h1 : t 1 = (.one x1)) (h3 : t 3 = (.one (.int .i64 x3))) (h4 : t 4 = (.one (.int .i64 x4))) (h : solve_boolFault.p39 Q x1 x3 x4 H) : wpC Try.prog solve_boolFault.c39 t H (solve_boolFault.K Q) := by
  have g := solve_boolFault.p39_okE Q t h
  rw [upd_self h1] at g
  rw [upd_self h3] at g
  rw [upd_self h4] at g
  exact g
theorem solve_boolFault.p34_okE (Q : AHeap → Int → Prop) {x1 : AC} {x3 : Int} {x4 : Int} {x20 : Bool} {H : AHeap} (j : Env) : solve_boolFault.p34 Q x1 x3 x4 x20 H → wpC Try.prog solve_boolFault.c34 (upd (upd (upd (upd j 1 (.one x1)) 3 (.one (.int .i64 x3))) 4 (.one (.int .i64 x4))) 20 (.one (.bool x20))) H (kBlk 0 (solve_boolFault.k5 Q)) := c_if rfl (c_skip (k_blk (k_seq (solve_boolFault.p39_ok Q rfl rfl rfl)))) (c_seq (c_ops (s_cons (w_put (o_mov rfl (s_nil (k_seq (c_ret (k_blkR (k_seqR (k_topR (r_one rfl (r_nil (fun h => ⟨((7 : Int), ()), rfl, h⟩))))))))))))))
theorem solve_boolFault.p34_ok (Q : AHeap → Int → Prop) {x1 : AC} {x3 : Int} {x4 : Int} {x20 : Bool} {H : AHeap} {t : Env} (h1 : t 1 = (.one x1)) (h3 : t 3 = (.one (.int .i64 x3))) (h4 : t 4 = (.one (.int .i64 x4))) (h20 : t 20 = (.one (.bool x20))) (h : solve_boolFault.p34 Q x1 x3 x4 x20 H) : wpC Try.prog solve_boolFault.c34 t H (kBlk 0 (solve_boolFault.k5 Q)) := by
  have g := solve_boolFault.p34_okE Q t h
  rw [upd_self h1] at g
  rw [upd_self h3] at g
  rw [upd_self h4] at g
  rw [upd_self h20] at g
  exact g
theorem solve_boolFault.ok {a0_0 : Int} {a0_1 : Int} {a0_2 : AC} {H : AHeap} (Q : AHeap → Int → Prop) : solve_boolFault.W a0_0 a0_1 a0_2 H Q → wpF Try.prog solve_boolFault.c [.tm 2] (envOf [(.agg [(.int .i64 a0_0), (.int .i64 a0_1), a0_2])]) H (solve_boolFault.KQ Q) := c_seq (c_ops (s_cons (w_put (o_box rfl (fun p_1 H_2 => s_cons (w_put (o_mov rfl (s_nil (k_seq (c_seq (c_ops (s_cons (w_put (o_mov rfl (s_cons (w_put (o_mov rfl (s_nil (k_seq (c_seq (c_seq (c_ops (s_cons (w_put (o_fa rfl (fun q_3 => s_cons (w_put (o_ld1 rfl (fun (v_4 : Int) => s_nil (k_seq (c_blk (c_seq (c_ops (s_cons (w_put (o_eq rfl rfl (s_cons (w_put (o_mov rfl (s_nil (k_seq (c_if rfl (c_ops (s_cons (w_put (o_mov rfl (s_cons (w_put (o_mov rfl (s_nil (k_blk (k_seq (solve_boolFault.p39_ok Q rfl rfl rfl))))))))))) (c_seq (c_ops (s_cons (w_put (o_eq rfl rfl (s_cons (w_put (o_mov rfl (s_nil (k_seq (c_if rfl (c_ops (s_cons (w_put (o_mov rfl (s_cons (w_put (o_mov rfl (s_nil (k_blk (k_seq (solve_boolFault.p39_ok Q rfl rfl rfl))))))))))) (c_seq (c_ops (s_cons (w_put (o_eq rfl rfl (s_cons (w_put (o_mov rfl (s_nil (k_seq (c_if rfl (c_ops (s_cons (w_put (o_mov rfl (s_nil (k_blk (k_seq (solve_boolFault.p39_ok Q rfl rfl rfl)))))))) (c_seq (c_ops (s_cons (w_put (o_eq rfl rfl (s_cons (w_put (o_mov rfl (s_nil (k_seq (c_if rfl (c_ops (s_cons (w_put (o_mov rfl (s_nil (k_blk (k_seq (solve_boolFault.p39_ok Q rfl rfl rfl)))))))) (c_seq (c_ops (s_cons (w_put (o_eq rfl rfl (s_cons (w_put (o_mov rfl (s_nil (k_seq (c_if rfl (c_ops (s_cons (w_put (o_mov rfl (s_nil (k_blk (k_seq (solve_boolFault.p39_ok Q rfl rfl rfl)))))))) (c_seq (c_seq (c_ops (s_cons (w_put (o_eq rfl rfl (s_cons (w_put (o_mov rfl (s_nil (k_seq (c_if rfl (c_skip (k_seq (solve_boolFault.p34_ok Q rfl rfl rfl rfl))) (c_ops (s_cons (w_put (o_eq rfl rfl (s_cons (w_put (o_mov rfl (s_nil (k_seq (solve_boolFault.p34_ok Q rfl rfl rfl rfl))))))))))))))))))))))))))))))))))))))))))))))))))))))))))))))))))))))))))))))))))))))))))))))))))))))))))))
theorem solve_boolFault.slimOk : slimOk [] (Try.f47.body.getD .skip) = true := by kernel_rfl
theorem solve_boolFault.resC : resC Try.prog aggs Try.f47.ntmps (slim [] (Try.f47.body.getD .skip)) = some solve_boolFault.c := by kernel_rfl
theorem solve_boolFault.resR : resR Try.prog Try.f47.results.toList = some [.tm 2] := by kernel_rfl
theorem solve_boolFault.bodyEq : Try.f47.body = some (Try.f47.body.getD .skip) := by kernel_rfl
theorem solve_boolFault.run {a0_0 : Int} {a0_1 : Int} {a0_2 : AC} {H : AHeap} {Q : AHeap → Int → Prop} (h : solve_boolFault.W a0_0 a0_1 a0_2 H Q) : Fn.solve_boolFault a0_0 a0_1 a0_2 H Q := by
  unfold Fn.solve_boolFault RunT
  exact run_of aggs_ok [] rfl Try.func47 solve_boolFault.bodyEq solve_boolFault.slimOk solve_boolFault.resC solve_boolFault.resR (Nat.le_of_ble_eq_true (by kernel_rfl)) (solve_boolFault.ok Q h)
end Go.Proofs.Ytanaaabejeeakaa
end
