/- Joined by a program: what the proof of the law leans on, part 5. -/
import Derived.Test.YtanaaabejeeakaaA4
import Derived.Test.YtanaaabejeeakaaRows
import Derived.WalkKit
import Derived.ProofKit
import Derived.OpenShut
import Derived.JoinedCond
import Derived.Below
import Derived.ChangeSame
set_option linter.unusedVariables false
set_option linter.unusedSimpArgs false
section
/- Printed by a program: functions and what must hold ahead of them. -/
namespace Go.Proofs.Ytanaaabejeeakaa
open Go.AI
set_option maxRecDepth 100000
set_option maxHeartbeats 2000000
set_option linter.unusedVariables false
attribute [local irreducible] Ld Sto New NewS NewM NN NZ GE0 FA IA IAP LenS Slc App Cpy Clr MkS Fnc NilQ IxS Look MSet Run CV RunT CVT LoopT Same1 Same2 wpC wpOs wpT wpO wpOp

def solve_Models_1.c38 : RC := (.ops [.put 64 (.ld false [.ac] (.tm 7)),
    .put 65 (.mov (.tm 11)),
    .put 66 (.mov (.tm 1)),
    .put 67 (.ar .add (.tm 66) (.ct (.one (.int .i64 1)))),
    .put 68 (.callv (.tm 64) [(.tm 65), (.tm 67)])])
def solve_Models_1.c35 : RC := (.cond 47 (.ops [.put 48 (.fa 0 (.tm 6)),
    .put 49 (.ld false [.ac] (.tm 48)),
    .put 50 (.mov (.tm 0)),
    .put 51 (.ia 3 (.tm 49) (.tm 50)),
    .put 52 (.fa 1 (.tm 51)),
    .put 53 (.ld false [.int .i64] (.tm 52)),
    .put 54 (.fa 0 (.tm 6)),
    .put 55 (.ld false [.ac] (.tm 54)),
    .put 56 (.mov (.tm 0)),
    .put 57 (.ia 3 (.tm 55) (.tm 56)),
    .put 58 (.fa 2 (.tm 57)),
    .put 59 (.ld false [.int .i64] (.tm 58)),
    .put 60 (.blds 3 1 2 [(.int .i64 0), (.int .i64 0)] [(0, 1, (.tm 53)), (1, 1, (.tm 59))]),
    .put 61 (.mov (.tm 10)),
    .put 62 (.ia 1 (.tm 60) (.tm 61)),
    .put 63 (.ld false [.int .i64] (.tm 62)),
    .put 11 (.mov (.tm 63))]) .skip)
def solve_Models_1.c18 : RC := (.seq (.ops [.put 29 (.cm .lt (.tm 28) (.ct (.one (.int .i64 2))))]) (.seq (.cond 29 .skip (.exit 0)) (.seq (.block 1 (.seq (.ops [.put 30 (.mov (.tm 28)),
    .put 10 (.mov (.tm 30))]) (.seq (.ops [.put 31 (.ld false [.ac] (.tm 5)),
    .put 32 (.mov (.tm 1)),
    .put 33 (.mov (.tm 10)),
    .put 34 (.ia 1 (.tm 31) (.tm 32)),
    .run (.st 1 (.tm 34) (.tm 33))]) (.seq (.ops [.put 35 (.mov (.tm 0)),
    .put 11 (.mov (.tm 35))]) (.seq (.seq (.ops [.put 36 (.mov (.tm 0)),
    .put 37 (.cm .ge (.tm 36) (.ct (.one (.int .i64 0)))),
    .put 38 (.mov (.tm 37)),
    .gput 39 38 true (.fa 0 (.tm 6)),
    .gput 40 38 true (.ld false [.ac] (.tm 39)),
    .gput 41 38 true (.mov (.tm 0)),
    .gput 42 38 true (.ia 3 (.tm 40) (.tm 41)),
    .gput 43 38 true (.fa 0 (.tm 42)),
    .gput 44 38 true (.ld false [.int .i64] (.tm 43)),
    .gput 45 38 true (.mov (.tm 1)),
    .gput 46 38 true (.cm .eq (.tm 44) (.tm 45)),
    .put 47 (.pick (.tm 38) (.tm 46) (.ct (.one (.bool false))))]) solve_Models_1.c35) solve_Models_1.c38))))) (.ops [.put 69 (.ar .add (.tm 28) (.ct (.one (.int .i64 1)))),
    .put 28 (.mov (.tm 69))]))))
def solve_Models_1.c3 : RC := (.cond 19 .ret .skip)
def solve_Models_1.c : RC := (.seq (.seq (.ops [.put 12 (.mov (.tm 0)),
    .put 13 (.cm .eq (.tm 12) (.ct (.one (.int .i64 (-1))))),
    .put 14 (.mov (.tm 13)),
    .gput 15 14 false (.ld false [.ac] (.tm 2)),
    .gput 16 14 false (.lens (.tm 15)),
    .gput 17 14 false (.ld false [.int .i64] (.tm 3)),
    .gput 18 14 false (.cm .ge (.tm 16) (.tm 17)),
    .put 19 (.pick (.tm 14) (.ct (.one (.bool true))) (.tm 18))]) solve_Models_1.c3) (.seq (.seq (.ops [.put 20 (.mov (.tm 1)),
    .put 21 (.ld false [.int .i64] (.tm 4)),
    .put 22 (.cm .eq (.tm 20) (.tm 21))]) (.cond 22 (.seq (.held [.put 23 (.ld false [.ac] (.tm 2)),
    .put 24 (.ld false [.ac] (.tm 5)),
    .put 25 (.call 60 [(.tm 24)]),
    .put 26 (.blds 53 1 1 [(.sl none 0 0 (some 0))] [(0, 1, (.tm 25))]),
    .put 27 (.app 53 1 24 (.tm 23) (.tm 26)),
    .run (.st 1 (.tm 2) (.tm 27))] [(0, 2)]) .ret) .skip)) (.seq (.ops [.put 28 (.mov (.ct (.one (.int .i64 0))))]) (.block 0 (.loop solve_Models_1.c18)))))
abbrev solve_Models_1.KQ (Q : AHeap → Prop) : AV → AHeap → Prop := fun v H => ∃ xs : Tup (flat []), v = joinR (splitP [] (cellsOf (flat []) xs)) ∧ app (flat []) (Q H) xs
abbrev solve_Models_1.K (Q : AHeap → Prop) : Ex → Env → AHeap → Prop := kTop [] (solve_Models_1.KQ Q)
abbrev solve_Models_1.k1 (Q : AHeap → Prop) : Ex → Env → AHeap → Prop := kSeq (fun t H => wpC Try.prog (.seq (.seq (.ops [.put 20 (.mov (.tm 1)),
    .put 21 (.ld false [.int .i64] (.tm 4)),
    .put 22 (.cm .eq (.tm 20) (.tm 21))]) (.cond 22 (.seq (.held [.put 23 (.ld false [.ac] (.tm 2)),
    .put 24 (.ld false [.ac] (.tm 5)),
    .put 25 (.call 60 [(.tm 24)]),
    .put 26 (.blds 53 1 1 [(.sl none 0 0 (some 0))] [(0, 1, (.tm 25))]),
    .put 27 (.app 53 1 24 (.tm 23) (.tm 26)),
    .run (.st 1 (.tm 2) (.tm 27))] [(0, 2)]) .ret) .skip)) (.seq (.ops [.put 28 (.mov (.ct (.one (.int .i64 0))))]) (.block 0 (.loop solve_Models_1.c18)))) t H (solve_Models_1.K Q)) (solve_Models_1.K Q)
abbrev solve_Models_1.k25 (Q : AHeap → Prop) (X17 : Env → AHeap → Prop) : Ex → Env → AHeap → Prop := kSeq (fun t H => wpC Try.prog (.ops [.put 69 (.ar .add (.tm 28) (.ct (.one (.int .i64 1)))),
    .put 28 (.mov (.tm 69))]) t H (kSeq X17 (kBlk 0 (solve_Models_1.K Q)))) (kSeq X17 (kBlk 0 (solve_Models_1.K Q)))
abbrev solve_Models_1.k33 (Q : AHeap → Prop) (X17 : Env → AHeap → Prop) : Ex → Env → AHeap → Prop := kSeq (fun t H => wpC Try.prog solve_Models_1.c38 t H (kBlk 1 (solve_Models_1.k25 Q X17))) (kBlk 1 (solve_Models_1.k25 Q X17))
def solve_Models_1.R17 (s : Tup [.int .i64, .int .i64, .ac, .ac, .ac, .int .i64]) (t : Env) : Prop := t 0 = (.one (.int .i64 (s.1))) ∧ t 1 = (.one (.int .i64 (s.2.1))) ∧ t 5 = (.one (s.2.2.1)) ∧ t 6 = (.one (s.2.2.2.1)) ∧ t 7 = (.one (s.2.2.2.2.1)) ∧ t 28 = (.one (.int .i64 (s.2.2.2.2.2.1))) ∧ True
def solve_Models_1.p38 (Q : AHeap → Prop) (Y17 : Tup [.int .i64, .int .i64, .ac, .ac, .ac, .int .i64] → AHeap → Prop) (x0 : Int) (x1 : Int) (x5 : AC) (x6 : AC) (x7 : AC) (x11 : Int) (x28 : Int) (H : AHeap) : Prop :=
  Ld [.ac] H x7 fun (v_1 : AC) =>
  CVT Try.prog [] v_1 [(.one (.int .i64 x11)), (.one (.int .i64 (IntKind.wrap .i64 (x1 + 1))))] H fun H_2 =>
  Y17 ((x0 : Int), (x1 : Int), x5, x6, x7, ((IntKind.wrap .i64 (x28 + 1)) : Int), ()) H_2
def solve_Models_1.p35 (Q : AHeap → Prop) (Y17 : Tup [.int .i64, .int .i64, .ac, .ac, .ac, .int .i64] → AHeap → Prop) (x0 : Int) (x1 : Int) (x5 : AC) (x6 : AC) (x7 : AC) (x10 : Int) (x11 : Int) (x28 : Int) (x47 : Bool) (H : AHeap) : Prop :=
  CondB x47
    (FA 0 x6 fun q_1 =>
    Ld [.ac] H q_1 fun (v_2 : AC) =>
    IA 3 v_2 x0 fun q_3 =>
    FA 1 q_3 fun q_4 =>
    Ld [.int .i64] H q_4 fun (v_5 : Int) =>
    FA 0 x6 fun q_6 =>
    Ld [.ac] H q_6 fun (v_7 : AC) =>
    IA 3 v_7 x0 fun q_8 =>
    FA 2 q_8 fun q_9 =>
    Ld [.int .i64] H q_9 fun (v_10 : Int) =>
    NewS 3 1 2 [(.int .i64 v_5), (.int .i64 v_10)] H fun p_11 H_12 =>
    IA 1 p_11 x10 fun q_13 =>
    Ld [.int .i64] H_12 q_13 fun (v_14 : Int) =>
    solve_Models_1.p38 Q Y17 x0 x1 x5 x6 x7 v_14 x28 H_12)
    (solve_Models_1.p38 Q Y17 x0 x1 x5 x6 x7 x11 x28 H)
def solve_Models_1.b17 (Q : AHeap → Prop) (Y17 : Tup [.int .i64, .int .i64, .ac, .ac, .ac, .int .i64] → AHeap → Prop) (x0 : Int) (x1 : Int) (x5 : AC) (x6 : AC) (x7 : AC) (x28 : Int) (H : AHeap) : Prop :=
  CondB (decide (x28 < 2))
    (Ld [.ac] H x5 fun (v_1 : AC) =>
    IA 1 v_1 x1 fun q_2 =>
    Sto H q_2 [(.int .i64 x28)] fun H_3 =>
    CondB (decide (x0 ≥ 0))
      (FA 0 x6 fun q_4 =>
      Ld [.ac] H_3 q_4 fun (v_5 : AC) =>
      IA 3 v_5 x0 fun q_6 =>
      FA 0 q_6 fun q_7 =>
      Ld [.int .i64] H_3 q_7 fun (v_8 : Int) =>
      solve_Models_1.p35 Q Y17 x0 x1 x5 x6 x7 x28 x0 x28 (v_8 == x1) H_3)
      (solve_Models_1.p35 Q Y17 x0 x1 x5 x6 x7 x28 x0 x28 false H_3))
    (Q H )
def solve_Models_1.l17 (Q : AHeap → Prop) (x0 : Int) (x1 : Int) (x5 : AC) (x6 : AC) (x7 : AC) (x28 : Int) (H : AHeap) : Prop := LoopT (Tup [.int .i64, .int .i64, .ac, .ac, .ac, .int .i64]) (fun Y s H => solve_Models_1.b17 Q Y (s.1) (s.2.1) (s.2.2.1) (s.2.2.2.1) (s.2.2.2.2.1) (s.2.2.2.2.2.1) H) (x0, x1, x5, x6, x7, x28, ()) H
def solve_Models_1.p3 (Q : AHeap → Prop) (x0 : Int) (x1 : Int) (x2 : AC) (x4 : AC) (x5 : AC) (x6 : AC) (x7 : AC) (x19 : Bool) (H : AHeap) : Prop :=
  CondB x19
    (Q H )
    (Ld [.int .i64] H x4 fun (v_1 : Int) =>
    CondB (x1 == v_1)
      (Ld [.ac] H x2 fun (v_2 : AC) =>
      Ld [.ac] H x5 fun (v_3 : AC) =>
      Fn.slices_Clone_int_int v_3 H fun H_4 (v_5 : AC) =>
      NewS 53 1 1 [v_5] H_4 fun p_6 H_7 =>
      App 53 1 24 v_2 p_6 H_7 fun s_8 H_9 =>
      Sto H_9 x2 [s_8] fun H_10 =>
      Same1 H H_4 x2 1 ∧
      Q H_10 )
      (solve_Models_1.l17 Q x0 x1 x5 x6 x7 0 H))
def solve_Models_1.W (a0 : Int) (a1 : Int) (a2 : AC) (a3 : AC) (a4 : AC) (a5 : AC) (a6 : AC) (a7 : AC) (H : AHeap) (Q : AHeap → Prop) : Prop :=
  CondB (a0 == (-1))
    (solve_Models_1.p3 Q a0 a1 a2 a4 a5 a6 a7 true H)
    (Ld [.ac] H a2 fun (v_1 : AC) =>
    LenS v_1 fun n_2 =>
    Ld [.int .i64] H a3 fun (v_3 : Int) =>
    solve_Models_1.p3 Q a0 a1 a2 a4 a5 a6 a7 (decide (n_2 ≥ v_3)) H)
theorem solve_Models_1.p38_okE (Q : AHeap → Prop) (Y17 : Tup [.int .i64, .int .i64, .ac, .ac, .ac, .int .i64] → AHeap → Prop) (X17 : Env → AHeap → Prop) (hX17 : ∀ s t H, solve_Models_1.R17 s t → Y17 s H → X17 t H) {x0 : Int} {x1 : Int} {x5 : AC} {x6 : AC} {x7 : AC} {x11 : Int} {x28 : Int} {H : AHeap} (j : Env) : solve_Models_1.p38 Q Y17 x0 x1 x5 x6 x7 x11 x28 H → wpC Try.prog solve_Models_1.c38 (upd (upd (upd (upd (upd (upd (upd j 0 (.one (.int .i64 x0))) 1 (.one (.int .i64 x1))) 5 (.one x5)) 6 (.one x6)) 7 (.one x7)) 11 (.one (.int .i64 x11))) 28 (.one (.int .i64 x28))) H (kBlk 1 (solve_Models_1.k25 Q X17)) := c_ops (s_cons (w_put (o_ld1 rfl (fun (v_1 : AC) => s_cons (w_put (o_mov rfl (s_cons (w_put (o_mov rfl (s_cons (w_put (o_add rfl rfl (s_cons (w_put (o_callv rfl rfl (cu_0 (fun H_2 => s_nil (k_blk (k_seq (c_ops (s_cons (w_put (o_add rfl rfl (s_cons (w_put (o_mov rfl (s_nil (k_seq (hX17 _ _ _ ⟨rfl, rfl, rfl, rfl, rfl, rfl, trivial⟩)))))))))))))))))))))))))))))
theorem solve_Models_1.p38_ok (Q : AHeap → Prop) (Y17 : Tup [.int .i64, .int .i64, .ac, .ac, .ac, .int .i64] → AHeap → Prop) (X17 : Env → AHeap → Prop) (hX17 : ∀ s t H, solve_Models_1.R17 s t → Y17 s H → X17 t H) {x0 : Int} {x1 : Int} {x5 : AC} {x6 : AC} {x7 : AC} {x11 : Int} {x28 : Int} {H : AHeap} {t : Env} (h0 : t 0 = (.one (.int .i64 x0))) (h1 : t 1 = (.one (.int .i64 x1))) (h5 : t 5 = (.one x5)) (h6 : t 6 = (.one x6)) (h7 : t 7 = (.one x7)) (h11 : t 11 = (.one (.int .i64 x11))) (h28 : t 28 = (.one (.int .i64 x28))) (h : solve_Models_1.p38 Q Y17 x0 x1 x5 x6 x7 x11 x28 H) : wpC Try.prog solve_Models_1.c38 t H (kBlk 1 (solve_Models_1.k25 Q X17)) := by
  have g := solve_Models_1.p38_okE Q Y17 X17 hX17 t h
  rw [upd_self h0] at g
  rw [upd_self h1] at g
  rw [upd_self h5] at g
  rw [upd_self h6] at g
  rw [upd_self h7] at g
  rw [upd_self h11] at g
  rw [upd_self h28] at g
  exact g
theorem solve_Models_1.p35_okE (Q : AHeap → Prop) (Y17 : Tup [.int .i64, .int .i64, .ac, .ac, .ac, .int .i64] → AHeap → Prop) (X17 : Env → AHeap → Prop) (hX17 : ∀ s t H, solve_Models_1.R17 s t → Y17 s H → X17 t H) {x0 : Int} {x1 : Int} {x5 : AC} {x6 : AC} {x7 : AC} {x10 : Int} {x11 : Int} {x28 : Int} {x47 : Bool} {H : AHeap} (j : Env) : solve_Models_1.p35 Q Y17 x0 x1 x5 x6 x7 x10 x11 x28 x47 H → wpC Try.prog solve_Models_1.c35 (upd (upd (upd (upd (upd (upd (upd (upd (upd j 0 (.one (.int .i64 x0))) 1 (.one (.int .i64 x1))) 5 (.one x5)) 6 (.one x6)) 7 (.one x7)) 10 (.one (.int .i64 x10))) 11 (.one (.int .i64 x11))) 28 (.one (.int .i64 x28))) 47 (.one (.bool x47))) H (solve_Models_1.k33 Q X17) := c_if rfl (c_ops (s_cons (w_put (o_fa rfl (fun q_1 => s_cons (w_put (o_ld1 rfl (fun (v_2 : AC) => s_cons (w_put (o_mov rfl (s_cons (w_put (o_ia rfl rfl (fun q_3 => s_cons (w_put (o_fa rfl (fun q_4 => s_cons (w_put (o_ld1 rfl (fun (v_5 : Int) => s_cons (w_put (o_fa rfl (fun q_6 => s_cons (w_put (o_ld1 rfl (fun (v_7 : AC) => s_cons (w_put (o_mov rfl (s_cons (w_put (o_ia rfl rfl (fun q_8 => s_cons (w_put (o_fa rfl (fun q_9 => s_cons (w_put (o_ld1 rfl (fun (v_10 : Int) => s_cons (w_put (o_blds rfl (fun p_11 H_12 => s_cons (w_put (o_mov rfl (s_cons (w_put (o_ia rfl rfl (fun q_13 => s_cons (w_put (o_ld1 rfl (fun (v_14 : Int) => s_cons (w_put (o_mov rfl (s_nil (k_seq (solve_Models_1.p38_ok Q Y17 X17 hX17 rfl rfl rfl rfl rfl rfl rfl))))))))))))))))))))))))))))))))))))))))))))))))))))))) (c_skip (k_seq (solve_Models_1.p38_ok Q Y17 X17 hX17 rfl rfl rfl rfl rfl rfl rfl)))
theorem solve_Models_1.p35_ok (Q : AHeap → Prop) (Y17 : Tup [.int .i64, .int .i64, .ac, .ac, .ac, .int .i64] → AHeap → Prop) (X17 : Env → AHeap → Prop) (hX17 : ∀ s t H, solve_Models_1.R17 s t → Y17 s H → X17 t H) {x0 : Int} {x1 : Int} {x5 : AC} {x6 : AC} {x7 : AC} {x10 : Int} {x11 : Int} {x28 : Int} {x47 : Bool} {H : AHeap} {t : Env} (h0 : t 0 = (.one (.int .i64 x0))) (h1 : t 1 = (.one (.int .i64 x1))) (h5 : t 5 = (.one x5)) (h6 : t 6 = (.one x6)) (h7 : t 7 = (.one x7)) (h10 : t 10 = (.one (.int .i64 x10))) (h11 : t 11 = (.one (.int .i64 x11))) (h28 : t 28 = (.one (.int .i64 x28))) (h47 : t 47 = (.one (.bool x47))) (h : solve_Models_1.p35 Q Y17 x0 x1 x5 x6 x7 x10 x11 x28 x47 H) : wpC Try.prog solve_Models_1.c35 t H (solve_Models_1.k33 Q X17) := by
  have g := solve_Models_1.p35_okE Q Y17 X17 hX17 t h
  rw [upd_self h0] at g
  rw [upd_self h1] at g
  rw [upd_self h5] at g
  rw [upd_self h6] at g
  rw [upd_self h7] at g
  rw [upd_self h10] at g
  rw [upd_self h11] at g
  rw [upd_self h28] at g
  rw [upd_self h47] at g
  exact g
theorem solve_Models_1.b17_ok (Q : AHeap → Prop) (Y17 : Tup [.int .i64, .int .i64, .ac, .ac, .ac, .int .i64] → AHeap → Prop) (X17 : Env → AHeap → Prop) (hX17 : ∀ s t H, solve_Models_1.R17 s t → Y17 s H → X17 t H) {x0 : Int} {x1 : Int} {x5 : AC} {x6 : AC} {x7 : AC} {x28 : Int} {H : AHeap} (j : Env) : solve_Models_1.b17 Q Y17 x0 x1 x5 x6 x7 x28 H → wpC Try.prog solve_Models_1.c18 (upd (upd (upd (upd (upd (upd j 0 (.one (.int .i64 x0))) 1 (.one (.int .i64 x1))) 5 (.one x5)) 6 (.one x6)) 7 (.one x7)) 28 (.one (.int .i64 x28))) H (kSeq X17 (kBlk 0 (solve_Models_1.K Q))) := c_seq (c_ops (s_cons (w_put (o_lt rfl rfl (s_nil (k_seq (c_seq (c_if rfl (c_skip (k_seq (c_seq (c_blk (c_seq (c_ops (s_cons (w_put (o_mov rfl (s_cons (w_put (o_mov rfl (s_nil (k_seq (c_seq (c_ops (s_cons (w_put (o_ld1 rfl (fun (v_1 : AC) => s_cons (w_put (o_mov rfl (s_cons (w_put (o_mov rfl (s_cons (w_put (o_ia rfl rfl (fun q_2 => s_cons (w_run (o_st rfl rfl rfl (fun H_3 => s_nil (k_seq (c_seq (c_ops (s_cons (w_put (o_mov rfl (s_cons (w_put (o_mov rfl (s_nil (k_seq (c_seq (c_seq (c_ops (s_cons (w_put (o_mov rfl (s_cons (w_put (o_ge rfl rfl (s_cons (w_put (o_mov rfl (s_cons (w_gputT rfl (o_fa rfl (fun q_4 => s_cons (w_gputY rfl (o_ld1 rfl (fun (v_5 : AC) => s_cons (w_gputY rfl (o_mov rfl (s_cons (w_gputY rfl (o_ia rfl rfl (fun q_6 => s_cons (w_gputY rfl (o_fa rfl (fun q_7 => s_cons (w_gputY rfl (o_ld1 rfl (fun (v_8 : Int) => s_cons (w_gputY rfl (o_mov rfl (s_cons (w_gputY rfl (o_eq rfl rfl (s_cons (w_put (o_pickT rfl rfl (s_nil (k_seq (solve_Models_1.p35_ok Q Y17 X17 hX17 rfl rfl rfl rfl rfl rfl rfl rfl rfl)))))))))))))))))))))))))))) (s_cons (w_gputN rfl (s_cons (w_gputN rfl (s_cons (w_gputN rfl (s_cons (w_gputN rfl (s_cons (w_gputN rfl (s_cons (w_gputN rfl (s_cons (w_gputN rfl (s_cons (w_put (o_pickF rfl rfl (s_nil (k_seq (solve_Models_1.p35_ok Q Y17 X17 hX17 rfl rfl rfl rfl rfl rfl rfl rfl rfl))))))))))))))))))))))))))))))))))))))))))))))))))))))))))))))))))))))))))))) (c_exit (k_seqE (k_seqE (k_blkH (k_top (r_nil (fun h => ⟨(()), rfl, h⟩)))))))))))))))
theorem solve_Models_1.l17_ok (Q : AHeap → Prop) {x0 : Int} {x1 : Int} {x5 : AC} {x6 : AC} {x7 : AC} {x28 : Int} {H : AHeap} {t : Env} (h0 : t 0 = (.one (.int .i64 x0))) (h1 : t 1 = (.one (.int .i64 x1))) (h5 : t 5 = (.one x5)) (h6 : t 6 = (.one x6)) (h7 : t 7 = (.one x7)) (h28 : t 28 = (.one (.int .i64 x28))) : solve_Models_1.l17 Q x0 x1 x5 x6 x7 x28 H → wpC Try.prog (.loop solve_Models_1.c18) t H (kBlk 0 (solve_Models_1.K Q)) :=
  m_loop solve_Models_1.R17 ⟨h0, h1, h5, h6, h7, h28, trivial⟩ fun X Y hX s t H hR hB => by
    have g := solve_Models_1.b17_ok Q Y X hX t hB
    rw [upd_self hR.1] at g
    rw [upd_self hR.2.1] at g
    rw [upd_self hR.2.2.1] at g
    rw [upd_self hR.2.2.2.1] at g
    rw [upd_self hR.2.2.2.2.1] at g
    rw [upd_self hR.2.2.2.2.2.1] at g
    exact g
theorem solve_Models_1.p3_okE (Q : AHeap → Prop) {x0 : Int} {x1 : Int} {x2 : AC} {x4 : AC} {x5 : AC} {x6 : AC} {x7 : AC} {x19 : Bool} {H : AHeap} (j : Env) : solve_Models_1.p3 Q x0 x1 x2 x4 x5 x6 x7 x19 H → wpC Try.prog solve_Models_1.c3 (upd (upd (upd (upd (upd (upd (upd (upd j 0 (.one (.int .i64 x0))) 1 (.one (.int .i64 x1))) 2 (.one x2)) 4 (.one x4)) 5 (.one x5)) 6 (.one x6)) 7 (.one x7)) 19 (.one (.bool x19))) H (solve_Models_1.k1 Q) := c_if rfl (c_ret (k_seqR (k_topR (r_nil (fun h => ⟨(()), rfl, h⟩))))) (c_skip (k_seq (c_seq (c_seq (c_ops (s_cons (w_put (o_mov rfl (s_cons (w_put (o_ld1 rfl (fun (v_1 : Int) => s_cons (w_put (o_eq rfl rfl (s_nil (k_seq (c_if rfl (c_seq (c_held (t_cons (w_put (o_ld1 rfl (fun (v_2 : AC) => t_cons (w_put (o_ld1 rfl (fun (v_3 : AC) => t_cons (w_put (o_call rfl (cv_1 (fun H_4 (v_5 : AC) => t_cons (w_put (o_blds rfl (fun p_6 H_7 => t_cons (w_put (o_app rfl rfl (fun s_8 H_9 => t_cons (w_run (o_st rfl rfl rfl (fun H_10 => t_nil (p_one rfl rfl rfl rfl rfl rfl rfl rfl (p_nil (k_seq (c_ret (k_seqR (k_topR (r_nil (fun h => ⟨(()), rfl, h⟩)))))))))))))))))))))))))))))) (c_skip (k_seq (c_seq (c_ops (s_cons (w_put (o_mov rfl (s_nil (k_seq (c_blk (solve_Models_1.l17_ok Q rfl rfl rfl rfl rfl rfl))))))))))))))))))))))))))))
theorem solve_Models_1.p3_ok (Q : AHeap → Prop) {x0 : Int} {x1 : Int} {x2 : AC} {x4 : AC} {x5 : AC} {x6 : AC} {x7 : AC} {x19 : Bool} {H : AHeap} {t : Env} (h0 : t 0 = (.one (.int .i64 x0))) (h1 : t 1 = (.one (.int .i64 x1))) (h2 : t 2 = (.one x2)) (h4 : t 4 = (.one x4)) (h5 : t 5 = (.one x5)) (h6 : t 6 = (.one x6)) (h7 : t 7 = (.one x7)) (h19 : t 19 = (.one (.bool x19))) (h : solve_Models_1.p3 Q x0 x1 x2 x4 x5 x6 x7 x19 H) : wpC Try.prog solve_Models_1.c3 t H (solve_Models_1.k1 Q) := by
  have g := solve_Models_1.p3_okE Q t h
  rw [upd_self h0] at g
  rw [upd_self h1] at g
  rw [upd_self h2] at g
  rw [upd_self h4] at g
  rw [upd_self h5] at g
  rw [upd_self h6] at g
  rw [upd_self h7] at g
  rw [upd_self h19] at g
  exact g
theorem solve_Models_1.ok {a0 : Int} {a1 : Int} {a2 : AC} {a3 : AC} {a4 : AC} {a5 : AC} {a6 : AC} {a7 : AC} {H : AHeap} (Q : AHeap → Prop) : solve_Models_1.W a0 a1 a2 a3 a4 a5 a6 a7 H Q → wpF Try.prog solve_Models_1.c [] (envOf [(.one (.int .i64 a0)), (.one (.int .i64 a1)), (.one a2), (.one a3), (.one a4), (.one a5), (.one a6), (.one a7)]) H (solve_Models_1.KQ Q) := c_seq (c_seq (c_ops (s_cons (w_put (o_mov rfl (s_cons (w_put (o_eq rfl rfl (s_cons (w_put (o_mov rfl (s_cons (w_gputF rfl (s_cons (w_gputN rfl (s_cons (w_gputN rfl (s_cons (w_gputN rfl (s_cons (w_put (o_pickT rfl rfl (s_nil (k_seq (solve_Models_1.p3_ok Q rfl rfl rfl rfl rfl rfl rfl rfl)))))))))))) (o_ld1 rfl (fun (v_1 : AC) => s_cons (w_gputY rfl (o_lens rfl (fun n_2 => s_cons (w_gputY rfl (o_ld1 rfl (fun (v_3 : Int) => s_cons (w_gputY rfl (o_ge rfl rfl (s_cons (w_put (o_pickF rfl rfl (s_nil (k_seq (solve_Models_1.p3_ok Q rfl rfl rfl rfl rfl rfl rfl rfl)))))))))))))))))))))))))))))
theorem solve_Models_1.slimOk : slimOk [(2, [(0, 2)]), (9, [])] (Try.f59.body.getD .skip) = true := by kernel_rfl
theorem solve_Models_1.resC : resC Try.prog aggs Try.f59.ntmps (slim [(2, [(0, 2)]), (9, [])] (Try.f59.body.getD .skip)) = some solve_Models_1.c := by kernel_rfl
theorem solve_Models_1.resR : resR Try.prog Try.f59.results.toList = some [] := by kernel_rfl
theorem solve_Models_1.bodyEq : Try.f59.body = some (Try.f59.body.getD .skip) := by kernel_rfl
theorem solve_Models_1.run {a0 : Int} {a1 : Int} {a2 : AC} {a3 : AC} {a4 : AC} {a5 : AC} {a6 : AC} {a7 : AC} {H : AHeap} {Q : AHeap → Prop} (h : solve_Models_1.W a0 a1 a2 a3 a4 a5 a6 a7 H Q) : Fn.solve_Models_1 a0 a1 a2 a3 a4 a5 a6 a7 H Q := by
  unfold Fn.solve_Models_1 RunT
  exact run_of aggs_ok [(2, [(0, 2)]), (9, [])] Try.func59 solve_Models_1.bodyEq solve_Models_1.slimOk solve_Models_1.resC solve_Models_1.resR (Nat.le_of_ble_eq_true (by kernel_rfl)) (solve_Models_1.ok Q h)

def slices_Clone_int_int.c : RC := (.seq (.ops [.put 2 (.mov (.ct (.one (.sl none 0 0 (some 0)))))]) (.seq (.seq (.ops [.put 3 (.mov (.tm 0)),
    .put 4 (.isnil false (.tm 3))]) (.cond 4 (.seq (.ops [.put 2 (.mov (.ct (.one (.sl none 0 0 (some 0)))))]) .ret) .skip)) (.seq (.ops [.put 5 (.blds 3 1 0 [] []),
    .put 6 (.mov (.tm 0)),
    .put 7 (.app 3 1 8 (.tm 5) (.tm 6)),
    .put 2 (.mov (.tm 7))]) .ret)))
abbrev slices_Clone_int_int.KQ (Q : AHeap → AC → Prop) : AV → AHeap → Prop := fun v H => ∃ xs : Tup (flat [(false, [.ac])]), v = joinR (splitP [(false, [.ac])] (cellsOf (flat [(false, [.ac])]) xs)) ∧ app (flat [(false, [.ac])]) (Q H) xs
abbrev slices_Clone_int_int.K (Q : AHeap → AC → Prop) : Ex → Env → AHeap → Prop := kTop [.tm 2] (slices_Clone_int_int.KQ Q)
def slices_Clone_int_int.W (a0 : AC) (H : AHeap) (Q : AHeap → AC → Prop) : Prop :=
  NilQ a0 fun b_1 =>
  CondB b_1
    (Q H (.sl none 0 0 (some 0)))
    (NewS 3 1 0 [] H fun p_2 H_3 =>
    App 3 1 8 p_2 a0 H_3 fun s_4 H_5 =>
    Q H_5 s_4)
theorem slices_Clone_int_int.ok {a0 : AC} {H : AHeap} (Q : AHeap → AC → Prop) : slices_Clone_int_int.W a0 H Q → wpF Try.prog slices_Clone_int_int.c [.tm 2] (envOf [(.one a0)]) H (slices_Clone_int_int.KQ Q) := c_seq (c_ops (s_cons (w_put (o_mov rfl (s_nil (k_seq (c_seq (c_seq (c_ops (s_cons (w_put (o_mov rfl (s_cons (w_put (o_isnil rfl (fun b_1 => s_nil (k_seq (c_if rfl (c_seq (c_ops (s_cons (w_put (o_mov rfl (s_nil (k_seq (c_ret (k_seqR (k_topR (r_one rfl (r_nil (fun h => ⟨((.sl none 0 0 (some 0)), ()), rfl, h⟩))))))))))))) (c_skip (k_seq (c_seq (c_ops (s_cons (w_put (o_blds rfl (fun p_2 H_3 => s_cons (w_put (o_mov rfl (s_cons (w_put (o_app rfl rfl (fun s_4 H_5 => s_cons (w_put (o_mov rfl (s_nil (k_seq (c_ret (k_topR (r_one rfl (r_nil (fun h => ⟨(s_4, ()), rfl, h⟩)))))))))))))))))))))))))))))))))))))))))
theorem slices_Clone_int_int.slimOk : slimOk [] (Try.f60.body.getD .skip) = true := by kernel_rfl
theorem slices_Clone_int_int.resC : resC Try.prog aggs Try.f60.ntmps (slim [] (Try.f60.body.getD .skip)) = some slices_Clone_int_int.c := by kernel_rfl
theorem slices_Clone_int_int.resR : resR Try.prog Try.f60.results.toList = some [.tm 2] := by kernel_rfl
theorem slices_Clone_int_int.bodyEq : Try.f60.body = some (Try.f60.body.getD .skip) := by kernel_rfl
theorem slices_Clone_int_int.run {a0 : AC} {H : AHeap} {Q : AHeap → AC → Prop} (h : slices_Clone_int_int.W a0 H Q) : Fn.slices_Clone_int_int a0 H Q := by
  unfold Fn.slices_Clone_int_int RunT
  exact run_of aggs_ok [] Try.func60 slices_Clone_int_int.bodyEq slices_Clone_int_int.slimOk slices_Clone_int_int.resC slices_Clone_int_int.resR (Nat.le_of_ble_eq_true (by kernel_rfl)) (slices_Clone_int_int.ok Q h)

def solve_manager_diagram.c : RC := (.seq (.ops [.put 2 (.box 64 (.tm 0)),
    .put 4 (.new 27 [(.sl none 0 0 (some 0)), (.int .i64 0)])]) (.seq (.ops [.put 5 (.new 27 [(.sl none 0 0 (some 0)), (.int .i64 0)])]) (.seq (.ops [.put 8 (.mkm),
    .put 6 (.new 109 [(.map none)]),
    .run (.st 1 (.tm 6) (.tm 8))]) (.seq (.ops [.put 7 (.new 75 [.nilFn])]) (.seq (.ops [.put 9 (.fn 88 [] [(.tm 6), (.tm 7), (.tm 2), (.tm 5)]),
    .run (.st 1 (.tm 7) (.tm 9))]) (.seq (.ops [.put 10 (.ld false [.ac] (.tm 7)),
    .put 11 (.mov (.tm 1)),
    .put 12 (.callv (.tm 10) [(.tm 11)]),
    .put 13 (.fa 1 (.tm 5)),
    .run (.st 1 (.tm 13) (.tm 12))]) (.seq (.ops [.put 14 (.ld true [.ac, .int .i64] (.tm 5)),
    .run (.st 2 (.tm 4) (.tm 14))]) .ret)))))))
abbrev solve_manager_diagram.KQ (Q : AHeap → AC → Int → Prop) : AV → AHeap → Prop := fun v H => ∃ xs : Tup (flat [(true, [.ac, .int .i64])]), v = joinR (splitP [(true, [.ac, .int .i64])] (cellsOf (flat [(true, [.ac, .int .i64])]) xs)) ∧ app (flat [(true, [.ac, .int .i64])]) (Q H) xs
abbrev solve_manager_diagram.K (Q : AHeap → AC → Int → Prop) : Ex → Env → AHeap → Prop := kTop [.cell 4 true [.ac, .int .i64]] (solve_manager_diagram.KQ Q)
def solve_manager_diagram.W (a0 : AC) (a1 : Int) (H : AHeap) (Q : AHeap → AC → Int → Prop) : Prop :=
  New 64 [a0] H fun p_1 H_2 =>
  New 27 [(.sl none 0 0 (some 0)), (.int .i64 0)] H_2 fun p_3 H_4 =>
  New 27 [(.sl none 0 0 (some 0)), (.int .i64 0)] H_4 fun p_5 H_6 =>
  NewM H_6 fun p_7 H_8 =>
  New 109 [(.map none)] H_8 fun p_9 H_10 =>
  Sto H_10 p_9 [p_7] fun H_11 =>
  New 75 [.nilFn] H_11 fun p_12 H_13 =>
  Fnc 88 [] [p_9, p_12, p_1, p_5] fun f_14 =>
  Sto H_13 p_12 [f_14] fun H_15 =>
  Ld [.ac] H_15 p_12 fun (v_16 : AC) =>
  CVT Try.prog [(false, [.int .i64])] v_16 [(.one (.int .i64 a1))] H_15 fun H_17 (v_18 : Int) =>
  FA 1 p_5 fun q_19 =>
  Sto H_17 q_19 [(.int .i64 v_18)] fun H_20 =>
  Ld [.ac, .int .i64] H_20 p_5 fun (v_21 : AC) (v_22 : Int) =>
  Sto H_20 p_3 [v_21, (.int .i64 v_22)] fun H_23 =>
  Ld [.ac, .int .i64] H_23 p_3 fun (r0_24 : AC) (r1_25 : Int) =>
  Q H_23 r0_24 r1_25
theorem solve_manager_diagram.ok {a0 : AC} {a1 : Int} {H : AHeap} (Q : AHeap → AC → Int → Prop) : solve_manager_diagram.W a0 a1 H Q → wpF Try.prog solve_manager_diagram.c [.cell 4 true [.ac, .int .i64]] (envOf [(.one a0), (.one (.int .i64 a1))]) H (solve_manager_diagram.KQ Q) := c_seq (c_ops (s_cons (w_put (o_box rfl (fun p_1 H_2 => s_cons (w_put (o_new (fun p_3 H_4 => s_nil (k_seq (c_seq (c_ops (s_cons (w_put (o_new (fun p_5 H_6 => s_nil (k_seq (c_seq (c_ops (s_cons (w_put (o_mkm (fun p_7 H_8 => s_cons (w_put (o_new (fun p_9 H_10 => s_cons (w_run (o_st rfl rfl rfl (fun H_11 => s_nil (k_seq (c_seq (c_ops (s_cons (w_put (o_new (fun p_12 H_13 => s_nil (k_seq (c_seq (c_ops (s_cons (w_put (o_fn rfl rfl (fun f_14 => s_cons (w_run (o_st rfl rfl rfl (fun H_15 => s_nil (k_seq (c_seq (c_ops (s_cons (w_put (o_ld1 rfl (fun (v_16 : AC) => s_cons (w_put (o_mov rfl (s_cons (w_put (o_callv rfl rfl (cu_1 (fun H_17 (v_18 : Int) => s_cons (w_put (o_fa rfl (fun q_19 => s_cons (w_run (o_st rfl rfl rfl (fun H_20 => s_nil (k_seq (c_seq (c_ops (s_cons (w_put (o_ld2 rfl (fun (v_21 : AC) (v_22 : Int) => s_cons (w_run (o_st rfl rfl rfl (fun H_23 => s_nil (k_seq (c_ret (k_topR (r_cell2 rfl (fun (r0_24 : AC) (r1_25 : Int) => r_nil (fun h => ⟨(r0_24, (r1_25 : Int), ()), rfl, h⟩)))))))))))))))))))))))))))))))))))))))))))))))))))))))))))))))))))))))))))))))))
theorem solve_manager_diagram.slimOk : slimOk [] (Try.f63.body.getD .skip) = true := by kernel_rfl
theorem solve_manager_diagram.resC : resC Try.prog aggs Try.f63.ntmps (slim [] (Try.f63.body.getD .skip)) = some solve_manager_diagram.c := by kernel_rfl
theorem solve_manager_diagram.resR : resR Try.prog Try.f63.results.toList = some [.cell 4 true [.ac, .int .i64]] := by kernel_rfl
theorem solve_manager_diagram.bodyEq : Try.f63.body = some (Try.f63.body.getD .skip) := by kernel_rfl
theorem solve_manager_diagram.run {a0 : AC} {a1 : Int} {H : AHeap} {Q : AHeap → AC → Int → Prop} (h : solve_manager_diagram.W a0 a1 H Q) : Fn.solve_manager_diagram a0 a1 H Q := by
  unfold Fn.solve_manager_diagram RunT
  exact run_of aggs_ok [] Try.func63 solve_manager_diagram.bodyEq solve_manager_diagram.slimOk solve_manager_diagram.resC solve_manager_diagram.resR (Nat.le_of_ble_eq_true (by kernel_rfl)) (solve_manager_diagram.ok Q h)

def slices_Equal_fetterlock_api_Node_fetterlock_api_Node.c15 : RC := (.seq (.ops [.put 14 (.cm .lt (.tm 13) (.tm 12))]) (.seq (.cond 14 .skip (.exit 0)) (.seq (.block 1 (.seq (.ops [.put 15 (.mov (.tm 13)),
    .put 5 (.mov (.tm 15))]) (.seq (.ops [.put 16 (.mov (.tm 0)),
    .put 17 (.mov (.tm 5)),
    .put 18 (.ia 3 (.tm 16) (.tm 17)),
    .put 19 (.ld true [.int .i64, .int .i64, .int .i64] (.tm 18)),
    .put 20 (.mov (.tm 1)),
    .put 21 (.mov (.tm 5)),
    .put 22 (.ia 3 (.tm 20) (.tm 21)),
    .put 23 (.ld true [.int .i64, .int .i64, .int .i64] (.tm 22)),
    .put 24 (.eqa true 3 (.tm 19) (.tm 23))]) (.cond 24 (.seq (.ops [.put 4 (.mov (.ct (.one (.bool false))))]) .ret) .skip)))) (.ops [.put 25 (.ar .add (.tm 13) (.ct (.one (.int .i64 1)))),
    .put 13 (.mov (.tm 25))]))))
def slices_Equal_fetterlock_api_Node_fetterlock_api_Node.c : RC := (.seq (.ops [.put 4 (.mov (.ct (.one (.bool false))))]) (.seq (.seq (.ops [.put 6 (.mov (.tm 0)),
    .put 7 (.lens (.tm 6)),
    .put 8 (.mov (.tm 1)),
    .put 9 (.lens (.tm 8)),
    .put 10 (.cm .ne (.tm 7) (.tm 9))]) (.cond 10 (.seq (.ops [.put 4 (.mov (.ct (.one (.bool false))))]) .ret) .skip)) (.seq (.seq (.ops [.put 11 (.mov (.tm 0)),
    .put 12 (.lens (.tm 11)),
    .put 13 (.mov (.ct (.one (.int .i64 0))))]) (.block 0 (.loop slices_Equal_fetterlock_api_Node_fetterlock_api_Node.c15))) (.seq (.ops [.put 4 (.mov (.ct (.one (.bool true))))]) .ret))))
abbrev slices_Equal_fetterlock_api_Node_fetterlock_api_Node.KQ (Q : AHeap → Bool → Prop) : AV → AHeap → Prop := fun v H => ∃ xs : Tup (flat [(false, [.bool])]), v = joinR (splitP [(false, [.bool])] (cellsOf (flat [(false, [.bool])]) xs)) ∧ app (flat [(false, [.bool])]) (Q H) xs
abbrev slices_Equal_fetterlock_api_Node_fetterlock_api_Node.K (Q : AHeap → Bool → Prop) : Ex → Env → AHeap → Prop := kTop [.tm 4] (slices_Equal_fetterlock_api_Node_fetterlock_api_Node.KQ Q)
abbrev slices_Equal_fetterlock_api_Node_fetterlock_api_Node.k11 (Q : AHeap → Bool → Prop) : Ex → Env → AHeap → Prop := kSeq (fun t H => wpC Try.prog (.seq (.ops [.put 4 (.mov (.ct (.one (.bool true))))]) .ret) t H (slices_Equal_fetterlock_api_Node_fetterlock_api_Node.K Q)) (slices_Equal_fetterlock_api_Node_fetterlock_api_Node.K Q)
def slices_Equal_fetterlock_api_Node_fetterlock_api_Node.R14 (s : Tup [.ac, .ac, .int .i64, .int .i64]) (t : Env) : Prop := t 0 = (.one (s.1)) ∧ t 1 = (.one (s.2.1)) ∧ t 12 = (.one (.int .i64 (s.2.2.1))) ∧ t 13 = (.one (.int .i64 (s.2.2.2.1))) ∧ True
def slices_Equal_fetterlock_api_Node_fetterlock_api_Node.b14 (Q : AHeap → Bool → Prop) (Y14 : Tup [.ac, .ac, .int .i64, .int .i64] → AHeap → Prop) (x0 : AC) (x1 : AC) (x12 : Int) (x13 : Int) (H : AHeap) : Prop :=
  CondB (decide (x13 < x12))
    (IA 3 x0 x13 fun q_1 =>
    Ld [.int .i64, .int .i64, .int .i64] H q_1 fun (v_2 : Int) (v_3 : Int) (v_4 : Int) =>
    IA 3 x1 x13 fun q_5 =>
    Ld [.int .i64, .int .i64, .int .i64] H q_5 fun (v_6 : Int) (v_7 : Int) (v_8 : Int) =>
    CondB (!(decide (([v_2, v_3, v_4] : List Int) = ([v_6, v_7, v_8] : List Int))))
      (Q H false)
      (Y14 (x0, x1, (x12 : Int), ((IntKind.wrap .i64 (x13 + 1)) : Int), ()) H))
    (Q H true)
def slices_Equal_fetterlock_api_Node_fetterlock_api_Node.l14 (Q : AHeap → Bool → Prop) (x0 : AC) (x1 : AC) (x12 : Int) (x13 : Int) (H : AHeap) : Prop := LoopT (Tup [.ac, .ac, .int .i64, .int .i64]) (fun Y s H => slices_Equal_fetterlock_api_Node_fetterlock_api_Node.b14 Q Y (s.1) (s.2.1) (s.2.2.1) (s.2.2.2.1) H) (x0, x1, x12, x13, ()) H
def slices_Equal_fetterlock_api_Node_fetterlock_api_Node.W (a0 : AC) (a1 : AC) (H : AHeap) (Q : AHeap → Bool → Prop) : Prop :=
  LenS a0 fun n_1 =>
  LenS a1 fun n_2 =>
  CondB (n_1 != n_2)
    (Q H false)
    (LenS a0 fun n_3 =>
    slices_Equal_fetterlock_api_Node_fetterlock_api_Node.l14 Q a0 a1 n_3 0 H)
theorem slices_Equal_fetterlock_api_Node_fetterlock_api_Node.b14_ok (Q : AHeap → Bool → Prop) (Y14 : Tup [.ac, .ac, .int .i64, .int .i64] → AHeap → Prop) (X14 : Env → AHeap → Prop) (hX14 : ∀ s t H, slices_Equal_fetterlock_api_Node_fetterlock_api_Node.R14 s t → Y14 s H → X14 t H) {x0 : AC} {x1 : AC} {x12 : Int} {x13 : Int} {H : AHeap} (j : Env) : slices_Equal_fetterlock_api_Node_fetterlock_api_Node.b14 Q Y14 x0 x1 x12 x13 H → wpC Try.prog slices_Equal_fetterlock_api_Node_fetterlock_api_Node.c15 (upd (upd (upd (upd j 0 (.one x0)) 1 (.one x1)) 12 (.one (.int .i64 x12))) 13 (.one (.int .i64 x13))) H (kSeq X14 (kBlk 0 (slices_Equal_fetterlock_api_Node_fetterlock_api_Node.k11 Q))) := c_seq (c_ops (s_cons (w_put (o_lt rfl rfl (s_nil (k_seq (c_seq (c_if rfl (c_skip (k_seq (c_seq (c_blk (c_seq (c_ops (s_cons (w_put (o_mov rfl (s_cons (w_put (o_mov rfl (s_nil (k_seq (c_seq (c_ops (s_cons (w_put (o_mov rfl (s_cons (w_put (o_mov rfl (s_cons (w_put (o_ia rfl rfl (fun q_1 => s_cons (w_put (o_ld3 rfl (fun (v_2 : Int) (v_3 : Int) (v_4 : Int) => s_cons (w_put (o_mov rfl (s_cons (w_put (o_mov rfl (s_cons (w_put (o_ia rfl rfl (fun q_5 => s_cons (w_put (o_ld3 rfl (fun (v_6 : Int) (v_7 : Int) (v_8 : Int) => s_cons (w_put (o_nea rfl rfl rfl rfl rfl (s_nil (k_seq (c_if rfl (c_seq (c_ops (s_cons (w_put (o_mov rfl (s_nil (k_seq (c_ret (k_blkR (k_seqR (k_seqR (k_blkR (k_seqR (k_topR (r_one rfl (r_nil (fun h => ⟨((false : Bool), ()), rfl, h⟩))))))))))))))))) (c_skip (k_blk (k_seq (c_ops (s_cons (w_put (o_add rfl rfl (s_cons (w_put (o_mov rfl (s_nil (k_seq (hX14 _ _ _ ⟨rfl, rfl, rfl, rfl, trivial⟩))))))))))))))))))))))))))))))))))))))))))))))))))))))))))) (c_exit (k_seqE (k_seqE (k_blkH (k_seq (c_seq (c_ops (s_cons (w_put (o_mov rfl (s_nil (k_seq (c_ret (k_topR (r_one rfl (r_nil (fun h => ⟨((true : Bool), ()), rfl, h⟩)))))))))))))))))))))))))
theorem slices_Equal_fetterlock_api_Node_fetterlock_api_Node.l14_ok (Q : AHeap → Bool → Prop) {x0 : AC} {x1 : AC} {x12 : Int} {x13 : Int} {H : AHeap} {t : Env} (h0 : t 0 = (.one x0)) (h1 : t 1 = (.one x1)) (h12 : t 12 = (.one (.int .i64 x12))) (h13 : t 13 = (.one (.int .i64 x13))) : slices_Equal_fetterlock_api_Node_fetterlock_api_Node.l14 Q x0 x1 x12 x13 H → wpC Try.prog (.loop slices_Equal_fetterlock_api_Node_fetterlock_api_Node.c15) t H (kBlk 0 (slices_Equal_fetterlock_api_Node_fetterlock_api_Node.k11 Q)) :=
  m_loop slices_Equal_fetterlock_api_Node_fetterlock_api_Node.R14 ⟨h0, h1, h12, h13, trivial⟩ fun X Y hX s t H hR hB => by
    have g := slices_Equal_fetterlock_api_Node_fetterlock_api_Node.b14_ok Q Y X hX t hB
    rw [upd_self hR.1] at g
    rw [upd_self hR.2.1] at g
    rw [upd_self hR.2.2.1] at g
    rw [upd_self hR.2.2.2.1] at g
    exact g
theorem slices_Equal_fetterlock_api_Node_fetterlock_api_Node.ok {a0 : AC} {a1 : AC} {H : AHeap} (Q : AHeap → Bool → Prop) : slices_Equal_fetterlock_api_Node_fetterlock_api_Node.W a0 a1 H Q → wpF Try.prog slices_Equal_fetterlock_api_Node_fetterlock_api_Node.c [.tm 4] (envOf [(.one a0), (.one a1)]) H (slices_Equal_fetterlock_api_Node_fetterlock_api_Node.KQ Q) := c_seq (c_ops (s_cons (w_put (o_mov rfl (s_nil (k_seq (c_seq (c_seq (c_ops (s_cons (w_put (o_mov rfl (s_cons (w_put (o_lens rfl (fun n_1 => s_cons (w_put (o_mov rfl (s_cons (w_put (o_lens rfl (fun n_2 => s_cons (w_put (o_ne rfl rfl (s_nil (k_seq (c_if rfl (c_seq (c_ops (s_cons (w_put (o_mov rfl (s_nil (k_seq (c_ret (k_seqR (k_topR (r_one rfl (r_nil (fun h => ⟨((false : Bool), ()), rfl, h⟩))))))))))))) (c_skip (k_seq (c_seq (c_seq (c_ops (s_cons (w_put (o_mov rfl (s_cons (w_put (o_lens rfl (fun n_3 => s_cons (w_put (o_mov rfl (s_nil (k_seq (c_blk (slices_Equal_fetterlock_api_Node_fetterlock_api_Node.l14_ok Q rfl rfl rfl rfl)))))))))))))))))))))))))))))))))))))))))))))
theorem slices_Equal_fetterlock_api_Node_fetterlock_api_Node.slimOk : slimOk [(6, [])] (Try.f64.body.getD .skip) = true := by kernel_rfl
theorem slices_Equal_fetterlock_api_Node_fetterlock_api_Node.resC : resC Try.prog aggs Try.f64.ntmps (slim [(6, [])] (Try.f64.body.getD .skip)) = some slices_Equal_fetterlock_api_Node_fetterlock_api_Node.c := by kernel_rfl
theorem slices_Equal_fetterlock_api_Node_fetterlock_api_Node.resR : resR Try.prog Try.f64.results.toList = some [.tm 4] := by kernel_rfl
theorem slices_Equal_fetterlock_api_Node_fetterlock_api_Node.bodyEq : Try.f64.body = some (Try.f64.body.getD .skip) := by kernel_rfl
theorem slices_Equal_fetterlock_api_Node_fetterlock_api_Node.run {a0 : AC} {a1 : AC} {H : AHeap} {Q : AHeap → Bool → Prop} (h : slices_Equal_fetterlock_api_Node_fetterlock_api_Node.W a0 a1 H Q) : Fn.slices_Equal_fetterlock_api_Node_fetterlock_api_Node a0 a1 H Q := by
  unfold Fn.slices_Equal_fetterlock_api_Node_fetterlock_api_Node RunT
  exact run_of aggs_ok [(6, [])] Try.func64 slices_Equal_fetterlock_api_Node_fetterlock_api_Node.bodyEq slices_Equal_fetterlock_api_Node_fetterlock_api_Node.slimOk slices_Equal_fetterlock_api_Node_fetterlock_api_Node.resC slices_Equal_fetterlock_api_Node_fetterlock_api_Node.resR (Nat.le_of_ble_eq_true (by kernel_rfl)) (slices_Equal_fetterlock_api_Node_fetterlock_api_Node.ok Q h)

end Go.Proofs.Ytanaaabejeeakaa
end
section
/- The diagram of a node. -/
namespace Go.Proofs.Ytanaaabejeeakaa
open Go.AI Go.AI.DT

theorem lt88 : 88 < Try.prog.funcs.size := (Array.getElem?_eq_some_iff.1 Try.func88).1

/-- Where the walk over a manager's nodes keeps what it has. -/
structure DP where
  (nb wb xb ob nm : Nat)
def DP.loc (p : DP) (y : Nat) : Prop := y = p.nb ∨ y = p.wb ∨ y = p.xb ∨ y = p.ob ∨ y = p.nm
structure DS (H : AHeap) (m : AC) (F : Nat → Prop) (ts : List DT) (p : DP) (Fo : Nat → Prop) (ns : AC) (es : List (List Int × Int)) (st : List DT) : Prop where
  mgr : Mgr H m F ts
  o1 : Own H p.nb [.map (some p.nm)]
  o2 : Own H p.wb [.fn 88 [] [(p.nb, 0), (p.wb, 0), (p.xb, 0), (p.ob, 0)]]
  o3 : Own H p.xb [m]
  o4 : ∃ r0, Own H p.ob [ns, .int .i64 r0]
  sl : OwnS H ns 3 Fo (st.map fun x => nodeCells (row st x))
  mp : MapI H p.nm none es
  eok : ∀ x n, In ts x → (findI [ref ts x] es = some n ↔ x ∈ st ∧ n = ref st x)
  fin : Fin st
  sub : ∀ x ∈ st, x ∈ ts
  d1 : ∀ y, F y → ¬ Fo y ∧ ¬ p.loc y
  d2 : ∀ y, Fo y → ¬ p.loc y
  ne : p.ob ≠ p.nb ∧ p.ob ≠ p.wb ∧ p.ob ≠ p.xb ∧ p.nm ≠ p.nb ∧ p.nm ≠ p.wb ∧ p.nm ≠ p.xb ∧ p.nm ≠ p.ob

theorem DS.kp {H H' : AHeap} {m : AC} {F : Nat → Prop} {ts : List DT} {p : DP} {Fo : Nat → Prop} {ns : AC} {es : List (List Int × Int)} {st : List DT} (h : DS H m F ts p Fo ns es st) (k : Kp H H') : DS H' m F ts p Fo ns es st :=
  ⟨h.mgr.kp k, h.o1.kp k, h.o2.kp k, h.o3.kp k, let ⟨r, o⟩ := h.o4; ⟨r, o.kp k⟩, h.sl.kp k, h.mp.kp k, h.eok, h.fin, h.sub, h.d1, h.d2, h.ne⟩

/-- What a walk turns. -/
def Turned (p : DP) (Fo : Nat → Prop) (y : Nat) : Prop := y = p.ob ∨ y = p.nm ∨ Fo y

def DPost (H : AHeap) (m : AC) (F : Nat → Prop) (ts : List DT) (p : DP) (Fo : Nat → Prop) (st : List DT) (x : DT) (H' : AHeap) (q : Int) : Prop :=
  ∃ Fo' ns' es', DS H' m F ts p Fo' ns' es' (ser x st) ∧ Keep (Turned p Fo) H H' ∧ (∀ y, Fo' y → Fo y ∨ H.size ≤ y) ∧ q = ref (ser x st) x

theorem dwalk_c {m : AC} {F : Nat → Prop} {ts : List DT} {p : DP} (htl : ts.length < 4294967296) : ∀ (x : DT) {H : AHeap} {Fo : Nat → Prop} {ns : AC} {es : List (List Int × Int)} {st : List DT}, In ts x → DS H m F ts p Fo ns es st →
    Fn.solve_manager_diagram_1 (ref ts x) (.ptr (some (p.nb, 0))) (.ptr (some (p.wb, 0))) (.ptr (some (p.xb, 0))) (.ptr (some (p.ob, 0))) H fun H' q => DPost H m F ts p Fo st x H' q := by
  intro x
  induction x with
  | leaf b =>
    intro H Fo ns es st hx hd
    refine solve_manager_diagram_1.run ?_
    unfold solve_manager_diagram_1.W
    refine CondB.pos ?_ ⟨Fo, ns, es, hd, Keep.refl _ _, fun y h => .inl h, ?_⟩
    · rw [decide_eq_true_iff]; exact ref_leaf.2 ⟨b, rfl⟩
    · cases b <;> rfl
  | nd v l h ihl ihh =>
    intro H Fo ns es st hx hd
    have h0 : 0 ≤ ref ts (nd v l h) := by rw [ref_ge]; omega
    have hg := ref_get hx h0
    have hfin := hd.mgr.fin
    have hxm : nd v l h ∈ ts := hx.elim (fun ⟨b, e⟩ => by cases e) id
    obtain ⟨hinl, hinh, hro⟩ : In ts l ∧ In ts h ∧ (nd v l h).RO := by
      obtain ⟨_, _, _, e0, a1, a2, a3⟩ := hfin.parts _ hxm
      cases e0
      exact ⟨a1, a2, a3⟩
    refine solve_manager_diagram_1.run ?_
    unfold solve_manager_diagram_1.W
    refine CondB.neg (by rw [decide_eq_false_iff_not]; omega) (Ld.oc hd.o1 rfl (Look.i hd.mp rfl (fun n hf => ?_) fun hf => ?_))
    · obtain ⟨h1, h2⟩ := (hd.eok _ n hx).1 hf
      have hser : ser (nd v l h) st = st := by simp only [ser]; rw [if_pos h1]
      exact CondB.pos rfl ⟨Fo, ns, es, by rw [hser]; exact hd, Keep.refl _ _, fun y h => .inl h, by rw [hser]; exact h2⟩
    have hnin : nd v l h ∉ st := fun hin => by
      have := (hd.eok _ _ hx).2 ⟨hin, rfl⟩
      rw [hf] at this; cases this
    refine CondB.neg rfl (Ld.oc hd.o2 rfl (Ld.oc hd.o3 rfl ?_))
    -- the manager's node
    have node : ∀ {H : AHeap} {k : AC → Prop}, Mgr H m F ts → (∀ slc b o, SlR H slc 3 (ts.map fun x => nodeCells (row ts x)) → H.load (b, o) 3 = some (nodeCells (row ts (nd v l h))) → k (.ptr (some (b, o)))) →
        NN m (FA 0 m fun q => Ld [.ac] H q fun (vv : AC) => IA 3 vv (ref ts (nd v l h)) k) := by
      intro H k hm hk
      obtain ⟨mb, ib, db, Fs, slc, idx, done, hx'⟩ := hm
      obtain rfl := hx'.m_eq
      exact NN.ptr (FA.mk (Ld.oc hx'.own rfl (IA.of hx'.sl.slr h0 (r := nodeCells (row ts (nd v l h))) (by simp [hg]) fun b o hld => hk slc b o hx'.sl.slr hld)))
    refine node hd.mgr ?_; intro slc b o _ hld; refine FA.mk (Ld.ei hld rfl ?_)
    refine CVT.imp ?_ (CVT.mk lt88 (ihl hinl hd))
    rintro H1 q ⟨Fo1, ns1, es1, hd1, kp1, fr1, rfl⟩
    refine Ld.oc hd1.o2 rfl (Ld.oc hd1.o3 rfl (node hd1.mgr ?_)); intro slc b o _ hld; refine FA.mk (Ld.ei hld rfl ?_)
    refine CVT.imp ?_ (CVT.mk lt88 (ihh hinh hd1))
    rintro H2 q ⟨Fo2, ns2, es2, hd2, kp2, fr2, rfl⟩
    obtain ⟨r0, ho4⟩ := hd2.o4
    refine FA.mk (Ld.oc ho4 rfl (Ld.oc hd2.o3 rfl (node hd2.mgr ?_))); intro slc b o _ hld; refine FA.mk (Ld.ei hld rfl ?_)
    have hnin2 : nd v l h ∉ ser h (ser l st) := ser_new hnin
    have hil2 : In (ser h (ser l st)) l := (ser_in l st).mono (ser_prefix h _)
    have hih2 : In (ser h (ser l st)) h := ser_in h _
    have hrl : ref (ser l st) l = ref (ser h (ser l st)) l := (ref_mono (ser_in l st) (ser_prefix h _)).symm
    have hst2 : (ser h (ser l st)).length ≤ ts.length := hd2.fin.nodup.length_le_of_subset fun y hy => hd2.sub y hy
    have hser : ser (nd v l h) st = ser h (ser l st) ++ [nd v l h] := by simp only [ser]; rw [if_neg hnin]
    rw [hrl]
    obtain ⟨st2, hs2⟩ : ∃ s, s = ser h (ser l st) := ⟨_, rfl⟩
    rw [← hs2] at hd2 hnin2 hil2 hih2 hst2 hser ⊢
    refine NewS.own fun pb H3 hpb hs3 hbox3 hk3 => ?_
    have hd3 := hd2.kp hk3
    have hlF : ∀ y, Fo2 y → y < H2.size := hd2.sl.lt
    have hmF : ∀ y, F y → y < H2.size := hd2.mgr.lt
    have hob := ho4.lt
    have hnmb := hd2.mp.lt
    refine App.own hd3.sl (r := nodeCells ((v : Int), ref st2 l, ref st2 h)) ⟨pb, _, rfl, hbox3.all⟩ rfl (by rw [List.length_map]; omega) (by rw [List.length_map]; omega) fun ns4 H4 sl4 hk4 hs4 => ?_
    have ho4' := (ho4.kp hk3).keep hk4 (fun e => hd2.d2 _ e (.inr (.inr (.inr (.inl rfl)))))
    refine FA.mk (Sto.own ho4' (show 0 + 0 + 1 ≤ 2 by omega) fun H5 ho5 hk5 hs5 => ?_)
    simp only [List.take_zero, List.nil_append, List.cons_append, List.length_cons, List.length_nil, Nat.zero_add, Nat.add_zero, List.drop_succ_cons, List.drop_zero] at ho5
    have o15 := (hd3.o1.keep hk4 (fun e => hd2.d2 _ e (.inl rfl))).keep hk5 (fun e => hd2.ne.1 e.symm)
    have sl5 := sl4.keep hk5 (fun y e h => by
      subst e
      rcases h with h | h
      · exact hd2.d2 _ h (.inr (.inr (.inr (.inl rfl))))
      · omega)
    have mp5 := (hd3.mp.keep hk4 (fun e => hd2.d2 _ e (.inr (.inr (.inr (.inr rfl)))))).keep hk5 hd2.ne.2.2.2.2.2.2
    refine Ld.oc o15 rfl (FA.mk (Ld.oc ho5 rfl (LenS.of sl5.slr (MSet.i mp5 rfl fun H6 mp6 hk6 hs6 => ?_))))
    have o16 := o15.keep hk6 (fun e => hd2.ne.2.2.2.1 e.symm)
    have hlen : IntKind.wrap .i64 ((((st2.map fun x => nodeCells (row st2 x)) ++ [nodeCells ((v : Int), ref st2 l, ref st2 h)]).length : Int) - 1) = (st2.length : Int) := by
      simp only [List.length_append, List.length_map, List.length_cons, List.length_nil]
      exact (wrap64 (by omega) (by omega)).trans (by omega)
    rw [hlen] at mp6
    have hp : st2 <+: st2 ++ [nd v l h] := List.prefix_append _ _
    refine Ld.oc o16 rfl (Look.i mp6 rfl (fun n hf6 => ?_) fun hf6 => ?_)
    · rw [findI_set, if_pos rfl] at hf6
      simp only [Option.some.injEq] at hf6
      subst hf6
      refine ⟨fun y => Fo2 y ∨ y = H3.size, ns4, setI [ref ts (nd v l h)] (st2.length : Int) es2, ?_, ?_, ?_, ?_⟩
      · rw [hser]
        refine ⟨?_, o16, ?_, ?_, ⟨r0, ho5.keep hk6 (fun e => hd2.ne.2.2.2.2.2.2 e.symm)⟩, ?_, mp6, ?_, hd2.fin.snoc hnin2 hil2 hih2 hro, ?_, ?_, ?_, hd2.ne⟩
        · refine ((hd3.mgr.keep hk4 (fun y h1 h2 => (hd2.d1 y h2).1 h1)).keep hk5 (fun y e h2 => (hd2.d1 y h2).2 (.inr (.inr (.inr (.inl e)))))).keep hk6 (fun y e h2 => (hd2.d1 y h2).2 (.inr (.inr (.inr (.inr e)))))
        · exact ((hd3.o2.keep hk4 (fun e => hd2.d2 _ e (.inr (.inl rfl)))).keep hk5 (fun e => hd2.ne.2.1 e.symm)).keep hk6 (fun e => hd2.ne.2.2.2.2.1 e.symm)
        · exact ((hd3.o3.keep hk4 (fun e => hd2.d2 _ e (.inr (.inr (.inl rfl))))).keep hk5 (fun e => hd2.ne.2.2.1 e.symm)).keep hk6 (fun e => hd2.ne.2.2.2.2.2.1 e.symm)
        · have hrows : (st2 ++ [nd v l h]).map (fun x => nodeCells (row (st2 ++ [nd v l h]) x)) = (st2.map fun x => nodeCells (row st2 x)) ++ [nodeCells ((v : Int), ref st2 l, ref st2 h)] := by
            have e2 : st2.map (fun x => nodeCells (row (st2 ++ [nd v l h]) x)) = st2.map fun x => nodeCells (row st2 x) := by
              have := congrArg (List.map nodeCells) (hd2.fin.row_mono hp)
              simpa [List.map_map, Function.comp_def] using this
            rw [List.map_append, e2]
            simp only [List.map_cons, List.map_nil, row, ref_mono hil2 hp, ref_mono hih2 hp]
          rw [hrows]
          exact sl5.keep hk6 (fun y e h => by
            subst e
            rcases h with h | h
            · exact hd2.d2 _ h (.inr (.inr (.inr (.inr rfl))))
            · omega)
        · intro y n hy
          rw [findI_set]
          by_cases hyx : y = nd v l h
          · subst hyx
            rw [if_pos rfl, ref_new hnin2]
            constructor
            · intro e; simp only [Option.some.injEq] at e; exact ⟨by simp, e.symm⟩
            · rintro ⟨_, e⟩; rw [e]
          · rw [if_neg (fun e => hyx (ref_inj hy hx (by simpa using e.symm))), hd2.eok y n hy]
            constructor
            · rintro ⟨h1, h2⟩; exact ⟨List.mem_append_left _ h1, by rw [h2, ref_mono (.inr h1) hp]⟩
            · rintro ⟨h1, h2⟩
              rcases List.mem_append.1 h1 with h1 | h1
              · exact ⟨h1, by rw [h2, ref_mono (.inr h1) hp]⟩
              · simp at h1; exact absurd h1 hyx
        · intro y hy
          rcases List.mem_append.1 hy with hy | hy
          · exact hd2.sub y hy
          · simp at hy; subst hy; exact hxm
        · intro y hy
          refine ⟨?_, (hd2.d1 y hy).2⟩
          rintro (h | h)
          · exact (hd2.d1 y hy).1 h
          · have := hmF y hy; omega
        · rintro y (h | h) hl
          · exact hd2.d2 y h hl
          · have hloc : ∀ z, p.loc z → z < H2.size := by
              rintro z (e | e | e | e | e)
              · rw [e]; exact hd2.o1.lt
              · rw [e]; exact hd2.o2.lt
              · rw [e]; exact hd2.o3.lt
              · rw [e]; exact hob
              · rw [e]; exact hnmb
            have := hloc y hl; omega
      · have hz1 := kp1.size
        have hz2 := kp2.size
        have hT1 : ∀ y, y < H.size → Turned p Fo1 y → Turned p Fo y := by
          rintro y hy (e | e | e)
          · exact .inl e
          · exact .inr (.inl e)
          · rcases fr1 y e with e | e
            · exact .inr (.inr e)
            · omega
        have hF2 : ∀ y, y < H.size → Fo2 y → Fo y := by
          intro y hy e
          rcases fr2 y e with e | e
          · rcases fr1 y e with e | e
            · exact e
            · omega
          · omega
        refine Keep.trans (Keep.trans (Keep.trans (Keep.trans (Keep.trans kp1 kp2 hT1) hk3 fun _ _ h => h.elim) hk4 fun y hy e => .inr (.inr (hF2 y hy e))) hk5 fun y _ e => .inl e) hk6 fun y _ e => .inr (.inl e)
      · have hz1 := kp1.size
        have hz2 := kp2.size
        rintro y (h | h)
        · rcases fr2 y h with h | h
          · rcases fr1 y h with h | h
            · exact .inl h
            · exact .inr h
          · exact .inr (by omega)
        · exact .inr (by omega)
      · rw [hser, ref_new hnin2]
    · rw [findI_set, if_pos rfl] at hf6
      cases hf6
end Go.Proofs.Ytanaaabejeeakaa
end
section
/- The diagram of a node; Build. -/
namespace Go.Proofs.Ytanaaabejeeakaa
open Go.AI Go.AI.DT

/-- What is turned lies in what is new. -/
theorem _root_.Go.AI.Kp.fresh {S : Nat → Prop} {A B C : AHeap} (h : Kp A B) (k : Keep S B C) (hs : ∀ x, S x → A.size ≤ x) : Kp A C :=
  ⟨Nat.le_trans h.size k.size, fun b hb _ => (k.get b (Nat.lt_of_lt_of_le hb h.size) (fun e => by have := hs b e; omega)).trans (h.get b hb id), fun b hb _ => (k.ext b (Nat.lt_of_lt_of_le hb h.size) (fun e => by have := hs b e; omega)).trans (h.ext b hb id)⟩

theorem diagram_c {m : AC} {F : Nat → Prop} {ts : List DT} {x : DT} {H : AHeap} (hm : Mgr H m F ts) (hx : In ts x) (htl : ts.length < 4294967296) :
    Fn.solve_manager_diagram m (ref ts x) H fun H' ns root => (∃ Fo, OwnS H' ns 3 Fo (nodeRows ((ser x []).map (row (ser x [])))) ∧ ∀ y, Fo y → H.size ≤ y) ∧ root = ref (ser x []) x ∧ Kp H H' := by
  refine solve_manager_diagram.run ?_
  unfold solve_manager_diagram.W
  have hF := hm.lt
  refine New.own fun b1 H1 hb1 hs1 o1 k1 => New.own fun b3 H3 hb3 hs3 o3 k3 => New.own fun b5 H5 hb5 hs5 o5 k5 => NewM.i none fun nm H6 hnm hs6 om k6 => ?_
  refine NewSto.own rfl fun b9 H9 hb9 hs9 o9 k9 => New.own fun b12 H12 hb12 hs12 o12 k12 => Fnc.mk rfl rfl ?_
  refine Sto.own o12 (Nat.le_refl 1) fun H13 o13 k13 hs13 => ?_
  simp only [List.take_zero, List.nil_append, List.length_cons, List.length_nil, Nat.zero_add, List.drop_succ_cons, List.drop_zero, List.cons_append] at o13
  have kk : Kp H H12 := ((((k1.trans k3).trans k5).trans k6).trans k9).trans k12
  have kk3 : Kp H H13 := kk.fresh k13 (fun x e => by omega)
  have hne13 : ∀ x, x < b12 → ¬ x = b12 := fun x h => by omega
  have o1' := ((((((o1.kp k3).kp k5).kp k6).kp k9).kp k12).keep k13 (hne13 _ (by omega)))
  have o3' := ((((o3.kp k5).kp k6).kp k9).kp k12).keep k13 (hne13 _ (by omega))
  have o5' := (((o5.kp k6).kp k9).kp k12).keep k13 (hne13 _ (by omega))
  have om' := ((om.kp k9).kp k12).keep k13 (hne13 _ (by omega))
  have o9' := (o9.kp k12).keep k13 (hne13 _ (by omega))
  obtain ⟨p, hp⟩ : ∃ p : DP, p = ⟨b9, b12, b1, b5, nm⟩ := ⟨_, rfl⟩
  have hd : DS H13 m F ts p (fun _ => False) (.sl none 0 0 (some 0)) [] [] := by
    subst hp
    refine ⟨hm.kp kk3, o9', o13, o1', ⟨0, o5'⟩, OwnS.nil _ _, om', fun y n _ => ?_, Fin.nil, fun _ h => (by cases h), fun y hy => ⟨id, ?_⟩, fun _ h => h.elim, ?_⟩
    · constructor
      · intro h; cases h
      · rintro ⟨h, _⟩; cases h
    · rintro (h | h | h | h | h) <;> (have := hF y hy; dsimp only at h; omega)
    · refine ⟨?_, ?_, ?_, ?_, ?_, ?_, ?_⟩ <;> dsimp only <;> omega
  refine Ld.oc o13 rfl (CVT.imp ?_ (by subst hp; exact CVT.mk lt88 (dwalk_c htl x hx hd)))
  rintro H14 q ⟨Fo, ns, es, hd4, k14, fr14, rfl⟩
  have kk4 : Kp H H14 := kk3.fresh k14 (by
    rintro y (h | h | h)
    · subst hp; have h' : y = b5 := h; omega
    · subst hp; have h' : y = nm := h; omega
    · exact h.elim)
  obtain ⟨r0, ho4⟩ := hd4.o4
  have o34 : Own H14 b3 [.sl none 0 0 (some 0), .int .i64 0] := o3'.keep k14 (by
    rintro (h | h | h)
    · subst hp; have h' : b3 = b5 := h; omega
    · subst hp; have h' : b3 = nm := h; omega
    · exact h.elim)
  subst hp
  refine FA.mk (Sto.own ho4 (show 1 + 1 ≤ 2 by omega) fun H15 o15 k15 hs15 => ?_)
  have o35 := o34.keep k15 (show ¬ b3 = b5 by omega)
  refine Ld.o2 o15 ns (ref (ser x []) x) rfl (Sto.own o35 (Nat.le_refl 2) fun H16 o36 k16 hs16 => ?_)
  refine Ld.o2 o36 ns (ref (ser x []) x) rfl ⟨⟨Fo, ?_, fun y h => ?_⟩, rfl, ?_⟩
  · unfold nodeRows
    rw [List.map_map]
    refine (hd4.sl.keep k15 (fun y e h => ?_)).keep k16 fun y e h => ?_
    · exact hd4.d2 y h (.inr (.inr (.inr (.inl e))))
    · rcases fr14 y h with h | h
      · exact h.elim
      · have := k13.size; have := k9.size; omega
  · rcases fr14 y h with h | h
    · exact h.elim
    · have := kk3.size; omega
  · exact (kk4.fresh k15 fun y e => by have e' : y = b5 := e; omega).fresh k16 fun y e => by have e' : y = b3 := e; omega

theorem result_c {m : AC} {F : Nat → Prop} {ts : List DT} {x : DT} {H : AHeap} (hm : Mgr H m F ts) (hx : In ts x) (htl : ts.length < 4294967296) :
    Fn.solve_manager_result m (ref ts x) H fun H' ns root err => DResN H H' x ns root err ∧ Kp H H' := by
  refine solve_manager_result.run ?_
  unfold solve_manager_result.W
  refine New.own fun b1 H1 hb1 hs1 o1 k1 => ?_
  refine RunT.imp ?_ (diagram_c (hm.kp k1) hx htl)
  rintro H2 ns root ⟨⟨Fo, hsl, hFo⟩, rfl, k2⟩
  refine NewSto.own rfl fun b H3 hb hs3 ho k3 => FA.mk (Ld.oc ho rfl ?_)
  have hsl3 := hsl.kp k3
  have kk : Kp H H3 := (k1.trans k2).trans k3
  have o13 := (o1.kp k2).kp k3
  refine LenS.of hsl3.slr ?_
  have hlen : (nodeRows ((ser x []).map (row (ser x [])))).length = (ser x []).length := by simp [nodeRows]
  rw [hlen]
  have hsz := k1.size
  refine CondB.dec (fun hgt => ?_) fun hle => ?_
  · refine Sto.own o13 (Nat.le_refl 2) fun H4 o14 k4 hs4 => ?_
    exact Ld.o2 o14 (.sl none 0 0 (some 0)) (0 : Int) rfl ⟨⟨fun _ => False, fun _ h => h.elim, .inl ⟨by omega, rfl, rfl, OwnS.nil _ _⟩⟩, kk.fresh k4 fun y e => by have e' : y = b1 := e; omega⟩
  · refine Ld.o2 ho ns (ref (ser x []) x) rfl (Sto.own o13 (Nat.le_refl 2) fun H4 o14 k4 hs4 => ?_)
    refine Ld.o2 o14 ns (ref (ser x []) x) rfl ⟨⟨Fo, fun y h => by have := hFo y h; omega, .inr ⟨by omega, rfl, rfl, hsl3.keep k4 fun y e h => ?_⟩⟩, kk.fresh k4 fun y e => by have e' : y = b1 := e; omega⟩
    have e' : y = b1 := e
    have := hFo y h
    omega

/-- What Build answers. -/
def BRes (H0 H : AHeap) (f : Fm) (ns : AC) (root err : Int) : Prop :=
  (boolFaultOf f ≠ 0 ∧ err = boolFaultOf f ∧ root = 0 ∧ SlR H ns 3 []) ∨ (boolFaultOf f = 0 ∧ ∃ x : DT, x.RO ∧ (∀ ρ, x.eval ρ = f.val ρ) ∧ DResN H0 H x ns root err)

theorem Build_c {op var : Int} {s : AC} {f : Fm} {H : AHeap} (hmax : f.size < 4611686018427387904) (hf : FmB H.size H op var s f) :
    Fn.solve_Build op var s H fun H' ns root err => BRes H H' f ns root err ∧ Kp H H' := by
  refine solve_Build.run ?_
  unfold solve_Build.W
  refine New.own fun b1 H1 hb1 hs1 o1 k1 => New.own fun b3 H3 hb3 hs3 o3 k3 => Ld.o3 (o1.kp k3) op var s rfl ?_
  have hf3 := hf.at'.kp (k1.trans k3)
  refine RunT.imp ?_ (CheckBool_c hmax hf3)
  rintro H4 e ⟨rfl, k4⟩
  have kk := (k1.trans k3).trans k4
  have hz1 := k1.size
  have hz3 := k3.size
  have hz4 := k4.size
  refine CondB.mk (fun hne => ?_) fun heq => ?_
  · refine Sto.own (o3.kp k4) (Nat.le_refl 2) fun H5 o5 k5 hs5 => ?_
    exact Ld.o2 o5 (.sl none 0 0 (some 0)) (0 : Int) rfl ⟨.inl ⟨by simpa using hne, rfl, rfl, SlR.nil _ _⟩, kk.fresh k5 fun y e => by have e' : y = b3 := e; omega⟩
  · have h0 : boolFaultOf f = 0 := by simpa using heq
    have hsz300 : f.size ≤ 300 ∧ f.fault = 0 := by
      unfold boolFaultOf at h0
      split at h0
      · cases h0
      · exact ⟨by omega, h0⟩
    refine RunT.imp ?_ newManager_c
    rintro H5 m ⟨⟨F, hm, hF⟩, k5⟩
    refine Ld.o3 (((o1.kp k3).kp k4).kp k5) op var s rfl ?_
    have kk5 := kk.trans k5
    have hfB : FmB H.size H5 op var s f := hf.move fun b hb => kk5.get b hb id
    have hz5 := k5.size
    refine RunT.imp ?_ (build_c f.size (Nat.le_refl _) hsz300.1 hsz300.2 hfB (by omega) hm (fun x hx => by have := hF x hx; omega) ?_)
    · rintro H6 q ⟨F6, ts6, r, af, hin, rfl, hev⟩
      have hz6 := af.keep.size
      have htl : ts6.length < 4294967296 := by
        have := af.len
        have h300 := hsz300.1
        simp only [List.length_nil, Nat.zero_add] at this
        omega
      refine RunT.imp ?_ (result_c af.mgr hin htl)
      rintro H7 ns root err ⟨hres, k7⟩
      have kk6 : Kp H H6 := kk5.fresh af.keep fun x hx => by have := hF x hx; omega
      have kk7 := kk6.trans k7
      have o37 : Own H7 b3 _ := ((((o3.kp k4).kp k5).keep af.keep fun hx => by have := hF _ hx; omega)).kp k7
      refine Sto.own o37 (Nat.le_refl 2) fun H8 o8 k8 hs8 => Ld.o2 o8 ns root rfl ⟨.inr ⟨h0, r, af.mgr.fin.ro hin, hev, ?_⟩, kk7.fresh k8 fun y e => by have e' : y = b3 := e; omega⟩
      exact (hres.keep k8 fun y e => by have e' : y = b3 := e; omega).from (by omega)
    · have h300 := hsz300.1
      simp only [List.length_nil, Nat.zero_add]
      omega
end Go.Proofs.Ytanaaabejeeakaa
end
section
/- Printed by a program: functions and what must hold ahead of them. -/
namespace Go.Proofs.Ytanaaabejeeakaa
open Go.AI
set_option maxRecDepth 100000
set_option maxHeartbeats 2000000
set_option linter.unusedVariables false
attribute [local irreducible] Ld Sto New NewS NewM NN NZ GE0 FA IA IAP LenS Slc App Cpy Clr MkS Fnc NilQ IxS Look MSet Run CV RunT CVT LoopT Same1 Same2 wpC wpOs wpT wpO wpOp

def solve_Count.c21 : RC := (.seq (.ops [.put 26 (.cm .lt (.tm 25) (.tm 24))]) (.seq (.cond 26 .skip (.exit 0)) (.seq (.block 1 (.seq (.ops [.put 27 (.mov (.tm 25)),
    .put 28 (.ia 3 (.tm 23) (.tm 25)),
    .put 29 (.ld true [.int .i64, .int .i64, .int .i64] (.tm 28)),
    .put 10 (.new 77 [(.int .i64 0), (.int .i64 0), (.int .i64 0)]),
    .put 9 (.mov (.tm 27)),
    .run (.st 3 (.tm 10) (.tm 29))]) (.held [.put 30 (.ld false [.ac] (.tm 7)),
    .put 31 (.mov (.tm 9)),
    .put 32 (.mov (.tm 8)),
    .put 33 (.fa 1 (.tm 10)),
    .put 34 (.ld false [.int .i64] (.tm 33)),
    .put 35 (.fa 0 (.tm 10)),
    .put 36 (.ld false [.int .i64] (.tm 35)),
    .put 37 (.ar .add (.tm 36) (.ct (.one (.int .i64 1)))),
    .put 38 (.callv (.tm 32) [(.tm 34), (.tm 37)]),
    .put 39 (.mov (.tm 8)),
    .put 40 (.fa 2 (.tm 10)),
    .put 41 (.ld false [.int .i64] (.tm 40)),
    .put 42 (.fa 0 (.tm 10)),
    .put 43 (.ld false [.int .i64] (.tm 42)),
    .put 44 (.ar .add (.tm 43) (.ct (.one (.int .i64 1)))),
    .put 45 (.callv (.tm 39) [(.tm 41), (.tm 44)]),
    .put 46 (.ar .add (.tm 38) (.tm 45)),
    .put 47 (.ia 1 (.tm 30) (.tm 31)),
    .run (.st 1 (.tm 47) (.tm 46))] [(0, 8), (0, 15), (11, 8), (13, 8)]))) (.ops [.put 48 (.ar .add (.tm 25) (.ct (.one (.int .i64 1)))),
    .put 25 (.mov (.tm 48))]))))
def solve_Count.c : RC := (.seq (.ops [.put 2 (.box 27 (.tm 0)),
    .put 3 (.box 3 (.tm 1)),
    .put 4 (.mov (.ct (.one (.int .i64 0)))),
    .put 5 (.mov (.ct (.one (.int .i64 0))))]) (.seq (.seq (.ops [.put 11 (.ld true [.ac, .int .i64] (.tm 2)),
    .put 12 (.ld false [.int .i64] (.tm 3)),
    .put 13 (.call 57 [(.tm 11), (.tm 12)]),
    .put 6 (.mov (.tm 13))]) (.seq (.ops [.put 14 (.mov (.tm 6)),
    .put 15 (.cm .ne (.tm 14) (.ct (.one (.int .i64 0))))]) (.cond 15 (.seq (.ops [.put 16 (.mov (.tm 6)),
    .put 4 (.mov (.ct (.one (.int .i64 0)))),
    .put 5 (.mov (.tm 16))]) .ret) .skip))) (.seq (.ops [.put 17 (.fa 0 (.tm 2)),
    .put 18 (.ld false [.ac] (.tm 17)),
    .put 19 (.lens (.tm 18)),
    .put 20 (.mks 3 1 8 [(.int .i64 0)] (.tm 19) (.tm 19)),
    .put 7 (.new 53 [(.sl none 0 0 (some 0))]),
    .run (.st 1 (.tm 7) (.tm 20))]) (.seq (.ops [.put 21 (.fn 58 [] [(.tm 3), (.tm 7), (.tm 2)]),
    .put 8 (.mov (.tm 21))]) (.seq (.seq (.ops [.put 22 (.fa 0 (.tm 2)),
    .put 23 (.ld false [.ac] (.tm 22)),
    .put 24 (.lens (.tm 23)),
    .put 25 (.mov (.ct (.one (.int .i64 0))))]) (.block 0 (.loop solve_Count.c21))) (.seq (.ops [.put 49 (.mov (.tm 8)),
    .put 50 (.fa 1 (.tm 2)),
    .put 51 (.ld false [.int .i64] (.tm 50)),
    .put 52 (.callv (.tm 49) [(.tm 51), (.ct (.one (.int .i64 0)))]),
    .put 4 (.mov (.tm 52)),
    .put 5 (.mov (.ct (.one (.int .i64 0))))]) .ret))))))
abbrev solve_Count.KQ (Q : AHeap → Int → Int → Prop) : AV → AHeap → Prop := fun v H => ∃ xs : Tup (flat [(false, [.int .i64]), (false, [.int .i64])]), v = joinR (splitP [(false, [.int .i64]), (false, [.int .i64])] (cellsOf (flat [(false, [.int .i64]), (false, [.int .i64])]) xs)) ∧ app (flat [(false, [.int .i64]), (false, [.int .i64])]) (Q H) xs
abbrev solve_Count.K (Q : AHeap → Int → Int → Prop) : Ex → Env → AHeap → Prop := kTop [.tm 4, .tm 5] (solve_Count.KQ Q)
abbrev solve_Count.k17 (Q : AHeap → Int → Int → Prop) : Ex → Env → AHeap → Prop := kSeq (fun t H => wpC Try.prog (.seq (.ops [.put 49 (.mov (.tm 8)),
    .put 50 (.fa 1 (.tm 2)),
    .put 51 (.ld false [.int .i64] (.tm 50)),
    .put 52 (.callv (.tm 49) [(.tm 51), (.ct (.one (.int .i64 0)))]),
    .put 4 (.mov (.tm 52)),
    .put 5 (.mov (.ct (.one (.int .i64 0))))]) .ret) t H (solve_Count.K Q)) (solve_Count.K Q)
def solve_Count.R20 (s : Tup [.ac, .ac, .ac, .ac, .int .i64, .int .i64]) (t : Env) : Prop := t 2 = (.one (s.1)) ∧ t 7 = (.one (s.2.1)) ∧ t 8 = (.one (s.2.2.1)) ∧ t 23 = (.one (s.2.2.2.1)) ∧ t 24 = (.one (.int .i64 (s.2.2.2.2.1))) ∧ t 25 = (.one (.int .i64 (s.2.2.2.2.2.1))) ∧ True
def solve_Count.b20 (Q : AHeap → Int → Int → Prop) (Y20 : Tup [.ac, .ac, .ac, .ac, .int .i64, .int .i64] → AHeap → Prop) (x2 : AC) (x7 : AC) (x8 : AC) (x23 : AC) (x24 : Int) (x25 : Int) (H : AHeap) : Prop :=
  CondB (decide (x25 < x24))
    (IA 3 x23 x25 fun q_1 =>
    Ld [.int .i64, .int .i64, .int .i64] H q_1 fun (v_2 : Int) (v_3 : Int) (v_4 : Int) =>
    New 77 [(.int .i64 0), (.int .i64 0), (.int .i64 0)] H fun p_5 H_6 =>
    Sto H_6 p_5 [(.int .i64 v_2), (.int .i64 v_3), (.int .i64 v_4)] fun H_7 =>
    Ld [.ac] H_7 x7 fun (v_8 : AC) =>
    FA 1 p_5 fun q_9 =>
    Ld [.int .i64] H_7 q_9 fun (v_10 : Int) =>
    FA 0 p_5 fun q_11 =>
    Ld [.int .i64] H_7 q_11 fun (v_12 : Int) =>
    CVT Try.prog [(false, [.int .i64])] x8 [(.one (.int .i64 v_10)), (.one (.int .i64 (IntKind.wrap .i64 (v_12 + 1))))] H_7 fun H_13 (v_14 : Int) =>
    FA 2 p_5 fun q_15 =>
    Ld [.int .i64] H_13 q_15 fun (v_16 : Int) =>
    FA 0 p_5 fun q_17 =>
    Ld [.int .i64] H_13 q_17 fun (v_18 : Int) =>
    CVT Try.prog [(false, [.int .i64])] x8 [(.one (.int .i64 v_16)), (.one (.int .i64 (IntKind.wrap .i64 (v_18 + 1))))] H_13 fun H_19 (v_20 : Int) =>
    IA 1 v_8 x25 fun q_21 =>
    Sto H_19 q_21 [(.int .i64 (IntKind.wrap .i64 (v_14 + v_20)))] fun H_22 =>
    Same1 H_7 H_13 x7 1 ∧
    Same1 H_7 H_19 x7 1 ∧
    Same2 H_13 H_7 q_15 1 ∧
    Same2 H_13 H_7 q_17 1 ∧
    Y20 (x2, x7, x8, x23, (x24 : Int), ((IntKind.wrap .i64 (x25 + 1)) : Int), ()) H_22)
    (FA 1 x2 fun q_23 =>
    Ld [.int .i64] H q_23 fun (v_24 : Int) =>
    CVT Try.prog [(false, [.int .i64])] x8 [(.one (.int .i64 v_24)), (.one (.int .i64 0))] H fun H_25 (v_26 : Int) =>
    Q H_25 v_26 0)
def solve_Count.l20 (Q : AHeap → Int → Int → Prop) (x2 : AC) (x7 : AC) (x8 : AC) (x23 : AC) (x24 : Int) (x25 : Int) (H : AHeap) : Prop := LoopT (Tup [.ac, .ac, .ac, .ac, .int .i64, .int .i64]) (fun Y s H => solve_Count.b20 Q Y (s.1) (s.2.1) (s.2.2.1) (s.2.2.2.1) (s.2.2.2.2.1) (s.2.2.2.2.2.1) H) (x2, x7, x8, x23, x24, x25, ()) H
def solve_Count.W (a0_0 : AC) (a0_1 : Int) (a1 : Int) (H : AHeap) (Q : AHeap → Int → Int → Prop) : Prop :=
  New 27 [a0_0, (.int .i64 a0_1)] H fun p_1 H_2 =>
  New 3 [(.int .i64 a1)] H_2 fun p_3 H_4 =>
  Ld [.ac, .int .i64] H_4 p_1 fun (v_5 : AC) (v_6 : Int) =>
  Ld [.int .i64] H_4 p_3 fun (v_7 : Int) =>
  Fn.solve_varsFault v_5 v_6 v_7 H_4 fun H_8 (v_9 : Int) =>
  CondB (v_9 != 0)
    (Q H_8 0 v_9)
    (FA 0 p_1 fun q_10 =>
    Ld [.ac] H_8 q_10 fun (v_11 : AC) =>
    LenS v_11 fun n_12 =>
    MkS 3 1 8 [(.int .i64 0)] n_12 n_12 H_8 fun p_13 H_14 =>
    New 53 [(.sl none 0 0 (some 0))] H_14 fun p_15 H_16 =>
    Sto H_16 p_15 [p_13] fun H_17 =>
    Fnc 58 [] [p_3, p_15, p_1] fun f_18 =>
    FA 0 p_1 fun q_19 =>
    Ld [.ac] H_17 q_19 fun (v_20 : AC) =>
    LenS v_20 fun n_21 =>
    solve_Count.l20 Q p_1 p_15 f_18 v_20 n_21 0 H_17)
theorem solve_Count.b20_ok (Q : AHeap → Int → Int → Prop) (Y20 : Tup [.ac, .ac, .ac, .ac, .int .i64, .int .i64] → AHeap → Prop) (X20 : Env → AHeap → Prop) (hX20 : ∀ s t H, solve_Count.R20 s t → Y20 s H → X20 t H) {x2 : AC} {x7 : AC} {x8 : AC} {x23 : AC} {x24 : Int} {x25 : Int} {H : AHeap} (j : Env) : solve_Count.b20 Q Y20 x2 x7 x8 x23 x24 x25 H → wpC Try.prog solve_Count.c21 (upd (upd (upd (upd (upd (upd j 2 (.one x2)) 7 (.one x7)) 8 (.one x8)) 23 (.one x23)) 24 (.one (.int .i64 x24))) 25 (.one (.int .i64 x25))) H (kSeq X20 (kBlk 0 (solve_Count.k17 Q))) := c_seq (c_ops (s_cons (w_put (o_lt rfl rfl (s_nil (k_seq (c_seq (c_if rfl (c_skip (k_seq (c_seq (c_blk (c_seq (c_ops (s_cons (w_put (o_mov rfl (s_cons (w_put (o_ia rfl rfl (fun q_1 => s_cons (w_put (o_ld3 rfl (fun (v_2 : Int) (v_3 : Int) (v_4 : Int) => s_cons (w_put (o_new (fun p_5 H_6 => s_cons (w_put (o_mov rfl (s_cons (w_run (o_st rfl rfl rfl (fun H_7 => s_nil (k_seq (c_held (t_cons (w_put (o_ld1 rfl (fun (v_8 : AC) => t_cons (w_put (o_mov rfl (t_cons (w_put (o_mov rfl (t_cons (w_put (o_fa rfl (fun q_9 => t_cons (w_put (o_ld1 rfl (fun (v_10 : Int) => t_cons (w_put (o_fa rfl (fun q_11 => t_cons (w_put (o_ld1 rfl (fun (v_12 : Int) => t_cons (w_put (o_add rfl rfl (t_cons (w_put (o_callv rfl rfl (cu_1 (fun H_13 (v_14 : Int) => t_cons (w_put (o_mov rfl (t_cons (w_put (o_fa rfl (fun q_15 => t_cons (w_put (o_ld1 rfl (fun (v_16 : Int) => t_cons (w_put (o_fa rfl (fun q_17 => t_cons (w_put (o_ld1 rfl (fun (v_18 : Int) => t_cons (w_put (o_add rfl rfl (t_cons (w_put (o_callv rfl rfl (cu_1 (fun H_19 (v_20 : Int) => t_cons (w_put (o_add rfl rfl (t_cons (w_put (o_ia rfl rfl (fun q_21 => t_cons (w_run (o_st rfl rfl rfl (fun H_22 => t_nil (p_one rfl rfl rfl rfl rfl rfl rfl rfl (p_one rfl rfl rfl rfl rfl rfl rfl rfl (p_two rfl rfl rfl rfl rfl rfl rfl rfl (p_two rfl rfl rfl rfl rfl rfl rfl rfl (p_nil (k_blk (k_seq (c_ops (s_cons (w_put (o_add rfl rfl (s_cons (w_put (o_mov rfl (s_nil (k_seq (hX20 _ _ _ ⟨rfl, rfl, rfl, rfl, rfl, rfl, trivial⟩)))))))))))))))))))))))))))))))))))))))))))))))))))))))))))))))))))))))))))))))))))))))))))))))))))))))) (c_exit (k_seqE (k_seqE (k_blkH (k_seq (c_seq (c_ops (s_cons (w_put (o_mov rfl (s_cons (w_put (o_fa rfl (fun q_23 => s_cons (w_put (o_ld1 rfl (fun (v_24 : Int) => s_cons (w_put (o_callv rfl rfl (cu_1 (fun H_25 (v_26 : Int) => s_cons (w_put (o_mov rfl (s_cons (w_put (o_mov rfl (s_nil (k_seq (c_ret (k_topR (r_one rfl (r_one rfl (r_nil (fun h => ⟨((v_26 : Int), (0 : Int), ()), rfl, h⟩))))))))))))))))))))))))))))))))))))))))))
theorem solve_Count.l20_ok (Q : AHeap → Int → Int → Prop) {x2 : AC} {x7 : AC} {x8 : AC} {x23 : AC} {x24 : Int} {x25 : Int} {H : AHeap} {t : Env} (h2 : t 2 = (.one x2)) (h7 : t 7 = (.one x7)) (h8 : t 8 = (.one x8)) (h23 : t 23 = (.one x23)) (h24 : t 24 = (.one (.int .i64 x24))) (h25 : t 25 = (.one (.int .i64 x25))) : solve_Count.l20 Q x2 x7 x8 x23 x24 x25 H → wpC Try.prog (.loop solve_Count.c21) t H (kBlk 0 (solve_Count.k17 Q)) :=
  m_loop solve_Count.R20 ⟨h2, h7, h8, h23, h24, h25, trivial⟩ fun X Y hX s t H hR hB => by
    have g := solve_Count.b20_ok Q Y X hX t hB
    rw [upd_self hR.1] at g
    rw [upd_self hR.2.1] at g
    rw [upd_self hR.2.2.1] at g
    rw [upd_self hR.2.2.2.1] at g
    rw [upd_self hR.2.2.2.2.1] at g
    rw [upd_self hR.2.2.2.2.2.1] at g
    exact g
theorem solve_Count.ok {a0_0 : AC} {a0_1 : Int} {a1 : Int} {H : AHeap} (Q : AHeap → Int → Int → Prop) : solve_Count.W a0_0 a0_1 a1 H Q → wpF Try.prog solve_Count.c [.tm 4, .tm 5] (envOf [(.agg [a0_0, (.int .i64 a0_1)]), (.one (.int .i64 a1))]) H (solve_Count.KQ Q) := c_seq (c_ops (s_cons (w_put (o_box rfl (fun p_1 H_2 => s_cons (w_put (o_box rfl (fun p_3 H_4 => s_cons (w_put (o_mov rfl (s_cons (w_put (o_mov rfl (s_nil (k_seq (c_seq (c_seq (c_ops (s_cons (w_put (o_ld2 rfl (fun (v_5 : AC) (v_6 : Int) => s_cons (w_put (o_ld1 rfl (fun (v_7 : Int) => s_cons (w_put (o_call rfl (cv_1 (fun H_8 (v_9 : Int) => s_cons (w_put (o_mov rfl (s_nil (k_seq (c_seq (c_ops (s_cons (w_put (o_mov rfl (s_cons (w_put (o_ne rfl rfl (s_nil (k_seq (c_if rfl (c_seq (c_ops (s_cons (w_put (o_mov rfl (s_cons (w_put (o_mov rfl (s_cons (w_put (o_mov rfl (s_nil (k_seq (c_ret (k_seqR (k_topR (r_one rfl (r_one rfl (r_nil (fun h => ⟨((0 : Int), (v_9 : Int), ()), rfl, h⟩)))))))))))))))))))) (c_skip (k_seq (c_seq (c_ops (s_cons (w_put (o_fa rfl (fun q_10 => s_cons (w_put (o_ld1 rfl (fun (v_11 : AC) => s_cons (w_put (o_lens rfl (fun n_12 => s_cons (w_put (o_mks rfl rfl (fun p_13 H_14 => s_cons (w_put (o_new (fun p_15 H_16 => s_cons (w_run (o_st rfl rfl rfl (fun H_17 => s_nil (k_seq (c_seq (c_ops (s_cons (w_put (o_fn rfl rfl (fun f_18 => s_cons (w_put (o_mov rfl (s_nil (k_seq (c_seq (c_seq (c_ops (s_cons (w_put (o_fa rfl (fun q_19 => s_cons (w_put (o_ld1 rfl (fun (v_20 : AC) => s_cons (w_put (o_lens rfl (fun n_21 => s_cons (w_put (o_mov rfl (s_nil (k_seq (c_blk (solve_Count.l20_ok Q rfl rfl rfl rfl rfl rfl)))))))))))))))))))))))))))))))))))))))))))))))))))))))))))))))))))))))))))))))))))))))))))))))))
theorem solve_Count.slimOk : slimOk [(9, [(0, 8), (0, 15), (11, 8), (13, 8)])] (Try.f24.body.getD .skip) = true := by kernel_rfl
theorem solve_Count.resC : resC Try.prog aggs Try.f24.ntmps (slim [(9, [(0, 8), (0, 15), (11, 8), (13, 8)])] (Try.f24.body.getD .skip)) = some solve_Count.c := by kernel_rfl
theorem solve_Count.resR : resR Try.prog Try.f24.results.toList = some [.tm 4, .tm 5] := by kernel_rfl
theorem solve_Count.bodyEq : Try.f24.body = some (Try.f24.body.getD .skip) := by kernel_rfl
theorem solve_Count.run {a0_0 : AC} {a0_1 : Int} {a1 : Int} {H : AHeap} {Q : AHeap → Int → Int → Prop} (h : solve_Count.W a0_0 a0_1 a1 H Q) : Fn.solve_Count a0_0 a0_1 a1 H Q := by
  unfold Fn.solve_Count RunT
  exact run_of aggs_ok [(9, [(0, 8), (0, 15), (11, 8), (13, 8)])] Try.func24 solve_Count.bodyEq solve_Count.slimOk solve_Count.resC solve_Count.resR (Nat.le_of_ble_eq_true (by kernel_rfl)) (solve_Count.ok Q h)

def solve_Models.c15 : RC := (.cond 23 (.seq (.ops [.put 6 (.mov (.ct (.one (.sl none 0 0 (some 0))))),
    .put 7 (.mov (.ct (.one (.int .i64 1))))]) .ret) .skip)
def solve_Models.c : RC := (.seq (.ops [.put 3 (.box 27 (.tm 0)),
    .put 4 (.box 3 (.tm 1)),
    .put 5 (.box 3 (.tm 2)),
    .put 6 (.mov (.ct (.one (.sl none 0 0 (some 0))))),
    .put 7 (.mov (.ct (.one (.int .i64 0))))]) (.seq (.seq (.ops [.put 12 (.ld true [.ac, .int .i64] (.tm 3)),
    .put 13 (.ld false [.int .i64] (.tm 4)),
    .put 14 (.call 57 [(.tm 12), (.tm 13)]),
    .put 8 (.mov (.tm 14))]) (.seq (.ops [.put 15 (.mov (.tm 8)),
    .put 16 (.cm .ne (.tm 15) (.ct (.one (.int .i64 0))))]) (.cond 16 (.seq (.ops [.put 17 (.mov (.tm 8)),
    .put 6 (.mov (.ct (.one (.sl none 0 0 (some 0))))),
    .put 7 (.mov (.tm 17))]) .ret) .skip))) (.seq (.seq (.ops [.put 18 (.ld false [.int .i64] (.tm 5)),
    .put 19 (.cm .lt (.tm 18) (.ct (.one (.int .i64 0)))),
    .put 20 (.mov (.tm 19)),
    .gput 21 20 false (.ld false [.int .i64] (.tm 5)),
    .gput 22 20 false (.cm .gt (.tm 21) (.ct (.one (.int .i64 2000)))),
    .put 23 (.pick (.tm 20) (.ct (.one (.bool true))) (.tm 22))]) solve_Models.c15) (.seq (.ops [.put 9 (.new 44 [(.sl none 0 0 (some 0))])]) (.seq (.ops [.put 24 (.ld false [.int .i64] (.tm 4)),
    .put 25 (.mks 3 1 8 [(.int .i64 0)] (.tm 24) (.tm 24)),
    .put 10 (.new 53 [(.sl none 0 0 (some 0))]),
    .run (.st 1 (.tm 10) (.tm 25))]) (.seq (.ops [.put 11 (.new 82 [.nilFn])]) (.seq (.ops [.put 26 (.fn 59 [] [(.tm 9), (.tm 5), (.tm 4), (.tm 10), (.tm 3), (.tm 11)]),
    .run (.st 1 (.tm 11) (.tm 26))]) (.seq (.ops [.put 27 (.ld false [.ac] (.tm 11)),
    .put 28 (.fa 1 (.tm 3)),
    .put 29 (.ld false [.int .i64] (.tm 28)),
    .put 30 (.callv (.tm 27) [(.tm 29), (.ct (.one (.int .i64 0)))])]) (.seq (.ops [.put 31 (.ld false [.ac] (.tm 9)),
    .put 6 (.mov (.tm 31)),
    .put 7 (.mov (.ct (.one (.int .i64 0))))]) .ret)))))))))
abbrev solve_Models.KQ (Q : AHeap → AC → Int → Prop) : AV → AHeap → Prop := fun v H => ∃ xs : Tup (flat [(false, [.ac]), (false, [.int .i64])]), v = joinR (splitP [(false, [.ac]), (false, [.int .i64])] (cellsOf (flat [(false, [.ac]), (false, [.int .i64])]) xs)) ∧ app (flat [(false, [.ac]), (false, [.int .i64])]) (Q H) xs
abbrev solve_Models.K (Q : AHeap → AC → Int → Prop) : Ex → Env → AHeap → Prop := kTop [.tm 6, .tm 7] (solve_Models.KQ Q)
abbrev solve_Models.k13 (Q : AHeap → AC → Int → Prop) : Ex → Env → AHeap → Prop := kSeq (fun t H => wpC Try.prog (.seq (.ops [.put 9 (.new 44 [(.sl none 0 0 (some 0))])]) (.seq (.ops [.put 24 (.ld false [.int .i64] (.tm 4)),
    .put 25 (.mks 3 1 8 [(.int .i64 0)] (.tm 24) (.tm 24)),
    .put 10 (.new 53 [(.sl none 0 0 (some 0))]),
    .run (.st 1 (.tm 10) (.tm 25))]) (.seq (.ops [.put 11 (.new 82 [.nilFn])]) (.seq (.ops [.put 26 (.fn 59 [] [(.tm 9), (.tm 5), (.tm 4), (.tm 10), (.tm 3), (.tm 11)]),
    .run (.st 1 (.tm 11) (.tm 26))]) (.seq (.ops [.put 27 (.ld false [.ac] (.tm 11)),
    .put 28 (.fa 1 (.tm 3)),
    .put 29 (.ld false [.int .i64] (.tm 28)),
    .put 30 (.callv (.tm 27) [(.tm 29), (.ct (.one (.int .i64 0)))])]) (.seq (.ops [.put 31 (.ld false [.ac] (.tm 9)),
    .put 6 (.mov (.tm 31)),
    .put 7 (.mov (.ct (.one (.int .i64 0))))]) .ret)))))) t H (solve_Models.K Q)) (solve_Models.K Q)
def solve_Models.p15 (Q : AHeap → AC → Int → Prop) (x3 : AC) (x4 : AC) (x5 : AC) (x23 : Bool) (H : AHeap) : Prop :=
  CondB x23
    (Q H (.sl none 0 0 (some 0)) 1)
    (New 44 [(.sl none 0 0 (some 0))] H fun p_1 H_2 =>
    Ld [.int .i64] H_2 x4 fun (v_3 : Int) =>
    MkS 3 1 8 [(.int .i64 0)] v_3 v_3 H_2 fun p_4 H_5 =>
    New 53 [(.sl none 0 0 (some 0))] H_5 fun p_6 H_7 =>
    Sto H_7 p_6 [p_4] fun H_8 =>
    New 82 [.nilFn] H_8 fun p_9 H_10 =>
    Fnc 59 [] [p_1, x5, x4, p_6, x3, p_9] fun f_11 =>
    Sto H_10 p_9 [f_11] fun H_12 =>
    Ld [.ac] H_12 p_9 fun (v_13 : AC) =>
    FA 1 x3 fun q_14 =>
    Ld [.int .i64] H_12 q_14 fun (v_15 : Int) =>
    CVT Try.prog [] v_13 [(.one (.int .i64 v_15)), (.one (.int .i64 0))] H_12 fun H_16 =>
    Ld [.ac] H_16 p_1 fun (v_17 : AC) =>
    Q H_16 v_17 0)
def solve_Models.W (a0_0 : AC) (a0_1 : Int) (a1 : Int) (a2 : Int) (H : AHeap) (Q : AHeap → AC → Int → Prop) : Prop :=
  New 27 [a0_0, (.int .i64 a0_1)] H fun p_1 H_2 =>
  New 3 [(.int .i64 a1)] H_2 fun p_3 H_4 =>
  New 3 [(.int .i64 a2)] H_4 fun p_5 H_6 =>
  Ld [.ac, .int .i64] H_6 p_1 fun (v_7 : AC) (v_8 : Int) =>
  Ld [.int .i64] H_6 p_3 fun (v_9 : Int) =>
  Fn.solve_varsFault v_7 v_8 v_9 H_6 fun H_10 (v_11 : Int) =>
  CondB (v_11 != 0)
    (Q H_10 (.sl none 0 0 (some 0)) v_11)
    (Ld [.int .i64] H_10 p_5 fun (v_12 : Int) =>
    CondB (decide (v_12 < 0))
      (solve_Models.p15 Q p_1 p_3 p_5 true H_10)
      (Ld [.int .i64] H_10 p_5 fun (v_13 : Int) =>
      solve_Models.p15 Q p_1 p_3 p_5 (decide (v_13 > 2000)) H_10))
theorem solve_Models.p15_okE (Q : AHeap → AC → Int → Prop) {x3 : AC} {x4 : AC} {x5 : AC} {x23 : Bool} {H : AHeap} (j : Env) : solve_Models.p15 Q x3 x4 x5 x23 H → wpC Try.prog solve_Models.c15 (upd (upd (upd (upd j 3 (.one x3)) 4 (.one x4)) 5 (.one x5)) 23 (.one (.bool x23))) H (solve_Models.k13 Q) := c_if rfl (c_seq (c_ops (s_cons (w_put (o_mov rfl (s_cons (w_put (o_mov rfl (s_nil (k_seq (c_ret (k_seqR (k_topR (r_one rfl (r_one rfl (r_nil (fun h => ⟨((.sl none 0 0 (some 0)), (1 : Int), ()), rfl, h⟩))))))))))))))))) (c_skip (k_seq (c_seq (c_ops (s_cons (w_put (o_new (fun p_1 H_2 => s_nil (k_seq (c_seq (c_ops (s_cons (w_put (o_ld1 rfl (fun (v_3 : Int) => s_cons (w_put (o_mks rfl rfl (fun p_4 H_5 => s_cons (w_put (o_new (fun p_6 H_7 => s_cons (w_run (o_st rfl rfl rfl (fun H_8 => s_nil (k_seq (c_seq (c_ops (s_cons (w_put (o_new (fun p_9 H_10 => s_nil (k_seq (c_seq (c_ops (s_cons (w_put (o_fn rfl rfl (fun f_11 => s_cons (w_run (o_st rfl rfl rfl (fun H_12 => s_nil (k_seq (c_seq (c_ops (s_cons (w_put (o_ld1 rfl (fun (v_13 : AC) => s_cons (w_put (o_fa rfl (fun q_14 => s_cons (w_put (o_ld1 rfl (fun (v_15 : Int) => s_cons (w_put (o_callv rfl rfl (cu_0 (fun H_16 => s_nil (k_seq (c_seq (c_ops (s_cons (w_put (o_ld1 rfl (fun (v_17 : AC) => s_cons (w_put (o_mov rfl (s_cons (w_put (o_mov rfl (s_nil (k_seq (c_ret (k_topR (r_one rfl (r_one rfl (r_nil (fun h => ⟨(v_17, (0 : Int), ()), rfl, h⟩))))))))))))))))))))))))))))))))))))))))))))))))))))))))))))))))))))))))))))))
theorem solve_Models.p15_ok (Q : AHeap → AC → Int → Prop) {x3 : AC} {x4 : AC} {x5 : AC} {x23 : Bool} {H : AHeap} {t : Env} (h3 : t 3 = (.one x3)) (h4 : t 4 = (.one x4)) (h5 : t 5 = (.one x5)) (h23 : t 23 = (.one (.bool x23))) (h : solve_Models.p15 Q x3 x4 x5 x23 H) : wpC Try.prog solve_Models.c15 t H (solve_Models.k13 Q) := by
  have g := solve_Models.p15_okE Q t h
  rw [upd_self h3] at g
  rw [upd_self h4] at g
  rw [upd_self h5] at g
  rw [upd_self h23] at g
  exact g
theorem solve_Models.ok {a0_0 : AC} {a0_1 : Int} {a1 : Int} {a2 : Int} {H : AHeap} (Q : AHeap → AC → Int → Prop) : solve_Models.W a0_0 a0_1 a1 a2 H Q → wpF Try.prog solve_Models.c [.tm 6, .tm 7] (envOf [(.agg [a0_0, (.int .i64 a0_1)]), (.one (.int .i64 a1)), (.one (.int .i64 a2))]) H (solve_Models.KQ Q) := c_seq (c_ops (s_cons (w_put (o_box rfl (fun p_1 H_2 => s_cons (w_put (o_box rfl (fun p_3 H_4 => s_cons (w_put (o_box rfl (fun p_5 H_6 => s_cons (w_put (o_mov rfl (s_cons (w_put (o_mov rfl (s_nil (k_seq (c_seq (c_seq (c_ops (s_cons (w_put (o_ld2 rfl (fun (v_7 : AC) (v_8 : Int) => s_cons (w_put (o_ld1 rfl (fun (v_9 : Int) => s_cons (w_put (o_call rfl (cv_1 (fun H_10 (v_11 : Int) => s_cons (w_put (o_mov rfl (s_nil (k_seq (c_seq (c_ops (s_cons (w_put (o_mov rfl (s_cons (w_put (o_ne rfl rfl (s_nil (k_seq (c_if rfl (c_seq (c_ops (s_cons (w_put (o_mov rfl (s_cons (w_put (o_mov rfl (s_cons (w_put (o_mov rfl (s_nil (k_seq (c_ret (k_seqR (k_topR (r_one rfl (r_one rfl (r_nil (fun h => ⟨((.sl none 0 0 (some 0)), (v_11 : Int), ()), rfl, h⟩)))))))))))))))))))) (c_skip (k_seq (c_seq (c_seq (c_ops (s_cons (w_put (o_ld1 rfl (fun (v_12 : Int) => s_cons (w_put (o_lt rfl rfl (s_cons (w_put (o_mov rfl (s_cons (w_gputF rfl (s_cons (w_gputN rfl (s_cons (w_put (o_pickT rfl rfl (s_nil (k_seq (solve_Models.p15_ok Q rfl rfl rfl rfl)))))))) (o_ld1 rfl (fun (v_13 : Int) => s_cons (w_gputY rfl (o_gt rfl rfl (s_cons (w_put (o_pickF rfl rfl (s_nil (k_seq (solve_Models.p15_ok Q rfl rfl rfl rfl)))))))))))))))))))))))))))))))))))))))))))))))))))))))))))))))))))))))))
theorem solve_Models.slimOk : slimOk [] (Try.f25.body.getD .skip) = true := by kernel_rfl
theorem solve_Models.resC : resC Try.prog aggs Try.f25.ntmps (slim [] (Try.f25.body.getD .skip)) = some solve_Models.c := by kernel_rfl
theorem solve_Models.resR : resR Try.prog Try.f25.results.toList = some [.tm 6, .tm 7] := by kernel_rfl
theorem solve_Models.bodyEq : Try.f25.body = some (Try.f25.body.getD .skip) := by kernel_rfl
theorem solve_Models.run {a0_0 : AC} {a0_1 : Int} {a1 : Int} {a2 : Int} {H : AHeap} {Q : AHeap → AC → Int → Prop} (h : solve_Models.W a0_0 a0_1 a1 a2 H Q) : Fn.solve_Models a0_0 a0_1 a1 a2 H Q := by
  unfold Fn.solve_Models RunT
  exact run_of aggs_ok [] Try.func25 solve_Models.bodyEq solve_Models.slimOk solve_Models.resC solve_Models.resR (Nat.le_of_ble_eq_true (by kernel_rfl)) (solve_Models.ok Q h)

end Go.Proofs.Ytanaaabejeeakaa
end
section
/- Printed by a program: functions and what must hold ahead of them. -/
namespace Go.Proofs.Ytanaaabejeeakaa
open Go.AI
set_option maxRecDepth 100000
set_option maxHeartbeats 2000000
set_option linter.unusedVariables false
attribute [local irreducible] Ld Sto New NewS NewM NN NZ GE0 FA IA IAP LenS Slc App Cpy Clr MkS Fnc NilQ IxS Look MSet Run CV RunT CVT LoopT Same1 Same2 wpC wpOs wpT wpO wpOp

def solve_CheckDiagram.c93 : RC := (.cond 115 (.seq (.ops [.put 2 (.mov (.ct (.one (.int .i64 2))))]) .ret) .skip)
def solve_CheckDiagram.c81 : RC := (.cond 96 (.seq (.ops [.put 2 (.mov (.ct (.one (.int .i64 2))))]) .ret) .skip)
def solve_CheckDiagram.c71 : RC := (.cond 83 (.seq (.ops [.put 2 (.mov (.ct (.one (.int .i64 2))))]) .ret) .skip)
def solve_CheckDiagram.c59 : RC := (.seq (.ops [.put 68 (.cm .lt (.tm 67) (.tm 66))]) (.seq (.cond 68 .skip (.exit 5)) (.seq (.block 6 (.seq (.ops [.put 69 (.ia 1 (.tm 65) (.tm 67)),
    .put 70 (.ld false [.int .i64] (.tm 69)),
    .put 8 (.mov (.tm 70))]) (.seq (.ops [.put 71 (.mov (.tm 8)),
    .put 72 (.cm .ge (.tm 71) (.ct (.one (.int .i64 0)))),
    .put 73 (.mov (.tm 72)),
    .gput 74 73 true (.fa 0 (.tm 1)),
    .gput 75 73 true (.ld false [.ac] (.tm 74)),
    .gput 76 73 true (.mov (.tm 8)),
    .gput 77 73 true (.ia 3 (.tm 75) (.tm 76)),
    .gput 78 73 true (.fa 0 (.tm 77)),
    .gput 79 73 true (.ld false [.int .i64] (.tm 78)),
    .gput 80 73 true (.fa 0 (.tm 6)),
    .gput 81 73 true (.ld false [.int .i64] (.tm 80)),
    .gput 82 73 true (.cm .le (.tm 79) (.tm 81)),
    .put 83 (.pick (.tm 73) (.tm 82) (.ct (.one (.bool false))))]) solve_CheckDiagram.c71))) (.ops [.put 84 (.ar .add (.tm 67) (.ct (.one (.int .i64 1)))),
    .put 67 (.mov (.tm 84))]))))
def solve_CheckDiagram.c45 : RC := (.seq (.ops [.put 58 (.cm .lt (.tm 57) (.tm 56))]) (.seq (.cond 58 .skip (.exit 3)) (.seq (.block 4 (.seq (.ops [.put 59 (.ia 3 (.tm 55) (.tm 57)),
    .put 60 (.ld true [.int .i64, .int .i64, .int .i64] (.tm 59)),
    .put 6 (.new 77 [(.int .i64 0), (.int .i64 0), (.int .i64 0)]),
    .run (.st 3 (.tm 6) (.tm 60))]) (.seq (.ops [.put 61 (.fa 1 (.tm 6)),
    .put 62 (.ld false [.int .i64] (.tm 61)),
    .put 63 (.fa 2 (.tm 6)),
    .put 64 (.ld false [.int .i64] (.tm 63)),
    .put 65 (.blds 3 1 2 [(.int .i64 0), (.int .i64 0)] [(0, 1, (.tm 62)), (1, 1, (.tm 64))]),
    .put 66 (.lens (.tm 65)),
    .put 67 (.mov (.ct (.one (.int .i64 0))))]) (.block 5 (.loop solve_CheckDiagram.c59))))) (.ops [.put 85 (.ar .add (.tm 57) (.ct (.one (.int .i64 1)))),
    .put 57 (.mov (.tm 85))]))))
def solve_CheckDiagram.c34 : RC := (.cond 32 (.seq (.ops [.put 2 (.mov (.ct (.one (.int .i64 2))))]) .ret) .skip)
def solve_CheckDiagram.c28 : RC := (.cond 23 (.seq (.ops [.put 2 (.mov (.ct (.one (.int .i64 1))))]) .ret) (.seq (.ops [.put 33 (.fa 1 (.tm 4)),
    .put 34 (.ld false [.int .i64] (.tm 33)),
    .put 35 (.cm .lt (.tm 34) (.ct (.one (.int .i64 (-2))))),
    .put 36 (.mov (.tm 35)),
    .gput 37 36 false (.fa 1 (.tm 4)),
    .gput 38 36 false (.ld false [.int .i64] (.tm 37)),
    .gput 39 36 false (.mov (.tm 3)),
    .gput 40 36 false (.cm .ge (.tm 38) (.tm 39)),
    .put 41 (.pick (.tm 36) (.ct (.one (.bool true))) (.tm 40)),
    .put 42 (.mov (.tm 41)),
    .gput 43 42 false (.fa 2 (.tm 4)),
    .gput 44 42 false (.ld false [.int .i64] (.tm 43)),
    .gput 45 42 false (.cm .lt (.tm 44) (.ct (.one (.int .i64 (-2))))),
    .put 46 (.pick (.tm 42) (.ct (.one (.bool true))) (.tm 45)),
    .put 47 (.mov (.tm 46)),
    .gput 48 47 false (.fa 2 (.tm 4)),
    .gput 49 47 false (.ld false [.int .i64] (.tm 48)),
    .gput 50 47 false (.mov (.tm 3)),
    .gput 51 47 false (.cm .ge (.tm 49) (.tm 50)),
    .put 52 (.pick (.tm 47) (.ct (.one (.bool true))) (.tm 51)),
    .put 32 (.mov (.tm 52))]) solve_CheckDiagram.c34))
def solve_CheckDiagram.c15 : RC := (.seq (.ops [.put 19 (.cm .lt (.tm 18) (.tm 17))]) (.seq (.cond 19 .skip (.exit 0)) (.seq (.block 1 (.seq (.ops [.put 20 (.mov (.tm 18)),
    .put 21 (.ia 3 (.tm 16) (.tm 18)),
    .put 22 (.ld true [.int .i64, .int .i64, .int .i64] (.tm 21)),
    .put 4 (.new 77 [(.int .i64 0), (.int .i64 0), (.int .i64 0)]),
    .put 3 (.mov (.tm 20)),
    .run (.st 3 (.tm 4) (.tm 22))]) (.block 2 (.seq (.ops [.put 24 (.fa 0 (.tm 4)),
    .put 25 (.ld false [.int .i64] (.tm 24)),
    .put 26 (.cm .lt (.tm 25) (.ct (.one (.int .i64 0)))),
    .put 27 (.mov (.tm 26)),
    .gput 28 27 false (.fa 0 (.tm 4)),
    .gput 29 27 false (.ld false [.int .i64] (.tm 28)),
    .gput 30 27 false (.cm .ge (.tm 29) (.ct (.one (.int .i64 16)))),
    .put 31 (.pick (.tm 27) (.ct (.one (.bool true))) (.tm 30)),
    .put 23 (.mov (.tm 31))]) solve_CheckDiagram.c28)))) (.ops [.put 53 (.ar .add (.tm 18) (.ct (.one (.int .i64 1)))),
    .put 18 (.mov (.tm 53))]))))
def solve_CheckDiagram.c : RC := (.seq (.ops [.put 1 (.box 27 (.tm 0)),
    .put 2 (.mov (.ct (.one (.int .i64 0))))]) (.seq (.seq (.ops [.put 11 (.fa 0 (.tm 1)),
    .put 12 (.ld false [.ac] (.tm 11)),
    .put 13 (.lens (.tm 12)),
    .put 14 (.cm .gt (.tm 13) (.ct (.one (.int .i64 2000))))]) (.cond 14 (.seq (.ops [.put 2 (.mov (.ct (.one (.int .i64 3))))]) .ret) .skip)) (.seq (.seq (.ops [.put 15 (.fa 0 (.tm 1)),
    .put 16 (.ld false [.ac] (.tm 15)),
    .put 17 (.lens (.tm 16)),
    .put 18 (.mov (.ct (.one (.int .i64 0))))]) (.block 0 (.loop solve_CheckDiagram.c15))) (.seq (.seq (.ops [.put 54 (.fa 0 (.tm 1)),
    .put 55 (.ld false [.ac] (.tm 54)),
    .put 56 (.lens (.tm 55)),
    .put 57 (.mov (.ct (.one (.int .i64 0))))]) (.block 3 (.loop solve_CheckDiagram.c45))) (.seq (.seq (.ops [.put 86 (.fa 1 (.tm 1)),
    .put 87 (.ld false [.int .i64] (.tm 86)),
    .put 88 (.cm .lt (.tm 87) (.ct (.one (.int .i64 (-2))))),
    .put 89 (.mov (.tm 88)),
    .gput 90 89 false (.fa 1 (.tm 1)),
    .gput 91 89 false (.ld false [.int .i64] (.tm 90)),
    .gput 92 89 false (.fa 0 (.tm 1)),
    .gput 93 89 false (.ld false [.ac] (.tm 92)),
    .gput 94 89 false (.lens (.tm 93)),
    .gput 95 89 false (.cm .ge (.tm 91) (.tm 94)),
    .put 96 (.pick (.tm 89) (.ct (.one (.bool true))) (.tm 95))]) solve_CheckDiagram.c81) (.seq (.ops [.put 97 (.call 41 []),
    .put 9 (.mov (.tm 97))]) (.seq (.seq (.ops [.put 98 (.mov (.tm 9)),
    .put 99 (.mov (.tm 9)),
    .put 100 (.ld true [.ac, .int .i64] (.tm 1)),
    .put 101 (.call 51 [(.tm 99), (.tm 100)]),
    .put 102 (.call 63 [(.tm 98), (.tm 101)]),
    .put 10 (.new 27 [(.sl none 0 0 (some 0)), (.int .i64 0)]),
    .run (.st 2 (.tm 10) (.tm 102))]) (.seq (.ops [.put 103 (.fa 1 (.tm 10)),
    .put 104 (.ld false [.int .i64] (.tm 103)),
    .put 105 (.fa 1 (.tm 1)),
    .put 106 (.ld false [.int .i64] (.tm 105)),
    .put 107 (.cm .ne (.tm 104) (.tm 106)),
    .put 108 (.mov (.tm 107)),
    .gput 109 108 false (.fa 0 (.tm 10)),
    .gput 110 108 false (.ld false [.ac] (.tm 109)),
    .gput 111 108 false (.fa 0 (.tm 1)),
    .gput 112 108 false (.ld false [.ac] (.tm 111)),
    .gput 113 108 false (.call 64 [(.tm 110), (.tm 112)]),
    .gput 114 108 false (.not (.tm 113)),
    .put 115 (.pick (.tm 108) (.ct (.one (.bool true))) (.tm 114))]) solve_CheckDiagram.c93)) (.seq (.ops [.put 2 (.mov (.ct (.one (.int .i64 0))))]) .ret))))))))
abbrev solve_CheckDiagram.KQ (Q : AHeap → Int → Prop) : AV → AHeap → Prop := fun v H => ∃ xs : Tup (flat [(false, [.int .i64])]), v = joinR (splitP [(false, [.int .i64])] (cellsOf (flat [(false, [.int .i64])]) xs)) ∧ app (flat [(false, [.int .i64])]) (Q H) xs
abbrev solve_CheckDiagram.K (Q : AHeap → Int → Prop) : Ex → Env → AHeap → Prop := kTop [.tm 2] (solve_CheckDiagram.KQ Q)
abbrev solve_CheckDiagram.k11 (Q : AHeap → Int → Prop) : Ex → Env → AHeap → Prop := kSeq (fun t H => wpC Try.prog (.seq (.seq (.ops [.put 54 (.fa 0 (.tm 1)),
    .put 55 (.ld false [.ac] (.tm 54)),
    .put 56 (.lens (.tm 55)),
    .put 57 (.mov (.ct (.one (.int .i64 0))))]) (.block 3 (.loop solve_CheckDiagram.c45))) (.seq (.seq (.ops [.put 86 (.fa 1 (.tm 1)),
    .put 87 (.ld false [.int .i64] (.tm 86)),
    .put 88 (.cm .lt (.tm 87) (.ct (.one (.int .i64 (-2))))),
    .put 89 (.mov (.tm 88)),
    .gput 90 89 false (.fa 1 (.tm 1)),
    .gput 91 89 false (.ld false [.int .i64] (.tm 90)),
    .gput 92 89 false (.fa 0 (.tm 1)),
    .gput 93 89 false (.ld false [.ac] (.tm 92)),
    .gput 94 89 false (.lens (.tm 93)),
    .gput 95 89 false (.cm .ge (.tm 91) (.tm 94)),
    .put 96 (.pick (.tm 89) (.ct (.one (.bool true))) (.tm 95))]) solve_CheckDiagram.c81) (.seq (.ops [.put 97 (.call 41 []),
    .put 9 (.mov (.tm 97))]) (.seq (.seq (.ops [.put 98 (.mov (.tm 9)),
    .put 99 (.mov (.tm 9)),
    .put 100 (.ld true [.ac, .int .i64] (.tm 1)),
    .put 101 (.call 51 [(.tm 99), (.tm 100)]),
    .put 102 (.call 63 [(.tm 98), (.tm 101)]),
    .put 10 (.new 27 [(.sl none 0 0 (some 0)), (.int .i64 0)]),
    .run (.st 2 (.tm 10) (.tm 102))]) (.seq (.ops [.put 103 (.fa 1 (.tm 10)),
    .put 104 (.ld false [.int .i64] (.tm 103)),
    .put 105 (.fa 1 (.tm 1)),
    .put 106 (.ld false [.int .i64] (.tm 105)),
    .put 107 (.cm .ne (.tm 104) (.tm 106)),
    .put 108 (.mov (.tm 107)),
    .gput 109 108 false (.fa 0 (.tm 10)),
    .gput 110 108 false (.ld false [.ac] (.tm 109)),
    .gput 111 108 false (.fa 0 (.tm 1)),
    .gput 112 108 false (.ld false [.ac] (.tm 111)),
    .gput 113 108 false (.call 64 [(.tm 110), (.tm 112)]),
    .gput 114 108 false (.not (.tm 113)),
    .put 115 (.pick (.tm 108) (.ct (.one (.bool true))) (.tm 114))]) solve_CheckDiagram.c93)) (.seq (.ops [.put 2 (.mov (.ct (.one (.int .i64 0))))]) .ret))))) t H (solve_CheckDiagram.K Q)) (solve_CheckDiagram.K Q)
abbrev solve_CheckDiagram.k22 (Q : AHeap → Int → Prop) (X14 : Env → AHeap → Prop) : Ex → Env → AHeap → Prop := kSeq (fun t H => wpC Try.prog (.ops [.put 53 (.ar .add (.tm 18) (.ct (.one (.int .i64 1)))),
    .put 18 (.mov (.tm 53))]) t H (kSeq X14 (kBlk 0 (solve_CheckDiagram.k11 Q)))) (kSeq X14 (kBlk 0 (solve_CheckDiagram.k11 Q)))
abbrev solve_CheckDiagram.k41 (Q : AHeap → Int → Prop) : Ex → Env → AHeap → Prop := kSeq (fun t H => wpC Try.prog (.seq (.seq (.ops [.put 86 (.fa 1 (.tm 1)),
    .put 87 (.ld false [.int .i64] (.tm 86)),
    .put 88 (.cm .lt (.tm 87) (.ct (.one (.int .i64 (-2))))),
    .put 89 (.mov (.tm 88)),
    .gput 90 89 false (.fa 1 (.tm 1)),
    .gput 91 89 false (.ld false [.int .i64] (.tm 90)),
    .gput 92 89 false (.fa 0 (.tm 1)),
    .gput 93 89 false (.ld false [.ac] (.tm 92)),
    .gput 94 89 false (.lens (.tm 93)),
    .gput 95 89 false (.cm .ge (.tm 91) (.tm 94)),
    .put 96 (.pick (.tm 89) (.ct (.one (.bool true))) (.tm 95))]) solve_CheckDiagram.c81) (.seq (.ops [.put 97 (.call 41 []),
    .put 9 (.mov (.tm 97))]) (.seq (.seq (.ops [.put 98 (.mov (.tm 9)),
    .put 99 (.mov (.tm 9)),
    .put 100 (.ld true [.ac, .int .i64] (.tm 1)),
    .put 101 (.call 51 [(.tm 99), (.tm 100)]),
    .put 102 (.call 63 [(.tm 98), (.tm 101)]),
    .put 10 (.new 27 [(.sl none 0 0 (some 0)), (.int .i64 0)]),
    .run (.st 2 (.tm 10) (.tm 102))]) (.seq (.ops [.put 103 (.fa 1 (.tm 10)),
    .put 104 (.ld false [.int .i64] (.tm 103)),
    .put 105 (.fa 1 (.tm 1)),
    .put 106 (.ld false [.int .i64] (.tm 105)),
    .put 107 (.cm .ne (.tm 104) (.tm 106)),
    .put 108 (.mov (.tm 107)),
    .gput 109 108 false (.fa 0 (.tm 10)),
    .gput 110 108 false (.ld false [.ac] (.tm 109)),
    .gput 111 108 false (.fa 0 (.tm 1)),
    .gput 112 108 false (.ld false [.ac] (.tm 111)),
    .gput 113 108 false (.call 64 [(.tm 110), (.tm 112)]),
    .gput 114 108 false (.not (.tm 113)),
    .put 115 (.pick (.tm 108) (.ct (.one (.bool true))) (.tm 114))]) solve_CheckDiagram.c93)) (.seq (.ops [.put 2 (.mov (.ct (.one (.int .i64 0))))]) .ret)))) t H (solve_CheckDiagram.K Q)) (solve_CheckDiagram.K Q)
abbrev solve_CheckDiagram.k52 (Q : AHeap → Int → Prop) (X44 : Env → AHeap → Prop) : Ex → Env → AHeap → Prop := kSeq (fun t H => wpC Try.prog (.ops [.put 85 (.ar .add (.tm 57) (.ct (.one (.int .i64 1)))),
    .put 57 (.mov (.tm 85))]) t H (kSeq X44 (kBlk 3 (solve_CheckDiagram.k41 Q)))) (kSeq X44 (kBlk 3 (solve_CheckDiagram.k41 Q)))
abbrev solve_CheckDiagram.k66 (Q : AHeap → Int → Prop) (X44 : Env → AHeap → Prop) (X58 : Env → AHeap → Prop) : Ex → Env → AHeap → Prop := kSeq (fun t H => wpC Try.prog (.ops [.put 84 (.ar .add (.tm 67) (.ct (.one (.int .i64 1)))),
    .put 67 (.mov (.tm 84))]) t H (kSeq X58 (kBlk 5 (kBlk 4 (solve_CheckDiagram.k52 Q X44))))) (kSeq X58 (kBlk 5 (kBlk 4 (solve_CheckDiagram.k52 Q X44))))
abbrev solve_CheckDiagram.k79 (Q : AHeap → Int → Prop) : Ex → Env → AHeap → Prop := kSeq (fun t H => wpC Try.prog (.seq (.ops [.put 97 (.call 41 []),
    .put 9 (.mov (.tm 97))]) (.seq (.seq (.ops [.put 98 (.mov (.tm 9)),
    .put 99 (.mov (.tm 9)),
    .put 100 (.ld true [.ac, .int .i64] (.tm 1)),
    .put 101 (.call 51 [(.tm 99), (.tm 100)]),
    .put 102 (.call 63 [(.tm 98), (.tm 101)]),
    .put 10 (.new 27 [(.sl none 0 0 (some 0)), (.int .i64 0)]),
    .run (.st 2 (.tm 10) (.tm 102))]) (.seq (.ops [.put 103 (.fa 1 (.tm 10)),
    .put 104 (.ld false [.int .i64] (.tm 103)),
    .put 105 (.fa 1 (.tm 1)),
    .put 106 (.ld false [.int .i64] (.tm 105)),
    .put 107 (.cm .ne (.tm 104) (.tm 106)),
    .put 108 (.mov (.tm 107)),
    .gput 109 108 false (.fa 0 (.tm 10)),
    .gput 110 108 false (.ld false [.ac] (.tm 109)),
    .gput 111 108 false (.fa 0 (.tm 1)),
    .gput 112 108 false (.ld false [.ac] (.tm 111)),
    .gput 113 108 false (.call 64 [(.tm 110), (.tm 112)]),
    .gput 114 108 false (.not (.tm 113)),
    .put 115 (.pick (.tm 108) (.ct (.one (.bool true))) (.tm 114))]) solve_CheckDiagram.c93)) (.seq (.ops [.put 2 (.mov (.ct (.one (.int .i64 0))))]) .ret))) t H (solve_CheckDiagram.K Q)) (solve_CheckDiagram.K Q)
abbrev solve_CheckDiagram.k89 (Q : AHeap → Int → Prop) : Ex → Env → AHeap → Prop := kSeq (fun t H => wpC Try.prog (.seq (.ops [.put 2 (.mov (.ct (.one (.int .i64 0))))]) .ret) t H (solve_CheckDiagram.K Q)) (solve_CheckDiagram.K Q)
def solve_CheckDiagram.R58 (s : Tup [.ac, .ac, .ac, .int .i64, .int .i64, .ac, .int .i64, .int .i64]) (t : Env) : Prop := t 1 = (.one (s.1)) ∧ t 6 = (.one (s.2.1)) ∧ t 55 = (.one (s.2.2.1)) ∧ t 56 = (.one (.int .i64 (s.2.2.2.1))) ∧ t 57 = (.one (.int .i64 (s.2.2.2.2.1))) ∧ t 65 = (.one (s.2.2.2.2.2.1)) ∧ t 66 = (.one (.int .i64 (s.2.2.2.2.2.2.1))) ∧ t 67 = (.one (.int .i64 (s.2.2.2.2.2.2.2.1))) ∧ True
def solve_CheckDiagram.R44 (s : Tup [.ac, .ac, .int .i64, .int .i64]) (t : Env) : Prop := t 1 = (.one (s.1)) ∧ t 55 = (.one (s.2.1)) ∧ t 56 = (.one (.int .i64 (s.2.2.1))) ∧ t 57 = (.one (.int .i64 (s.2.2.2.1))) ∧ True
def solve_CheckDiagram.R14 (s : Tup [.ac, .ac, .int .i64, .int .i64]) (t : Env) : Prop := t 1 = (.one (s.1)) ∧ t 16 = (.one (s.2.1)) ∧ t 17 = (.one (.int .i64 (s.2.2.1))) ∧ t 18 = (.one (.int .i64 (s.2.2.2.1))) ∧ True
def solve_CheckDiagram.p93 (Q : AHeap → Int → Prop) (x115 : Bool) (H : AHeap) : Prop :=
  CondB x115
    (Q H 2)
    (Q H 0)
def solve_CheckDiagram.p81 (Q : AHeap → Int → Prop) (x1 : AC) (x96 : Bool) (H : AHeap) : Prop :=
  CondB x96
    (Q H 2)
    (Fn.solve_newManager  H fun H_1 (v_2 : AC) =>
    Ld [.ac, .int .i64] H_1 x1 fun (v_3 : AC) (v_4 : Int) =>
    Fn.solve_manager_add v_2 v_3 v_4 H_1 fun H_5 (v_6 : Int) =>
    Fn.solve_manager_diagram v_2 v_6 H_5 fun H_7 (v_8 : AC) (v_9 : Int) =>
    New 27 [(.sl none 0 0 (some 0)), (.int .i64 0)] H_7 fun p_10 H_11 =>
    Sto H_11 p_10 [v_8, (.int .i64 v_9)] fun H_12 =>
    FA 1 p_10 fun q_13 =>
    Ld [.int .i64] H_12 q_13 fun (v_14 : Int) =>
    FA 1 x1 fun q_15 =>
    Ld [.int .i64] H_12 q_15 fun (v_16 : Int) =>
    CondB (v_14 != v_16)
      (solve_CheckDiagram.p93 Q true H_12)
      (FA 0 p_10 fun q_17 =>
      Ld [.ac] H_12 q_17 fun (v_18 : AC) =>
      FA 0 x1 fun q_19 =>
      Ld [.ac] H_12 q_19 fun (v_20 : AC) =>
      Fn.slices_Equal_fetterlock_api_Node_fetterlock_api_Node v_18 v_20 H_12 fun H_21 (v_22 : Bool) =>
      solve_CheckDiagram.p93 Q (!v_22) H_21))
def solve_CheckDiagram.p71 (Q : AHeap → Int → Prop) (Y44 : Tup [.ac, .ac, .int .i64, .int .i64] → AHeap → Prop) (Y58 : Tup [.ac, .ac, .ac, .int .i64, .int .i64, .ac, .int .i64, .int .i64] → AHeap → Prop) (x1 : AC) (x6 : AC) (x55 : AC) (x56 : Int) (x57 : Int) (x65 : AC) (x66 : Int) (x67 : Int) (x83 : Bool) (H : AHeap) : Prop :=
  CondB x83
    (Q H 2)
    (Y58 (x1, x6, x55, (x56 : Int), (x57 : Int), x65, (x66 : Int), ((IntKind.wrap .i64 (x67 + 1)) : Int), ()) H)
def solve_CheckDiagram.b58 (Q : AHeap → Int → Prop) (Y44 : Tup [.ac, .ac, .int .i64, .int .i64] → AHeap → Prop) (Y58 : Tup [.ac, .ac, .ac, .int .i64, .int .i64, .ac, .int .i64, .int .i64] → AHeap → Prop) (x1 : AC) (x6 : AC) (x55 : AC) (x56 : Int) (x57 : Int) (x65 : AC) (x66 : Int) (x67 : Int) (H : AHeap) : Prop :=
  CondB (decide (x67 < x66))
    (IA 1 x65 x67 fun q_1 =>
    Ld [.int .i64] H q_1 fun (v_2 : Int) =>
    CondB (decide (v_2 ≥ 0))
      (FA 0 x1 fun q_3 =>
      Ld [.ac] H q_3 fun (v_4 : AC) =>
      IA 3 v_4 v_2 fun q_5 =>
      FA 0 q_5 fun q_6 =>
      Ld [.int .i64] H q_6 fun (v_7 : Int) =>
      FA 0 x6 fun q_8 =>
      Ld [.int .i64] H q_8 fun (v_9 : Int) =>
      solve_CheckDiagram.p71 Q Y44 Y58 x1 x6 x55 x56 x57 x65 x66 x67 (decide (v_7 ≤ v_9)) H)
      (solve_CheckDiagram.p71 Q Y44 Y58 x1 x6 x55 x56 x57 x65 x66 x67 false H))
    (Y44 (x1, x55, (x56 : Int), ((IntKind.wrap .i64 (x57 + 1)) : Int), ()) H)
def solve_CheckDiagram.l58 (Q : AHeap → Int → Prop) (Y44 : Tup [.ac, .ac, .int .i64, .int .i64] → AHeap → Prop) (x1 : AC) (x6 : AC) (x55 : AC) (x56 : Int) (x57 : Int) (x65 : AC) (x66 : Int) (x67 : Int) (H : AHeap) : Prop := LoopT (Tup [.ac, .ac, .ac, .int .i64, .int .i64, .ac, .int .i64, .int .i64]) (fun Y s H => solve_CheckDiagram.b58 Q Y44 Y (s.1) (s.2.1) (s.2.2.1) (s.2.2.2.1) (s.2.2.2.2.1) (s.2.2.2.2.2.1) (s.2.2.2.2.2.2.1) (s.2.2.2.2.2.2.2.1) H) (x1, x6, x55, x56, x57, x65, x66, x67, ()) H
def solve_CheckDiagram.b44 (Q : AHeap → Int → Prop) (Y44 : Tup [.ac, .ac, .int .i64, .int .i64] → AHeap → Prop) (x1 : AC) (x55 : AC) (x56 : Int) (x57 : Int) (H : AHeap) : Prop :=
  CondB (decide (x57 < x56))
    (IA 3 x55 x57 fun q_1 =>
    Ld [.int .i64, .int .i64, .int .i64] H q_1 fun (v_2 : Int) (v_3 : Int) (v_4 : Int) =>
    New 77 [(.int .i64 0), (.int .i64 0), (.int .i64 0)] H fun p_5 H_6 =>
    Sto H_6 p_5 [(.int .i64 v_2), (.int .i64 v_3), (.int .i64 v_4)] fun H_7 =>
    FA 1 p_5 fun q_8 =>
    Ld [.int .i64] H_7 q_8 fun (v_9 : Int) =>
    FA 2 p_5 fun q_10 =>
    Ld [.int .i64] H_7 q_10 fun (v_11 : Int) =>
    NewS 3 1 2 [(.int .i64 v_9), (.int .i64 v_11)] H_7 fun p_12 H_13 =>
    LenS p_12 fun n_14 =>
    solve_CheckDiagram.l58 Q Y44 x1 p_5 x55 x56 x57 p_12 n_14 0 H_13)
    (FA 1 x1 fun q_15 =>
    Ld [.int .i64] H q_15 fun (v_16 : Int) =>
    CondB (decide (v_16 < (-2)))
      (solve_CheckDiagram.p81 Q x1 true H)
      (FA 1 x1 fun q_17 =>
      Ld [.int .i64] H q_17 fun (v_18 : Int) =>
      FA 0 x1 fun q_19 =>
      Ld [.ac] H q_19 fun (v_20 : AC) =>
      LenS v_20 fun n_21 =>
      solve_CheckDiagram.p81 Q x1 (decide (v_18 ≥ n_21)) H))
def solve_CheckDiagram.l44 (Q : AHeap → Int → Prop) (x1 : AC) (x55 : AC) (x56 : Int) (x57 : Int) (H : AHeap) : Prop := LoopT (Tup [.ac, .ac, .int .i64, .int .i64]) (fun Y s H => solve_CheckDiagram.b44 Q Y (s.1) (s.2.1) (s.2.2.1) (s.2.2.2.1) H) (x1, x55, x56, x57, ()) H
def solve_CheckDiagram.p34 (Q : AHeap → Int → Prop) (Y14 : Tup [.ac, .ac, .int .i64, .int .i64] → AHeap → Prop) (x1 : AC) (x16 : AC) (x17 : Int) (x18 : Int) (x32 : Bool) (H : AHeap) : Prop :=
  CondB x32
    (Q H 2)
    (Y14 (x1, x16, (x17 : Int), ((IntKind.wrap .i64 (x18 + 1)) : Int), ()) H)
def solve_CheckDiagram.p28 (Q : AHeap → Int → Prop) (Y14 : Tup [.ac, .ac, .int .i64, .int .i64] → AHeap → Prop) (x1 : AC) (x3 : Int) (x4 : AC) (x16 : AC) (x17 : Int) (x18 : Int) (x23 : Bool) (H : AHeap) : Prop :=
  CondB x23
    (Q H 1)
    (FA 1 x4 fun q_1 =>
    Ld [.int .i64] H q_1 fun (v_2 : Int) =>
    CondB (decide (v_2 < (-2)))
      (solve_CheckDiagram.p34 Q Y14 x1 x16 x17 x18 true H)
      (FA 1 x4 fun q_3 =>
      Ld [.int .i64] H q_3 fun (v_4 : Int) =>
      CondB (decide (v_4 ≥ x3))
        (solve_CheckDiagram.p34 Q Y14 x1 x16 x17 x18 true H)
        (FA 2 x4 fun q_5 =>
        Ld [.int .i64] H q_5 fun (v_6 : Int) =>
        CondB (decide (v_6 < (-2)))
          (solve_CheckDiagram.p34 Q Y14 x1 x16 x17 x18 true H)
          (FA 2 x4 fun q_7 =>
          Ld [.int .i64] H q_7 fun (v_8 : Int) =>
          solve_CheckDiagram.p34 Q Y14 x1 x16 x17 x18 (decide (v_8 ≥ x3)) H))))
def solve_CheckDiagram.b14 (Q : AHeap → Int → Prop) (Y14 : Tup [.ac, .ac, .int .i64, .int .i64] → AHeap → Prop) (x1 : AC) (x16 : AC) (x17 : Int) (x18 : Int) (H : AHeap) : Prop :=
  CondB (decide (x18 < x17))
    (IA 3 x16 x18 fun q_1 =>
    Ld [.int .i64, .int .i64, .int .i64] H q_1 fun (v_2 : Int) (v_3 : Int) (v_4 : Int) =>
    New 77 [(.int .i64 0), (.int .i64 0), (.int .i64 0)] H fun p_5 H_6 =>
    Sto H_6 p_5 [(.int .i64 v_2), (.int .i64 v_3), (.int .i64 v_4)] fun H_7 =>
    FA 0 p_5 fun q_8 =>
    Ld [.int .i64] H_7 q_8 fun (v_9 : Int) =>
    CondB (decide (v_9 < 0))
      (solve_CheckDiagram.p28 Q Y14 x1 x18 p_5 x16 x17 x18 true H_7)
      (FA 0 p_5 fun q_10 =>
      Ld [.int .i64] H_7 q_10 fun (v_11 : Int) =>
      solve_CheckDiagram.p28 Q Y14 x1 x18 p_5 x16 x17 x18 (decide (v_11 ≥ 16)) H_7))
    (FA 0 x1 fun q_12 =>
    Ld [.ac] H q_12 fun (v_13 : AC) =>
    LenS v_13 fun n_14 =>
    solve_CheckDiagram.l44 Q x1 v_13 n_14 0 H)
def solve_CheckDiagram.l14 (Q : AHeap → Int → Prop) (x1 : AC) (x16 : AC) (x17 : Int) (x18 : Int) (H : AHeap) : Prop := LoopT (Tup [.ac, .ac, .int .i64, .int .i64]) (fun Y s H => solve_CheckDiagram.b14 Q Y (s.1) (s.2.1) (s.2.2.1) (s.2.2.2.1) H) (x1, x16, x17, x18, ()) H
def solve_CheckDiagram.W (a0_0 : AC) (a0_1 : Int) (H : AHeap) (Q : AHeap → Int → Prop) : Prop :=
  New 27 [a0_0, (.int .i64 a0_1)] H fun p_1 H_2 =>
  FA 0 p_1 fun q_3 =>
  Ld [.ac] H_2 q_3 fun (v_4 : AC) =>
  LenS v_4 fun n_5 =>
  CondB (decide (n_5 > 2000))
    (Q H_2 3)
    (FA 0 p_1 fun q_6 =>
    Ld [.ac] H_2 q_6 fun (v_7 : AC) =>
    LenS v_7 fun n_8 =>
    solve_CheckDiagram.l14 Q p_1 v_7 n_8 0 H_2)
theorem solve_CheckDiagram.p93_okE (Q : AHeap → Int → Prop) {x115 : Bool} {H : AHeap} (j : Env) : solve_CheckDiagram.p93 Q x115 H → wpC Try.prog solve_CheckDiagram.c93 (upd j 115 (.one (.bool x115))) H (solve_CheckDiagram.k89 Q) := c_if rfl (c_seq (c_ops (s_cons (w_put (o_mov rfl (s_nil (k_seq (c_ret (k_seqR (k_topR (r_one rfl (r_nil (fun h => ⟨((2 : Int), ()), rfl, h⟩))))))))))))) (c_skip (k_seq (c_seq (c_ops (s_cons (w_put (o_mov rfl (s_nil (k_seq (c_ret (k_topR (r_one rfl (r_nil (fun h => ⟨((0 : Int), ()), rfl, h⟩))))))))))))))
theorem solve_CheckDiagram.p93_ok (Q : AHeap → Int → Prop) {x115 : Bool} {H : AHeap} {t : Env} (h115 : t 115 = (.one (.bool x115))) (h : solve_CheckDiagram.p93 Q x115 H) : wpC Try.prog solve_CheckDiagram.c93 t H (solve_CheckDiagram.k89 Q) := by
  have g := solve_CheckDiagram.p93_okE Q t h
  rw [upd_self h115] at g
  exact g
theorem solve_CheckDiagram.p81_okE (Q : AHeap → Int → Prop) {x1 : AC} {x96 : Bool} {H : AHeap} (j : Env) : solve_CheckDiagram.p81 Q x1 x96 H → wpC Try.prog solve_CheckDiagram.c81 (upd (upd j 1 (.one x1)) 96 (.one (.bool x96))) H (solve_CheckDiagram.k79 Q) := c_if rfl (c_seq (c_ops (s_cons (w_put (o_mov rfl (s_nil (k_seq (c_ret (k_seqR (k_topR (r_one rfl (r_nil (fun h => ⟨((2 : Int), ()), rfl, h⟩))))))))))))) (c_skip (k_seq (c_seq (c_ops (s_cons (w_put (o_call rfl (cv_1 (fun H_1 (v_2 : AC) => s_cons (w_put (o_mov rfl (s_nil (k_seq (c_seq (c_seq (c_ops (s_cons (w_put (o_mov rfl (s_cons (w_put (o_mov rfl (s_cons (w_put (o_ld2 rfl (fun (v_3 : AC) (v_4 : Int) => s_cons (w_put (o_call rfl (cv_1 (fun H_5 (v_6 : Int) => s_cons (w_put (o_call rfl (cv_a2 (fun H_7 (v_8 : AC) (v_9 : Int) => s_cons (w_put (o_new (fun p_10 H_11 => s_cons (w_run (o_st rfl rfl rfl (fun H_12 => s_nil (k_seq (c_seq (c_ops (s_cons (w_put (o_fa rfl (fun q_13 => s_cons (w_put (o_ld1 rfl (fun (v_14 : Int) => s_cons (w_put (o_fa rfl (fun q_15 => s_cons (w_put (o_ld1 rfl (fun (v_16 : Int) => s_cons (w_put (o_ne rfl rfl (s_cons (w_put (o_mov rfl (s_cons (w_gputF rfl (s_cons (w_gputN rfl (s_cons (w_gputN rfl (s_cons (w_gputN rfl (s_cons (w_gputN rfl (s_cons (w_gputN rfl (s_cons (w_put (o_pickT rfl rfl (s_nil (k_seq (solve_CheckDiagram.p93_ok Q rfl)))))))))))))))) (o_fa rfl (fun q_17 => s_cons (w_gputY rfl (o_ld1 rfl (fun (v_18 : AC) => s_cons (w_gputY rfl (o_fa rfl (fun q_19 => s_cons (w_gputY rfl (o_ld1 rfl (fun (v_20 : AC) => s_cons (w_gputY rfl (o_call rfl (cv_1 (fun H_21 (v_22 : Bool) => s_cons (w_gputY rfl (o_not rfl (s_cons (w_put (o_pickF rfl rfl (s_nil (k_seq (solve_CheckDiagram.p93_ok Q rfl))))))))))))))))))))))))))))))))))))))))))))))))))))))))))))))))))))))))))))))))))))))
theorem solve_CheckDiagram.p81_ok (Q : AHeap → Int → Prop) {x1 : AC} {x96 : Bool} {H : AHeap} {t : Env} (h1 : t 1 = (.one x1)) (h96 : t 96 = (.one (.bool x96))) (h : solve_CheckDiagram.p81 Q x1 x96 H) : wpC Try.prog solve_CheckDiagram.c81 t H (solve_CheckDiagram.k79 Q) := by
  have g := solve_CheckDiagram.p81_okE Q t h
  rw [upd_self h1] at g
  rw [upd_self h96] at g
  exact g
theorem solve_CheckDiagram.p71_okE (Q : AHeap → Int → Prop) (Y44 : Tup [.ac, .ac, .int .i64, .int .i64] → AHeap → Prop) (X44 : Env → AHeap → Prop) (hX44 : ∀ s t H, solve_CheckDiagram.R44 s t → Y44 s H → X44 t H) (Y58 : Tup [.ac, .ac, .ac, .int .i64, .int .i64, .ac, .int .i64, .int .i64] → AHeap → Prop) (X58 : Env → AHeap → Prop) (hX58 : ∀ s t H, solve_CheckDiagram.R58 s t → Y58 s H → X58 t H) {x1 : AC} {x6 : AC} {x55 : AC} {x56 : Int} {x57 : Int} {x65 : AC} {x66 : Int} {x67 : Int} {x83 : Bool} {H : AHeap} (j : Env) : solve_CheckDiagram.p71 Q Y44 Y58 x1 x6 x55 x56 x57 x65 x66 x67 x83 H → wpC Try.prog solve_CheckDiagram.c71 (upd (upd (upd (upd (upd (upd (upd (upd (upd j 1 (.one x1)) 6 (.one x6)) 55 (.one x55)) 56 (.one (.int .i64 x56))) 57 (.one (.int .i64 x57))) 65 (.one x65)) 66 (.one (.int .i64 x66))) 67 (.one (.int .i64 x67))) 83 (.one (.bool x83))) H (kBlk 6 (solve_CheckDiagram.k66 Q X44 X58)) := c_if rfl (c_seq (c_ops (s_cons (w_put (o_mov rfl (s_nil (k_seq (c_ret (k_blkR (k_seqR (k_seqR (k_blkR (k_blkR (k_seqR (k_seqR (k_blkR (k_seqR (k_topR (r_one rfl (r_nil (fun h => ⟨((2 : Int), ()), rfl, h⟩))))))))))))))))))))) (c_skip (k_blk (k_seq (c_ops (s_cons (w_put (o_add rfl rfl (s_cons (w_put (o_mov rfl (s_nil (k_seq (hX58 _ _ _ ⟨rfl, rfl, rfl, rfl, rfl, rfl, rfl, rfl, trivial⟩)))))))))))))
theorem solve_CheckDiagram.p71_ok (Q : AHeap → Int → Prop) (Y44 : Tup [.ac, .ac, .int .i64, .int .i64] → AHeap → Prop) (X44 : Env → AHeap → Prop) (hX44 : ∀ s t H, solve_CheckDiagram.R44 s t → Y44 s H → X44 t H) (Y58 : Tup [.ac, .ac, .ac, .int .i64, .int .i64, .ac, .int .i64, .int .i64] → AHeap → Prop) (X58 : Env → AHeap → Prop) (hX58 : ∀ s t H, solve_CheckDiagram.R58 s t → Y58 s H → X58 t H) {x1 : AC} {x6 : AC} {x55 : AC} {x56 : Int} {x57 : Int} {x65 : AC} {x66 : Int} {x67 : Int} {x83 : Bool} {H : AHeap} {t : Env} (h1 : t 1 = (.one x1)) (h6 : t 6 = (.one x6)) (h55 : t 55 = (.one x55)) (h56 : t 56 = (.one (.int .i64 x56))) (h57 : t 57 = (.one (.int .i64 x57))) (h65 : t 65 = (.one x65)) (h66 : t 66 = (.one (.int .i64 x66))) (h67 : t 67 = (.one (.int .i64 x67))) (h83 : t 83 = (.one (.bool x83))) (h : solve_CheckDiagram.p71 Q Y44 Y58 x1 x6 x55 x56 x57 x65 x66 x67 x83 H) : wpC Try.prog solve_CheckDiagram.c71 t H (kBlk 6 (solve_CheckDiagram.k66 Q X44 X58)) := by
  have g := solve_CheckDiagram.p71_okE Q Y44 X44 hX44 Y58 X58 hX58 t h
  rw [upd_self h1] at g
  rw [upd_self h6] at g
  rw [upd_self h55] at g
  rw [upd_self h56] at g
  rw [upd_self h57] at g
  rw [upd_self h65] at g
  rw [upd_self h66] at g
  rw [upd_self h67] at g
  rw [upd_self h83] at g
  exact g
theorem solve_CheckDiagram.b58_ok (Q : AHeap → Int → Prop) (Y44 : Tup [.ac, .ac, .int .i64, .int .i64] → AHeap → Prop) (X44 : Env → AHeap → Prop) (hX44 : ∀ s t H, solve_CheckDiagram.R44 s t → Y44 s H → X44 t H) (Y58 : Tup [.ac, .ac, .ac, .int .i64, .int .i64, .ac, .int .i64, .int .i64] → AHeap → Prop) (X58 : Env → AHeap → Prop) (hX58 : ∀ s t H, solve_CheckDiagram.R58 s t → Y58 s H → X58 t H) {x1 : AC} {x6 : AC} {x55 : AC} {x56 : Int} {x57 : Int} {x65 : AC} {x66 : Int} {x67 : Int} {H : AHeap} (j : Env) : solve_CheckDiagram.b58 Q Y44 Y58 x1 x6 x55 x56 x57 x65 x66 x67 H → wpC Try.prog solve_CheckDiagram.c59 (upd (upd (upd (upd (upd (upd (upd (upd j 1 (.one x1)) 6 (.one x6)) 55 (.one x55)) 56 (.one (.int .i64 x56))) 57 (.one (.int .i64 x57))) 65 (.one x65)) 66 (.one (.int .i64 x66))) 67 (.one (.int .i64 x67))) H (kSeq X58 (kBlk 5 (kBlk 4 (solve_CheckDiagram.k52 Q X44)))) := c_seq (c_ops (s_cons (w_put (o_lt rfl rfl (s_nil (k_seq (c_seq (c_if rfl (c_skip (k_seq (c_seq (c_blk (c_seq (c_ops (s_cons (w_put (o_ia rfl rfl (fun q_1 => s_cons (w_put (o_ld1 rfl (fun (v_2 : Int) => s_cons (w_put (o_mov rfl (s_nil (k_seq (c_seq (c_ops (s_cons (w_put (o_mov rfl (s_cons (w_put (o_ge rfl rfl (s_cons (w_put (o_mov rfl (s_cons (w_gputT rfl (o_fa rfl (fun q_3 => s_cons (w_gputY rfl (o_ld1 rfl (fun (v_4 : AC) => s_cons (w_gputY rfl (o_mov rfl (s_cons (w_gputY rfl (o_ia rfl rfl (fun q_5 => s_cons (w_gputY rfl (o_fa rfl (fun q_6 => s_cons (w_gputY rfl (o_ld1 rfl (fun (v_7 : Int) => s_cons (w_gputY rfl (o_fa rfl (fun q_8 => s_cons (w_gputY rfl (o_ld1 rfl (fun (v_9 : Int) => s_cons (w_gputY rfl (o_le rfl rfl (s_cons (w_put (o_pickT rfl rfl (s_nil (k_seq (solve_CheckDiagram.p71_ok Q Y44 X44 hX44 Y58 X58 hX58 rfl rfl rfl rfl rfl rfl rfl rfl rfl))))))))))))))))))))))))))))))) (s_cons (w_gputN rfl (s_cons (w_gputN rfl (s_cons (w_gputN rfl (s_cons (w_gputN rfl (s_cons (w_gputN rfl (s_cons (w_gputN rfl (s_cons (w_gputN rfl (s_cons (w_gputN rfl (s_cons (w_put (o_pickF rfl rfl (s_nil (k_seq (solve_CheckDiagram.p71_ok Q Y44 X44 hX44 Y58 X58 hX58 rfl rfl rfl rfl rfl rfl rfl rfl rfl)))))))))))))))))))))))))))))))))))))))))))))))))))) (c_exit (k_seqE (k_seqE (k_blkH (k_blk (k_seq (c_ops (s_cons (w_put (o_add rfl rfl (s_cons (w_put (o_mov rfl (s_nil (k_seq (hX44 _ _ _ ⟨rfl, rfl, rfl, rfl, trivial⟩))))))))))))))))))))))))
theorem solve_CheckDiagram.l58_ok (Q : AHeap → Int → Prop) (Y44 : Tup [.ac, .ac, .int .i64, .int .i64] → AHeap → Prop) (X44 : Env → AHeap → Prop) (hX44 : ∀ s t H, solve_CheckDiagram.R44 s t → Y44 s H → X44 t H) {x1 : AC} {x6 : AC} {x55 : AC} {x56 : Int} {x57 : Int} {x65 : AC} {x66 : Int} {x67 : Int} {H : AHeap} {t : Env} (h1 : t 1 = (.one x1)) (h6 : t 6 = (.one x6)) (h55 : t 55 = (.one x55)) (h56 : t 56 = (.one (.int .i64 x56))) (h57 : t 57 = (.one (.int .i64 x57))) (h65 : t 65 = (.one x65)) (h66 : t 66 = (.one (.int .i64 x66))) (h67 : t 67 = (.one (.int .i64 x67))) : solve_CheckDiagram.l58 Q Y44 x1 x6 x55 x56 x57 x65 x66 x67 H → wpC Try.prog (.loop solve_CheckDiagram.c59) t H (kBlk 5 (kBlk 4 (solve_CheckDiagram.k52 Q X44))) :=
  m_loop solve_CheckDiagram.R58 ⟨h1, h6, h55, h56, h57, h65, h66, h67, trivial⟩ fun X Y hX s t H hR hB => by
    have g := solve_CheckDiagram.b58_ok Q Y44 X44 hX44 Y X hX t hB
    rw [upd_self hR.1] at g
    rw [upd_self hR.2.1] at g
    rw [upd_self hR.2.2.1] at g
    rw [upd_self hR.2.2.2.1] at g
    rw [upd_self hR.2.2.2.2.1] at g
    rw [upd_self hR.2.2.2.2.2.1] at g
    rw [upd_self hR.2.2.2.2.2.2.1] at g
    rw [upd_self hR.2.2.2.2.2.2.2.1] at g
    exact g
theorem solve_CheckDiagram.b44_ok (Q : AHeap → Int → Prop) (Y44 : Tup [.ac, .ac, .int .i64, .int .i64] → AHeap → Prop) (X44 : Env → AHeap → Prop) (hX44 : ∀ s t H, solve_CheckDiagram.R44 s t → Y44 s H → X44 t H) {x1 : AC} {x55 : AC} {x56 : Int} {x57 : Int} {H : AHeap} (j : Env) : solve_CheckDiagram.b44 Q Y44 x1 x55 x56 x57 H → wpC Try.prog solve_CheckDiagram.c45 (upd (upd (upd (upd j 1 (.one x1)) 55 (.one x55)) 56 (.one (.int .i64 x56))) 57 (.one (.int .i64 x57))) H (kSeq X44 (kBlk 3 (solve_CheckDiagram.k41 Q))) := c_seq (c_ops (s_cons (w_put (o_lt rfl rfl (s_nil (k_seq (c_seq (c_if rfl (c_skip (k_seq (c_seq (c_blk (c_seq (c_ops (s_cons (w_put (o_ia rfl rfl (fun q_1 => s_cons (w_put (o_ld3 rfl (fun (v_2 : Int) (v_3 : Int) (v_4 : Int) => s_cons (w_put (o_new (fun p_5 H_6 => s_cons (w_run (o_st rfl rfl rfl (fun H_7 => s_nil (k_seq (c_seq (c_ops (s_cons (w_put (o_fa rfl (fun q_8 => s_cons (w_put (o_ld1 rfl (fun (v_9 : Int) => s_cons (w_put (o_fa rfl (fun q_10 => s_cons (w_put (o_ld1 rfl (fun (v_11 : Int) => s_cons (w_put (o_blds rfl (fun p_12 H_13 => s_cons (w_put (o_lens rfl (fun n_14 => s_cons (w_put (o_mov rfl (s_nil (k_seq (c_blk (solve_CheckDiagram.l58_ok Q Y44 X44 hX44 rfl rfl rfl rfl rfl rfl rfl rfl))))))))))))))))))))))))))))))))))))))))))))))) (c_exit (k_seqE (k_seqE (k_blkH (k_seq (c_seq (c_seq (c_ops (s_cons (w_put (o_fa rfl (fun q_15 => s_cons (w_put (o_ld1 rfl (fun (v_16 : Int) => s_cons (w_put (o_lt rfl rfl (s_cons (w_put (o_mov rfl (s_cons (w_gputF rfl (s_cons (w_gputN rfl (s_cons (w_gputN rfl (s_cons (w_gputN rfl (s_cons (w_gputN rfl (s_cons (w_gputN rfl (s_cons (w_put (o_pickT rfl rfl (s_nil (k_seq (solve_CheckDiagram.p81_ok Q rfl rfl)))))))))))))))) (o_fa rfl (fun q_17 => s_cons (w_gputY rfl (o_ld1 rfl (fun (v_18 : Int) => s_cons (w_gputY rfl (o_fa rfl (fun q_19 => s_cons (w_gputY rfl (o_ld1 rfl (fun (v_20 : AC) => s_cons (w_gputY rfl (o_lens rfl (fun n_21 => s_cons (w_gputY rfl (o_ge rfl rfl (s_cons (w_put (o_pickF rfl rfl (s_nil (k_seq (solve_CheckDiagram.p81_ok Q rfl rfl))))))))))))))))))))))))))))))))))))))))))))))))))))
theorem solve_CheckDiagram.l44_ok (Q : AHeap → Int → Prop) {x1 : AC} {x55 : AC} {x56 : Int} {x57 : Int} {H : AHeap} {t : Env} (h1 : t 1 = (.one x1)) (h55 : t 55 = (.one x55)) (h56 : t 56 = (.one (.int .i64 x56))) (h57 : t 57 = (.one (.int .i64 x57))) : solve_CheckDiagram.l44 Q x1 x55 x56 x57 H → wpC Try.prog (.loop solve_CheckDiagram.c45) t H (kBlk 3 (solve_CheckDiagram.k41 Q)) :=
  m_loop solve_CheckDiagram.R44 ⟨h1, h55, h56, h57, trivial⟩ fun X Y hX s t H hR hB => by
    have g := solve_CheckDiagram.b44_ok Q Y X hX t hB
    rw [upd_self hR.1] at g
    rw [upd_self hR.2.1] at g
    rw [upd_self hR.2.2.1] at g
    rw [upd_self hR.2.2.2.1] at g
    exact g
theorem solve_CheckDiagram.p34_okE (Q : AHeap → Int → Prop) (Y14 : Tup [.ac, .ac, .int .i64, .int .i64] → AHeap → Prop) (X14 : Env → AHeap → Prop) (hX14 : ∀ s t H, solve_CheckDiagram.R14 s t → Y14 s H → X14 t H) {x1 : AC} {x16 : AC} {x17 : Int} {x18 : Int} {x32 : Bool} {H : AHeap} (j : Env) : solve_CheckDiagram.p34 Q Y14 x1 x16 x17 x18 x32 H → wpC Try.prog solve_CheckDiagram.c34 (upd (upd (upd (upd (upd j 1 (.one x1)) 16 (.one x16)) 17 (.one (.int .i64 x17))) 18 (.one (.int .i64 x18))) 32 (.one (.bool x32))) H (kBlk 2 (kBlk 1 (solve_CheckDiagram.k22 Q X14))) := c_if rfl (c_seq (c_ops (s_cons (w_put (o_mov rfl (s_nil (k_seq (c_ret (k_blkR (k_blkR (k_seqR (k_seqR (k_blkR (k_seqR (k_topR (r_one rfl (r_nil (fun h => ⟨((2 : Int), ()), rfl, h⟩)))))))))))))))))) (c_skip (k_blk (k_blk (k_seq (c_ops (s_cons (w_put (o_add rfl rfl (s_cons (w_put (o_mov rfl (s_nil (k_seq (hX14 _ _ _ ⟨rfl, rfl, rfl, rfl, trivial⟩))))))))))))))
theorem solve_CheckDiagram.p34_ok (Q : AHeap → Int → Prop) (Y14 : Tup [.ac, .ac, .int .i64, .int .i64] → AHeap → Prop) (X14 : Env → AHeap → Prop) (hX14 : ∀ s t H, solve_CheckDiagram.R14 s t → Y14 s H → X14 t H) {x1 : AC} {x16 : AC} {x17 : Int} {x18 : Int} {x32 : Bool} {H : AHeap} {t : Env} (h1 : t 1 = (.one x1)) (h16 : t 16 = (.one x16)) (h17 : t 17 = (.one (.int .i64 x17))) (h18 : t 18 = (.one (.int .i64 x18))) (h32 : t 32 = (.one (.bool x32))) (h : solve_CheckDiagram.p34 Q Y14 x1 x16 x17 x18 x32 H) : wpC Try.prog solve_CheckDiagram.c34 t H (kBlk 2 (kBlk 1 (solve_CheckDiagram.k22 Q X14))) := by
  have g := solve_CheckDiagram.p34_okE Q Y14 X14 hX14 t h
  rw [upd_self h1] at g
  rw [upd_self h16] at g
  rw [upd_self h17] at g
  rw [upd_self h18] at g
  rw [upd_self h32] at g
  exact g
theorem solve_CheckDiagram.p28_okE (Q : AHeap → Int → Prop) (Y14 : Tup [.ac, .ac, .int .i64, .int .i64] → AHeap → Prop) (X14 : Env → AHeap → Prop) (hX14 : ∀ s t H, solve_CheckDiagram.R14 s t → Y14 s H → X14 t H) {x1 : AC} {x3 : Int} {x4 : AC} {x16 : AC} {x17 : Int} {x18 : Int} {x23 : Bool} {H : AHeap} (j : Env) : solve_CheckDiagram.p28 Q Y14 x1 x3 x4 x16 x17 x18 x23 H → wpC Try.prog solve_CheckDiagram.c28 (upd (upd (upd (upd (upd (upd (upd j 1 (.one x1)) 3 (.one (.int .i64 x3))) 4 (.one x4)) 16 (.one x16)) 17 (.one (.int .i64 x17))) 18 (.one (.int .i64 x18))) 23 (.one (.bool x23))) H (kBlk 2 (kBlk 1 (solve_CheckDiagram.k22 Q X14))) := c_if rfl (c_seq (c_ops (s_cons (w_put (o_mov rfl (s_nil (k_seq (c_ret (k_blkR (k_blkR (k_seqR (k_seqR (k_blkR (k_seqR (k_topR (r_one rfl (r_nil (fun h => ⟨((1 : Int), ()), rfl, h⟩)))))))))))))))))) (c_seq (c_ops (s_cons (w_put (o_fa rfl (fun q_1 => s_cons (w_put (o_ld1 rfl (fun (v_2 : Int) => s_cons (w_put (o_lt rfl rfl (s_cons (w_put (o_mov rfl (s_cons (w_gputF rfl (s_cons (w_gputN rfl (s_cons (w_gputN rfl (s_cons (w_gputN rfl (s_cons (w_put (o_pickT rfl rfl (s_cons (w_put (o_mov rfl (s_cons (w_gputN rfl (s_cons (w_gputN rfl (s_cons (w_gputN rfl (s_cons (w_put (o_pickT rfl rfl (s_cons (w_put (o_mov rfl (s_cons (w_gputN rfl (s_cons (w_gputN rfl (s_cons (w_gputN rfl (s_cons (w_gputN rfl (s_cons (w_put (o_pickT rfl rfl (s_cons (w_put (o_mov rfl (s_nil (k_seq (solve_CheckDiagram.p34_ok Q Y14 X14 hX14 rfl rfl rfl rfl rfl))))))))))))))))))))))))))))))))))))))))) (o_fa rfl (fun q_3 => s_cons (w_gputY rfl (o_ld1 rfl (fun (v_4 : Int) => s_cons (w_gputY rfl (o_mov rfl (s_cons (w_gputY rfl (o_ge rfl rfl (s_cons (w_put (o_pickF rfl rfl (s_cons (w_put (o_mov rfl (s_cons (w_gputF rfl (s_cons (w_gputN rfl (s_cons (w_gputN rfl (s_cons (w_put (o_pickT rfl rfl (s_cons (w_put (o_mov rfl (s_cons (w_gputN rfl (s_cons (w_gputN rfl (s_cons (w_gputN rfl (s_cons (w_gputN rfl (s_cons (w_put (o_pickT rfl rfl (s_cons (w_put (o_mov rfl (s_nil (k_seq (solve_CheckDiagram.p34_ok Q Y14 X14 hX14 rfl rfl rfl rfl rfl))))))))))))))))))))))))))) (o_fa rfl (fun q_5 => s_cons (w_gputY rfl (o_ld1 rfl (fun (v_6 : Int) => s_cons (w_gputY rfl (o_lt rfl rfl (s_cons (w_put (o_pickF rfl rfl (s_cons (w_put (o_mov rfl (s_cons (w_gputF rfl (s_cons (w_gputN rfl (s_cons (w_gputN rfl (s_cons (w_gputN rfl (s_cons (w_put (o_pickT rfl rfl (s_cons (w_put (o_mov rfl (s_nil (k_seq (solve_CheckDiagram.p34_ok Q Y14 X14 hX14 rfl rfl rfl rfl rfl))))))))))))))) (o_fa rfl (fun q_7 => s_cons (w_gputY rfl (o_ld1 rfl (fun (v_8 : Int) => s_cons (w_gputY rfl (o_mov rfl (s_cons (w_gputY rfl (o_ge rfl rfl (s_cons (w_put (o_pickF rfl rfl (s_cons (w_put (o_mov rfl (s_nil (k_seq (solve_CheckDiagram.p34_ok Q Y14 X14 hX14 rfl rfl rfl rfl rfl))))))))))))))))))))))))))))))))))))))))))))))))))))))))))))))))))))
theorem solve_CheckDiagram.p28_ok (Q : AHeap → Int → Prop) (Y14 : Tup [.ac, .ac, .int .i64, .int .i64] → AHeap → Prop) (X14 : Env → AHeap → Prop) (hX14 : ∀ s t H, solve_CheckDiagram.R14 s t → Y14 s H → X14 t H) {x1 : AC} {x3 : Int} {x4 : AC} {x16 : AC} {x17 : Int} {x18 : Int} {x23 : Bool} {H : AHeap} {t : Env} (h1 : t 1 = (.one x1)) (h3 : t 3 = (.one (.int .i64 x3))) (h4 : t 4 = (.one x4)) (h16 : t 16 = (.one x16)) (h17 : t 17 = (.one (.int .i64 x17))) (h18 : t 18 = (.one (.int .i64 x18))) (h23 : t 23 = (.one (.bool x23))) (h : solve_CheckDiagram.p28 Q Y14 x1 x3 x4 x16 x17 x18 x23 H) : wpC Try.prog solve_CheckDiagram.c28 t H (kBlk 2 (kBlk 1 (solve_CheckDiagram.k22 Q X14))) := by
  have g := solve_CheckDiagram.p28_okE Q Y14 X14 hX14 t h
  rw [upd_self h1] at g
  rw [upd_self h3] at g
  rw [upd_self h4] at g
  rw [upd_self h16] at g
  rw [upd_self h17] at g
  rw [upd_self h18] at g
  rw [upd_self h23] at g
  exact g
theorem solve_CheckDiagram.b14_ok (Q : AHeap → Int → Prop) (Y14 : Tup [.ac, .ac, .int .i64, .int .i64] → AHeap → Prop) (X14 : Env → AHeap → Prop) (hX14 : ∀ s t H, solve_CheckDiagram.R14 s t → Y14 s H → X14 t H) {x1 : AC} {x16 : AC} {x17 : Int} {x18 : Int} {H : AHeap} (j : Env) : solve_CheckDiagram.b14 Q Y14 x1 x16 x17 x18 H → wpC Try.prog solve_CheckDiagram.c15 (upd (upd (upd (upd j 1 (.one x1)) 16 (.one x16)) 17 (.one (.int .i64 x17))) 18 (.one (.int .i64 x18))) H (kSeq X14 (kBlk 0 (solve_CheckDiagram.k11 Q))) := c_seq (c_ops (s_cons (w_put (o_lt rfl rfl (s_nil (k_seq (c_seq (c_if rfl (c_skip (k_seq (c_seq (c_blk (c_seq (c_ops (s_cons (w_put (o_mov rfl (s_cons (w_put (o_ia rfl rfl (fun q_1 => s_cons (w_put (o_ld3 rfl (fun (v_2 : Int) (v_3 : Int) (v_4 : Int) => s_cons (w_put (o_new (fun p_5 H_6 => s_cons (w_put (o_mov rfl (s_cons (w_run (o_st rfl rfl rfl (fun H_7 => s_nil (k_seq (c_blk (c_seq (c_ops (s_cons (w_put (o_fa rfl (fun q_8 => s_cons (w_put (o_ld1 rfl (fun (v_9 : Int) => s_cons (w_put (o_lt rfl rfl (s_cons (w_put (o_mov rfl (s_cons (w_gputF rfl (s_cons (w_gputN rfl (s_cons (w_gputN rfl (s_cons (w_put (o_pickT rfl rfl (s_cons (w_put (o_mov rfl (s_nil (k_seq (solve_CheckDiagram.p28_ok Q Y14 X14 hX14 rfl rfl rfl rfl rfl rfl rfl))))))))))))) (o_fa rfl (fun q_10 => s_cons (w_gputY rfl (o_ld1 rfl (fun (v_11 : Int) => s_cons (w_gputY rfl (o_ge rfl rfl (s_cons (w_put (o_pickF rfl rfl (s_cons (w_put (o_mov rfl (s_nil (k_seq (solve_CheckDiagram.p28_ok Q Y14 X14 hX14 rfl rfl rfl rfl rfl rfl rfl))))))))))))))))))))))))))))))))))))))))))))))))))))))))))) (c_exit (k_seqE (k_seqE (k_blkH (k_seq (c_seq (c_seq (c_ops (s_cons (w_put (o_fa rfl (fun q_12 => s_cons (w_put (o_ld1 rfl (fun (v_13 : AC) => s_cons (w_put (o_lens rfl (fun n_14 => s_cons (w_put (o_mov rfl (s_nil (k_seq (c_blk (solve_CheckDiagram.l44_ok Q rfl rfl rfl rfl))))))))))))))))))))))))))))))))
theorem solve_CheckDiagram.l14_ok (Q : AHeap → Int → Prop) {x1 : AC} {x16 : AC} {x17 : Int} {x18 : Int} {H : AHeap} {t : Env} (h1 : t 1 = (.one x1)) (h16 : t 16 = (.one x16)) (h17 : t 17 = (.one (.int .i64 x17))) (h18 : t 18 = (.one (.int .i64 x18))) : solve_CheckDiagram.l14 Q x1 x16 x17 x18 H → wpC Try.prog (.loop solve_CheckDiagram.c15) t H (kBlk 0 (solve_CheckDiagram.k11 Q)) :=
  m_loop solve_CheckDiagram.R14 ⟨h1, h16, h17, h18, trivial⟩ fun X Y hX s t H hR hB => by
    have g := solve_CheckDiagram.b14_ok Q Y X hX t hB
    rw [upd_self hR.1] at g
    rw [upd_self hR.2.1] at g
    rw [upd_self hR.2.2.1] at g
    rw [upd_self hR.2.2.2.1] at g
    exact g
theorem solve_CheckDiagram.ok {a0_0 : AC} {a0_1 : Int} {H : AHeap} (Q : AHeap → Int → Prop) : solve_CheckDiagram.W a0_0 a0_1 H Q → wpF Try.prog solve_CheckDiagram.c [.tm 2] (envOf [(.agg [a0_0, (.int .i64 a0_1)])]) H (solve_CheckDiagram.KQ Q) := c_seq (c_ops (s_cons (w_put (o_box rfl (fun p_1 H_2 => s_cons (w_put (o_mov rfl (s_nil (k_seq (c_seq (c_seq (c_ops (s_cons (w_put (o_fa rfl (fun q_3 => s_cons (w_put (o_ld1 rfl (fun (v_4 : AC) => s_cons (w_put (o_lens rfl (fun n_5 => s_cons (w_put (o_gt rfl rfl (s_nil (k_seq (c_if rfl (c_seq (c_ops (s_cons (w_put (o_mov rfl (s_nil (k_seq (c_ret (k_seqR (k_topR (r_one rfl (r_nil (fun h => ⟨((3 : Int), ()), rfl, h⟩))))))))))))) (c_skip (k_seq (c_seq (c_seq (c_ops (s_cons (w_put (o_fa rfl (fun q_6 => s_cons (w_put (o_ld1 rfl (fun (v_7 : AC) => s_cons (w_put (o_lens rfl (fun n_8 => s_cons (w_put (o_mov rfl (s_nil (k_seq (c_blk (solve_CheckDiagram.l14_ok Q rfl rfl rfl rfl))))))))))))))))))))))))))))))))))))))))))))))))
theorem solve_CheckDiagram.slimOk : slimOk [(17, [])] (Try.f31.body.getD .skip) = true := by kernel_rfl
theorem solve_CheckDiagram.resC : resC Try.prog aggs Try.f31.ntmps (slim [(17, [])] (Try.f31.body.getD .skip)) = some solve_CheckDiagram.c := by kernel_rfl
theorem solve_CheckDiagram.resR : resR Try.prog Try.f31.results.toList = some [.tm 2] := by kernel_rfl
theorem solve_CheckDiagram.bodyEq : Try.f31.body = some (Try.f31.body.getD .skip) := by kernel_rfl
theorem solve_CheckDiagram.run {a0_0 : AC} {a0_1 : Int} {H : AHeap} {Q : AHeap → Int → Prop} (h : solve_CheckDiagram.W a0_0 a0_1 H Q) : Fn.solve_CheckDiagram a0_0 a0_1 H Q := by
  unfold Fn.solve_CheckDiagram RunT
  exact run_of aggs_ok [(17, [])] Try.func31 solve_CheckDiagram.bodyEq solve_CheckDiagram.slimOk solve_CheckDiagram.resC solve_CheckDiagram.resR (Nat.le_of_ble_eq_true (by kernel_rfl)) (solve_CheckDiagram.ok Q h)

end Go.Proofs.Ytanaaabejeeakaa
end
section
/- Diagrams asx they are written: rows of nodes; which of them are those of a tree. -/
namespace Go.AI
open DT

abbrev NRow := Int × Int × Int
/-- The tree that a number names. -/
def atR (ts : List DT) (r : Int) : DT := if r = -1 then leaf false else if r = -2 then leaf true else ts[r.toNat]?.getD (leaf false)
/-- The trees of a list of rows. -/
def bldStep (ts : List DT) (p : NRow) : List DT := ts ++ [DT.mk p.1.toNat (atR ts p.2.1) (atR ts p.2.2)]
def bld (l : List NRow) : List DT := l.foldl bldStep []
theorem bld_snoc (l : List NRow) (p : NRow) : bld (l ++ [p]) = bldStep (bld l) p := by simp [bld]
theorem bld_len' : ∀ (l : List NRow) (ts : List DT), (l.foldl bldStep ts).length = ts.length + l.length
  | [], ts => by simp
  | p :: l, ts => by rw [List.foldl_cons, bld_len' l, bldStep]; simp; omega
theorem bld_len (l : List NRow) : (bld l).length = l.length := by rw [bld, bld_len']; simp
theorem bld_pre' : ∀ (l : List NRow) (ts : List DT), ts <+: l.foldl bldStep ts
  | [], ts => List.prefix_rfl
  | p :: l, ts => by rw [List.foldl_cons]; exact (List.prefix_append _ _).trans (bld_pre' l _)
theorem bld_take_pre (l : List NRow) (i : Nat) : bld (l.take i) <+: bld l := by
  have e : bld l = (l.drop i).foldl bldStep (bld (l.take i)) := by
    unfold bld
    rw [← List.foldl_append, List.take_append_drop]
  rw [e]
  exact bld_pre' _ _
theorem bld_take_succ {l : List NRow} {i : Nat} {p : NRow} (h : l[i]? = some p) : bld (l.take (i + 1)) = bldStep (bld (l.take i)) p := by
  rw [List.take_add_one, h]
  exact bld_snoc _ _
theorem atR_mono {ts ts' : List DT} (hp : ts <+: ts') {r : Int} (h0 : -2 ≤ r) (h : r < ts.length) : atR ts' r = atR ts r := by
  unfold atR
  split
  · rfl
  split
  · rfl
  obtain ⟨s, rfl⟩ := hp
  rw [List.getElem?_append_left (by omega)]
theorem atR_ref {st : List DT} {x : DT} (h : In st x) : atR st (ref st x) = x := by
  unfold atR
  split
  · next e => exact (ref_false.1 e).symm
  split
  · next e => exact (ref_true.1 e).symm
  · next h1 h2 =>
    have := (ref_lt h).1
    rw [ref_get h (by omega)]; rfl

/-- The first fault of the numbers. -/
def scan : Nat → List NRow → Int
  | _, [] => 0
  | i, p :: l => if p.1 < 0 ∨ 16 ≤ p.1 then 1 else if p.2.1 < -2 ∨ (i : Int) ≤ p.2.1 ∨ p.2.2 < -2 ∨ (i : Int) ≤ p.2.2 then 2 else scan (i + 1) l
def NumOk (i : Nat) (p : NRow) : Prop := 0 ≤ p.1 ∧ p.1 < 16 ∧ -2 ≤ p.2.1 ∧ p.2.1 < i ∧ -2 ≤ p.2.2 ∧ p.2.2 < i
theorem scan_ok : ∀ {l : List NRow} {i : Nat}, scan i l = 0 ↔ ∀ (j : Nat) (p : NRow), l[j]? = some p → NumOk (i + j) p
  | [], i => by simp [scan]
  | p :: l, i => by
    simp only [scan]
    constructor
    · intro h j q hq
      split at h
      · cases h
      split at h
      · cases h
      next h1 h2 =>
        cases j with
        | zero => simp only [List.getElem?_cons_zero, Option.some.injEq] at hq; subst hq; simp only [Nat.add_zero]; unfold NumOk; omega
        | succ j =>
          simp only [List.getElem?_cons_succ] at hq
          have := scan_ok.1 h j q hq
          rwa [show i + 1 + j = i + (j + 1) from by omega] at this
    · intro h
      have h0 := h 0 p rfl
      simp only [Nat.add_zero] at h0
      unfold NumOk at h0
      rw [if_neg (by omega), if_neg (by omega)]
      refine scan_ok.2 fun j q hq => ?_
      have := h (j + 1) q (by simpa using hq)
      rwa [show i + 1 + j = i + (j + 1) from by omega]
theorem scan_drop {l : List NRow} {i : Nat} {p : NRow} (h : l[i]? = some p) : scan i (l.drop i) = if p.1 < 0 ∨ 16 ≤ p.1 then 1 else if p.2.1 < -2 ∨ (i : Int) ≤ p.2.1 ∨ p.2.2 < -2 ∨ (i : Int) ≤ p.2.2 then 2 else scan (i + 1) (l.drop (i + 1)) := by
  obtain ⟨hlt, e⟩ := List.getElem?_eq_some_iff.1 h
  rw [List.drop_eq_getElem_cons hlt, e]
  rfl

/-- Rows of which each stands above its parts. -/
def OrdOk (l : List NRow) (p : NRow) : Prop := (∀ q, 0 ≤ p.2.1 → l[p.2.1.toNat]? = some q → p.1 < q.1) ∧ ∀ q, 0 ≤ p.2.2 → l[p.2.2.toNat]? = some q → p.1 < q.1
def RowsOk (l : List NRow) : Prop := ∀ (i : Nat) (p : NRow), l[i]? = some p → NumOk i p ∧ OrdOk l p

theorem bld_at {l : List NRow} {i : Nat} {p : NRow} (hp : l[i]? = some p) (hn : NumOk i p) : (bld l)[i]? = some (DT.mk p.1.toNat (atR (bld l) p.2.1) (atR (bld l) p.2.2)) := by
  have hlt := (List.getElem?_eq_some_iff.1 hp).1
  have hlen : (bld (l.take i)).length = i := by rw [bld_len, List.length_take]; omega
  have e := bld_take_succ hp
  have hpre := bld_take_pre l (i + 1)
  rw [e] at hpre
  obtain ⟨s, hs⟩ := hpre
  have hpre0 := bld_take_pre l i
  unfold NumOk at hn
  rw [atR_mono hpre0 hn.2.2.1 (by rw [hlen]; omega), atR_mono hpre0 hn.2.2.2.2.1 (by rw [hlen]; omega), ← hs]
  unfold bldStep
  rw [List.getElem?_append_left (by simp; omega), List.getElem?_append_right (by omega), hlen]
  simp

/-- The trees of such rows are reduced and ordered. -/
theorem bld_ro {l : List NRow} (h : RowsOk l) : ∀ (n i : Nat) (p : NRow), i < n → l[i]? = some p → ∃ x, (bld l)[i]? = some x ∧ x.RO ∧ p.1.toNat ≤ x.top := by
  intro n
  induction n with
  | zero => intro i p hi; omega
  | succ n ih =>
    intro i p hi hp
    obtain ⟨hn, ho1, ho2⟩ := h i p hp
    have hlt := (List.getElem?_eq_some_iff.1 hp).1
    refine ⟨_, bld_at hp hn, ?_⟩
    have part : ∀ r : Int, -2 ≤ r → r < i → (∀ q, 0 ≤ r → l[r.toNat]? = some q → p.1 < q.1) → (atR (bld l) r).RO ∧ p.1.toNat < (atR (bld l) r).top := by
      intro r h1 h2 h3
      unfold NumOk at hn
      unfold atR
      split
      · exact ⟨trivial, by simp only [top]; omega⟩
      split
      · exact ⟨trivial, by simp only [top]; omega⟩
      · have hr : r.toNat < l.length := by omega
        obtain ⟨x, e1, e2, e3⟩ := ih r.toNat l[r.toNat] (by omega) (List.getElem?_eq_getElem hr)
        rw [e1]
        have := h3 l[r.toNat] (by omega) (List.getElem?_eq_getElem hr)
        have hq := (h _ _ (List.getElem?_eq_getElem hr)).1
        unfold NumOk at hq
        exact ⟨e2, by simp only [Option.getD_some]; omega⟩
    have hn' := hn
    unfold NumOk at hn'
    obtain ⟨a1, a2⟩ := part p.2.1 hn'.2.2.1 hn'.2.2.2.1 ho1
    obtain ⟨b1, b2⟩ := part p.2.2 hn'.2.2.2.2.1 hn'.2.2.2.2.2 ho2
    exact ⟨mk_RO (by omega) a2 b2 a1 b1, mk_top a2⟩
theorem atR_ro {l : List NRow} (h : RowsOk l) {r : Int} : (atR (bld l) r).RO := by
  unfold atR
  split
  · trivial
  split
  · trivial
  · cases e : (bld l)[r.toNat]? with
    | none => trivial
    | some x =>
      have hlt := (List.getElem?_eq_some_iff.1 e).1
      rw [bld_len] at hlt
      obtain ⟨y, e1, e2, _⟩ := bld_ro h _ r.toNat l[r.toNat] (Nat.lt_succ_self _) (List.getElem?_eq_getElem hlt)
      rw [e1] at e
      cases e
      exact e2

/-- A row of trees, each behind its parts. -/
def Seq (st : List DT) : Prop := Fin st ∧ ∀ (i v : Nat) (l h : DT), st[i]? = some (nd v l h) → In (st.take i) l ∧ In (st.take i) h
theorem Seq.nil : Seq [] := ⟨Fin.nil, fun i v l h e => by simp at e⟩
theorem Seq.snoc {st : List DT} {v : Nat} {l h : DT} (f : Seq st) (hn : nd v l h ∉ st) (hl : In st l) (hh : In st h) (hr : (nd v l h).RO) : Seq (st ++ [nd v l h]) := by
  refine ⟨f.1.snoc hn hl hh hr, fun i w a b e => ?_⟩
  by_cases hi : i < st.length
  · rw [List.getElem?_append_left hi] at e
    rw [List.take_append_of_le_length (by omega)]
    exact f.2 i w a b e
  · have hi' : i = st.length := by
      have := (List.getElem?_eq_some_iff.1 e).1
      simp at this; omega
    subst hi'
    rw [List.getElem?_append_right (Nat.le_refl _)] at e
    simp at e
    obtain ⟨rfl, rfl, rfl⟩ := e
    rw [List.take_append_of_le_length (Nat.le_refl _), List.take_length]
    exact ⟨hl, hh⟩
theorem ser_seq : ∀ (x : DT) (st : List DT), x.RO → Seq st → Seq (ser x st)
  | leaf _, st, _, f => f
  | nd v l h, st, hr, f => by
    simp only [ser]
    split
    · exact f
    · next hn =>
      have f1 := ser_seq l st hr.2.2.2.2.1 f
      have f2 := ser_seq h (ser l st) hr.2.2.2.2.2 f1
      exact f2.snoc (ser_new hn) ((ser_in l st).mono (ser_prefix h _)) (ser_in h _) hr

theorem in_take {st : List DT} {x : DT} (i : Nat) (h : In (st.take i) x) : In st x ∧ ref st x < i := by
  have hp : st.take i <+: st := List.take_prefix _ _
  refine ⟨h.mono hp, ?_⟩
  rw [ref_mono h hp]
  have := (ref_lt h).2
  rw [List.length_take] at this
  omega
/-- The rows of such trees are in order, and the trees of their rows are they. -/
theorem seq_rows {st : List DT} (f : Seq st) : RowsOk (st.map (row st)) := by
  intro i p hp
  rw [List.getElem?_map, Option.map_eq_some_iff] at hp
  obtain ⟨x, hx, rfl⟩ := hp
  obtain ⟨v, l, h, rfl, h1, h2, h3⟩ := f.1.parts x (List.mem_of_getElem? hx)
  obtain ⟨i1, i2⟩ := f.2 i v l h hx
  obtain ⟨_, r1⟩ := in_take i i1
  obtain ⟨_, r2⟩ := in_take i i2
  have b1 := (ref_lt h1).1
  have b2 := (ref_lt h2).1
  have hv := h3.1
  refine ⟨⟨?_, ?_, b1, r1, b2, r2⟩, ?_, ?_⟩
  · show (0 : Int) ≤ (v : Int); omega
  · show (v : Int) < 16; omega
  · intro q h0 hq
    have h0' : 0 ≤ ref st l := h0
    have hq' : (st.map (row st))[(ref st l).toNat]? = some q := hq
    rw [List.getElem?_map, ref_get h1 h0'] at hq'
    simp only [Option.map_some, Option.some.injEq] at hq'
    subst hq'
    show (v : Int) < _
    have ht := h3.2.2.1
    cases l with
    | leaf b => cases b <;> simp [ref] at h0'
    | nd w a b => simp only [top] at ht; show (v : Int) < (w : Int); omega
  · intro q h0 hq
    have h0' : 0 ≤ ref st h := h0
    have hq' : (st.map (row st))[(ref st h).toNat]? = some q := hq
    rw [List.getElem?_map, ref_get h2 h0'] at hq'
    simp only [Option.map_some, Option.some.injEq] at hq'
    subst hq'
    show (v : Int) < _
    have ht := h3.2.2.2.1
    cases h with
    | leaf b => cases b <;> simp [ref] at h0'
    | nd w a b => simp only [top] at ht; show (v : Int) < (w : Int); omega
theorem bld_rows {st : List DT} (f : Seq st) : bld (st.map (row st)) = st := by
  have key : ∀ n, n ≤ st.length → bld ((st.map (row st)).take n) = st.take n := by
    intro n
    induction n with
    | zero => intro _; rfl
    | succ n ih =>
      intro hn
      have hx : st[n]? = some st[n] := List.getElem?_eq_getElem (by omega)
      have hp : (st.map (row st))[n]? = some (row st st[n]) := by rw [List.getElem?_map, hx]; rfl
      rw [bld_take_succ hp, ih (by omega)]
      obtain ⟨y, hy⟩ : ∃ y, y = st[n] := ⟨_, rfl⟩
      rw [← hy] at hx ⊢
      obtain ⟨v, l, h, rfl, _, _, h3⟩ := f.1.parts y (List.mem_of_getElem? hx)
      obtain ⟨i1, i2⟩ := f.2 n v l h hx
      have hpre : st.take n <+: st := List.take_prefix _ _
      unfold bldStep
      simp only [row]
      rw [ref_mono i1 hpre, ref_mono i2 hpre, atR_ref i1, atR_ref i2, Int.toNat_natCast, List.take_add_one, hx, DT.mk, if_neg h3.2.1]
      rfl
  have := key st.length (Nat.le_refl _)
  rwa [List.take_of_length_le (by simp), List.take_length] at this

/-- The written form of a tree. -/
def CanonD (l : List NRow) (r : Int) : Prop := ∃ x : DT, x.RO ∧ l = (ser x []).map (row (ser x [])) ∧ r = ref (ser x []) x
theorem CanonD.of {l : List NRow} {r : Int} (h : CanonD l r) : RowsOk l ∧ -2 ≤ r ∧ r < l.length ∧ (atR (bld l) r).RO ∧ l = (ser (atR (bld l) r) []).map (row (ser (atR (bld l) r) [])) ∧ r = ref (ser (atR (bld l) r) []) (atR (bld l) r) := by
  obtain ⟨x, h1, rfl, rfl⟩ := h
  have f := ser_seq x [] h1 Seq.nil
  have hin := ser_in x []
  have e : atR (bld ((ser x []).map (row (ser x [])))) (ref (ser x []) x) = x := by rw [bld_rows f, atR_ref hin]
  rw [e]
  exact ⟨seq_rows f, (ref_lt hin).1, by rw [List.length_map]; exact (ref_lt hin).2, h1, rfl, rfl⟩
theorem CanonD.mk {l : List NRow} {r : Int} (h : RowsOk l) (h1 : l = (ser (atR (bld l) r) []).map (row (ser (atR (bld l) r) []))) (h2 : r = ref (ser (atR (bld l) r) []) (atR (bld l) r)) : CanonD l r :=
  ⟨_, atR_ro h, h1, h2⟩

open Classical in
/-- The fault of a diagram. -/
noncomputable def dFault (l : List NRow) (r : Int) : Int := if 2000 < l.length then 3 else if scan 0 l ≠ 0 then scan 0 l else if CanonD l r then 0 else 2
end Go.AI
end
section
/- A diagram's nodes are made in a manager. -/
namespace Go.Proofs.Ytanaaabejeeakaa
open Go.AI Go.AI.DT

theorem lt84 : 84 < Try.prog.funcs.size := (Array.getElem?_eq_some_iff.1 Try.func84).1

/-- What was there at H0 is asx it was. -/
def Old (H0 H : AHeap) : Prop := H0.size ≤ H.size ∧ ∀ b, b < H0.size → H.get b = H0.get b
theorem Old.refl (H : AHeap) : Old H H := ⟨Nat.le_refl _, fun _ _ => rfl⟩
theorem Old.keep {S : Nat → Prop} {H0 H H' : AHeap} (h : Old H0 H) (k : Keep S H H') (hS : ∀ b, S b → H0.size ≤ b) : Old H0 H' :=
  ⟨Nat.le_trans h.1 k.size, fun b hb => (k.get b (Nat.lt_of_lt_of_le hb h.1) fun e => by have := hS b e; omega).trans (h.2 b hb)⟩
theorem Old.kp {H0 H H' : AHeap} (h : Old H0 H) (k : Kp H H') : Old H0 H' := h.keep k fun _ h => h.elim
theorem Kp.old {H H' : AHeap} (k : Kp H H') : Old H H' := (Old.refl H).kp k
theorem _root_.Go.AI.SlR.old {H0 H : AHeap} {s : AC} {sz : Nat} {rows : List (List AC)} (h : SlR H0 s sz rows) (o : Old H0 H) : SlR H s sz rows := by
  obtain ⟨a, z, cap, e, hr⟩ := h.ex
  refine ⟨a, z, cap, e, fun i r hi => ?_⟩
  obtain ⟨hz, b, o', e1, hld⟩ := hr i r hi
  refine ⟨hz, b, o', e1, ?_⟩
  unfold AHeap.load at hld ⊢
  simp only at hld ⊢
  cases hg : H0.get b with
  | none => rw [hg] at hld; cases hld
  | some x => rw [hg] at hld; rw [o.2 b (AHeap.get_lt hg), hg]; exact hld

theorem add1_c {pb cb : Nat} {cs : List AC} {H : AHeap} {r q : Int} {n : Nat} (hp : Own H pb [.sl (some (cb, 0)) 1 n (some n)]) (hc : Own H cb cs) (hn : cs.length = n) (h : if r < 0 then q = r else cs[r.toNat]? = some (.int .i64 q)) :
    Fn.solve_manager_add_1 r (.ptr (some (pb, 0))) H fun H' v => H' = H ∧ v = q := by
  refine solve_manager_add_1.run ?_
  unfold solve_manager_add_1.W
  refine CondB.dec (fun h0 => ⟨rfl, ?_⟩) fun h0 => ?_
  · rw [if_pos h0] at h; exact h.symm
  · rw [if_neg h0] at h
    have hlt := (List.getElem?_eq_some_iff.1 h).1
    refine Ld.oc hp rfl (IA.mk (by omega) (by omega) (Ld.oi hc ?_ ⟨rfl, rfl⟩))
    rw [Nat.zero_add, Nat.mul_one]; exact h

/-- What the cells of the nodes made so far hold. -/
def Made (ts : List DT) (l : List NRow) (i : Nat) (cs : List AC) : Prop := ∀ j, j < i → ∀ t, (bld l)[j]? = some t → In ts t ∧ cs[j]? = some (.int .i64 (ref ts t))
theorem Made.look {ts : List DT} {l : List NRow} {i : Nat} {cs : List AC} (h : Made ts l i cs) {r : Int} (h2 : -2 ≤ r) (hi : r < i) (hl : i ≤ l.length) : In ts (atR (bld l) r) ∧ if r < 0 then ref ts (atR (bld l) r) = r else cs[r.toNat]? = some (.int .i64 (ref ts (atR (bld l) r))) := by
  unfold atR
  by_cases h1 : r = -1
  · subst h1
    rw [if_pos rfl, if_pos (by omega)]
    exact ⟨.inl ⟨false, rfl⟩, rfl⟩
  rw [if_neg h1]
  by_cases h3 : r = -2
  · subst h3
    rw [if_pos rfl, if_pos (by omega)]
    exact ⟨.inl ⟨true, rfl⟩, rfl⟩
  rw [if_neg h3, if_neg (by omega)]
  have hlt : r.toNat < (bld l).length := by rw [bld_len]; omega
  rw [List.getElem?_eq_getElem hlt, Option.getD_some]
  exact h r.toNat (by omega) _ (List.getElem?_eq_getElem hlt)
theorem Made.mono {ts ts' : List DT} {l : List NRow} {i : Nat} {cs : List AC} (h : Made ts l i cs) (hp : ts <+: ts') : Made ts' l i cs := fun j hj t ht => by
  obtain ⟨h1, h2⟩ := h j hj t ht
  exact ⟨h1.mono hp, by rw [ref_mono h1 hp]; exact h2⟩

theorem add_c {m : AC} {F : Nat → Prop} {ts : List DT} {s : AC} {l : List NRow} {r : Int} {H0 H : AHeap} (hs : SlR H0 s 3 (nodeRows l)) (ho : Old H0 H) (hm : Mgr H m F ts) (hF : ∀ x, F x → H0.size ≤ x)
    (hok : RowsOk l) (hr1 : -2 ≤ r) (hr2 : r < l.length) (hlen : l.length ≤ 2000) (hsz : ts.length + 2001 ≤ 4294967296) :
    Fn.solve_manager_add m s r H fun H' q => ∃ F' ts', After H m F ts 2000 H' F' ts' ∧ In ts' (atR (bld l) r) ∧ q = ref ts' (atR (bld l) r) := by
  refine solve_manager_add.run ?_
  unfold solve_manager_add.W
  refine New.own fun b1 H1 hb1 hs1 o1 k1 => FA.mk (Ld.oc o1 rfl (LenS.of (hs.old (ho.kp k1)) ?_))
  rw [nodeRows_len]
  refine MkS.own (n := l.length) (by omega) (by omega) fun cb H2 hcb hs2 oc k2 => NewSto.own rfl fun pb H3 hpb hs3 op k3 => Fnc.mk rfl rfl ?_
  have o13 := (o1.kp k2).kp k3
  have oc3 := oc.kp k3
  refine FA.mk (Ld.oc o13 rfl (LenS.of (hs.old (((ho.kp k1).kp k2).kp k3)) ?_))
  rw [nodeRows_len]
  have kk := (k1.trans k2).trans k3
  have hz := ho.1
  unfold solve_manager_add.l10
  refine LoopT.rule (fun mm s0 H4 => ∃ (i : Nat) (F4 : Nat → Prop) (ts4 : List DT) (cs : List AC), i ≤ l.length ∧ mm = l.length - i ∧ s0 = (m, .ptr (some (b1, 0)), .ptr (some (pb, 0)), .fn 84 [] [(pb, 0)], s, (l.length : Int), (i : Int), ()) ∧
    After H m F ts i H4 F4 ts4 ∧ Own H4 b1 [s, .int .i64 r] ∧ Own H4 pb [.sl (some (cb, 0)) 1 l.length (some l.length)] ∧ Own H4 cb cs ∧ cs.length = l.length ∧ Made ts4 l i cs ∧ (∀ x, F4 x → F x ∨ H3.size ≤ x) ∧ H3.size ≤ H4.size) l.length
    ⟨0, F, ts, _, by omega, by omega, rfl, ⟨hm.kp kk, List.prefix_rfl, by omega, kk.mono fun _ _ h => h.elim, fun x h => .inl h⟩, o13, op, oc3, by rw [List.length_replicate], fun j hj => by omega, fun x h => .inl h, Nat.le_refl _⟩ ?_
  rintro mm s0 H4 back ⟨i, F4, ts4, cs, hi, rfl, rfl, af, o14, op4, oc4, hcl, hmade, hF4, hz4⟩ hback
  simp only [solve_manager_add.b10]
  have hold : Old H0 H4 := ho.keep af.keep hF
  have hs4 := hs.old hold
  refine CondB.dec (fun hlt => ?_) fun hge => ?_
  · have hi' : i < l.length := by omega
    obtain ⟨p, hp⟩ : ∃ b, l[i]? = some b := ⟨_, List.getElem?_eq_getElem hi'⟩
    obtain ⟨hnum, hord⟩ := hok i p hp
    have hnum' := hnum
    unfold NumOk at hnum'
    obtain ⟨n1, n2, n3, n4, n5, n6⟩ := hnum'
    refine IA.of hs4 (by omega) (by rw [Int.toNat_natCast]; exact nodeRow_at hp) fun b o hld => Ld.a3 hld p.1 p.2.1 p.2.2 rfl rfl ?_
    refine NewSto.own rfl fun nb H5 hnb hs5 on k5 => Ld.oc (op4.kp k5) rfl (FA.mk (Ld.oi on rfl (FA.mk (Ld.oi on rfl ?_))))
    have af5 : After H m F ts i H5 F4 ts4 := ⟨af.mgr.kp k5, af.pre, af.len, Keep.trans' af.keep k5, af.fresh⟩
    obtain ⟨in1, e1⟩ := hmade.look n3 n4 hi
    obtain ⟨in2, e2⟩ := hmade.look n5 n6 hi
    refine CVT.imp ?_ (CVT.mk lt84 (add1_c (op4.kp k5) (oc4.kp k5) hcl e1))
    rintro H6 q ⟨he, rfl⟩
    obtain rfl : H5 = H6 := he.symm
    refine FA.mk (Ld.oi on rfl (CVT.imp ?_ (CVT.mk lt84 (add1_c (op4.kp k5) (oc4.kp k5) hcl e2))))
    rintro H6 q ⟨he, rfl⟩
    obtain rfl : H5 = H6 := he.symm
    have hv : ∃ v : Nat, p.1 = (v : Int) ∧ v < 16 ∧ p.1.toNat = v := ⟨p.1.toNat, by omega, by omega, rfl⟩
    obtain ⟨v, hv1, hv2, hv3⟩ := hv
    have top : ∀ r : Int, -2 ≤ r → r < i → (∀ q, 0 ≤ r → l[r.toNat]? = some q → p.1 < q.1) → v < (atR (bld l) r).top := by
      intro r h1 h2 h3
      unfold atR
      split
      · exact hv2
      split
      · exact hv2
      · have hr : r.toNat < l.length := by omega
        obtain ⟨x, e1, _, e3⟩ := bld_ro hok _ r.toNat l[r.toNat] (Nat.lt_succ_self _) (List.getElem?_eq_getElem hr)
        rw [e1]
        have := h3 l[r.toNat] (by omega) (List.getElem?_eq_getElem hr)
        simp only [Option.getD_some]
        omega
    have hl4 := af5.len
    have hz5 := k5.size
    have hzk := kk.size
    rw [hv1]
    refine RunT.imp ?_ (node_c af5.mgr in1 in2 hv2 (top _ n3 n4 hord.1) (top _ n5 n6 hord.2) (by omega))
    rintro H6 q ⟨F6, ts6, af6, hin6, rfl⟩
    have hnF4 : ∀ y, H.size ≤ y → y < H3.size → ¬ F4 y := fun y h1 h2 h => by
      rcases hF4 y h with h | h
      · have := hm.lt y h; omega
      · omega
    have o16 := (o14.kp k5).keep af6.keep (hnF4 _ (by omega) (by omega))
    have op6 := (op4.kp k5).keep af6.keep (hnF4 _ (by omega) (by omega))
    have oc6 := (oc4.kp k5).keep af6.keep (hnF4 _ (by omega) (by omega))
    have hnn : ¬ F4 nb := fun h => by have := af.mgr.lt nb h; omega
    refine IA.mk (by omega) (by omega) ?_
    refine Sto.cell oc6 (by rw [hcl]; omega) fun H7 oc7 k7 hs7 => ?_
    have hle6 := af6.keep.size
    refine ⟨Same1.mk rfl, Same1.mk rfl, Same1.mk ((op6.cell rfl).trans ((op4.kp k5).cell rfl).symm), Same1.mk rfl, Same1.mk rfl, Same2.mk rfl, ?_⟩
    have hF6 : ∀ y, F6 y → F y ∨ H3.size ≤ y := fun y h => by
      rcases af6.fresh y h with h | h
      · exact hF4 y h
      · exact .inr (by omega)
    have hnF6 : ∀ y, y = cb → ¬ F6 y := fun y e h => by
      rcases hF6 y h with h | h
      · have := hm.lt y h; omega
      · omega
    have aft := af5.trans af6
    refine hback (l.length - (i + 1)) _ _ (by omega) ⟨i + 1, F6, ts6, _, by omega, rfl, ?_, ?_, o16.keep k7 (by omega), op6.keep k7 (by omega), oc7, by rw [List.length_set, hcl], ?_, hF6, by omega⟩
    · exact tc rfl (tc rfl (tc rfl (tc rfl (tc rfl (tc rfl (tc ((wrap64 (by omega) (by omega)).trans (by omega)) rfl))))))
    · refine ⟨aft.mgr.keep k7 hnF6, aft.pre, aft.len, ?_, aft.fresh⟩
      refine ⟨by have := aft.keep.size; omega, fun x hx hn => ?_, fun x hx hn => ?_⟩
      · rw [k7.get x (by have := aft.keep.size; omega) (by omega), aft.keep.get x hx hn]
      · rw [k7.ext x (by have := aft.keep.size; omega) (by omega), aft.keep.ext x hx hn]
    · intro j hj t ht
      by_cases hji : j = i
      · subst hji
        rw [bld_at hp hnum, Option.some.injEq] at ht
        subst ht
        rw [hv3]
        refine ⟨hin6, ?_⟩
        simp only [Int.toNat_natCast, Nat.mul_one, Nat.zero_add]
        rw [List.getElem?_set_self (by omega)]
      · obtain ⟨g1, g2⟩ := (hmade.mono af6.pre) j (by omega) t ht
        refine ⟨g1, ?_⟩
        simp only [Int.toNat_natCast, Nat.mul_one, Nat.zero_add]
        rw [List.getElem?_set_ne (by omega)]
        exact g2
  · have : i = l.length := by omega
    subst this
    obtain ⟨in1, e1⟩ := hmade.look hr1 hr2 (Nat.le_refl _)
    refine FA.mk (Ld.oi o14 rfl (CVT.imp ?_ (CVT.mk lt84 (add1_c op4 oc4 hcl e1))))
    rintro H6 q ⟨he, rfl⟩
    obtain rfl : H4 = H6 := he.symm
    exact ⟨F4, ts4, ⟨af.mgr, af.pre, by have := af.len; omega, af.keep, af.fresh⟩, in1, rfl⟩
end Go.Proofs.Ytanaaabejeeakaa
end
section
/- Which diagrams are taken. -/
namespace Go.Proofs.Ytanaaabejeeakaa
open Go.AI Go.AI.DT

theorem Equal_c {s s' : AC} {l l' : List NRow} {H : AHeap} (hs : SlR H s 3 (nodeRows l)) (hs' : SlR H s' 3 (nodeRows l')) (hlen : l'.length < 4611686018427387904) :
    Fn.slices_Equal_fetterlock_api_Node_fetterlock_api_Node s s' H fun H' q => H' = H ∧ q = decide (l = l') := by
  refine slices_Equal_fetterlock_api_Node_fetterlock_api_Node.run ?_
  unfold slices_Equal_fetterlock_api_Node_fetterlock_api_Node.W
  refine LenS.of hs (LenS.of hs' ?_)
  rw [nodeRows_len, nodeRows_len]
  refine CondB.ne (fun hne => ⟨rfl, ?_⟩) fun he => ?_
  · symm; rw [decide_eq_false_iff_not]; rintro rfl; exact hne rfl
  have hl : l.length = l'.length := by omega
  refine LenS.of hs ?_
  rw [nodeRows_len]
  unfold slices_Equal_fetterlock_api_Node_fetterlock_api_Node.l14
  refine LoopT.rule (fun m s0 H3 => ∃ i : Nat, i ≤ l.length ∧ m = l.length - i ∧ s0 = (s, s', (l.length : Int), (i : Int), ()) ∧ H3 = H ∧ ∀ j, j < i → l[j]? = l'[j]?) l.length ⟨0, by omega, by omega, rfl, rfl, fun j h => by omega⟩ ?_
  rintro m s0 H3 back ⟨i, hi, rfl, rfl, rfl, hall⟩ hback
  simp only [slices_Equal_fetterlock_api_Node_fetterlock_api_Node.b14]
  refine CondB.dec (fun hlt => ?_) fun hge => ?_
  · have hi' : i < l.length := by omega
    obtain ⟨p, hp⟩ : ∃ b, l[i]? = some b := ⟨_, List.getElem?_eq_getElem hi'⟩
    obtain ⟨p', hp'⟩ : ∃ b, l'[i]? = some b := ⟨_, List.getElem?_eq_getElem (by omega)⟩
    refine IA.of hs (by omega) (by rw [Int.toNat_natCast]; exact nodeRow_at hp) fun b1 o1 hld => Ld.a3 hld p.1 p.2.1 p.2.2 rfl rfl ?_
    refine IA.of hs' (by omega) (by rw [Int.toNat_natCast]; exact nodeRow_at hp') fun b1 o1 hld => Ld.a3 hld p'.1 p'.2.1 p'.2.2 rfl rfl ?_
    refine CondB.mk (fun hc => ⟨by trivial, ?_⟩) fun hc => ?_
    · symm
      rw [decide_eq_false_iff_not]
      rintro rfl
      rw [hp] at hp'
      cases hp'
      simp at hc
    · refine hback (l.length - (i + 1)) _ _ (by omega) ⟨i + 1, by omega, rfl, ?_, rfl, fun j hj => ?_⟩
      · exact tc rfl (tc rfl (tc rfl (tc ((wrap64 (by omega) (by omega)).trans (by omega)) rfl)))
      · by_cases hji : j = i
        · subst hji
          rw [hp, hp']
          have : p = p' := by
            simp only [Bool.not_eq_false', decide_eq_true_eq, List.cons.injEq, and_true] at hc
            exact Prod.ext hc.1 (Prod.ext hc.2.1 hc.2.2)
          rw [this]
        · exact hall j (by omega)
  · refine ⟨by trivial, ?_⟩
    symm
    rw [decide_eq_true_iff]
    apply List.ext_getElem?
    intro j
    by_cases hj : j < i
    · exact hall j hj
    · rw [List.getElem?_eq_none (by omega), List.getElem?_eq_none (by omega)]

theorem dFault_two {l : List NRow} {r : Int} (h1 : l.length ≤ 2000) (h2 : scan 0 l = 0) (h3 : ¬ CanonD l r) : dFault l r = 2 := by
  unfold dFault
  rw [if_neg (by omega), if_neg (by omega), if_neg h3]
theorem dFault_zero {l : List NRow} {r : Int} (h1 : l.length ≤ 2000) (h3 : CanonD l r) : dFault l r = 0 := by
  have h2 : scan 0 l = 0 := scan_ok.2 fun j p hp => by rw [Nat.zero_add]; exact (h3.of.1 j p hp).1
  unfold dFault
  rw [if_neg (by omega), if_neg (by omega), if_pos h3]
theorem dFault_scan {l : List NRow} {r : Int} (h1 : l.length ≤ 2000) {k : Int} (h2 : scan 0 l = k) (hk : k ≠ 0) : dFault l r = k := by
  unfold dFault
  rw [if_neg (by omega), if_pos (by omega), h2]

theorem CheckDiagram_c {s : AC} {l : List NRow} {r : Int} {H : AHeap} (hs : SlR H s 3 (nodeRows l)) :
    Fn.solve_CheckDiagram s r H fun H' q => q = dFault l r ∧ Kp H H' := by
  refine solve_CheckDiagram.run ?_
  unfold solve_CheckDiagram.W
  refine New.own fun b1 H1 hb1 hs1 o1 k1 => FA.mk (Ld.oc o1 rfl (LenS.of (hs.kp k1) ?_))
  rw [nodeRows_len]
  refine CondB.dec (fun hgt => ⟨?_, k1⟩) fun hle => ?_
  · unfold dFault; rw [if_pos (by omega)]
  have hlen : l.length ≤ 2000 := by omega
  refine FA.mk (Ld.oc o1 rfl (LenS.of (hs.kp k1) ?_))
  rw [nodeRows_len]
  unfold solve_CheckDiagram.l14
  refine LoopT.rule (fun m s0 H2 => ∃ i : Nat, i ≤ l.length ∧ m = l.length - i ∧ s0 = (.ptr (some (b1, 0)), s, (l.length : Int), (i : Int), ()) ∧ Kp H H2 ∧ Own H2 b1 [s, .int .i64 r] ∧ scan 0 l = scan i (l.drop i)) l.length
    ⟨0, by omega, by omega, rfl, k1, o1, rfl⟩ ?_
  rintro m s0 H2 back ⟨i, hi, rfl, rfl, k2, o12, hsc⟩ hback
  simp only [solve_CheckDiagram.b14]
  refine CondB.dec (fun hlt => ?_) fun hge => ?_
  · have hi' : i < l.length := by omega
    obtain ⟨p, hp⟩ : ∃ b, l[i]? = some b := ⟨_, List.getElem?_eq_getElem hi'⟩
    rw [scan_drop hp] at hsc
    refine IA.of (hs.kp k2) (by omega) (by rw [Int.toNat_natCast]; exact nodeRow_at hp) fun b o hld => Ld.a3 hld p.1 p.2.1 p.2.2 rfl rfl ?_
    refine NewSto.own rfl fun nb H3 hnb hs3 on k3 => FA.mk (Ld.oi on rfl ?_)
    have kk := k2.trans k3
    unfold solve_CheckDiagram.p28
    refine CondB.dec (fun h0 => CondB.pos rfl ⟨?_, kk⟩) fun h0 => FA.mk (Ld.oi on rfl (CondB.dec (fun h1 => ⟨?_, kk⟩) fun h1 => ?_))
    · rw [if_pos (.inl h0)] at hsc; exact (dFault_scan hlen hsc (by omega)).symm
    · rw [if_pos (.inr (by omega))] at hsc; exact (dFault_scan hlen hsc (by omega)).symm
    rw [if_neg (by omega)] at hsc
    unfold solve_CheckDiagram.p34
    refine FA.mk (Ld.oi on rfl (CondB.dec (fun h2 => CondB.pos rfl ⟨?_, kk⟩) fun h2 => FA.mk (Ld.oi on rfl (CondB.dec (fun h3 => CondB.pos rfl ⟨?_, kk⟩) fun h3 => FA.mk (Ld.oi on rfl (CondB.dec (fun h4 => CondB.pos rfl ⟨?_, kk⟩) fun h4 => FA.mk (Ld.oi on rfl (CondB.dec (fun h5 => ⟨?_, kk⟩) fun h5 => ?_))))))))
    · rw [if_pos (by omega)] at hsc; exact (dFault_scan hlen hsc (by omega)).symm
    · rw [if_pos (by omega)] at hsc; exact (dFault_scan hlen hsc (by omega)).symm
    · rw [if_pos (by omega)] at hsc; exact (dFault_scan hlen hsc (by omega)).symm
    · rw [if_pos (by omega)] at hsc; exact (dFault_scan hlen hsc (by omega)).symm
    rw [if_neg (by omega)] at hsc
    refine hback (l.length - (i + 1)) _ _ (by omega) ⟨i + 1, by omega, rfl, ?_, kk, o12.kp k3, hsc⟩
    exact tc rfl (tc rfl (tc rfl (tc ((wrap64 (by omega) (by omega)).trans (by omega)) rfl)))
  have hsc0 : scan 0 l = 0 := by
    rw [hsc, List.drop_eq_nil_iff.2 (by omega)]; rfl
  have hnum : ∀ j p, l[j]? = some p → NumOk j p := fun j p hp => by have := scan_ok.1 hsc0 j p hp; rwa [Nat.zero_add] at this
  refine FA.mk (Ld.oc o12 rfl (LenS.of (hs.kp k2) ?_))
  rw [nodeRows_len]
  unfold solve_CheckDiagram.l44
  refine LoopT.rule (fun m s0 H3 => ∃ i : Nat, i ≤ l.length ∧ m = l.length - i ∧ s0 = (.ptr (some (b1, 0)), s, (l.length : Int), (i : Int), ()) ∧ Kp H H3 ∧ Own H3 b1 [s, .int .i64 r] ∧ ∀ j p, j < i → l[j]? = some p → OrdOk l p) l.length
    ⟨0, by omega, by omega, rfl, k2, o12, fun j p h => by omega⟩ ?_
  clear hback back
  rintro m s0 H3 back ⟨i, hi, rfl, rfl, k3, o13, hord⟩ hback
  simp only [solve_CheckDiagram.b44]
  refine CondB.dec (fun hlt => ?_) fun hge => ?_
  · have hi' : i < l.length := by omega
    obtain ⟨p, hp⟩ : ∃ b, l[i]? = some b := ⟨_, List.getElem?_eq_getElem hi'⟩
    have hn := hnum i p hp
    unfold NumOk at hn
    obtain ⟨n1, n2, n3, n4, n5, n6⟩ := hn
    refine IA.of (hs.kp k3) (by omega) (by rw [Int.toNat_natCast]; exact nodeRow_at hp) fun b o hld => Ld.a3 hld p.1 p.2.1 p.2.2 rfl rfl ?_
    refine NewSto.own rfl fun nb H4 hnb hs4 on k4 => FA.mk (Ld.oi on rfl (FA.mk (Ld.oi on rfl (NewS.own fun ab H5 hab hs5 oa k5 => LenS.mk ?_))))
    have kk := (k3.trans k4).trans k5
    have on5 := on.kp k5
    have o15 := (o13.kp k4).kp k5
    unfold solve_CheckDiagram.l58
    refine LoopT.rule (fun m s0 H6 => ∃ k : Nat, k ≤ 2 ∧ m = 2 - k ∧ s0 = (.ptr (some (b1, 0)), .ptr (some (nb, 0)), s, (l.length : Int), (i : Int), .sl (some (ab, 0)) 1 2 (some 2), (2 : Int), (k : Int), ()) ∧ H6 = H5 ∧
      (0 < k → ∀ q, 0 ≤ p.2.1 → l[p.2.1.toNat]? = some q → p.1 < q.1) ∧ (1 < k → ∀ q, 0 ≤ p.2.2 → l[p.2.2.toNat]? = some q → p.1 < q.1)) 2 ⟨0, by omega, rfl, rfl, rfl, fun h => by omega, fun h => by omega⟩ ?_
    rintro m s0 H6 back2 ⟨k, hk, rfl, rfl, rfl, hk1, hk2⟩ hback2
    simp only [solve_CheckDiagram.b58]
    refine CondB.dec (fun hlt2 => ?_) fun hge2 => ?_
    · have hbad : ∀ c : Int, (c = p.2.1 ∨ c = p.2.2) → ∀ q, 0 ≤ c → l[c.toNat]? = some q → ¬ p.1 < q.1 → dFault l r = 2 := by
        intro c hc q h0 hq hlt
        refine dFault_two hlen hsc0 fun hcan => ?_
        have := (hcan.of.1 i p hp).2
        rcases hc with rfl | rfl
        · exact hlt (this.1 q h0 hq)
        · exact hlt (this.2 q h0 hq)
      have main : ∀ c : Int, (c = p.2.1 ∨ c = p.2.2) → ((∀ q, 0 ≤ c → l[c.toNat]? = some q → p.1 < q.1) → back2 (.ptr (some (b1, 0)), .ptr (some (nb, 0)), s, (l.length : Int), (i : Int), .sl (some (ab, 0)) 1 2 (some 2), (2 : Int), IntKind.wrap .i64 ((k : Int) + 1), ()) H6) →
          CondB (decide (c ≥ 0))
            (FA 0 (.ptr (some (b1, 0))) fun q_3 =>
            Ld [.ac] H6 q_3 fun (v_4 : AC) =>
            IA 3 v_4 c fun q_5 =>
            FA 0 q_5 fun q_6 =>
            Ld [.int .i64] H6 q_6 fun (v_7 : Int) =>
            FA 0 (.ptr (some (nb, 0))) fun q_8 =>
            Ld [.int .i64] H6 q_8 fun (v_9 : Int) =>
            solve_CheckDiagram.p71 (fun H' q => q = dFault l r ∧ Kp H H') back back2 (.ptr (some (b1, 0))) (.ptr (some (nb, 0))) s (l.length : Int) (i : Int) (.sl (some (ab, 0)) 1 2 (some 2)) (2 : Int) (k : Int) (decide (v_7 ≤ v_9)) H6)
            (solve_CheckDiagram.p71 (fun H' q => q = dFault l r ∧ Kp H H') back back2 (.ptr (some (b1, 0))) (.ptr (some (nb, 0))) s (l.length : Int) (i : Int) (.sl (some (ab, 0)) 1 2 (some 2)) (2 : Int) (k : Int) false H6) := by
        intro c hc hgo
        unfold solve_CheckDiagram.p71
        refine CondB.dec (fun h0 => ?_) fun h0 => CondB.neg rfl (hgo fun q h1 => by omega)
        have hclt : c.toNat < l.length := by rcases hc with rfl | rfl <;> omega
        obtain ⟨q, hq⟩ : ∃ b, l[c.toNat]? = some b := ⟨_, List.getElem?_eq_getElem hclt⟩
        refine FA.mk (Ld.oc o15 rfl (IA.of (hs.kp kk) h0 (nodeRow_at hq) fun b o hld => FA.mk (Ld.ei hld rfl (FA.mk (Ld.oi on5 rfl ?_)))))
        refine CondB.dec (fun h1 => ⟨(hbad c hc q h0 hq (by omega)).symm, kk⟩) fun h1 => hgo fun q' _ hq' => ?_
        rw [hq] at hq'
        cases hq'
        omega
      refine IA.mk (by omega) (by omega) ?_
      have hk' : k = 0 ∨ k = 1 := by omega
      rcases hk' with rfl | rfl
      · refine Ld.oi oa rfl (main p.2.1 (.inl rfl) fun hq => ?_)
        exact hback2 1 _ _ (by omega) ⟨1, by omega, rfl, by trivial, rfl, fun _ => hq, fun h => by omega⟩
      · refine Ld.oi oa rfl (main p.2.2 (.inr rfl) fun hq => ?_)
        exact hback2 0 _ _ (by omega) ⟨2, by omega, rfl, by trivial, rfl, fun _ => hk1 (by omega), fun _ => hq⟩
    · refine hback (l.length - (i + 1)) _ _ (by omega) ⟨i + 1, by omega, rfl, ?_, kk, o15, fun j q hj hq => ?_⟩
      · exact tc rfl (tc rfl (tc rfl (tc ((wrap64 (by omega) (by omega)).trans (by omega)) rfl)))
      · by_cases hji : j = i
        · subst hji
          rw [hp] at hq
          cases hq
          exact ⟨hk1 (by omega), hk2 (by omega)⟩
        · exact hord j q (by omega) hq
  have hok : RowsOk l := fun j p hp => ⟨hnum j p hp, hord j p (by have := (List.getElem?_eq_some_iff.1 hp).1; omega) hp⟩
  unfold solve_CheckDiagram.p81
  refine FA.mk (Ld.oi o13 rfl (CondB.dec (fun h1 => CondB.pos rfl ⟨?_, k3⟩) fun h1 => FA.mk (Ld.oi o13 rfl (FA.mk (Ld.oc o13 rfl (LenS.of (hs.kp k3) ?_))))))
  · exact (dFault_two hlen hsc0 fun hc => by have := hc.of.2.1; omega).symm
  rw [nodeRows_len]
  refine CondB.dec (fun h2 => ⟨?_, k3⟩) fun h2 => ?_
  · exact (dFault_two hlen hsc0 fun hc => by have := hc.of.2.2.1; omega).symm
  refine RunT.imp ?_ newManager_c
  rintro H4 m ⟨⟨F, hm, hF⟩, k4⟩
  have kk4 := k3.trans k4
  have hz3 := k3.size
  refine Ld.o2 (o13.kp k4) s r rfl (RunT.imp ?_ (add_c hs (Kp.old kk4) hm (fun x h => by have := hF x h; omega) hok (by omega) (by omega) hlen (by simp)))
  rintro H5 q ⟨F5, ts5, af, hin, rfl⟩
  have kk5 : Kp H H5 := kk4.fresh af.keep fun x h => by have := hF x h; omega
  have hl5 := af.len
  have o15 : Own H5 b1 [s, .int .i64 r] := (o13.kp k4).keep af.keep fun h => by have := hF _ h; have := o13.lt; omega
  refine RunT.imp ?_ (diagram_c af.mgr hin (by simp at hl5; omega))
  rintro H6 ns root ⟨⟨Fo, hsl, hFo⟩, rfl, k6⟩
  refine NewSto.own rfl fun nb H7 hnb hs7 on k7 => ?_
  have kk7 := (kk5.trans k6).trans k7
  have o17 := (o15.kp k6).kp k7
  refine FA.mk (Ld.oi on rfl (FA.mk (Ld.oi o17 rfl ?_)))
  unfold solve_CheckDiagram.p93
  refine CondB.ne (fun hne => CondB.pos rfl ⟨?_, kk7⟩) fun he => ?_
  · exact (dFault_two hlen hsc0 fun hc => hne hc.of.2.2.2.2.2.symm).symm
  refine FA.mk (Ld.oc on rfl (FA.mk (Ld.oc o17 rfl (RunT.imp ?_ (Equal_c (hsl.kp k7).slr (hs.kp kk7) ?_)))))
  · rintro H8 q ⟨he', rfl⟩
    obtain rfl : H7 = H8 := he'.symm
    refine CondB.mk (fun hc => ⟨?_, kk7⟩) fun hc => ⟨?_, kk7⟩
    · exact (dFault_two hlen hsc0 fun hcan => by
        have := hcan.of.2.2.2.2.1
        rw [← this] at hc
        simp at hc).symm
    · have e : (ser (atR (bld l) r) []).map (row (ser (atR (bld l) r) [])) = l := by simpa using hc
      exact (dFault_zero hlen (CanonD.mk hok e.symm he.symm)).symm
  · omega
end Go.Proofs.Ytanaaabejeeakaa
end
section
/- How many assignments a tree is true for. -/
namespace Go.AI
open DT

def cnt (n : Nat) : Nat → DT → Nat
  | _, leaf false => 0
  | v, leaf true => 2 ^ (n - v)
  | v, nd w l h => (cnt n (w + 1) l + cnt n (w + 1) h) * 2 ^ (w - v)
def VarsLt (n : Nat) : DT → Prop
  | leaf _ => True
  | nd w l h => w < n ∧ VarsLt n l ∧ VarsLt n h
theorem cnt_le (n : Nat) : ∀ (x : DT) (v : Nat), x.RO → VarsLt n x → v ≤ n → v ≤ x.top → cnt n v x ≤ 2 ^ (n - v)
  | leaf false, v, _, _, _, _ => Nat.zero_le _
  | leaf true, v, _, _, _, _ => Nat.le_refl _
  | nd w l h, v, hr, hv, h1, h2 => by
    obtain ⟨_, _, t1, t2, r1, r2⟩ := hr
    obtain ⟨u0, u1, u2⟩ := hv
    simp only [top] at h2
    have e1 := cnt_le n l (w + 1) r1 u1 (by omega) (by omega)
    have e2 := cnt_le n h (w + 1) r2 u2 (by omega) (by omega)
    simp only [cnt]
    have e3 : 2 ^ (n - v) = 2 ^ (n - (w + 1)) * 2 * 2 ^ (w - v) := by
      rw [← Nat.pow_succ, ← Nat.pow_add]
      congr 1
      omega
    rw [e3]
    exact Nat.mul_le_mul_right _ (by omega)
theorem cnt_top (n v w : Nat) (l h : DT) : cnt n v (nd w l h) = cnt n w (nd w l h) * 2 ^ (w - v) := by
  simp only [cnt, Nat.sub_self, Nat.pow_zero, Nat.mul_one]
theorem varsLt_of {n : Nat} {st : List DT} (f : Fin st) (h : ∀ v l r, nd v l r ∈ st → v < n) : ∀ (k : Nat) (x : DT), x.sz ≤ k → In st x → VarsLt n x := by
  intro k
  induction k with
  | zero =>
    intro x hk hx
    cases x with
    | leaf _ => trivial
    | nd v l r => simp [sz] at hk
  | succ k ih =>
    intro x hk hx
    cases x with
    | leaf _ => trivial
    | nd v l r =>
      have hm : nd v l r ∈ st := hx.elim (fun ⟨b, e⟩ => by cases e) id
      obtain ⟨_, _, _, e, h1, h2, _⟩ := f.parts _ hm
      cases e
      simp only [sz] at hk
      exact ⟨h _ _ _ hm, ih l (by omega) h1, ih r (by omega) h2⟩
theorem varsLt_mem {n : Nat} : ∀ (x : DT) (st : List DT), VarsLt n x → ∀ y ∈ ser x st, y ∈ st ∨ VarsLt n y
  | leaf _, st, _, y, hy => .inl hy
  | nd v l h, st, hv, y, hy => by
    simp only [ser] at hy
    split at hy
    · exact .inl hy
    · rcases List.mem_append.1 hy with hy | hy
      · rcases varsLt_mem h _ hv.2.2 y hy with hy | hy
        · exact varsLt_mem l _ hv.2.1 y hy
        · exact .inr hy
      · simp at hy; subst hy; exact .inr hv
end Go.AI
end
section
/- The fault of a number of variables; Count. -/
namespace Go.Proofs.Ytanaaabejeeakaa
open Go.AI Go.AI.DT

theorem lt86 : 86 < Try.prog.funcs.size := (Array.getElem?_eq_some_iff.1 Try.func86).1
theorem lt58 : 58 < Try.prog.funcs.size := (Array.getElem?_eq_some_iff.1 Try.func58).1

theorem IndexFunc_c {s fn : AC} {l : List NRow} {H : AHeap} {f : NRow → Bool} (hs : SlR H s 3 (nodeRows l)) (hlen : l.length < 4611686018427387904)
    (hf : ∀ (p : NRow) (H2 : AHeap), Kp H H2 → CVT Try.prog [(false, [.bool])] fn [(.agg [(.int .i64 p.1), (.int .i64 p.2.1), (.int .i64 p.2.2)])] H2 fun H3 b => Kp H2 H3 ∧ b = f p) :
    Fn.slices_IndexFunc_fetterlock_api_Node_fetterlock_api_Node s fn H fun H' q => Kp H H' ∧ (0 ≤ q ↔ ∃ p ∈ l, f p = true) := by
  refine slices_IndexFunc_fetterlock_api_Node_fetterlock_api_Node.run ?_
  unfold slices_IndexFunc_fetterlock_api_Node_fetterlock_api_Node.W slices_IndexFunc_fetterlock_api_Node_fetterlock_api_Node.l6
  refine LenS.of hs ?_
  rw [nodeRows_len]
  refine LoopT.rule (fun m s0 H3 => ∃ i : Nat, i ≤ l.length ∧ m = l.length - i ∧ s0 = (s, fn, (l.length : Int), (i : Int), ()) ∧ Kp H H3 ∧ ∀ j p, j < i → l[j]? = some p → f p = false) l.length ⟨0, by omega, by omega, rfl, Kp.refl _, fun j p h => by omega⟩ ?_
  rintro m s0 H3 back ⟨i, hi, rfl, rfl, k3, hall⟩ hback
  simp only [slices_IndexFunc_fetterlock_api_Node_fetterlock_api_Node.b6]
  refine CondB.dec (fun hlt => ?_) fun hge => ?_
  · have hi' : i < l.length := by omega
    obtain ⟨p, hp⟩ : ∃ b, l[i]? = some b := ⟨_, List.getElem?_eq_getElem hi'⟩
    refine IA.of (hs.kp k3) (by omega) (by rw [Int.toNat_natCast]; exact nodeRow_at hp) fun b1 o1 hld => Ld.a3 hld p.1 p.2.1 p.2.2 rfl rfl ?_
    refine CVT.imp ?_ (hf p H3 k3)
    rintro H4 b ⟨k4, rfl⟩
    refine CondB.mk (fun hc => ⟨k3.trans k4, ?_⟩) fun hc => ?_
    · exact ⟨fun _ => ⟨p, List.mem_of_getElem? hp, hc⟩, fun _ => by show (0 : Int) ≤ (i : Int); omega⟩
    · refine hback (l.length - (i + 1)) _ _ (by omega) ⟨i + 1, by omega, rfl, ?_, k3.trans k4, fun j q hj hq => ?_⟩
      · exact tc rfl (tc rfl (tc rfl (tc ((wrap64 (by omega) (by omega)).trans (by omega)) rfl)))
      · by_cases hji : j = i
        · subst hji
          rw [hp] at hq
          cases hq
          exact hc
        · exact hall j q (by omega) hq
  · refine ⟨k3, fun h => by exfalso; have h' : (0 : Int) ≤ -1 := h; omega, fun ⟨p, hp, he⟩ => ?_⟩
    obtain ⟨j, hj, e⟩ := List.getElem_of_mem hp
    have := hall j p (by omega) (by rw [List.getElem?_eq_getElem hj, e])
    rw [this] at he; cases he

open Classical in
/-- The fault of a diagram with a number of variables. -/
noncomputable def vFault (l : List NRow) (r n : Int) : Int := if dFault l r ≠ 0 then dFault l r else if n < 0 ∨ 16 < n ∨ ∃ p ∈ l, n ≤ p.1 then 1 else 0

theorem dFault_len {l : List NRow} {r : Int} (h : dFault l r = 0) : l.length ≤ 2000 ∧ CanonD l r := by
  unfold dFault at h
  split at h
  · cases h
  split at h
  · next h1 => exact absurd h h1
  split at h
  · next h1 => exact ⟨by omega, h1⟩
  · cases h

theorem varsFault_c {s : AC} {l : List NRow} {r n : Int} {H : AHeap} (hs : SlR H s 3 (nodeRows l)) :
    Fn.solve_varsFault s r n H fun H' q => q = vFault l r n ∧ Kp H H' := by
  refine solve_varsFault.run ?_
  unfold solve_varsFault.W
  refine New.own fun b1 H1 hb1 hs1 o1 k1 => New.own fun b3 H3 hb3 hs3 o3 k3 => Ld.o2 (o1.kp k3) s r rfl ?_
  have kk := k1.trans k3
  refine RunT.imp ?_ (CheckDiagram_c (hs.kp kk))
  rintro H4 q ⟨rfl, k4⟩
  have kk4 := kk.trans k4
  have o34 := o3.kp k4
  refine CondB.mk (fun hne => ⟨?_, kk4⟩) fun he => ?_
  · unfold vFault; rw [if_pos (by simpa using hne)]
  have h0 : dFault l r = 0 := by simpa using he
  have hv : vFault l r n = if n < 0 ∨ 16 < n ∨ ∃ p ∈ l, n ≤ p.1 then 1 else 0 := by unfold vFault; rw [if_neg (by omega)]
  rw [hv]
  unfold solve_varsFault.p15
  refine Ld.oi o34 rfl (CondB.dec (fun h1 => CondB.pos rfl ⟨?_, kk4⟩) fun h1 => Ld.oi o34 rfl (CondB.dec (fun h2 => CondB.pos rfl ⟨?_, kk4⟩) fun h2 => ?_))
  · rw [if_pos (.inl h1)]
  · rw [if_pos (.inr (.inl (by omega)))]
  refine FA.mk (Ld.oc ((o1.kp k3).kp k4) rfl (Fnc.mk rfl rfl ?_))
  refine slices_ContainsFunc_fetterlock_api_Node_fetterlock_api_Node.run ?_
  unfold slices_ContainsFunc_fetterlock_api_Node_fetterlock_api_Node.W
  refine RunT.imp ?_ (IndexFunc_c (f := fun p => decide (p.1 ≥ n)) (hs.kp kk4) (by have := (dFault_len h0).1; omega) fun p H2 k2 => CVT.mk lt86 ?_)
  · rintro H5 (q : Int) ⟨k5, hq⟩
    refine CondB.mk (fun h3 => ⟨?_, kk4.trans k5⟩) fun h3 => ⟨?_, kk4.trans k5⟩
    · obtain ⟨p, hp, he⟩ := hq.1 (@of_decide_eq_true _ _ h3)
      rw [if_pos (.inr (.inr ⟨p, hp, by simpa using he⟩))]
    · rw [if_neg]
      rintro (h | h | ⟨p, hp, he⟩)
      · exact h1 h
      · omega
      · exact @of_decide_eq_false _ _ h3 (hq.2 ⟨p, hp, by simpa using he⟩)
  · refine solve_varsFault_1.run ?_
    unfold solve_varsFault_1.W
    refine New.own fun nb H6 hnb hs6 on k6 => FA.mk (Ld.oi on rfl (Ld.oi ((o34.kp k2).kp k6) rfl ⟨k6, rfl⟩))

theorem pow2_lt {k : Nat} (h : k ≤ 16) : 2 ^ k ≤ 65536 := Nat.pow_le_pow_right (n := 2) (by omega) h

theorem Count1_c {st : List DT} {t : DT} {v n i b1 b3 pb cb : Nat} {s : AC} {r : Int} {cs : List AC} {H : AHeap} (ht : In st t) (hro : t.RO) (hvl : VarsLt n t) (hn : n ≤ 16) (hv : v ≤ n) (hvt : v ≤ t.top)
    (o3 : Own H b3 [.int .i64 (n : Int)]) (op : Own H pb [.sl (some (cb, 0)) 1 st.length (some st.length)]) (oc : Own H cb cs) (hcl : cs.length = st.length) (o1 : Own H b1 [s, .int .i64 r]) (hs : SlR H s 3 (nodeRows (st.map (row st))))
    (hmade : ∀ j t', j < i → st[j]? = some t' → cs[j]? = some (.int .i64 (cnt n t'.top t' : Int))) (hti : ref st t < i) :
    Fn.solve_Count_1 (ref st t) (v : Int) (.ptr (some (b3, 0))) (.ptr (some (pb, 0))) (.ptr (some (b1, 0))) H fun H' q => H' = H ∧ q = (cnt n v t : Int) := by
  refine solve_Count_1.run ?_
  unfold solve_Count_1.W
  have hle := cnt_le n t v hro hvl hv hvt
  have hp16 : 2 ^ (n - v) ≤ 65536 := pow2_lt (by omega)
  cases t with
  | leaf b =>
    cases b with
    | false => exact CondB.pos rfl ⟨rfl, rfl⟩
    | true =>
      refine CondB.neg rfl (CondB.pos rfl (Ld.oi o3 rfl ?_))
      have e : IntKind.wrap .i64 ((n : Int) - (v : Int)) = ((n - v : Nat) : Int) := (wrap64 (by omega) (by omega)).trans (by omega)
      rw [e]
      refine ⟨by omega, rfl, ?_⟩
      have := shl_nat (x := 1) (v := n - v) (by omega) (by rw [Nat.shiftLeft_eq, Nat.one_mul]; omega)
      rw [Nat.shiftLeft_eq, Nat.one_mul] at this
      exact this
  | nd w l h =>
    have h0 : 0 ≤ ref st (nd w l h) := by rw [ref_ge]; omega
    refine CondB.neg ?_ (CondB.neg ?_ (Ld.oc op rfl ?_))
    · simp only [beq_eq_false_iff_ne, ne_eq]; omega
    · simp only [beq_eq_false_iff_ne, ne_eq]; omega
    have hg := ref_get ht h0
    have hlt := (List.getElem?_eq_some_iff.1 hg).1
    have hc := hmade _ _ (by omega) hg
    refine IA.mk h0 (by omega) (Ld.oi oc (by rw [Nat.zero_add, Nat.mul_one]; exact hc) ?_)
    refine FA.mk (Ld.oc o1 rfl (IA.of hs h0 (nodeRow_at (by rw [List.getElem?_map, hg]; rfl)) fun b o hld => FA.mk (Ld.ei hld rfl ?_)))
    simp only [top] at hvt
    have hw := hvl.1
    have e : IntKind.wrap .i64 ((w : Int) - (v : Int)) = ((w - v : Nat) : Int) := (wrap64 (by omega) (by omega)).trans (by omega)
    refine GE0.mk ?_ ⟨by trivial, ?_⟩
    · show 0 ≤ IntKind.wrap .i64 ((w : Int) - (v : Int))
      rw [e]; omega
    · show shl .i64 (cnt n w (nd w l h) : Int) (IntKind.wrap .i64 ((w : Int) - (v : Int))) = _
      rw [cnt_top] at hle
      have := shl_nat (x := cnt n w (nd w l h)) (v := w - v) (by omega) (by rw [Nat.shiftLeft_eq]; omega)
      rw [Nat.shiftLeft_eq] at this
      rw [e, cnt_top n v]
      exact this

theorem Count_c {s : AC} {x : DT} {n : Nat} {H : AHeap} (hx : x.RO) (hs : SlR H s 3 (nodeRows ((ser x []).map (row (ser x []))))) (hlen : (ser x []).length ≤ 2000) (hn : n ≤ 16) (hvl : VarsLt n x) :
    Fn.solve_Count s (ref (ser x []) x) (n : Int) H fun H' q e => q = (cnt n 0 x : Int) ∧ e = 0 ∧ Kp H H' := by
  refine solve_Count.run ?_
  unfold solve_Count.W
  obtain ⟨st, hst⟩ : ∃ st, st = ser x [] := ⟨_, rfl⟩
  have hseq : Seq st := by rw [hst]; exact ser_seq x [] hx Seq.nil
  have hinx : In st x := by rw [hst]; exact ser_in x []
  have hvars : ∀ y ∈ st, VarsLt n y := by
    intro y hy
    rw [hst] at hy
    rcases varsLt_mem x [] hvl y hy with h | h
    · cases h
    · exact h
  have hcan : vFault (st.map (row st)) (ref st x) n = 0 := by
    have : dFault (st.map (row st)) (ref st x) = 0 := dFault_zero (by rw [List.length_map, hst]; exact hlen) ⟨x, hx, by rw [hst], by rw [hst]⟩
    unfold vFault
    rw [if_neg (by omega), if_neg]
    rintro (h | h | ⟨p, hp, h⟩)
    · omega
    · omega
    · obtain ⟨y, hy, rfl⟩ := List.mem_map.1 hp
      obtain ⟨v, a, b, rfl, _⟩ := hseq.1.parts y hy
      have := (hvars _ hy).1
      simp only [row] at h
      omega
  rw [← hst] at hs hlen ⊢
  refine New.own fun b1 H1 hb1 hs1 o1 k1 => New.own fun b3 H3 hb3 hs3 o3 k3 => Ld.o2 (o1.kp k3) s (ref st x) rfl (Ld.oi o3 rfl ?_)
  have kk := k1.trans k3
  refine RunT.imp ?_ (varsFault_c (hs.kp kk))
  rintro H4 q ⟨rfl, k4⟩
  have kk4 := kk.trans k4
  rw [hcan]
  refine CondB.neg rfl (FA.mk (Ld.oc ((o1.kp k3).kp k4) rfl (LenS.of (hs.kp kk4) ?_)))
  rw [nodeRows_len, List.length_map]
  refine MkS.own (n := st.length) (by omega) (by omega) fun cb H5 hcb hs5 oc k5 => NewSto.own rfl fun pb H6 hpb hs6 op k6 => Fnc.mk rfl rfl ?_
  have kk6 := (kk4.trans k5).trans k6
  have o16 := (((o1.kp k3).kp k4).kp k5).kp k6
  have o36 := ((o3.kp k4).kp k5).kp k6
  refine FA.mk (Ld.oc o16 rfl (LenS.of (hs.kp kk6) ?_))
  rw [nodeRows_len, List.length_map]
  have hz4 := kk4.size
  have hb14 := ((o1.kp k3).kp k4).lt
  have hb34 := (o3.kp k4).lt
  unfold solve_Count.l20
  refine LoopT.rule (fun mm s0 H7 => ∃ (i : Nat) (cs : List AC), i ≤ st.length ∧ mm = st.length - i ∧ s0 = (.ptr (some (b1, 0)), .ptr (some (pb, 0)), .fn 58 [] [(b3, 0), (pb, 0), (b1, 0)], s, (st.length : Int), (i : Int), ()) ∧
    Kp H H7 ∧ Own H7 b1 [s, .int .i64 (ref st x)] ∧ Own H7 b3 [.int .i64 (n : Int)] ∧ Own H7 pb [.sl (some (cb, 0)) 1 st.length (some st.length)] ∧ Own H7 cb cs ∧ cs.length = st.length ∧
    ∀ j t', j < i → st[j]? = some t' → cs[j]? = some (.int .i64 (cnt n t'.top t' : Int))) st.length
    ⟨0, _, by omega, by omega, rfl, kk6, o16, o36, op, oc.kp k6, by rw [List.length_replicate], fun j t h => by omega⟩ ?_
  rintro mm s0 H7 back ⟨i, cs, hi, rfl, rfl, k7, o17, o37, op7, oc7, hcl, hmade⟩ hback
  simp only [solve_Count.b20]
  refine CondB.dec (fun hlt => ?_) fun hge => ?_
  · have hi' : i < st.length := by omega
    obtain ⟨t, ht⟩ : ∃ b, st[i]? = some b := ⟨_, List.getElem?_eq_getElem hi'⟩
    have htm := List.mem_of_getElem? ht
    obtain ⟨v, l, h, rfl, h1, h2, h3⟩ := hseq.1.parts t htm
    obtain ⟨i1, i2⟩ := hseq.2 i v l h ht
    obtain ⟨_, r1⟩ := in_take i i1
    obtain ⟨_, r2⟩ := in_take i i2
    have hvv := hvars _ htm
    refine IA.of (hs.kp k7) (by omega) (by rw [Int.toNat_natCast]; exact nodeRow_at (p := row st (nd v l h)) (by rw [List.getElem?_map, ht]; rfl)) fun b o hld => Ld.a3 hld (v : Int) (ref st l) (ref st h) rfl rfl ?_
    refine NewSto.own rfl fun nb H8 hnb hs8 on k8 => Ld.oc (op7.kp k8) rfl (FA.mk (Ld.oi on rfl (FA.mk (Ld.oi on rfl ?_))))
    have hv16 := hvv.1
    have ev : IntKind.wrap .i64 ((v : Int) + 1) = ((v + 1 : Nat) : Int) := (wrap64 (by omega) (by omega)).trans (by omega)
    rw [ev]
    have k78 := k7.trans k8
    have tl := h3.2.2.1
    have th := h3.2.2.2.1
    refine CVT.imp ?_ (CVT.mk lt58 (Count1_c h1 h3.2.2.2.2.1 hvv.2.1 hn (by omega) (by omega) (o37.kp k8) (op7.kp k8) (oc7.kp k8) hcl (o17.kp k8) (hs.kp k78) hmade r1))
    rintro H9 q ⟨he, rfl⟩
    obtain rfl : H8 = H9 := he.symm
    refine FA.mk (Ld.oi on rfl (FA.mk (Ld.oi on rfl ?_)))
    rw [ev]
    refine CVT.imp ?_ (CVT.mk lt58 (Count1_c h2 h3.2.2.2.2.2 hvv.2.2 hn (by omega) (by omega) (o37.kp k8) (op7.kp k8) (oc7.kp k8) hcl (o17.kp k8) (hs.kp k78) hmade r2))
    rintro H9 q ⟨he, rfl⟩
    obtain rfl : H8 = H9 := he.symm
    refine IA.mk (by omega) (by omega) ?_
    refine Sto.cell (oc7.kp k8) (by rw [hcl]; omega) fun H10 oc10 k10 hs10 => ?_
    refine ⟨Same1.mk rfl, Same1.mk rfl, Same2.mk rfl, Same2.mk rfl, ?_⟩
    refine hback (st.length - (i + 1)) _ _ (by omega) ⟨i + 1, _, by omega, rfl, ?_, k78.fresh k10 fun y e => ?_, (o17.kp k8).keep k10 (by omega), (o37.kp k8).keep k10 (by omega), (op7.kp k8).keep k10 (by omega), oc10, by rw [List.length_set, hcl], fun j t' hj ht' => ?_⟩
    · exact tc rfl (tc rfl (tc rfl (tc rfl (tc rfl (tc ((wrap64 (by omega) (by omega)).trans (by omega)) rfl)))))
    · have e' : y = cb := e; omega
    · simp only [Int.toNat_natCast, Nat.mul_one, Nat.zero_add]
      by_cases hji : j = i
      · subst hji
        rw [ht] at ht'
        cases ht'
        rw [List.getElem?_set_self (by omega)]
        have c1 := cnt_le n l (v + 1) h3.2.2.2.2.1 hvv.2.1 (by omega) (by omega)
        have c2 := cnt_le n h (v + 1) h3.2.2.2.2.2 hvv.2.2 (by omega) (by omega)
        have c3 : 2 ^ (n - (v + 1)) ≤ 65536 := pow2_lt (by omega)
        have e : IntKind.wrap .i64 ((cnt n (v + 1) l : Int) + (cnt n (v + 1) h : Int)) = (cnt n v (nd v l h) : Int) := by
          refine (wrap64 (by omega) (by omega)).trans ?_
          simp only [cnt, Nat.sub_self, Nat.pow_zero, Nat.mul_one]
          omega
        rw [e]
        rfl
      · rw [List.getElem?_set_ne (by omega)]
        exact hmade j t' (by omega) ht'
  · have hil : i = st.length := by omega
    have hmade' := hmade
    refine FA.mk (Ld.oi o17 rfl ?_)
    refine CVT.imp ?_ (CVT.mk lt58 (Count1_c (v := 0) hinx hx hvl hn (by omega) (by omega) o37 op7 oc7 hcl o17 (hs.kp k7) hmade (by have := (ref_lt hinx).2; omega)))
    rintro H9 q ⟨he, rfl⟩
    obtain rfl : H7 = H9 := he.symm
    exact ⟨by trivial, by trivial, k7⟩
end Go.Proofs.Ytanaaabejeeakaa
end
section
/- The diagram of a small formula; the law of Build. -/
namespace Go.Proofs.Ytanaaabejeeakaa
open Go.AI Go.AI.DT

/-- The written form of a tree's nodes. -/
abbrev rowsOf (x : DT) : List NRow := (ser x []).map (row (ser x []))

def smallF : Fm := .mk 4 0 [.mk 1 0 [], .mk 1 2 []]
def smallT : DT := nd 0 (leaf false) (nd 2 (leaf false) (leaf true))
theorem smallT_ro : smallT.RO := ⟨by omega, by simp, by simp [top], by simp [top], trivial, by omega, by simp, by simp [top], by simp [top], trivial, trivial⟩
theorem small_eval (ρ : Nat → Bool) : smallT.eval ρ = smallF.val ρ := by
  simp only [smallT, smallF, eval, Fm.val, Fm.vals]
  cases h0 : ρ 0 <;> cases h2 : ρ 2 <;> simp [h0, h2]
theorem small_fault : boolFaultOf smallF = 0 := by
  simp [boolFaultOf, smallF, Fm.size, Fm.sizes, Fm.fault, Fm.faults, Fm.want, Fm.most]
theorem small_rows : rowsOf smallT = [(2, -1, -2), (0, -1, 0)] ∧ ref (ser smallT []) smallT = 1 ∧ cnt 3 0 smallT = 2 := by
  refine ⟨?_, ?_, ?_⟩ <;> decide

theorem BRes.tree {H0 H : AHeap} {f : Fm} {ns : AC} {root err : Int} {t : DT} (h : BRes H0 H f ns root err) (h0 : boolFaultOf f = 0) (hr : t.RO) (he : ∀ ρ, t.eval ρ = f.val ρ) : DRes H t ns root err := by
  rcases h with ⟨h1, _⟩ | ⟨_, x, hx, hev, hd⟩
  · exact absurd h0 h1
  · have : x = t := canon' hx hr fun ρ => (hev ρ).trans (he ρ).symm
    subst this
    exact hd.res

theorem built_c {H : AHeap} : Fn.fetterlocklaw6_built H fun H' q => q = true ∧ Kp H H' := by
  refine fetterlocklaw6_built.run ?_
  unfold fetterlocklaw6_built.W
  refine NewSto.own rfl fun b1 H1 hb1 hs1 o1 k1 => NewSto.own rfl fun b2 H2 hb2 hs2 o2 k2 => ?_
  refine Ld.o3 (o1.kp k2) (1 : Int) (0 : Int) (.sl none 0 0 (some 0)) rfl (Ld.o3 o2 (1 : Int) (2 : Int) (.sl none 0 0 (some 0)) rfl ?_)
  refine NewS.own fun b3 H3 hb3 hs3 o3 k3 => ?_
  have kk := (k1.trans k2).trans k3
  have hf : FmB H3.size H3 4 0 (.sl (some (b3, 0)) 3 2 (some 2)) smallF := by
    have leafF : ∀ v : Int, FmB H3.size H3 1 v (.sl none 0 0 (some 0)) (.mk 1 v []) := fun v =>
      .mk [] rfl (SlR.nil _ _) (fun b o z m cap e => by cases e) fun i r k h => by simp at h
    refine .mk [(1, 0, .sl none 0 0 (some 0)), (1, 2, .sl none 0 0 (some 0))] rfl ?_ (fun b o z m cap e => ?_) ?_
    · refine ⟨some (b3, 0), 3, some 2, rfl, fun i r hr => ⟨rfl, b3, 0, rfl, ?_⟩⟩
      match i with
      | 0 => simp at hr; subst hr; exact o3.load (o := 0) (n := 3) (by simp)
      | 1 => simp at hr; subst hr; exact o3.load (o := 3) (n := 3) (by simp)
      | i + 2 => simp at hr
    · cases e; have := o3.lt; omega
    · intro i r k hr hk
      match i with
      | 0 => simp at hr hk; subst hr hk; exact leafF 0
      | 1 => simp at hr hk; subst hr hk; exact leafF 2
      | i + 2 => simp at hr
  refine RunT.imp ?_ (Build_c (f := smallF) (by simp [smallF, Fm.size, Fm.sizes]) hf)
  rintro H4 ns root err ⟨hres, k4⟩
  have hd := hres.tree small_fault smallT_ro small_eval
  obtain ⟨r1, r2, r3⟩ := small_rows
  have hl : (ser smallT []).length = 2 := by decide
  rcases hd with ⟨hbig, _⟩ | ⟨_, rfl, rfl, hsl⟩
  · omega
  have hsl' : SlR H4 ns 3 (nodeRows [(2, -1, -2), (0, -1, 0)]) := by rw [← r1]; exact hsl
  refine NewSto.own rfl fun b5 H5 hb5 hs5 o5 k5 => CondB.neg rfl (FA.mk (Ld.oi o5 rfl ?_))
  have kk5 := (kk.trans k4).trans k5
  refine CondB.neg (by rw [r2]; rfl) (FA.mk (Ld.oc o5 rfl (LenS.of (hsl'.kp k5) ?_)))
  unfold fetterlocklaw6_built.p11
  refine CondB.neg rfl (Ld.o2 o5 ns (ref (ser smallT []) smallT) rfl ?_)
  refine RunT.imp ?_ (Count_c (n := 3) smallT_ro (hsl.kp k5) (by omega) (by omega) ⟨by omega, trivial, by omega, trivial, trivial⟩)
  rintro H6 q e ⟨rfl, rfl, k6⟩
  rw [r3]
  have hsl6 := (hsl'.kp k5).kp k6
  refine FA.mk (Ld.oc (o5.kp k6) rfl (IA.of hsl6 (by omega) (r := nodeCells (2, -1, -2)) rfl fun b o hld => Ld.a3 hld (2 : Int) (-1 : Int) (-2 : Int) rfl rfl (CondB.pos rfl ?_)))
  refine FA.mk (Ld.oc (o5.kp k6) rfl (IA.of hsl6 (by omega) (r := nodeCells (0, -1, 0)) rfl fun b o hld => Ld.a3 hld (0 : Int) (-1 : Int) (0 : Int) rfl rfl (CondB.pos rfl (CondB.pos rfl ⟨rfl, kk5.trans k6⟩))))

theorem _root_.Go.AI.FmB.wide {n n' : Nat} {H : AHeap} (hn : n ≤ n') {op var : Int} {s : AC} {f : Fm} (h : FmB n H op var s f) : FmB n' H op var s f := by
  induction h with
  | mk rows hl hs hb _ ih => exact .mk rows hl hs (fun b o z m cap e => Nat.lt_of_lt_of_le (hb b o z m cap e) hn) ih

theorem DRes.same {H : AHeap} {x : DT} {ns ns' : AC} {r r' e e' : Int} (h : DRes H x ns r e) (h' : DRes H x ns' r' e') : e = e' ∧ r = r' ∧ ∃ l : List NRow, l.length ≤ 2000 ∧ SlR H ns 3 (nodeRows l) ∧ SlR H ns' 3 (nodeRows l) := by
  rcases h with ⟨a, rfl, rfl, d⟩ | ⟨a, rfl, rfl, d⟩ <;> rcases h' with ⟨a', rfl, rfl, d'⟩ | ⟨a', rfl, rfl, d'⟩
  · exact ⟨rfl, rfl, [], by simp, d, d'⟩
  · omega
  · omega
  · exact ⟨rfl, rfl, _, by rw [List.length_map]; exact a, d, d'⟩

end Go.Proofs.Ytanaaabejeeakaa
end
section
/- From what came in to formulas and diagrams asx they lie in memory. -/
namespace Go.Proofs.Ytanaaabejeeakaa
open Go.AI

theorem good_int {D : Type} {P : Program} {H : AHeap} {n : Nat} {t : TypeId} {k : IntKind} {cs : List AC} {d : DataW D} (hu : P.underlying t = some (.int k)) (h : AI.Good P H n t cs d) : ∃ i, cs = [.int k i] ∧ d = .lit (.int k i) ∧ (Lit.int k i).wf = true := by
  cases n with
  | zero => exact h.elim
  | succ n => simp only [AI.Good, goodStep, hu] at h; exact h
theorem good_struct {D : Type} {P : Program} {H : AHeap} {n : Nat} {t : TypeId} {fs : Array Field} {cs : List AC} {d : DataW D} (hu : P.underlying t = some (.struct fs)) (h : AI.Good P H n t cs d) : ∃ m ds, n = m + 1 ∧ d = .agg ds ∧ goodF P (AI.Good P H m) fs.toList cs ds := by
  cases n with
  | zero => exact h.elim
  | succ n => simp only [AI.Good, goodStep, hu] at h; obtain ⟨ds, h1, h2⟩ := h; exact ⟨n, ds, rfl, h1, h2⟩
theorem good_slice {D : Type} {P : Program} {H : AHeap} {n : Nat} {t e : TypeId} {cs : List AC} {d : DataW D} (hu : P.underlying t = some (.slice e)) (h : AI.Good P H n t cs d) :
    (cs = [.sl none 0 0 (some 0)] ∧ d = .nil) ∨ ∃ m b ds rest cells, n = m + 1 ∧ cs = [.sl (some (b, 0)) (P.cellsOf e) ds.length none] ∧ d = .slice ds rest ∧ H.get b = some (.row e b 0 true (cells.map some)) ∧
        goodL (AI.Good P H m) e (P.cellsOf e) cells ds ∧ ds.length ≤ maxLen := by
  cases n with
  | zero => exact h.elim
  | succ n =>
    simp only [AI.Good, goodStep, hu] at h
    rcases h with h | ⟨b, ds, rest, cells, h1, h2, h3, h4, h5, _⟩
    · exact .inl h
    · exact .inr ⟨n, b, ds, rest, cells, rfl, h1, h2, h3, h4, h5⟩
theorem goodF_cons {D : Type} {P : Program} {good : TypeId → List AC → DataW D → Prop} {f : Field} {fs : List Field} {cs : List AC} {ds : List (DataW D)} (h : goodF P good (f :: fs) cs ds) :
    ∃ d ds' a b, ds = d :: ds' ∧ cs = a ++ b ∧ good f.type a d ∧ goodF P good fs b ds' := by
  cases ds with
  | nil => exact h.elim
  | cons d ds' => exact ⟨d, ds', cs.take (P.cellsOf f.type), cs.drop (P.cellsOf f.type), rfl, (List.take_append_drop ..).symm, h.1, h.2⟩
theorem goodF_nil {D : Type} {P : Program} {good : TypeId → List AC → DataW D → Prop} {cs : List AC} {ds : List (DataW D)} (h : goodF P good [] cs ds) : ds = [] ∧ cs = [] := by
  cases ds with
  | nil => exact ⟨rfl, h⟩
  | cons d ds' => exact h.elim

theorem cells77 : Try.prog.cellsOf 77 = 3 := by decide +kernel

end Go.Proofs.Ytanaaabejeeakaa
end
section
/- The rows' last steps, shared. -/
namespace Go.Proofs.Ytanaaabejeeakaa
open Go.ChangeShapes Go.WideShapes Go.ChangeAt Go.RowKit
set_option linter.unusedVariables false

section
variable {H : Type} {enc : TypeId × Value → H} {P : Program}
theorem post_of_below {f : Func} {s : ChangeSpec} {apart fresh handsOn again : Bool} {W W' : World} {args : Array Value} {v : Value} {ds gs : List (DataW H)} {before pa pv : List MemPlace}
    (hW : DataW.Whole enc P f.params.toList s.vars apart W args.toList ds gs before)
    (hres : ∀ (b : Nat) (sp : Nat → Bool) (hd : Bool), DataW.TrodAll enc P W' b sp hd f.resultTypes.toList (v.resultList f.resultTypes.size) (s.fn H (ds ++ gs)).results [])
    (hargs : ∀ sp : Nat → Bool, (∀ p ∈ before, sp p.block = true) → DataW.TrodAll enc P W' 0 sp true f.params.toList args.toList (s.fn H (ds ++ gs)).args pa)
    (hvars : ∀ sp : Nat → Bool, (∀ p ∈ before, sp p.block = true) → DataW.TrodVars enc P W' sp s.vars (s.fn H (ds ++ gs)).vars pv)
    (hps : before = pa ++ pv) (hb : Below W.heap.size W W')
    (hok : ∀ (j : Nat) (t : TypeId) (r : Value), f.resultTypes[j]? = some t → (v.resultList f.resultTypes.size)[j]? = some r → Value.okWide P W' .any 0 t r) :
    s.post enc P f apart fresh handsOn again W args v W' := by
  have hlt : ∀ p ∈ before, p.block < W.heap.size := fun p hp => hW.lt p hp
  have hold : ∀ p ∈ before, (fun b => decide (b < W.heap.size)) p.block = true := fun p hp => by simpa using hlt p hp
  refine ⟨ds, gs, before, [], pa, pv, hW, hres _ _ _, hargs _ hold, hvars _ hold, World.keptBut_mono (fun p hp => ⟨hp, ?_⟩) (hb.frame (· ∈ before)), fun _ => ?_⟩
  · rw [hps, List.mem_append] at hp
    exact Or.inr hp
  · obtain ⟨_, _, _, _, _, hz, hn⟩ := hW
    refine ⟨hok, _, _, ([] ++ pa) ++ pv, ⟨[] ++ pa, pv, trodAll_append (hargs _ (fun _ _ => rfl)) (hres _ _ _), hvars _ (fun _ _ => rfl), rfl, ?_, ?_⟩, ?_⟩
    · intro b off hp
      have hin : MemPlace.cell b off ∈ before := by rw [hps]; simpa using hp
      rw [hb.frozen (hlt _ hin)]
      exact hz b off hin
    · intro ha
      have := hn ha
      rw [hps] at this
      simpa using this
    · intro p hp _
      rw [hps]
      simpa using hp
end

theorem own : ownKnob Try.prog.godebug = none := by kernel_rfl
theorem names_ok : AI.NamesOk Try.prog := by
  have h : Try.prog.funcs.toList.all (fun fn => !(fn.name == "runtime.NumGoroutine")) = true := by decide +kernel
  intro f fn hf
  have hm : fn ∈ Try.prog.funcs.toList := by
    rw [Array.mem_toList_iff]
    exact Array.mem_of_getElem? hf
  have := List.all_eq_true.1 h fn hm
  simpa using this
theorem mixed : Try.prog.follows .mixedOrders = true := by kernel_rfl
theorem laid_out : laidOutB Try.prog = true := by kernel_rfl
def simpleTs : List TypeId := [24, 22, 3, 27, 25, 77]
theorem simple_ok : ∀ t ∈ simpleTs, AI.simpleT Try.prog simpleTs t = true := by
  have h : simpleTs.all (AI.simpleT Try.prog simpleTs) = true := by decide +kernel
  exact List.all_eq_true.1 h
end Go.Proofs.Ytanaaabejeeakaa
namespace Go.Proofs.Ytanaaabejeeakaa
open Go.AI
theorem gargs_cons {D : Type} {P : Program} {H : AHeap} {t : TypeId} {ts : List TypeId} {avs : List AV} {d : DataW D} {ds : List (DataW D)} (h : GoodArgs P H (t :: ts) avs (d :: ds)) :
    ∃ a rest n cs, avs = a :: rest ∧ AI.Good P H n t cs d ∧ a = avOf P t cs ∧ GoodArgs P H ts rest ds := by
  cases avs with
  | nil => exact h.elim
  | cons a rest =>
    obtain ⟨⟨n, cs, h1, h2⟩, h3⟩ := h
    exact ⟨a, rest, n, cs, rfl, h1, h2, h3⟩
theorem gargs_nil {D : Type} {P : Program} {H : AHeap} {avs : List AV} (h : GoodArgs (D := D) P H [] avs []) : avs = [] := by
  cases avs with
  | nil => rfl
  | cons a rest => exact h.elim

/-- Rows of nodes asx they came in. -/
theorem dg_list {D : Type} {H : AHeap} {n : Nat} : ∀ (ds : List (DataW D)) (cells : List AC), goodL (AI.Good Try.prog H n) 77 3 cells ds → ∃ l : List NRow, l.length = ds.length ∧ cells = (nodeRows l).flatten
  | [], cells, h => ⟨[], rfl, h⟩
  | d :: ds, cells, h => by
    obtain ⟨h1, h2⟩ := h
    obtain ⟨m, ds', rfl, rfl, hF⟩ := good_struct Try.underlying77 h1
    obtain ⟨d1, ds1, a1, b1, rfl, e1, g1, hF⟩ := goodF_cons hF
    obtain ⟨d2, ds2, a2, b2, rfl, rfl, g2, hF⟩ := goodF_cons hF
    obtain ⟨d3, ds3, a3, b3, rfl, rfl, g3, hF⟩ := goodF_cons hF
    obtain ⟨rfl, rfl⟩ := goodF_nil hF
    obtain ⟨x, rfl, _⟩ := good_int Try.underlying3 g1
    obtain ⟨y, rfl, _⟩ := good_int Try.underlying3 g2
    obtain ⟨z, rfl, _⟩ := good_int Try.underlying3 g3
    obtain ⟨l, e2, e3⟩ := dg_list ds _ h2
    refine ⟨(x, y, z) :: l, by simp [e2], ?_⟩
    show cells = [.int .i64 x, .int .i64 y, .int .i64 z] ++ (nodeRows l).flatten
    rw [← e3]
    have : cells.take 3 = [.int .i64 x, .int .i64 y, .int .i64 z] := by rw [e1]; rfl
    rw [← this, List.take_append_drop]
theorem good_dg {D : Type} {H : AHeap} (n : Nat) (cs : List AC) (d : DataW D) (h : AI.Good Try.prog H n 27 cs d) : ∃ s r l, cs = [s, .int .i64 r] ∧ SlR H s 3 (nodeRows l) := by
  obtain ⟨m, ds, rfl, rfl, hF⟩ := good_struct Try.underlying27 h
  obtain ⟨d1, ds1, a1, b1, rfl, rfl, g1, hF⟩ := goodF_cons hF
  obtain ⟨d2, ds2, a2, b2, rfl, rfl, g2, hF⟩ := goodF_cons hF
  obtain ⟨rfl, rfl⟩ := goodF_nil hF
  obtain ⟨r, rfl, _⟩ := good_int Try.underlying3 g2
  rcases good_slice Try.underlying25 g1 with ⟨rfl, rfl⟩ | ⟨k, b, ds, rest, cells, rfl, rfl, rfl, hg, hl, _⟩
  · exact ⟨_, r, [], rfl, SlR.nil _ _⟩
  · rw [cells77] at hl ⊢
    obtain ⟨l, e1, rfl⟩ := dg_list ds cells hl
    refine ⟨_, r, l, rfl, some (b, 0), 3, none, by rw [nodeRows_len, e1], fun i r hr => ⟨rfl, b, 0, rfl, ?_⟩⟩
    have hlt := (List.getElem?_eq_some_iff.1 hr).1
    have hall : ∀ r ∈ nodeRows l, r.length = 3 := by
      intro r hr
      obtain ⟨x, _, rfl⟩ := List.mem_map.1 hr
      rfl
    have hfl := flatten_len hall
    have hm : (i + 1) * 3 ≤ (nodeRows l).length * 3 := Nat.mul_le_mul_right _ (by omega)
    rw [Nat.zero_add, load_of hg (by omega), flatten_row hall hr]
end Go.Proofs.Ytanaaabejeeakaa
end
section
/- Printed by a program: functions and what must hold ahead of them. -/
namespace Go.Proofs.Ytanaaabejeeakaa
open Go.AI
set_option maxRecDepth 100000
set_option maxHeartbeats 2000000
set_option linter.unusedVariables false
attribute [local irreducible] Ld Sto New NewS NewM NN NZ GE0 FA IA IAP LenS Slc App Cpy Clr MkS Fnc NilQ IxS Look MSet Run CV RunT CVT LoopT Same1 Same2 wpC wpOs wpT wpO wpOp

def solve_Not.c : RC := (.seq (.ops [.put 1 (.box 27 (.tm 0)),
    .put 2 (.new 27 [(.sl none 0 0 (some 0)), (.int .i64 0)]),
    .put 3 (.mov (.ct (.one (.int .i64 0))))]) (.seq (.seq (.ops [.put 6 (.ld true [.ac, .int .i64] (.tm 1)),
    .put 7 (.call 31 [(.tm 6)]),
    .put 4 (.mov (.tm 7))]) (.seq (.ops [.put 8 (.mov (.tm 4)),
    .put 9 (.cm .ne (.tm 8) (.ct (.one (.int .i64 0))))]) (.cond 9 (.seq (.ops [.put 10 (.bld [(.sl none 0 0 (some 0)), (.int .i64 0)] []),
    .put 11 (.mov (.tm 4)),
    .run (.st 2 (.tm 2) (.tm 10)),
    .put 3 (.mov (.tm 11))]) .ret) .skip))) (.seq (.ops [.put 12 (.call 41 []),
    .put 5 (.mov (.tm 12))]) (.seq (.ops [.put 13 (.mov (.tm 5)),
    .put 14 (.mov (.tm 5)),
    .put 15 (.mov (.tm 5)),
    .put 16 (.ld true [.ac, .int .i64] (.tm 1)),
    .put 17 (.call 51 [(.tm 15), (.tm 16)]),
    .put 18 (.call 56 [(.tm 14), (.tm 17)]),
    .put 19 (.call 42 [(.tm 13), (.tm 18)]),
    .put 20 (.ex (.tm 19) 0),
    .put 21 (.ex (.tm 19) 1),
    .run (.st 2 (.tm 2) (.tm 20)),
    .put 3 (.mov (.tm 21))]) .ret))))
abbrev solve_Not.KQ (Q : AHeap → AC → Int → Int → Prop) : AV → AHeap → Prop := fun v H => ∃ xs : Tup (flat [(true, [.ac, .int .i64]), (false, [.int .i64])]), v = joinR (splitP [(true, [.ac, .int .i64]), (false, [.int .i64])] (cellsOf (flat [(true, [.ac, .int .i64]), (false, [.int .i64])]) xs)) ∧ app (flat [(true, [.ac, .int .i64]), (false, [.int .i64])]) (Q H) xs
abbrev solve_Not.K (Q : AHeap → AC → Int → Int → Prop) : Ex → Env → AHeap → Prop := kTop [.cell 2 true [.ac, .int .i64], .tm 3] (solve_Not.KQ Q)
def solve_Not.W (a0_0 : AC) (a0_1 : Int) (H : AHeap) (Q : AHeap → AC → Int → Int → Prop) : Prop :=
  New 27 [a0_0, (.int .i64 a0_1)] H fun p_1 H_2 =>
  New 27 [(.sl none 0 0 (some 0)), (.int .i64 0)] H_2 fun p_3 H_4 =>
  Ld [.ac, .int .i64] H_4 p_1 fun (v_5 : AC) (v_6 : Int) =>
  Fn.solve_CheckDiagram v_5 v_6 H_4 fun H_7 (v_8 : Int) =>
  CondB (v_8 != 0)
    (Sto H_7 p_3 [(.sl none 0 0 (some 0)), (.int .i64 0)] fun H_9 =>
    Ld [.ac, .int .i64] H_9 p_3 fun (r0_10 : AC) (r1_11 : Int) =>
    Q H_9 r0_10 r1_11 v_8)
    (Fn.solve_newManager  H_7 fun H_12 (v_13 : AC) =>
    Ld [.ac, .int .i64] H_12 p_1 fun (v_14 : AC) (v_15 : Int) =>
    Fn.solve_manager_add v_13 v_14 v_15 H_12 fun H_16 (v_17 : Int) =>
    Fn.solve_manager_not v_13 v_17 H_16 fun H_18 (v_19 : Int) =>
    Fn.solve_manager_result v_13 v_19 H_18 fun H_20 (v_21 : AC) (v_22 : Int) (v_23 : Int) =>
    Sto H_20 p_3 [v_21, (.int .i64 v_22)] fun H_24 =>
    Ld [.ac, .int .i64] H_24 p_3 fun (r0_25 : AC) (r1_26 : Int) =>
    Q H_24 r0_25 r1_26 v_23)
theorem solve_Not.ok {a0_0 : AC} {a0_1 : Int} {H : AHeap} (Q : AHeap → AC → Int → Int → Prop) : solve_Not.W a0_0 a0_1 H Q → wpF Try.prog solve_Not.c [.cell 2 true [.ac, .int .i64], .tm 3] (envOf [(.agg [a0_0, (.int .i64 a0_1)])]) H (solve_Not.KQ Q) := c_seq (c_ops (s_cons (w_put (o_box rfl (fun p_1 H_2 => s_cons (w_put (o_new (fun p_3 H_4 => s_cons (w_put (o_mov rfl (s_nil (k_seq (c_seq (c_seq (c_ops (s_cons (w_put (o_ld2 rfl (fun (v_5 : AC) (v_6 : Int) => s_cons (w_put (o_call rfl (cv_1 (fun H_7 (v_8 : Int) => s_cons (w_put (o_mov rfl (s_nil (k_seq (c_seq (c_ops (s_cons (w_put (o_mov rfl (s_cons (w_put (o_ne rfl rfl (s_nil (k_seq (c_if rfl (c_seq (c_ops (s_cons (w_put (o_bld rfl (s_cons (w_put (o_mov rfl (s_cons (w_run (o_st rfl rfl rfl (fun H_9 => s_cons (w_put (o_mov rfl (s_nil (k_seq (c_ret (k_seqR (k_topR (r_cell2 rfl (fun (r0_10 : AC) (r1_11 : Int) => r_one rfl (r_nil (fun h => ⟨(r0_10, (r1_11 : Int), (v_8 : Int), ()), rfl, h⟩))))))))))))))))))))))) (c_skip (k_seq (c_seq (c_ops (s_cons (w_put (o_call rfl (cv_1 (fun H_12 (v_13 : AC) => s_cons (w_put (o_mov rfl (s_nil (k_seq (c_seq (c_ops (s_cons (w_put (o_mov rfl (s_cons (w_put (o_mov rfl (s_cons (w_put (o_mov rfl (s_cons (w_put (o_ld2 rfl (fun (v_14 : AC) (v_15 : Int) => s_cons (w_put (o_call rfl (cv_1 (fun H_16 (v_17 : Int) => s_cons (w_put (o_call rfl (cv_1 (fun H_18 (v_19 : Int) => s_cons (w_put (o_call rfl (cv_a2_o1 (fun H_20 (v_21 : AC) (v_22 : Int) (v_23 : Int) => s_cons (w_put (o_ex rfl rfl rfl (s_cons (w_put (o_ex rfl rfl rfl (s_cons (w_run (o_st rfl rfl rfl (fun H_24 => s_cons (w_put (o_mov rfl (s_nil (k_seq (c_ret (k_topR (r_cell2 rfl (fun (r0_25 : AC) (r1_26 : Int) => r_one rfl (r_nil (fun h => ⟨(r0_25, (r1_26 : Int), (v_23 : Int), ()), rfl, h⟩)))))))))))))))))))))))))))))))))))))))))))))))))))))))))))))))))))))))))))))))))))))))))))))))))
theorem solve_Not.slimOk : slimOk [] (Try.f22.body.getD .skip) = true := by kernel_rfl
theorem solve_Not.resC : resC Try.prog aggs Try.f22.ntmps (slim [] (Try.f22.body.getD .skip)) = some solve_Not.c := by kernel_rfl
theorem solve_Not.resR : resR Try.prog Try.f22.results.toList = some [.cell 2 true [.ac, .int .i64], .tm 3] := by kernel_rfl
theorem solve_Not.bodyEq : Try.f22.body = some (Try.f22.body.getD .skip) := by kernel_rfl
theorem solve_Not.run {a0_0 : AC} {a0_1 : Int} {H : AHeap} {Q : AHeap → AC → Int → Int → Prop} (h : solve_Not.W a0_0 a0_1 H Q) : Fn.solve_Not a0_0 a0_1 H Q := by
  unfold Fn.solve_Not RunT
  exact run_of aggs_ok [] Try.func22 solve_Not.bodyEq solve_Not.slimOk solve_Not.resC solve_Not.resR (Nat.le_of_ble_eq_true (by kernel_rfl)) (solve_Not.ok Q h)

end Go.Proofs.Ytanaaabejeeakaa
end
section
/- Apply and Not. -/
namespace Go.Proofs.Ytanaaabejeeakaa
open Go.AI Go.AI.DT

/-- What an operation on diagrams answers: a fault, or the diagram of a function. -/
def ERes (H0 H : AHeap) (bad : Int) (g : (Nat → Bool) → Bool) (ns : AC) (root err : Int) : Prop :=
  (bad ≠ 0 ∧ err = bad ∧ root = 0 ∧ SlR H ns 3 []) ∨ (bad = 0 ∧ ∃ x : DT, x.RO ∧ (∀ ρ, x.eval ρ = g ρ) ∧ DResN H0 H x ns root err)
theorem emp {H H' : AHeap} {s : AC} {sz : Nat} (h : SlR H s sz []) : SlR H' s sz [] := by
  obtain ⟨a, z, cap, e, _⟩ := h.ex
  exact ⟨a, z, cap, e, fun i r hr => by simp at hr⟩
theorem ERes.keep {S : Nat → Prop} {H0 H H' : AHeap} {bad : Int} {g : (Nat → Bool) → Bool} {ns : AC} {root err : Int} (h : ERes H0 H bad g ns root err) (k : Keep S H H') (hS : ∀ y, S y → y < H0.size) : ERes H0 H' bad g ns root err := by
  rcases h with ⟨a, b, c, d⟩ | ⟨a, x, b, c, d⟩
  · exact .inl ⟨a, b, c, emp d⟩
  · exact .inr ⟨a, x, b, c, d.keep k hS⟩
theorem ERes.kp {H0 H H' : AHeap} {bad : Int} {g : (Nat → Bool) → Bool} {ns : AC} {root err : Int} (h : ERes H0 H bad g ns root err) (k : Kp H H') : ERes H0 H' bad g ns root err := h.keep k fun _ h => h.elim
theorem ERes.from {H0 H1 H : AHeap} {bad : Int} {g : (Nat → Bool) → Bool} {ns : AC} {root err : Int} (h : ERes H1 H bad g ns root err) (hs : H0.size ≤ H1.size) : ERes H0 H bad g ns root err := by
  rcases h with ⟨a, b, c, d⟩ | ⟨a, x, b, c, d⟩
  · exact .inl ⟨a, b, c, d⟩
  · exact .inr ⟨a, x, b, c, d.from hs⟩
theorem ERes.same {H0 H0' H : AHeap} {bad : Int} {g g' : (Nat → Bool) → Bool} {ns ns' : AC} {r r' e e' : Int} (h : ERes H0 H bad g ns r e) (h' : ERes H0' H bad g' ns' r' e') (hg : bad = 0 → ∀ ρ, g ρ = g' ρ) : e = e' ∧ r = r' ∧ ∃ l : List NRow, l.length ≤ 2000 ∧ SlR H ns 3 (nodeRows l) ∧ SlR H ns' 3 (nodeRows l) := by
  rcases h with ⟨a, rfl, rfl, d⟩ | ⟨a, x, b, c, d⟩ <;> rcases h' with ⟨a', rfl, rfl, d'⟩ | ⟨a', x', b', c', d'⟩
  · exact ⟨rfl, rfl, [], by simp, d, d'⟩
  · exact absurd a' a
  · exact absurd a a'
  · have : x = x' := canon' b b' fun ρ => (c ρ).trans ((hg a ρ).trans (c' ρ).symm)
    subst this
    exact d.res.same d'.res

/-- The function of a diagram. -/
def dVal (l : List NRow) (r : Int) (ρ : Nat → Bool) : Bool := (atR (bld l) r).eval ρ
end Go.Proofs.Ytanaaabejeeakaa
end
section
/- Not; the law that Apply follows the formulas. -/
namespace Go.Proofs.Ytanaaabejeeakaa
open Go.AI Go.AI.DT

theorem Not_c {ra : Int} {sa : AC} {la : List NRow} {H : AHeap} (ha : SlR H sa 3 (nodeRows la)) :
    Fn.solve_Not sa ra H fun H' ns root err => ERes H H' (dFault la ra) (fun ρ => !dVal la ra ρ) ns root err ∧ Kp H H' := by
  refine solve_Not.run ?_
  unfold solve_Not.W
  refine New.own fun b1 H1 hb1 hs1 o1 k1 => New.own fun b3 H3 hb3 hs3 o3 k3 => Ld.o2 (o1.kp k3) sa ra rfl ?_
  have kk := k1.trans k3
  refine RunT.imp ?_ (CheckDiagram_c (ha.kp kk))
  rintro H4 (q : Int) ⟨rfl, k4⟩
  have kk4 := kk.trans k4
  have hz4 := kk4.size
  refine CondB.ne (fun hne => ?_) fun he => ?_
  · refine Sto.own (o3.kp k4) (Nat.le_refl 2) fun H5 o5 k5 hs5 => ?_
    exact Ld.o2 o5 (.sl none 0 0 (some 0)) (0 : Int) rfl ⟨.inl ⟨hne, rfl, rfl, SlR.nil _ _⟩, kk4.fresh k5 fun y e => by have e' : y = b3 := e; omega⟩
  · obtain ⟨l1, c1⟩ := dFault_len he
    have hb14 := ((o1.kp k3).kp k4).lt
    have hb34 := (o3.kp k4).lt
    refine RunT.imp ?_ newManager_c
    rintro H6 m ⟨⟨F, hm, hF⟩, k6⟩
    have kk6 := kk4.trans k6
    refine Ld.o2 (((o1.kp k3).kp k4).kp k6) sa ra rfl (RunT.imp ?_ (add_c ha (Kp.old kk6) hm (fun x h => by have := hF x h; omega) c1.of.1 c1.of.2.1 c1.of.2.2.1 l1 (by simp)))
    rintro H7 qa ⟨F7, ts7, af7, in7, rfl⟩
    have k47 : Kp H4 H7 := k6.fresh af7.keep fun x h => hF x h
    have hl7 := af7.len
    have hF7 : ∀ x, F7 x → H4.size ≤ x := fun x h => (af7.fresh x h).elim (hF x) fun h => by have := k6.size; omega
    simp only [List.length_nil, Nat.zero_add] at hl7
    refine RunT.imp ?_ (not_c af7.mgr in7 (by omega))
    rintro H9 q ⟨F9, ts9, r, af9, in9, rfl, hev⟩
    have hl9 := af9.len
    have k49 : Kp H4 H9 := k47.fresh af9.keep fun x h => hF7 x h
    refine RunT.imp ?_ (result_c af9.mgr in9 (by omega))
    rintro H10 (ns : AC) (root : Int) (err : Int) ⟨hres, k10⟩
    have hz9 := k49.size
    have kk10 := (kk4.trans k49).trans k10
    refine Sto.own (((o3.kp k4).kp k49).kp k10) (Nat.le_refl 2) fun H11 o11 k11 hs11 => Ld.o2 o11 ns root rfl ⟨.inr ⟨he, r, af9.mgr.fin.ro in9, hev, ?_⟩, kk10.fresh k11 fun y e => by have e' : y = b3 := e; omega⟩
    exact (hres.keep k11 fun y e => by have e' : y = b3 := e; omega).from (by omega)

/-- An answer without fault: its diagram is one that is taken, and has that function. -/
theorem ERes.diag {H0 H : AHeap} {bad : Int} {g : (Nat → Bool) → Bool} {ns : AC} {root err : Int} (h : ERes H0 H bad g ns root err) (he : err = 0) : bad = 0 ∧ ∃ l : List NRow, SlR H ns 3 (nodeRows l) ∧ dFault l root = 0 ∧ l.length ≤ 2000 ∧ ∀ ρ, dVal l root ρ = g ρ := by
  rcases h with ⟨a, b, _, _⟩ | ⟨a, x, b, c, d⟩
  · exact absurd (b.symm.trans he) a
  · rcases d.res with ⟨_, d2, _⟩ | ⟨d1, _, rfl, d4⟩
    · rw [d2] at he; cases he
    · have hcan : CanonD (rowsOf x) (ref (ser x []) x) := ⟨x, b, rfl, rfl⟩
      have hl : (rowsOf x).length ≤ 2000 := by rw [List.length_map]; exact d1
      refine ⟨a, _, d4, dFault_zero hl hcan, hl, fun ρ => ?_⟩
      unfold dVal
      rw [bld_rows (ser_seq x [] b Seq.nil), atR_ref (ser_in x [])]
      exact c ρ
theorem ERes.zero {H0 H : AHeap} {bad : Int} {g : (Nat → Bool) → Bool} {ns : AC} {root err : Int} (h : ERes H0 H bad g ns root err) (he : err = 0) : bad = 0 := (h.diag he).1

end Go.Proofs.Ytanaaabejeeakaa
end
section
/- The table of a diagram. -/
namespace Go.Proofs.Ytanaaabejeeakaa
open Go.AI Go.AI.DT

end Go.Proofs.Ytanaaabejeeakaa
end
section
/- Rows that are those of trees, none twice; which walk makes them all. -/
namespace Go.AI
open DT

/-- The last of a walk is the tree itself. -/
theorem ser_last {v : Nat} {l h : DT} : ∃ st, ser (nd v l h) [] = st ++ [nd v l h] ∧ nd v l h ∉ st := by
  refine ⟨ser h (ser l []), ?_, ser_new (by simp)⟩
  simp only [ser]
  rw [if_neg (by simp)]
theorem CanonD.root {l : List NRow} {r : Int} (h : CanonD l r) : if l = [] then r = -1 ∨ r = -2 else r = (l.length : Int) - 1 := by
  obtain ⟨x, hx, rfl, rfl⟩ := h
  cases x with
  | leaf b => cases b <;> simp [ser, ref]
  | nd v a b =>
    obtain ⟨st, e, hn⟩ := ser_last (v := v) (l := a) (h := b)
    rw [e, if_neg (by simp), ref_new hn]
    simp
end Go.AI
end
section
/- The reference's check of a diagram. -/
namespace Go.Proofs.Ytanaaabejeeakaa
open Go.AI Go.AI.DT

end Go.Proofs.Ytanaaabejeeakaa
end
section
/- The reference's operations; the law that Apply and Not are these. -/
namespace Go.Proofs.Ytanaaabejeeakaa
open Go.AI Go.AI.DT

/-- A diagram that is taken is that of a tree. -/
theorem dTree {l : List NRow} {r : Int} (h : dFault l r = 0) : ∃ x : DT, x.RO ∧ (ser x []).length ≤ 2000 ∧ l = rowsOf x ∧ r = ref (ser x []) x ∧ ∀ ρ, dVal l r ρ = x.eval ρ := by
  obtain ⟨h1, h2⟩ := dFault_len h
  have hx := h2.of
  refine ⟨atR (bld l) r, hx.2.2.2.1, ?_, hx.2.2.2.2.1, hx.2.2.2.2.2, fun ρ => rfl⟩
  have := congrArg List.length hx.2.2.2.2.1
  rw [List.length_map] at this
  omega

end Go.Proofs.Ytanaaabejeeakaa
end
section
/- The reference's Apply; the law that Apply and Not are what is specified. -/
namespace Go.Proofs.Ytanaaabejeeakaa
open Go.AI Go.AI.DT

end Go.Proofs.Ytanaaabejeeakaa
end
section
/- Lists of lists of whole numbers. -/
namespace Go.Proofs.Ytanaaabejeeakaa
open Go.AI Go.AI.DT

def intRows (l : List Int) : List (List AC) := l.map fun n => [AC.int .i64 n]
theorem intRows_len (l : List Int) : (intRows l).length = l.length := by unfold intRows; rw [List.length_map]

/-- A list of lists, asx it lies in memory. -/
structure LL (H : AHeap) (s : AC) (Fo Gi : Nat → Prop) (L : List (List Int)) : Prop where
  ex : ∃ ss : List AC, OwnS H s 1 Fo (ss.map fun c => [c]) ∧ ss.length = L.length ∧ ∀ (i : Nat) (c : AC) (l : List Int), ss[i]? = some c → L[i]? = some l → SlR H c 1 (intRows l) ∧ ∀ b o z m cap, c = .sl (some (b, o)) z m cap → Gi b
  sep : ∀ y, Gi y → y < H.size ∧ ¬ Fo y
theorem LL.keep {S Fo Gi : Nat → Prop} {H H' : AHeap} {s : AC} {L : List (List Int)} (h : LL H s Fo Gi L) (k : Keep S H H') (hd : ∀ y, S y → ¬ Fo y ∧ ¬ Gi y) : LL H' s Fo Gi L := by
  obtain ⟨ss, h1, h2, h3⟩ := h.ex
  refine ⟨⟨ss, h1.keep k fun y hy => (hd y hy).1, h2, fun i c l hc hl => ?_⟩, fun y hy => ⟨Nat.lt_of_lt_of_le (h.sep y hy).1 k.size, (h.sep y hy).2⟩⟩
  obtain ⟨g1, g2⟩ := h3 i c l hc hl
  exact ⟨g1.keep k fun b o m cap z e hS => (hd b hS).2 (g2 b o _ _ _ e), g2⟩
theorem LL.kp {Fo Gi : Nat → Prop} {H H' : AHeap} {s : AC} {L : List (List Int)} (h : LL H s Fo Gi L) (k : Kp H H') : LL H' s Fo Gi L := h.keep k fun _ h => h.elim
theorem LL.nil (H : AHeap) : LL H (.sl none 0 0 (some 0)) (fun _ => False) (fun _ => False) [] := ⟨⟨[], OwnS.nil _ _, rfl, fun i c l h => by simp at h⟩, fun _ h => h.elim⟩
theorem LL.lt {Fo Gi : Nat → Prop} {H : AHeap} {s : AC} {L : List (List Int)} (h : LL H s Fo Gi L) : ∀ y, Fo y → y < H.size := by
  obtain ⟨ss, h1, _⟩ := h.ex
  exact h1.lt
theorem LL.len {Fo Gi : Nat → Prop} {H : AHeap} {s : AC} {L : List (List Int)} (h : LL H s Fo Gi L) {k : Int → Prop} (q : k (L.length : Int)) : LenS s k := by
  obtain ⟨ss, h1, h2, _⟩ := h.ex
  refine LenS.of h1.slr ?_
  rw [List.length_map, h2]
  exact q
/-- One list more. -/
theorem LL.app {Fo Gi G : Nat → Prop} {H : AHeap} {s x c : AC} {L : List (List Int)} {l : List Int} {e : Nat} {K : AC → AHeap → Prop} (h : LL H s Fo Gi L) (hx : ∃ p cap, x = .sl (some (p, 0)) 1 1 cap ∧ H.load (p, 0) 1 = some [c])
    (hc : SlR H c 1 (intRows l)) (hG : ∀ b o z m cap, c = .sl (some (b, o)) z m cap → G b) (hGl : ∀ y, G y → y < H.size ∧ ¬ Fo y) (hl : L.length ≤ 65536)
    (q : ∀ s' H', LL H' s' (fun y => Fo y ∨ y = H.size) (fun y => Gi y ∨ G y) (L ++ [l]) → Keep Fo H H' → H'.size = H.size + 1 → K s' H') : App e 1 24 s x H K := by
  obtain ⟨ss, h1, h2, h3⟩ := h.ex
  refine App.own h1 (r := [c]) hx rfl (by rw [List.length_map]; omega) (by rw [List.length_map]; omega) fun s' H' sl' k' hs' => q s' H' ⟨⟨ss ++ [c], ?_, by simp [h2], fun i d m hd hm => ?_⟩, fun y hy => ?_⟩ k' hs'
  · rw [List.map_append]
    exact sl'
  · by_cases hi : i < L.length
    · rw [List.getElem?_append_left (by omega)] at hd hm
      obtain ⟨g1, g2⟩ := h3 i d m hd hm
      exact ⟨g1.keep k' fun b o m cap z e hF => (h.sep b (g2 b o _ _ _ e)).2 hF, fun b o z m cap e => .inl (g2 b o z m cap e)⟩
    · have hi' : i = L.length := by
        have := (List.getElem?_eq_some_iff.1 hm).1
        simp at this; omega
      subst hi'
      rw [List.getElem?_append_right (by omega)] at hd hm
      simp [h2] at hd hm
      subst hd hm
      exact ⟨hc.keep k' fun b o m cap z e hF => (hGl b (hG b o _ _ _ e)).2 hF, fun b o z m cap e => .inr (hG b o z m cap e)⟩
  · have hy' : y < H.size ∧ ¬ Fo y := hy.elim (h.sep y) (hGl y)
    exact ⟨by omega, fun e => e.elim hy'.2 fun e => by omega⟩

end Go.Proofs.Ytanaaabejeeakaa
end
section
/- The assignments for which a tree is true, in order. -/
namespace Go.AI
open DT

def asg (n i : Nat) : Nat → Bool := fun w => decide (w < n) && i.testBit (n - 1 - w)
def bitsL (n i : Nat) : List Int := (List.range n).map fun w => if i.testBit (n - 1 - w) then 1 else 0
def mR (n : Nat) (g : (Nat → Bool) → Bool) (a k : Nat) : List (List Int) := ((List.range' a k).filter fun i => g (asg n i)).map (bitsL n)

theorem mR_congr {n : Nat} {g g' : (Nat → Bool) → Bool} {a k : Nat} (h : ∀ i, a ≤ i → i < a + k → g (asg n i) = g' (asg n i)) : mR n g a k = mR n g' a k := by
  unfold mR
  congr 1
  apply List.filter_congr
  intro i hi
  rw [List.mem_range'_1] at hi
  rw [h i hi.1 hi.2]
theorem mR_append (n : Nat) (g : (Nat → Bool) → Bool) (a k m : Nat) : mR n g a (k + m) = mR n g a k ++ mR n g (a + k) m := by
  unfold mR
  rw [← List.map_append, ← List.filter_append]
  congr 2
  have := List.range'_append (s := a) (m := k) (n := m) (step := 1)
  rw [Nat.one_mul] at this
  exact this.symm
theorem bit_of {p K j : Nat} (hK : K = 2 ^ j) {i : Nat} (h1 : p * K ≤ i) (h2 : i < p * K + K) : i.testBit j = decide (p % 2 = 1) := by
  have hd : i / 2 ^ j = p := by
    rw [← hK]
    have hpos : 0 < K := by rw [hK]; exact Nat.two_pow_pos j
    apply Nat.div_eq_of_lt_le
    · exact h1
    · rw [Nat.add_mul, Nat.one_mul]; exact h2
  rw [Nat.testBit_eq_decide_div_mod_eq, hd]
theorem mR_split {n v p : Nat} {x : DT} (hv : v < n) (hn : n ≤ 16) (hx : x.RO) (ht : v ≤ x.top) :
    mR n x.eval (p * 2 ^ (n - v)) (2 ^ (n - v)) = mR n (x.lo v).eval ((2 * p) * 2 ^ (n - (v + 1))) (2 ^ (n - (v + 1))) ++ mR n (x.hi v).eval ((2 * p + 1) * 2 ^ (n - (v + 1))) (2 ^ (n - (v + 1))) := by
  obtain ⟨K, hK⟩ : ∃ K, K = 2 ^ (n - (v + 1)) := ⟨_, rfl⟩
  have e : 2 ^ (n - v) = K + K := by
    rw [show n - v = (n - (v + 1)) + 1 from by omega, Nat.pow_succ, ← hK]; omega
  rw [e, ← hK, mR_append]
  have e1 : p * (K + K) = (2 * p) * K := by rw [Nat.mul_add, Nat.mul_assoc, Nat.two_mul]
  have e2 : p * (K + K) + K = (2 * p + 1) * K := by rw [e1, Nat.add_mul, Nat.one_mul]
  rw [e2, e1]
  have hj : n - 1 - v = n - (v + 1) := by omega
  congr 1
  · refine mR_congr fun i h1 h2 => ?_
    have hb := bit_of (p := 2 * p) (j := n - (v + 1)) hK h1 h2
    refine ((lo_spec hx ht (by omega)).2.2 _ ?_).symm
    unfold asg
    rw [hj, hb]
    simp
  · refine mR_congr fun i h1 h2 => ?_
    have hb := bit_of (p := 2 * p + 1) (j := n - (v + 1)) hK h1 h2
    refine ((hi_spec hx ht (by omega)).2.2 _ ?_).symm
    unfold asg
    rw [hj, hb]
    simp [hv]
theorem varsLt_lo {n : Nat} {x : DT} (v : Nat) (h : VarsLt n x) : VarsLt n (x.lo v) ∧ VarsLt n (x.hi v) := by
  cases x with
  | leaf b => exact ⟨h, h⟩
  | nd w l r =>
    simp only [lo, hi]
    split
    · exact ⟨h.2.1, h.2.2⟩
    · exact ⟨h, h⟩
theorem cnt_split {n v : Nat} {x : DT} (hv : v < n) (ht : v ≤ x.top) : cnt n v x = cnt n (v + 1) (x.lo v) + cnt n (v + 1) (x.hi v) := by
  have e : n - v = (n - (v + 1)) + 1 := by omega
  cases x with
  | leaf b =>
    cases b with
    | false => rfl
    | true => simp only [lo, hi, cnt]; rw [e, Nat.pow_succ]; omega
  | nd w l r =>
    simp only [top] at ht
    simp only [lo, hi]
    split
    · next h => subst h; simp only [cnt, Nat.sub_self, Nat.pow_zero, Nat.mul_one]
    · next h =>
      simp only [cnt]
      rw [show w - v = (w - (v + 1)) + 1 from by omega, Nat.pow_succ, ← Nat.mul_assoc]
      omega
theorem mR_base {n p : Nat} {x : DT} (hvl : VarsLt n x) (ht : n ≤ x.top) : mR n x.eval (p * 2 ^ (n - n)) (2 ^ (n - n)) = if x = leaf true then [bitsL n p] else [] := by
  rw [Nat.sub_self, Nat.pow_zero, Nat.mul_one]
  cases x with
  | leaf b => cases b <;> simp [mR, eval]
  | nd w l r => have := hvl.1; simp only [top] at ht; omega
theorem cnt_mR {n : Nat} (hn : n ≤ 16) : ∀ (k v p : Nat) (x : DT), n - v = k → v ≤ n → x.RO → VarsLt n x → v ≤ x.top → (mR n x.eval (p * 2 ^ (n - v)) (2 ^ (n - v))).length = cnt n v x := by
  intro k
  induction k with
  | zero =>
    intro v p x hk hv hx hvl ht
    have : v = n := by omega
    subst this
    rw [mR_base hvl ht]
    cases x with
    | leaf b => cases b <;> simp [cnt]
    | nd w l r => have := hvl.1; simp only [top] at ht; omega
  | succ k ih =>
    intro v p x hk hv hx hvl ht
    have h1 := lo_spec hx ht (by omega)
    have h2 := hi_spec hx ht (by omega)
    have h3 := varsLt_lo v hvl
    rw [mR_split (by omega) hn hx ht, List.length_append, ih (v + 1) (2 * p) (x.lo v) (by omega) (by omega) h1.1 h3.1 (by have := h1.2.1; omega), ih (v + 1) (2 * p + 1) (x.hi v) (by omega) (by omega) h2.1 h3.2 (by have := h2.2.1; omega), cnt_split (by omega) ht]

def neg : DT → DT
  | leaf b => leaf (!b)
  | nd v l h => nd v (neg l) (neg h)
theorem neg_neg' : ∀ x : DT, neg (neg x) = x
  | leaf b => by simp [neg]
  | nd v l h => by simp only [neg, neg_neg' l, neg_neg' h]
theorem neg_top (x : DT) : (neg x).top = x.top := by cases x <;> rfl
theorem neg_eval (ρ : Nat → Bool) : ∀ x : DT, (neg x).eval ρ = !x.eval ρ
  | leaf b => rfl
  | nd v l h => by
    simp only [neg, eval, neg_eval ρ l, neg_eval ρ h]
    split <;> rfl
theorem neg_RO : ∀ x : DT, x.RO → (neg x).RO
  | leaf b, _ => trivial
  | nd v l h, ⟨h1, h2, h3, h4, h5, h6⟩ => ⟨h1, fun e => h2 (by rw [← neg_neg' l, e, neg_neg']), by rw [neg_top]; exact h3, by rw [neg_top]; exact h4, neg_RO l h5, neg_RO h h6⟩
theorem neg_vars {n : Nat} : ∀ x : DT, VarsLt n x → VarsLt n (neg x)
  | leaf b, _ => trivial
  | nd v l h, ⟨h1, h2, h3⟩ => ⟨h1, neg_vars l h2, neg_vars h h3⟩
theorem filter_both {α : Type} (p : α → Bool) : ∀ l : List α, (l.filter p).length + (l.filter fun a => !p a).length = l.length
  | [] => rfl
  | a :: l => by
    have := filter_both p l
    simp only [List.filter_cons]
    cases p a <;> simp <;> omega
theorem cnt_neg {n : Nat} {x : DT} (hn : n ≤ 16) (hx : x.RO) (hvl : VarsLt n x) : cnt n 0 x + cnt n 0 (neg x) = 2 ^ n := by
  rw [← cnt_mR hn n 0 0 x (by omega) (by omega) hx hvl (by omega), ← cnt_mR hn n 0 0 (neg x) (by omega) (by omega) (neg_RO x hx) (neg_vars x hvl) (by omega)]
  unfold mR
  rw [List.length_map, List.length_map]
  have e : ((List.range' (0 * 2 ^ (n - 0)) (2 ^ (n - 0))).filter fun i => (neg x).eval (asg n i)) = (List.range' (0 * 2 ^ (n - 0)) (2 ^ (n - 0))).filter fun i => !x.eval (asg n i) := by
    congr 1
    funext i
    exact neg_eval _ x
  rw [e, filter_both, List.length_range', Nat.sub_zero]
end Go.AI
end
section
/- The reference's models. -/
namespace Go.Proofs.Ytanaaabejeeakaa
open Go.AI Go.AI.DT

end Go.Proofs.Ytanaaabejeeakaa
end
section
/- Cloning a list of whole numbers. -/
namespace Go.Proofs.Ytanaaabejeeakaa
open Go.AI Go.AI.DT

theorem clone_c {cb : Nat} {l : List Int} {H : AHeap} (hc : Own H cb (l.map (AC.int .i64))) (hl : l.length ≤ 64) :
    Fn.slices_Clone_int_int (.sl (some (cb, 0)) 1 l.length (some l.length)) H fun H' q => SlR H' q 1 (intRows l) ∧ (∀ b o z m cap, q = .sl (some (b, o)) z m cap → H.size ≤ b ∧ b < H'.size) ∧ Kp H H' := by
  refine slices_Clone_int_int.run ?_
  unfold slices_Clone_int_int.W
  simp only [NilQ]
  refine CondB.neg rfl (NewS.own fun b H1 hb hs1 ob k1 => ?_)
  have hc1 := hc.kp k1
  by_cases h0 : l.length = 0
  · have hl0 : l = [] := List.eq_nil_of_length_eq_zero h0
    subst hl0
    refine App.mk (n := 0) (cs := []) (s' := .sl (some (b, 0)) 1 0 (some 0)) (H' := H1) ?_ ?_ ⟨?_, fun b' o z m cap e => ?_, k1⟩
    · simp [srcA]
    · simp [appendA, maxBytes]
    · exact ⟨some (b, 0), 1, some 0, rfl, fun i r h => by simp [intRows] at h⟩
    · cases e; constructor <;> omega
  · have hld := hc1.all
    rw [List.length_map] at hld
    obtain ⟨e, hg⟩ := ob.get
    refine App.mk (n := l.length) (cs := l.map (AC.int .i64)) (s' := .sl (some (H1.size, 0)) 1 l.length none) (H' := H1.newRow 3 ((l.map (AC.int .i64)).map some)) ?_ ?_ ⟨?_, fun b' o z m cap e => ?_, k1.trans (Kp.newRow _ _ _)⟩
    · simp only [srcA, if_neg h0, Nat.mul_one, hld]
      rfl
    · have hmx : ¬ ((0 + l.length) * 8 > maxBytes ∨ 0 + l.length > 4611686018427387904) := by unfold maxBytes; omega
      simp only [appendA, if_neg hmx, if_neg h0, hg]
      simp
      intro h
      exact h0 (by rw [h]; rfl)
    · refine ⟨some (H1.size, 0), 1, none, by rw [intRows_len], fun i r hr => ⟨rfl, H1.size, 0, rfl, ?_⟩⟩
      unfold intRows at hr
      rw [List.getElem?_map, Option.map_eq_some_iff] at hr
      obtain ⟨x, hx, rfl⟩ := hr
      have hown : Own (H1.newRow 3 ((l.map (AC.int .i64)).map some)) H1.size (l.map (AC.int .i64)) := ⟨⟨3, by rw [AHeap.get_newRow, if_pos rfl]⟩, by rw [AHeap.ext_newRow, if_pos rfl]⟩
      rw [Nat.zero_add, Nat.mul_one]
      exact hown.cell (by rw [List.getElem?_map, hx]; rfl)
    · cases e
      have := k1.size
      refine ⟨by omega, by simp⟩

theorem lt59 : 59 < Try.prog.funcs.size := (Array.getElem?_eq_some_iff.1 Try.func59).1
end Go.Proofs.Ytanaaabejeeakaa
end
section
/- The bits of an assignment, one after another. -/
namespace Go.AI
open DT

theorem bitsL_len (n i : Nat) : (bitsL n i).length = n := by unfold bitsL; rw [List.length_map, List.length_range]
theorem bitsL_get {n i w : Nat} (hw : w < n) : (bitsL n i)[w]? = some (if i.testBit (n - 1 - w) then 1 else 0) := by
  unfold bitsL
  rw [List.getElem?_map, List.getElem?_range hw]
  rfl
theorem bit_pre {n v p b w : Nat} (hv : v < n) (hb : b < 2) (hw : w < v) : ((2 * p + b) * 2 ^ (n - (v + 1))).testBit (n - 1 - w) = (p * 2 ^ (n - v)).testBit (n - 1 - w) := by
  rw [Nat.testBit_mul_two_pow, Nat.testBit_mul_two_pow, decide_eq_true (show n - (v + 1) ≤ n - 1 - w by omega), decide_eq_true (show n - v ≤ n - 1 - w by omega)]
  rw [show n - 1 - w - (n - (v + 1)) = (n - 1 - w - (n - v)) + 1 from by omega, Nat.testBit_succ, show (2 * p + b) / 2 = p from by omega]
theorem bit_now {n v p b : Nat} (hv : v < n) (hb : b < 2) : ((2 * p + b) * 2 ^ (n - (v + 1))).testBit (n - 1 - v) = decide (b = 1) := by
  rw [Nat.testBit_mul_two_pow, decide_eq_true (show n - (v + 1) ≤ n - 1 - v by omega), show n - 1 - v - (n - (v + 1)) = 0 from by omega, Nat.testBit_zero]
  rw [Bool.true_and]
  congr 1
  apply propext
  constructor <;> intro h <;> omega
theorem bits_step {n v p b : Nat} (hv : v < n) (hb : b < 2) {l : List Int} (hl : l.length = n) (h : l.take v = (bitsL n (p * 2 ^ (n - v))).take v) :
    (l.set v (b : Int)).take (v + 1) = (bitsL n ((2 * p + b) * 2 ^ (n - (v + 1)))).take (v + 1) := by
  apply List.ext_getElem?
  intro w
  rw [List.getElem?_take, List.getElem?_take]
  by_cases hw : w < v + 1
  · rw [if_pos hw, if_pos hw, bitsL_get (by omega)]
    by_cases hwv : w = v
    · subst hwv
      rw [List.getElem?_set_self (by omega), bit_now hv hb]
      have : b = 0 ∨ b = 1 := by omega
      rcases this with rfl | rfl <;> rfl
    · rw [List.getElem?_set_ne (by omega), bit_pre hv hb (by omega)]
      have e := congrArg (fun z => z[w]?) h
      simp only [List.getElem?_take] at e
      rw [if_pos (by omega), if_pos (by omega), bitsL_get (by omega)] at e
      exact e
  · rw [if_neg hw, if_neg hw]
theorem bits_all {n p : Nat} {l : List Int} (hl : l.length = n) (h : l.take n = (bitsL n (p * 2 ^ (n - n))).take n) : l = bitsL n p := by
  rw [Nat.sub_self, Nat.pow_zero, Nat.mul_one] at h
  rwa [List.take_of_length_le (by omega), List.take_of_length_le (by rw [bitsL_len]; omega)] at h
theorem take_take_append {α : Type} (X Y : List α) (m : Nat) : (X.take m ++ Y).take m = (X ++ Y).take m := by
  by_cases h : X.length ≤ m
  · rw [List.take_of_length_le h]
  · rw [List.take_append_of_le_length (by rw [List.length_take]; omega), List.take_append_of_le_length (by omega), List.take_take, Nat.min_self]
end Go.AI
end
section
/- Models: the walk. -/
namespace Go.Proofs.Ytanaaabejeeakaa
open Go.AI Go.AI.DT

/-- Where the walk keeps what it has. -/
structure MP where
  (ob mb nb vb xb sb cb : Nat)
def MP.loc (p : MP) (y : Nat) : Prop := y = p.ob ∨ y = p.mb ∨ y = p.nb ∨ y = p.vb ∨ y = p.xb ∨ y = p.sb ∨ y = p.cb
structure MS (H : AHeap) (p : MP) (s : AC) (r0 : Int) (n : Nat) (most : Int) (Fo Gi : Nat → Prop) (L : List (List Int)) (cs : List Int) : Prop where
  o1 : ∃ out, Own H p.ob [out] ∧ LL H out Fo Gi L
  o2 : Own H p.mb [.int .i64 most]
  o3 : Own H p.nb [.int .i64 (n : Int)]
  o4 : Own H p.vb [.sl (some (p.cb, 0)) 1 n (some n)]
  o5 : Own H p.xb [s, .int .i64 r0]
  o6 : Own H p.sb [.fn 59 [] [(p.ob, 0), (p.mb, 0), (p.nb, 0), (p.vb, 0), (p.xb, 0), (p.sb, 0)]]
  oc : Own H p.cb (cs.map (AC.int .i64))
  len : cs.length = n
  d : ∀ y, Fo y ∨ Gi y → ¬ p.loc y
  ne1 : p.ob ≠ p.mb ∧ p.ob ≠ p.nb ∧ p.ob ≠ p.vb ∧ p.ob ≠ p.xb ∧ p.ob ≠ p.sb ∧ p.ob ≠ p.cb
  ne2 : p.cb ≠ p.mb ∧ p.cb ≠ p.nb ∧ p.cb ≠ p.vb ∧ p.cb ≠ p.xb ∧ p.cb ≠ p.sb
theorem MS.kp {H H' : AHeap} {p : MP} {s : AC} {r0 : Int} {n : Nat} {most : Int} {Fo Gi : Nat → Prop} {L : List (List Int)} {cs : List Int} (h : MS H p s r0 n most Fo Gi L cs) (k : Kp H H') : MS H' p s r0 n most Fo Gi L cs :=
  ⟨let ⟨o, a, b⟩ := h.o1; ⟨o, a.kp k, b.kp k⟩, h.o2.kp k, h.o3.kp k, h.o4.kp k, h.o5.kp k, h.o6.kp k, h.oc.kp k, h.len, h.d, h.ne1, h.ne2⟩
theorem MS.lt {H : AHeap} {p : MP} {s : AC} {r0 : Int} {n : Nat} {most : Int} {Fo Gi : Nat → Prop} {L : List (List Int)} {cs : List Int} (h : MS H p s r0 n most Fo Gi L cs) : ∀ y, p.loc y → y < H.size := by
  obtain ⟨out, a, _⟩ := h.o1
  rintro y (e | e | e | e | e | e | e)
  · rw [e]; exact a.lt
  · rw [e]; exact h.o2.lt
  · rw [e]; exact h.o3.lt
  · rw [e]; exact h.o4.lt
  · rw [e]; exact h.o5.lt
  · rw [e]; exact h.o6.lt
  · rw [e]; exact h.oc.lt
def MT (p : MP) (Fo : Nat → Prop) (y : Nat) : Prop := y = p.ob ∨ y = p.cb ∨ Fo y
/-- A value is written. -/
theorem MS.put {H : AHeap} {p : MP} {s : AC} {r0 : Int} {n : Nat} {most : Int} {Fo Gi : Nat → Prop} {L : List (List Int)} {cs : List Int} (h : MS H p s r0 n most Fo Gi L cs) {v : Nat} (hv : v < n) {b : Int} {K : AHeap → Prop}
    (q : ∀ H', MS H' p s r0 n most Fo Gi L (cs.set v b) → Keep (fun y => y = p.cb) H H' → H'.size = H.size → K H') : Sto H (.ptr (some (p.cb, 0 + (v : Int).toNat * 1))) [.int .i64 b] K := by
  have hcl := h.len
  refine Sto.cell h.oc (by simp [hcl]; omega) fun H' oc' k' hs' => q H' ?_ k' hs'
  obtain ⟨out, a, b'⟩ := h.o1
  have hcb : p.loc p.cb := .inr (.inr (.inr (.inr (.inr (.inr rfl)))))
  refine ⟨⟨out, a.keep k' (fun e => h.ne1.2.2.2.2.2 e), b'.keep k' fun y e => ?_⟩, h.o2.keep k' (fun e => h.ne2.1 e.symm), h.o3.keep k' (fun e => h.ne2.2.1 e.symm), h.o4.keep k' (fun e => h.ne2.2.2.1 e.symm), h.o5.keep k' (fun e => h.ne2.2.2.2.1 e.symm), h.o6.keep k' (fun e => h.ne2.2.2.2.2 e.symm), ?_, by rw [List.length_set, hcl], h.d, h.ne1, h.ne2⟩
  · subst e
    exact ⟨fun e => h.d _ (.inl e) hcb, fun e => h.d _ (.inr e) hcb⟩
  · rw [List.map_set]
    simpa using oc'

def MPost (H : AHeap) (p : MP) (s : AC) (r0 : Int) (n : Nat) (most : Int) (Fo : Nat → Prop) (v : Nat) (L' : List (List Int)) (cs : List Int) (H' : AHeap) : Prop :=
  ∃ Fo' Gi' cs', MS H' p s r0 n most Fo' Gi' L' cs' ∧ cs'.take v = cs.take v ∧ Keep (MT p Fo) H H' ∧ ∀ y, Fo' y → Fo y ∨ H.size ≤ y
end Go.Proofs.Ytanaaabejeeakaa
end
section
/- Models: the walk itself. -/
namespace Go.Proofs.Ytanaaabejeeakaa
open Go.AI Go.AI.DT

theorem mR_false (n a k : Nat) : mR n (leaf false).eval a k = [] := by
  unfold mR
  simp [eval]

theorem walk_m {st : List DT} {s : AC} {r0 : Int} {n : Nat} {most : Int} {p : MP} {H0 : AHeap} (hn : n ≤ 16) (hs : SlR H0 s 3 (nodeRows (st.map (row st)))) (hfin : Fin st) (hm0 : 0 ≤ most) (hm1 : most ≤ 2000) (hloc : ∀ y, p.loc y → H0.size ≤ y) :
    ∀ (k v pp : Nat) (t : DT) {H : AHeap} {Fo Gi : Nat → Prop} {L : List (List Int)} {cs : List Int}, n - v = k → v ≤ n → In st t → t.RO → VarsLt n t → v ≤ t.top → MS H p s r0 n most Fo Gi L cs → Old H0 H → (∀ y, Fo y → H0.size ≤ y) → (L.length : Int) ≤ most → cs.take v = (bitsL n (pp * 2 ^ (n - v))).take v →
      Fn.solve_Models_1 (ref st t) (v : Int) (.ptr (some (p.ob, 0))) (.ptr (some (p.mb, 0))) (.ptr (some (p.nb, 0))) (.ptr (some (p.vb, 0))) (.ptr (some (p.xb, 0))) (.ptr (some (p.sb, 0))) H fun H' => MPost H p s r0 n most Fo v ((L ++ mR n t.eval (pp * 2 ^ (n - v)) (2 ^ (n - v))).take most.toNat) cs H' := by
  intro k
  induction k with
  | zero =>
    intro v pp t H Fo Gi L cs hk hv hin hro hvl htop ms hold hFo hL hpre
    have hvn : v = n := by omega
    subst hvn
    have hLt : L.take most.toNat = L := List.take_of_length_le (by omega)
    refine solve_Models_1.run ?_
    unfold solve_Models_1.W
    have skip : (L ++ mR v t.eval (pp * 2 ^ (v - v)) (2 ^ (v - v))).take most.toNat = L → MPost H p s r0 v most Fo v ((L ++ mR v t.eval (pp * 2 ^ (v - v)) (2 ^ (v - v))).take most.toNat) cs H := fun e =>
      ⟨Fo, Gi, cs, by rw [e]; exact ms, rfl, Keep.refl _ _, fun y h => .inl h⟩
    unfold solve_Models_1.p3
    refine CondB.eq (fun h => CondB.pos rfl (skip ?_)) fun h => ?_
    · rw [ref_false.1 h, mR_false, List.append_nil, hLt]
    obtain ⟨out, ho, hll⟩ := ms.o1
    refine Ld.oc ho rfl (hll.len (Ld.oi ms.o2 rfl (CondB.dec (fun h1 => skip ?_) fun h1 => Ld.oi ms.o3 rfl (CondB.pos (by simp) ?_))))
    · have h1' : most ≤ (L.length : Int) := h1
      rw [List.take_append_of_le_length (by omega), hLt]
    have ht : t = leaf true := by
      cases t with
      | leaf b => cases b with
        | false => exact absurd rfl h
        | true => rfl
      | nd w l r => have := hvl.1; simp only [top] at htop; omega
    have hcs : cs = bitsL v pp := bits_all ms.len hpre
    refine Ld.oc ho rfl (Ld.oc ms.o4 rfl ?_)
    have hcl := ms.len
    have hcl' : (.sl (some (p.cb, 0)) 1 v (some v) : AC) = .sl (some (p.cb, 0)) 1 cs.length (some cs.length) := by rw [hcl]
    rw [hcl']
    refine RunT.imp ?_ (clone_c ms.oc (by omega))
    rintro H1 (c : AC) ⟨hc, hcb, k1⟩
    refine NewS.own fun pb H2 hpb hs2 op k2 => ?_
    have k12 := k1.trans k2
    have hz1 := k1.size
    have hd := ms.d
    have hob : p.loc p.ob := .inl rfl
    have hlt := hll.lt
    refine (hll.kp k12).app (c := c) (l := cs) (G := fun y => ∃ o z m cap, c = .sl (some (y, o)) z m cap) ⟨pb, _, rfl, op.all⟩ (hc.kp k2) (fun b o z m cap e => ⟨o, z, m, cap, e⟩) (fun y hy => ?_) (by omega) fun s' H3 ll3 k3 hs3 => ?_
    · obtain ⟨o, z, m, cap, e⟩ := hy
      have h2 := hcb y o z m cap e
      have := k2.size
      exact ⟨by omega, fun hF => by have := hlt y hF; omega⟩
    have ms2 := ms.kp k12
    have ho3 := (ho.kp k12).keep k3 (fun e => hd _ (.inl e) hob)
    refine Sto.own ho3 (Nat.le_refl 1) fun H4 o4 k4 hs4 => ⟨Same1.mk (((ho.kp k1).cell rfl).trans (ho.cell rfl).symm), ?_⟩
    have hz2 := k2.size
    have out : ∀ {b : Nat} {z : List AC}, p.loc b → b ≠ p.ob → Own H2 b z → Own H4 b z := fun hl hne h => (h.keep k3 fun e => hd _ (.inl e) hl).keep k4 hne
    have hobl := ho.lt
    have e2 : (L ++ mR v t.eval (pp * 2 ^ (v - v)) (2 ^ (v - v))).take most.toNat = L ++ [cs] := by
      rw [mR_base hvl htop, if_pos ht, ← hcs, List.take_of_length_le (by simp; omega)]
    rw [e2]
    refine ⟨_, _, cs, ⟨⟨s', o4, ll3.keep k4 fun y e => ?_⟩, out (.inr (.inl rfl)) (fun e => ms.ne1.1 e.symm) ms2.o2, out (.inr (.inr (.inl rfl))) (fun e => ms.ne1.2.1 e.symm) ms2.o3, out (.inr (.inr (.inr (.inl rfl)))) (fun e => ms.ne1.2.2.1 e.symm) ms2.o4,
      out (.inr (.inr (.inr (.inr (.inl rfl))))) (fun e => ms.ne1.2.2.2.1 e.symm) ms2.o5, out (.inr (.inr (.inr (.inr (.inr (.inl rfl)))))) (fun e => ms.ne1.2.2.2.2.1 e.symm) ms2.o6, out (.inr (.inr (.inr (.inr (.inr (.inr rfl)))))) (fun e => ms.ne1.2.2.2.2.2 e.symm) ms2.oc, ms.len, fun y hy hl => ?_, ms.ne1, ms.ne2⟩, rfl, ?_, ?_⟩
    · have e' : y = p.ob := e
      subst e'
      refine ⟨fun h => h.elim (fun h => hd _ (.inl h) hob) fun h => by omega, fun h => h.elim (fun h => hd _ (.inr h) hob) fun ⟨o, z, m, cap, e⟩ => ?_⟩
      have := (hcb _ o z m cap e).1
      omega
    · have hlo := ms.lt y hl
      rcases hy with (h | h) | (h | ⟨o, z, m, cap, e⟩)
      · exact hd y (.inl h) hl
      · omega
      · exact hd y (.inr h) hl
      · have := (hcb y o z m cap e).1
        omega
    · exact Keep.trans (Keep.trans (k12.mono fun _ _ h => h.elim) k3 fun y _ e => .inr (.inr e)) k4 fun y _ e => .inl e
    · rintro y (h | h)
      · exact .inl h
      · exact .inr (by omega)
  | succ k ih =>
    intro v pp t H Fo Gi L cs hk hv hin hro hvl htop ms hold hFo hL hpre
    have hvn : v < n := by omega
    have hLt : L.take most.toNat = L := List.take_of_length_le (by omega)
    refine solve_Models_1.run ?_
    unfold solve_Models_1.W
    have skip : (L ++ mR n t.eval (pp * 2 ^ (n - v)) (2 ^ (n - v))).take most.toNat = L → MPost H p s r0 n most Fo v ((L ++ mR n t.eval (pp * 2 ^ (n - v)) (2 ^ (n - v))).take most.toNat) cs H := fun e =>
      ⟨Fo, Gi, cs, by rw [e]; exact ms, rfl, Keep.refl _ _, fun y h => .inl h⟩
    unfold solve_Models_1.p3
    refine CondB.eq (fun h => CondB.pos rfl (skip ?_)) fun h => ?_
    · rw [ref_false.1 h, mR_false, List.append_nil, hLt]
    obtain ⟨out, ho, hll⟩ := ms.o1
    refine Ld.oc ho rfl (hll.len (Ld.oi ms.o2 rfl (CondB.dec (fun h1 => skip ?_) fun h1 => Ld.oi ms.o3 rfl (CondB.neg (by simp; omega) ?_))))
    · have h1' : most ≤ (L.length : Int) := h1
      rw [List.take_append_of_le_length (by omega), hLt]
    rw [mR_split hvn hn hro htop]
    obtain ⟨M0, hM0⟩ : ∃ M0, M0 = mR n (t.lo v).eval ((2 * pp) * 2 ^ (n - (v + 1))) (2 ^ (n - (v + 1))) := ⟨_, rfl⟩
    obtain ⟨M1, hM1⟩ : ∃ M1, M1 = mR n (t.hi v).eval ((2 * pp + 1) * 2 ^ (n - (v + 1))) (2 ^ (n - (v + 1))) := ⟨_, rfl⟩
    rw [← hM0, ← hM1]
    obtain ⟨Lb, hLb⟩ : ∃ Lb : Nat → List (List Int), Lb = fun b => (L ++ if b = 0 then [] else if b = 1 then M0 else M0 ++ M1).take most.toNat := ⟨_, rfl⟩
    unfold solve_Models_1.l17
    refine LoopT.rule (fun m s0 H1 => ∃ (b : Nat) (Fo1 Gi1 : Nat → Prop) (cs1 : List Int), b ≤ 2 ∧ m = 2 - b ∧ s0 = (ref st t, (v : Int), .ptr (some (p.vb, 0)), .ptr (some (p.xb, 0)), .ptr (some (p.sb, 0)), (b : Int), ()) ∧ MS H1 p s r0 n most Fo1 Gi1 (Lb b) cs1 ∧ cs1.take v = cs.take v ∧ Keep (MT p Fo) H H1 ∧ ∀ y, Fo1 y → Fo y ∨ H.size ≤ y) 2
      ⟨0, Fo, Gi, cs, by omega, rfl, rfl, by rw [hLb]; simp only [if_true, List.append_nil]; rw [hLt]; exact ms, rfl, Keep.refl _ _, fun y h => .inl h⟩ ?_
    rintro m s0 H1 back ⟨b, Fo1, Gi1, cs1, hb, rfl, rfl, ms1, hcs1, k1, fr1⟩ hback
    simp only [solve_Models_1.b17]
    refine CondB.dec (fun hlt => ?_) fun hge => ?_
    · have hb2 : b < 2 := by omega
      have old1 : Old H0 H1 := hold.keep k1 fun y e => by
        rcases e with e | e | e
        · exact hloc y (.inl e)
        · exact hloc y (.inr (.inr (.inr (.inr (.inr (.inr e))))))
        · exact hFo y e
      have hz0 := hold.1
      have hFo1 : ∀ y, Fo1 y → H0.size ≤ y := fun y e => (fr1 y e).elim (hFo y) fun e => by omega
      refine Ld.oc ms1.o4 rfl (IA.mk (by omega) (by omega) (ms1.put hvn fun H2 ms2 k2 hs2 => ?_))
      have old2 : Old H0 H2 := old1.keep k2 fun y e => hloc y (.inr (.inr (.inr (.inr (.inr (.inr e))))))
      obtain ⟨nx, hnx⟩ : ∃ nx, nx = if b = 0 then t.lo v else t.hi v := ⟨_, rfl⟩
      have go : ∀ H3, Kp H2 H3 → In st nx → solve_Models_1.p38 (fun H' => MPost H p s r0 n most Fo v ((L ++ (M0 ++ M1)).take most.toNat) cs H') back (ref st t) (v : Int) (.ptr (some (p.vb, 0))) (.ptr (some (p.xb, 0))) (.ptr (some (p.sb, 0))) (ref st nx) (b : Int) H3 := by
        intro H3 k3 hinx
        have hl := lo_spec hro htop (by omega)
        have hh := hi_spec hro htop (by omega)
        have hvv := varsLt_lo v hvl
        have nro : nx.RO ∧ v < nx.top ∧ VarsLt n nx := by
          rw [hnx]
          split
          · exact ⟨hl.1, hl.2.1, hvv.1⟩
          · exact ⟨hh.1, hh.2.1, hvv.2⟩
        have ms3 := ms2.kp k3
        unfold solve_Models_1.p38
        refine Ld.oc ms3.o6 rfl ?_
        rw [show IntKind.wrap .i64 ((v : Int) + 1) = ((v + 1 : Nat) : Int) from (wrap64 (by omega) (by omega)).trans (by omega)]
        have hlenb : ((Lb b).length : Int) ≤ most := by
          rw [hLb]
          simp only [List.length_take]
          omega
        have hpre1 : cs1.take v = (bitsL n (pp * 2 ^ (n - v))).take v := hcs1.trans hpre
        refine CVT.imp ?_ (CVT.mk lt59 (ih (v + 1) (2 * pp + b) nx (by omega) (by omega) hinx nro.1 nro.2.2 nro.2.1 ms3 (old2.kp k3) hFo1 hlenb (bits_step hvn hb2 ms1.len hpre1)))
        rintro H4 ⟨Fo2, Gi2, cs2, ms4, hcs2, k4, fr4⟩
        have hzk1 := k1.size
        have hzk3 := k3.size
        have eL : (Lb b ++ mR n nx.eval ((2 * pp + b) * 2 ^ (n - (v + 1))) (2 ^ (n - (v + 1)))).take most.toNat = Lb (b + 1) := by
          rw [hLb, hnx]
          have hb' : b = 0 ∨ b = 1 := by omega
          rcases hb' with rfl | rfl
          · simp only [if_true, Nat.add_zero, List.append_nil]
            rw [take_take_append, ← hM0]
            rfl
          · simp only [Nat.one_ne_zero, if_false, if_true]
            rw [take_take_append, ← hM1, List.append_assoc]
            rfl
        rw [eL] at ms4
        have hcs2' : cs2.take v = cs.take v := by
          rw [← hcs1]
          apply List.ext_getElem?
          intro w
          rw [List.getElem?_take, List.getElem?_take]
          by_cases hw : w < v
          · have e := congrArg (fun z => z[w]?) hcs2
            simp only [List.getElem?_take] at e
            rw [if_pos (by omega), if_pos (by omega), List.getElem?_set_ne (by omega)] at e
            rw [if_pos hw, if_pos hw, e]
          · rw [if_neg hw, if_neg hw]
        refine hback (2 - (b + 1)) _ _ (by omega) ⟨b + 1, Fo2, Gi2, cs2, by omega, rfl, ?_, ms4, hcs2', ?_, fun y h => (fr4 y h).elim (fr1 y) fun e => .inr (by omega)⟩
        · exact tc rfl (tc rfl (tc rfl (tc rfl (tc rfl (tc ((wrap64 (by omega) (by omega)).trans (by omega)) rfl)))))
        · refine Keep.trans (Keep.trans' (Keep.trans k1 k2 fun y _ e => .inr (.inl e)) k3) k4 fun y hy e => ?_
          rcases e with e | e | e
          · exact .inl e
          · exact .inr (.inl e)
          · exact (fr1 y e).elim (fun e => .inr (.inr e)) fun e => by omega
      have same : t.lo v = t → t.hi v = t → nx = t := fun e1 e2 => by rw [hnx]; split <;> assumption
      unfold solve_Models_1.p35
      refine CondB.dec (fun h0 => ?_) fun h0 => ?_
      · have h0' : 0 ≤ ref st t := h0
        cases t with
        | leaf c => exfalso; cases c <;> simp [ref] at h0'
        | nd w l r =>
          have hg := ref_get hin h0'
          obtain ⟨_, _, _, e0, inl, inr, _⟩ := hfin.parts _ (List.mem_of_getElem? hg)
          cases e0
          have hrow : (nodeRows (st.map (row st)))[(ref st (nd w l r)).toNat]? = some (nodeCells ((w : Int), ref st l, ref st r)) := nodeRow_at (by rw [List.getElem?_map, hg]; rfl)
          refine FA.mk (Ld.oc ms2.o5 rfl (IA.of (hs.old old2) h0' hrow fun b1 o1 hld => FA.mk (Ld.ei hld rfl (CondB.eq (fun hw => ?_) fun hw => ?_))))
          · have hw' : w = v := by omega
            refine FA.mk (Ld.oc ms2.o5 rfl (IA.of (hs.old old2) h0' hrow fun b1 o1 hld => FA.mk (Ld.ei hld rfl ?_)))
            refine FA.mk (Ld.oc ms2.o5 rfl (IA.of (hs.old old2) h0' hrow fun b1 o1 hld => FA.mk (Ld.ei hld rfl ?_)))
            refine NewS.own fun ab H3 hab hs3 oa k3 => IA.mk (by omega) (by omega) ?_
            have hb' : b = 0 ∨ b = 1 := by omega
            rcases hb' with rfl | rfl
            · have hnl : nx = l := by rw [hnx]; simp [lo, hw']
              refine Ld.oi oa (n := ref st nx) (by rw [hnl]; rfl) (go H3 k3 (by rw [hnl]; exact inl))
            · have hnr : nx = r := by rw [hnx]; simp [hi, hw']
              refine Ld.oi oa (n := ref st nx) (by rw [hnr]; rfl) (go H3 k3 (by rw [hnr]; exact inr))
          · have hw' : w ≠ v := fun e => hw (by omega)
            have e := same (by simp [lo, hw']) (by simp [hi, hw'])
            have g := go H2 (Kp.refl _) (by rw [e]; exact hin)
            rw [e] at g
            exact g
      · obtain ⟨c, rfl⟩ := ref_leaf.1 (show ref st t < 0 by have : ¬ ref st t ≥ 0 := h0; omega)
        have e := same rfl rfl
        have g := go H2 (Kp.refl _) (by rw [e]; exact hin)
        rw [e] at g
        exact CondB.neg rfl g
    · have hb2 : b = 2 := by omega
      subst hb2
      exact ⟨Fo1, Gi1, cs1, by rw [hLb] at ms1; exact ms1, hcs1, k1, fr1⟩
end Go.Proofs.Ytanaaabejeeakaa
end
section
/- Printed by a program: functions and what must hold ahead of them. -/
namespace Go.Proofs.Ytanaaabejeeakaa
open Go.AI
set_option maxRecDepth 100000
set_option maxHeartbeats 2000000
set_option linter.unusedVariables false
attribute [local irreducible] Ld Sto New NewS NewM NN NZ GE0 FA IA IAP LenS Slc App Cpy Clr MkS Fnc NilQ IxS Look MSet Run CV RunT CVT LoopT Same1 Same2 wpC wpOs wpT wpO wpOp

def fetterlocklaw6_BoolCountsAddUp.c9 : RC := (.cond 29 (.seq (.ops [.put 30 (.call 19 []),
    .put 4 (.mov (.tm 30))]) .ret) .skip)
def fetterlocklaw6_BoolCountsAddUp.c : RC := (.seq (.ops [.put 2 (.box 27 (.tm 0)),
    .put 4 (.mov (.ct (.one (.bool false))))]) (.seq (.ops [.put 14 (.ld true [.ac, .int .i64] (.tm 2)),
    .put 15 (.mov (.tm 1)),
    .put 16 (.call 24 [(.tm 14), (.tm 15)]),
    .put 13 (.mov (.tm 16)),
    .put 17 (.ex (.tm 13) 0),
    .put 18 (.ex (.tm 13) 1),
    .put 5 (.mov (.tm 17)),
    .put 6 (.mov (.tm 18))]) (.seq (.ops [.put 20 (.ld true [.ac, .int .i64] (.tm 2)),
    .put 21 (.call 22 [(.tm 20)]),
    .put 19 (.mov (.tm 21)),
    .put 22 (.ex (.tm 19) 0),
    .put 23 (.ex (.tm 19) 1),
    .put 7 (.new 27 [(.sl none 0 0 (some 0)), (.int .i64 0)]),
    .run (.st 2 (.tm 7) (.tm 22)),
    .put 8 (.mov (.tm 23))]) (.seq (.seq (.ops [.put 24 (.mov (.tm 6)),
    .put 25 (.cm .ne (.tm 24) (.ct (.one (.int .i64 0)))),
    .put 26 (.mov (.tm 25)),
    .gput 27 26 false (.mov (.tm 8)),
    .gput 28 26 false (.cm .ne (.tm 27) (.ct (.one (.int .i64 0)))),
    .put 29 (.pick (.tm 26) (.ct (.one (.bool true))) (.tm 28))]) fetterlocklaw6_BoolCountsAddUp.c9) (.seq (.ops [.put 32 (.ld true [.ac, .int .i64] (.tm 7)),
    .put 33 (.mov (.tm 1)),
    .put 34 (.call 24 [(.tm 32), (.tm 33)]),
    .put 31 (.mov (.tm 34)),
    .put 35 (.ex (.tm 31) 0),
    .put 36 (.ex (.tm 31) 1),
    .put 9 (.mov (.tm 35)),
    .put 10 (.mov (.tm 36))]) (.seq (.ops [.put 38 (.ld true [.ac, .int .i64] (.tm 2)),
    .put 39 (.mov (.tm 1)),
    .put 40 (.call 25 [(.tm 38), (.tm 39), (.ct (.one (.int .i64 2000)))]),
    .put 37 (.mov (.tm 40)),
    .put 41 (.ex (.tm 37) 0),
    .put 42 (.ex (.tm 37) 1),
    .put 11 (.mov (.tm 41)),
    .put 12 (.mov (.tm 42))]) (.seq (.ops [.put 43 (.mov (.tm 10)),
    .put 44 (.cm .eq (.tm 43) (.ct (.one (.int .i64 0)))),
    .put 45 (.mov (.tm 44)),
    .gput 46 45 true (.mov (.tm 12)),
    .gput 47 45 true (.cm .eq (.tm 46) (.ct (.one (.int .i64 0)))),
    .put 48 (.pick (.tm 45) (.tm 47) (.ct (.one (.bool false)))),
    .put 49 (.mov (.tm 48)),
    .gput 50 49 true (.mov (.tm 5)),
    .gput 51 49 true (.mov (.tm 9)),
    .gput 52 49 true (.ar .add (.tm 50) (.tm 51)),
    .gput 53 49 true (.mov (.tm 1)),
    .gput 54 49 true (.sh true (.ct (.one (.int .i64 1))) (.tm 53)),
    .gput 55 49 true (.cm .eq (.tm 52) (.tm 54)),
    .put 56 (.pick (.tm 49) (.tm 55) (.ct (.one (.bool false)))),
    .put 57 (.mov (.tm 56)),
    .gput 58 57 true (.mov (.tm 11)),
    .gput 59 57 true (.lens (.tm 58)),
    .gput 60 57 true (.mov (.tm 5)),
    .gput 61 57 true (.min2 (.tm 60) (.ct (.one (.int .i64 2000)))),
    .gput 62 57 true (.cm .eq (.tm 59) (.tm 61)),
    .put 63 (.pick (.tm 57) (.tm 62) (.ct (.one (.bool false)))),
    .put 64 (.mov (.tm 63)),
    .gput 65 64 true (.call 19 []),
    .put 66 (.pick (.tm 64) (.tm 65) (.ct (.one (.bool false)))),
    .put 4 (.mov (.tm 66))]) .ret)))))))
abbrev fetterlocklaw6_BoolCountsAddUp.KQ (Q : AHeap → Bool → Prop) : AV → AHeap → Prop := fun v H => ∃ xs : Tup (flat [(false, [.bool])]), v = joinR (splitP [(false, [.bool])] (cellsOf (flat [(false, [.bool])]) xs)) ∧ app (flat [(false, [.bool])]) (Q H) xs
abbrev fetterlocklaw6_BoolCountsAddUp.K (Q : AHeap → Bool → Prop) : Ex → Env → AHeap → Prop := kTop [.tm 4] (fetterlocklaw6_BoolCountsAddUp.KQ Q)
abbrev fetterlocklaw6_BoolCountsAddUp.k7 (Q : AHeap → Bool → Prop) : Ex → Env → AHeap → Prop := kSeq (fun t H => wpC Try.prog (.seq (.ops [.put 32 (.ld true [.ac, .int .i64] (.tm 7)),
    .put 33 (.mov (.tm 1)),
    .put 34 (.call 24 [(.tm 32), (.tm 33)]),
    .put 31 (.mov (.tm 34)),
    .put 35 (.ex (.tm 31) 0),
    .put 36 (.ex (.tm 31) 1),
    .put 9 (.mov (.tm 35)),
    .put 10 (.mov (.tm 36))]) (.seq (.ops [.put 38 (.ld true [.ac, .int .i64] (.tm 2)),
    .put 39 (.mov (.tm 1)),
    .put 40 (.call 25 [(.tm 38), (.tm 39), (.ct (.one (.int .i64 2000)))]),
    .put 37 (.mov (.tm 40)),
    .put 41 (.ex (.tm 37) 0),
    .put 42 (.ex (.tm 37) 1),
    .put 11 (.mov (.tm 41)),
    .put 12 (.mov (.tm 42))]) (.seq (.ops [.put 43 (.mov (.tm 10)),
    .put 44 (.cm .eq (.tm 43) (.ct (.one (.int .i64 0)))),
    .put 45 (.mov (.tm 44)),
    .gput 46 45 true (.mov (.tm 12)),
    .gput 47 45 true (.cm .eq (.tm 46) (.ct (.one (.int .i64 0)))),
    .put 48 (.pick (.tm 45) (.tm 47) (.ct (.one (.bool false)))),
    .put 49 (.mov (.tm 48)),
    .gput 50 49 true (.mov (.tm 5)),
    .gput 51 49 true (.mov (.tm 9)),
    .gput 52 49 true (.ar .add (.tm 50) (.tm 51)),
    .gput 53 49 true (.mov (.tm 1)),
    .gput 54 49 true (.sh true (.ct (.one (.int .i64 1))) (.tm 53)),
    .gput 55 49 true (.cm .eq (.tm 52) (.tm 54)),
    .put 56 (.pick (.tm 49) (.tm 55) (.ct (.one (.bool false)))),
    .put 57 (.mov (.tm 56)),
    .gput 58 57 true (.mov (.tm 11)),
    .gput 59 57 true (.lens (.tm 58)),
    .gput 60 57 true (.mov (.tm 5)),
    .gput 61 57 true (.min2 (.tm 60) (.ct (.one (.int .i64 2000)))),
    .gput 62 57 true (.cm .eq (.tm 59) (.tm 61)),
    .put 63 (.pick (.tm 57) (.tm 62) (.ct (.one (.bool false)))),
    .put 64 (.mov (.tm 63)),
    .gput 65 64 true (.call 19 []),
    .put 66 (.pick (.tm 64) (.tm 65) (.ct (.one (.bool false)))),
    .put 4 (.mov (.tm 66))]) .ret))) t H (fetterlocklaw6_BoolCountsAddUp.K Q)) (fetterlocklaw6_BoolCountsAddUp.K Q)
def fetterlocklaw6_BoolCountsAddUp.p9 (Q : AHeap → Bool → Prop) (x1 : Int) (x2 : AC) (x5 : Int) (x7 : AC) (x29 : Bool) (H : AHeap) : Prop :=
  CondB x29
    (Fn.fetterlocklaw6_built  H fun H_1 (v_2 : Bool) =>
    Q H_1 v_2)
    (Ld [.ac, .int .i64] H x7 fun (v_3 : AC) (v_4 : Int) =>
    Fn.solve_Count v_3 v_4 x1 H fun H_5 (v_6 : Int) (v_7 : Int) =>
    Ld [.ac, .int .i64] H_5 x2 fun (v_8 : AC) (v_9 : Int) =>
    Fn.solve_Models v_8 v_9 x1 2000 H_5 fun H_10 (v_11 : AC) (v_12 : Int) =>
    CondB (v_7 == 0)
      (CondB (v_12 == 0)
        (GE0 x1 <|
        CondB ((IntKind.wrap .i64 (x5 + v_6)) == (shl .i64 1 x1))
          (LenS v_11 fun n_13 =>
          CondB (n_13 == (if 2000 < x5 then 2000 else x5))
            (Fn.fetterlocklaw6_built  H_10 fun H_14 (v_15 : Bool) =>
            Q H_14 v_15)
            (Q H_10 false))
          (Q H_10 false))
        (Q H_10 false))
      (Q H_10 false))
def fetterlocklaw6_BoolCountsAddUp.W (a0_0 : AC) (a0_1 : Int) (a1 : Int) (H : AHeap) (Q : AHeap → Bool → Prop) : Prop :=
  New 27 [a0_0, (.int .i64 a0_1)] H fun p_1 H_2 =>
  Ld [.ac, .int .i64] H_2 p_1 fun (v_3 : AC) (v_4 : Int) =>
  Fn.solve_Count v_3 v_4 a1 H_2 fun H_5 (v_6 : Int) (v_7 : Int) =>
  Ld [.ac, .int .i64] H_5 p_1 fun (v_8 : AC) (v_9 : Int) =>
  Fn.solve_Not v_8 v_9 H_5 fun H_10 (v_11 : AC) (v_12 : Int) (v_13 : Int) =>
  New 27 [(.sl none 0 0 (some 0)), (.int .i64 0)] H_10 fun p_14 H_15 =>
  Sto H_15 p_14 [v_11, (.int .i64 v_12)] fun H_16 =>
  CondB (v_7 != 0)
    (fetterlocklaw6_BoolCountsAddUp.p9 Q a1 p_1 v_6 p_14 true H_16)
    (fetterlocklaw6_BoolCountsAddUp.p9 Q a1 p_1 v_6 p_14 (v_13 != 0) H_16)
theorem fetterlocklaw6_BoolCountsAddUp.p9_okE (Q : AHeap → Bool → Prop) {x1 : Int} {x2 : AC} {x5 : Int} {x7 : AC} {x29 : Bool} {H : AHeap} (j : Env) : fetterlocklaw6_BoolCountsAddUp.p9 Q x1 x2 x5 x7 x29 H → wpC Try.prog fetterlocklaw6_BoolCountsAddUp.c9 (upd (upd (upd (upd (upd j 1 (.one (.int .i64 x1))) 2 (.one x2)) 5 (.one (.int .i64 x5))) 7 (.one x7)) 29 (.one (.bool x29))) H (fetterlocklaw6_BoolCountsAddUp.k7 Q) := c_if rfl (c_seq (c_ops (s_cons (w_put (o_call rfl (cv_1 (fun H_1 (v_2 : Bool) => s_cons (w_put (o_mov rfl (s_nil (k_seq (c_ret (k_seqR (k_topR (r_one rfl (r_nil (fun h => ⟨((v_2 : Bool), ()), rfl, h⟩))))))))))))))))) (c_skip (k_seq (c_seq (c_ops (s_cons (w_put (o_ld2 rfl (fun (v_3 : AC) (v_4 : Int) => s_cons (w_put (o_mov rfl (s_cons (w_put (o_call rfl (cv_o1_o1 (fun H_5 (v_6 : Int) (v_7 : Int) => s_cons (w_put (o_mov rfl (s_cons (w_put (o_ex rfl rfl rfl (s_cons (w_put (o_ex rfl rfl rfl (s_cons (w_put (o_mov rfl (s_cons (w_put (o_mov rfl (s_nil (k_seq (c_seq (c_ops (s_cons (w_put (o_ld2 rfl (fun (v_8 : AC) (v_9 : Int) => s_cons (w_put (o_mov rfl (s_cons (w_put (o_call rfl (cv_o1_o1 (fun H_10 (v_11 : AC) (v_12 : Int) => s_cons (w_put (o_mov rfl (s_cons (w_put (o_ex rfl rfl rfl (s_cons (w_put (o_ex rfl rfl rfl (s_cons (w_put (o_mov rfl (s_cons (w_put (o_mov rfl (s_nil (k_seq (c_seq (c_ops (s_cons (w_put (o_mov rfl (s_cons (w_put (o_eq rfl rfl (s_cons (w_put (o_mov rfl (s_cons (w_gputT rfl (o_mov rfl (s_cons (w_gputY rfl (o_eq rfl rfl (s_cons (w_put (o_pickT rfl rfl (s_cons (w_put (o_mov rfl (s_cons (w_gputT rfl (o_mov rfl (s_cons (w_gputY rfl (o_mov rfl (s_cons (w_gputY rfl (o_add rfl rfl (s_cons (w_gputY rfl (o_mov rfl (s_cons (w_gputY rfl (o_shl rfl rfl (s_cons (w_gputY rfl (o_eq rfl rfl (s_cons (w_put (o_pickT rfl rfl (s_cons (w_put (o_mov rfl (s_cons (w_gputT rfl (o_mov rfl (s_cons (w_gputY rfl (o_lens rfl (fun n_13 => s_cons (w_gputY rfl (o_mov rfl (s_cons (w_gputY rfl (o_min2 rfl rfl (s_cons (w_gputY rfl (o_eq rfl rfl (s_cons (w_put (o_pickT rfl rfl (s_cons (w_put (o_mov rfl (s_cons (w_gputT rfl (o_call rfl (cv_1 (fun H_14 (v_15 : Bool) => s_cons (w_put (o_pickT rfl rfl (s_cons (w_put (o_mov rfl (s_nil (k_seq (c_ret (k_topR (r_one rfl (r_nil (fun h => ⟨((v_15 : Bool), ()), rfl, h⟩))))))))))))))) (s_cons (w_put (o_pickF rfl rfl (s_cons (w_put (o_mov rfl (s_nil (k_seq (c_ret (k_topR (r_one rfl (r_nil (fun h => ⟨((false : Bool), ()), rfl, h⟩)))))))))))))))))))))))))))))))))) (s_cons (w_gputN rfl (s_cons (w_gputN rfl (s_cons (w_gputN rfl (s_cons (w_gputN rfl (s_cons (w_put (o_pickF rfl rfl (s_cons (w_put (o_mov rfl (s_cons (w_gputN rfl (s_cons (w_put (o_pickF rfl rfl (s_cons (w_put (o_mov rfl (s_nil (k_seq (c_ret (k_topR (r_one rfl (r_nil (fun h => ⟨((false : Bool), ()), rfl, h⟩))))))))))))))))))))))))))))))))))))))))))))))))))))) (s_cons (w_gputN rfl (s_cons (w_gputN rfl (s_cons (w_gputN rfl (s_cons (w_gputN rfl (s_cons (w_gputN rfl (s_cons (w_put (o_pickF rfl rfl (s_cons (w_put (o_mov rfl (s_cons (w_gputN rfl (s_cons (w_gputN rfl (s_cons (w_gputN rfl (s_cons (w_gputN rfl (s_cons (w_gputN rfl (s_cons (w_put (o_pickF rfl rfl (s_cons (w_put (o_mov rfl (s_cons (w_gputN rfl (s_cons (w_put (o_pickF rfl rfl (s_cons (w_put (o_mov rfl (s_nil (k_seq (c_ret (k_topR (r_one rfl (r_nil (fun h => ⟨((false : Bool), ()), rfl, h⟩))))))))))))))))))))))))))))))))))))))))))))))))))))))))))) (s_cons (w_gputN rfl (s_cons (w_put (o_pickF rfl rfl (s_cons (w_put (o_mov rfl (s_cons (w_gputN rfl (s_cons (w_gputN rfl (s_cons (w_gputN rfl (s_cons (w_gputN rfl (s_cons (w_gputN rfl (s_cons (w_gputN rfl (s_cons (w_put (o_pickF rfl rfl (s_cons (w_put (o_mov rfl (s_cons (w_gputN rfl (s_cons (w_gputN rfl (s_cons (w_gputN rfl (s_cons (w_gputN rfl (s_cons (w_gputN rfl (s_cons (w_put (o_pickF rfl rfl (s_cons (w_put (o_mov rfl (s_cons (w_gputN rfl (s_cons (w_put (o_pickF rfl rfl (s_cons (w_put (o_mov rfl (s_nil (k_seq (c_ret (k_topR (r_one rfl (r_nil (fun h => ⟨((false : Bool), ()), rfl, h⟩))))))))))))))))))))))))))))))))))))))))))))))))))))))))))))))))))))))))))))))))))))))))))))))))))))))))))))))))))))))))))))))))))
theorem fetterlocklaw6_BoolCountsAddUp.p9_ok (Q : AHeap → Bool → Prop) {x1 : Int} {x2 : AC} {x5 : Int} {x7 : AC} {x29 : Bool} {H : AHeap} {t : Env} (h1 : t 1 = (.one (.int .i64 x1))) (h2 : t 2 = (.one x2)) (h5 : t 5 = (.one (.int .i64 x5))) (h7 : t 7 = (.one x7)) (h29 : t 29 = (.one (.bool x29))) (h : fetterlocklaw6_BoolCountsAddUp.p9 Q x1 x2 x5 x7 x29 H) : wpC Try.prog fetterlocklaw6_BoolCountsAddUp.c9 t H (fetterlocklaw6_BoolCountsAddUp.k7 Q) := by
  have g := fetterlocklaw6_BoolCountsAddUp.p9_okE Q t h
  rw [upd_self h1] at g
  rw [upd_self h2] at g
  rw [upd_self h5] at g
  rw [upd_self h7] at g
  rw [upd_self h29] at g
  exact g
theorem fetterlocklaw6_BoolCountsAddUp.ok {a0_0 : AC} {a0_1 : Int} {a1 : Int} {H : AHeap} (Q : AHeap → Bool → Prop) : fetterlocklaw6_BoolCountsAddUp.W a0_0 a0_1 a1 H Q → wpF Try.prog fetterlocklaw6_BoolCountsAddUp.c [.tm 4] (envOf [(.agg [a0_0, (.int .i64 a0_1)]), (.one (.int .i64 a1))]) H (fetterlocklaw6_BoolCountsAddUp.KQ Q) := c_seq (c_ops (s_cons (w_put (o_box rfl (fun p_1 H_2 => s_cons (w_put (o_mov rfl (s_nil (k_seq (c_seq (c_ops (s_cons (w_put (o_ld2 rfl (fun (v_3 : AC) (v_4 : Int) => s_cons (w_put (o_mov rfl (s_cons (w_put (o_call rfl (cv_o1_o1 (fun H_5 (v_6 : Int) (v_7 : Int) => s_cons (w_put (o_mov rfl (s_cons (w_put (o_ex rfl rfl rfl (s_cons (w_put (o_ex rfl rfl rfl (s_cons (w_put (o_mov rfl (s_cons (w_put (o_mov rfl (s_nil (k_seq (c_seq (c_ops (s_cons (w_put (o_ld2 rfl (fun (v_8 : AC) (v_9 : Int) => s_cons (w_put (o_call rfl (cv_a2_o1 (fun H_10 (v_11 : AC) (v_12 : Int) (v_13 : Int) => s_cons (w_put (o_mov rfl (s_cons (w_put (o_ex rfl rfl rfl (s_cons (w_put (o_ex rfl rfl rfl (s_cons (w_put (o_new (fun p_14 H_15 => s_cons (w_run (o_st rfl rfl rfl (fun H_16 => s_cons (w_put (o_mov rfl (s_nil (k_seq (c_seq (c_seq (c_ops (s_cons (w_put (o_mov rfl (s_cons (w_put (o_ne rfl rfl (s_cons (w_put (o_mov rfl (s_cons (w_gputF rfl (s_cons (w_gputN rfl (s_cons (w_put (o_pickT rfl rfl (s_nil (k_seq (fetterlocklaw6_BoolCountsAddUp.p9_ok Q rfl rfl rfl rfl rfl)))))))) (o_mov rfl (s_cons (w_gputY rfl (o_ne rfl rfl (s_cons (w_put (o_pickF rfl rfl (s_nil (k_seq (fetterlocklaw6_BoolCountsAddUp.p9_ok Q rfl rfl rfl rfl rfl)))))))))))))))))))))))))))))))))))))))))))))))))))))))))))))))))))))))))))))))))))))))))))
theorem fetterlocklaw6_BoolCountsAddUp.slimOk : slimOk [] (Try.f7.body.getD .skip) = true := by kernel_rfl
theorem fetterlocklaw6_BoolCountsAddUp.resC : resC Try.prog aggs Try.f7.ntmps (slim [] (Try.f7.body.getD .skip)) = some fetterlocklaw6_BoolCountsAddUp.c := by kernel_rfl
theorem fetterlocklaw6_BoolCountsAddUp.resR : resR Try.prog Try.f7.results.toList = some [.tm 4] := by kernel_rfl
theorem fetterlocklaw6_BoolCountsAddUp.bodyEq : Try.f7.body = some (Try.f7.body.getD .skip) := by kernel_rfl
theorem fetterlocklaw6_BoolCountsAddUp.run {a0_0 : AC} {a0_1 : Int} {a1 : Int} {H : AHeap} {Q : AHeap → Bool → Prop} (h : fetterlocklaw6_BoolCountsAddUp.W a0_0 a0_1 a1 H Q) : Fn.fetterlocklaw6_BoolCountsAddUp a0_0 a0_1 a1 H Q := by
  unfold Fn.fetterlocklaw6_BoolCountsAddUp RunT
  exact run_of aggs_ok [] Try.func7 fetterlocklaw6_BoolCountsAddUp.bodyEq fetterlocklaw6_BoolCountsAddUp.slimOk fetterlocklaw6_BoolCountsAddUp.resC fetterlocklaw6_BoolCountsAddUp.resR (Nat.le_of_ble_eq_true (by kernel_rfl)) (fetterlocklaw6_BoolCountsAddUp.ok Q h)

end Go.Proofs.Ytanaaabejeeakaa
end
