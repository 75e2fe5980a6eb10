/- Joined by a program: what the proof of the law leans on, part 2. -/
import Derived.Test.YtkpjcnlljdccjaaGreatA1
import Derived.RangeFuncRecord
import Derived.OrdersIn
import Derived.LoopNIn
import Derived.Scope
import Derived.Scope
import Derived.ChangeShapes
import Derived.Carry
import Derived.Below
import Derived.ChangeSame
import Derived.WideKeyArgs
import Derived.RowKit
set_option linter.unusedVariables false
set_option linter.unusedSimpArgs false
section
namespace Go.AI
section
variable {P : Program} {μ : Mu} {w : World} {T : List AV} {a : Act} {H H' : AHeap} {v : AV} {g : Nat → Option AObj}
theorem opA_size {o : Oper} (h : opA P o T H = some (v, H')) : H.size ≤ H'.size := by
  have st : ∀ {b : APtr} {cs : List AC} {H H' : AHeap}, H.store b cs = some H' → H.size ≤ H'.size := by
    intro b cs H H' h
    obtain ⟨e, k, st, cells, _, _, rfl⟩ := store_eq h
    rw [AHeap.size_stores]; exact Nat.le_refl _
  have ap : ∀ {sz bytes e n : Nat} {s r : AC} {xs : List AC} {H' : AHeap}, appendA H sz bytes e s n xs = some (r, H') → H.size ≤ H'.size := by
    intro sz bytes e n s r xs H' h
    unfold appendA at h
    (repeat' split at h) <;> first
      | (cases h; done)
      | (simp only [Option.some.injEq, Prod.mk.injEq] at h; obtain ⟨_, rfl⟩ := h; first | exact Nat.le_refl _ | (rw [AHeap.size_stores]; exact Nat.le_refl _) | (rw [AHeap.size_alias]; omega) | (rw [AHeap.size_newRow]; omega))
  obtain ⟨dst, op, type, pos, after, guard⟩ := o
  by_cases he : isEff op = true
  · cases op
    case store t x y =>
      simp only [opA] at h
      split at h
      · split at h
        · obtain ⟨H1, hH1, h⟩ := bind_some' h
          simp only [Option.some.injEq, Prod.mk.injEq] at h; obtain ⟨_, rfl⟩ := h
          exact st hH1
        · cases h
      · cases h
    case insert t m k x =>
      simp only [opA] at h
      (repeat' split at h) <;> first
        | (cases h; done)
        | (simp only [Option.some.injEq, Prod.mk.injEq] at h; obtain ⟨_, rfl⟩ := h; rw [AHeap.size_set]; exact Nat.le_refl _)
    case mapUpdate t m k x =>
      simp only [opA] at h
      (repeat' split at h) <;> first
        | (cases h; done)
        | (simp only [Option.some.injEq, Prod.mk.injEq] at h; obtain ⟨_, rfl⟩ := h; rw [AHeap.size_set]; exact Nat.le_refl _)
    case call c =>
      obtain ⟨callee, args, argTypes⟩ := c
      cases callee
      case builtin b =>
        simp only [opA] at h
        obtain ⟨vs, hvs, h⟩ := bind_some' h
        cases b
        case append =>
          simp only [builtinA, appA] at h
          (repeat' split at h) <;> first
            | (cases h; done)
            | (obtain ⟨p, hp, h⟩ := bind_some' h
               obtain ⟨⟨r, H1⟩, happ, h⟩ := bind_some' h
               simp only [Option.some.injEq, Prod.mk.injEq] at h; obtain ⟨_, rfl⟩ := h
               exact ap happ)
        case copy =>
          simp only [builtinA, copyA] at h
          split at h
          · obtain ⟨size, hsize, h⟩ := bind_some' h
            obtain ⟨p, hp, h⟩ := bind_some' h
            (repeat' split at h) <;> first
              | (cases h; done)
              | (simp only [Option.some.injEq, Prod.mk.injEq] at h; obtain ⟨_, rfl⟩ := h; exact Nat.le_refl _)
              | (obtain ⟨H1, hH1, h⟩ := bind_some' h
                 simp only [Option.some.injEq, Prod.mk.injEq] at h; obtain ⟨_, rfl⟩ := h
                 exact st hH1)
          · cases h
        case clear =>
          simp only [builtinA, clearA] at h
          split at h
          · split at h
            · simp only [Option.some.injEq, Prod.mk.injEq] at h; obtain ⟨_, rfl⟩ := h; exact Nat.le_refl _
            · obtain ⟨zero, hz, h⟩ := bind_some' h
              (repeat' split at h) <;> first
                | (cases h; done)
                | (obtain ⟨H1, hH1, h⟩ := bind_some' h
                   simp only [Option.some.injEq, Prod.mk.injEq] at h; obtain ⟨_, rfl⟩ := h
                   exact st hH1)
          · cases h
        case delete =>
          simp only [builtinA, deleteA] at h
          split at h
          · obtain ⟨k, hk, h⟩ := bind_some' h
            split at h
            · simp only [Option.some.injEq, Prod.mk.injEq] at h; obtain ⟨_, rfl⟩ := h; exact Nat.le_refl _
            · cases h
          · obtain ⟨k, hk, h⟩ := bind_some' h
            split at h
            · split at h
              · obtain ⟨f, hf, h⟩ := bind_some' h
                split at h <;> (simp only [Option.some.injEq, Prod.mk.injEq] at h; obtain ⟨_, rfl⟩ := h) <;> first | exact Nat.le_refl _ | (rw [AHeap.size_set]; exact Nat.le_refl _)
              · cases h
            · cases h
          · cases h
        all_goals first
          | (simp [isEff] at he; done)
          | (simp [builtinA] at h; done)
      all_goals simp [opA] at h
    all_goals first
      | (simp [isEff] at he; done)
      | (simp [opA] at h; done)
  · by_cases ha : isAlloc op = true
    · cases op
      case alloc t =>
        simp only [opA] at h
        split at h
        · simp only [Option.some.injEq, Prod.mk.injEq] at h; obtain ⟨_, rfl⟩ := h; rw [AHeap.size_newRow]; omega
        · cases h
      case box t x =>
        simp only [opA] at h
        split at h
        · simp only [Option.some.injEq, Prod.mk.injEq] at h; obtain ⟨_, rfl⟩ := h; rw [AHeap.size_newRow]; omega
        · cases h
      case buildSlice t len ps =>
        simp only [opA] at h
        (repeat' split at h) <;> first
          | (cases h; done)
          | (obtain ⟨cs, hcs, h⟩ := bind_some' h
             simp only [Option.some.injEq, Prod.mk.injEq] at h; obtain ⟨_, rfl⟩ := h; rw [AHeap.size_newRow]; omega)
      case makeMap t r =>
        simp only [opA] at h
        (repeat' split at h) <;> first
          | (cases h; done)
          | (simp only [Option.some.injEq, Prod.mk.injEq] at h; obtain ⟨_, rfl⟩ := h; rw [AHeap.size_push]; omega)
      case makeSlice t l c =>
        simp only [opA] at h
        (repeat' split at h) <;> first
          | (cases h; done)
          | (simp only [Option.some.injEq, Prod.mk.injEq] at h; obtain ⟨_, rfl⟩ := h; rw [AHeap.size_newRow]; omega)
      all_goals simp [isAlloc] at ha
    · have e : H' = H := by
        -- the step does not depend on memory: ask it of an empty one
        cases op <;> simp only [opA] at h
        case call c =>
          obtain ⟨callee, args, argTypes⟩ := c
          cases callee
          case builtin b =>
            simp only at h
            obtain ⟨vs, hvs, h⟩ := bind_some' h
            cases b
            case len =>
              simp only [builtinA, lenA] at h
              (repeat' split at h) <;> first
                | (cases h; done)
                | (simp only [Option.some.injEq, Prod.mk.injEq] at h; exact h.2.symm)
            case min =>
              simp only [builtinA, minA] at h
              (repeat' split at h) <;> first
                | (cases h; done)
                | (simp only [Option.some.injEq, Prod.mk.injEq] at h; exact h.2.symm)
            case max =>
              simp only [builtinA, maxA] at h
              (repeat' split at h) <;> first
                | (cases h; done)
                | (simp only [Option.some.injEq, Prod.mk.injEq] at h; exact h.2.symm)
            all_goals simp [isEff] at he
          all_goals simp at h
        case makeFunc fn first caps =>
          cases fn <;> simp only at h <;> (repeat' split at h) <;> first
            | (cases h; done)
            | (simp only [Option.some.injEq, Prod.mk.injEq] at h; exact h.2.symm)
        all_goals first
          | (simp [isEff] at he; done)
          | (simp [isAlloc] at ha; done)
          | (cases h; done)
          | ((repeat' split at h) <;> first
              | (cases h; done)
              | (simp only [Option.some.injEq, Prod.mk.injEq] at h; exact h.2.symm)
              | (obtain ⟨_, _, h⟩ := bind_some' h; simp only [Option.some.injEq, Prod.mk.injEq] at h; exact h.2.symm)
              | (obtain ⟨_, _, h⟩ := bind_some' h; obtain ⟨_, _, h⟩ := bind_some' h; simp only [Option.some.injEq, Prod.mk.injEq] at h; exact h.2.symm)
              | (obtain ⟨_, _, h⟩ := bind_some' h; split at h <;> first | (cases h; done) | (simp only [Option.some.injEq, Prod.mk.injEq] at h; exact h.2.symm)))
      rw [e]; exact Nat.le_refl _
def VF (ro : Option Nat) : Fence := { Fence.wide with round := ro }
abbrev CallPost (μ : Mu) (H : AHeap) (w : World) (H' : AHeap) (v : AV) (e : Ending) (w' : World) : Prop := ∃ v' μ', e = .returned v' ∧ VRel μ' w' v v' ∧ Post μ H w μ' H' w'
def CallSound (P : Program) (call : CallA) : Prop :=
  ∀ f args H v H', call f args H = some (v, H') → H.size ≤ H'.size ∧
    (((∃ fn, P.funcs[f]? = some fn ∧ fn.body.isSome) ∧
      ∀ μ w (rargs : Array Value), All2 (VRel μ w) args rargs.toList → WF H → Rel μ H.get w → Free μ H.size H'.size → Calls P f rargs w (CallPost μ H w H' v)) ∨
     (P.funcs.size ≤ f ∧
      ∀ μ w (rargs : Array Value) r s, μ (f - P.funcs.size) = some (r, s) → All2 (VRel μ w) args rargs.toList → WF H → Rel μ H.get w → Free μ H.size H'.size →
        ∃ lp : Loop, w.heap[r]? = some (.loop lp) ∧ rargs.size = lp.params.size ∧
          ∀ ro, RoundIn (VF ro) 0 P r lp.fn ((lp.params.zip rargs).foldl (fun tmps (t, a) => tmps.setIfInBounds t a) lp.tmps) lp.assign lp.body w (CallPost μ H w H' v)))
theorem opA_not_defer {o : Oper} {r : AV × AHeap} (h : opA P o T H = some r) (c : Call) : o.op ≠ .defer c := by
  intro hc
  unfold opA at h
  rw [hc] at h
  cases h
theorem uponIn_of_value {ro : Option Nat} {o : Oper} {nx : Next} {v' : Value} {w' : World} {K : Act → World → Prop} {Q : Exit → Act → World → Prop} (hd : ∀ c, o.op ≠ .defer c)
    (hr : (execOp a.eval o).run P w = .ok nx w') (hnx : nx = .value v' ∨ (nx = .skip ∧ v' = undef)) (hK : K (a.put o.dst v') w') : o.wpIn (VF ro) 0 P a w K Q := by
  refine ⟨fun _ _ => trivial, ?_⟩
  rw [Oper.semAt_eq _ _ _ hd, hr]
  rcases hnx with rfl | ⟨rfl, rfl⟩
  · exact hK
  · exact hK
def NamesOk (P : Program) : Prop := ∀ (f : Nat) (fn : Func), P.funcs[f]? = some fn → (fn.name == "runtime.NumGoroutine") = false
theorem opA_sound {o : Oper} (hT : TRel μ w T a.tmps) (wf : WF H) (rel : Rel μ H.get w) (fr : Free μ H.size H'.size) (h : opA P o T H = some (v, H')) : Done P μ w a o H H' v := by
  by_cases he : isEff o.op = true
  · exact opA_eff hT wf rel fr he h
  · by_cases ha : isAlloc o.op = true
    · obtain ⟨obj, robj, v', m⟩ := opA_alloc (P := P) (μ := μ) (w := w) hT ha h
      obtain ⟨hp, hv⟩ := m.post wf rel fr
      exact ⟨_, _, _, _, m.run, .inl rfl, hv, hp⟩
    · obtain ⟨rfl, v', hr, hv⟩ := opA_calm (g := H.get) hT rel (fun _ _ => rfl) (by simpa using he) (by simpa using ha) h
      exact ⟨_, _, _, _, hr, .inl rfl, hv, Post.refl wf rel⟩
theorem ptrRels_vrels : ∀ {ps : List APtr} {vs : List Value}, All2 (PtrRel μ) ps vs → All2 (VRel μ w) (ps.map fun a => AV.one (.ptr (some a))) vs
  | [], [], _ => trivial
  | _ :: _, _ :: _, h => ⟨h.1, ptrRels_vrels h.2⟩
  | [], _ :: _, h => h.elim
  | _ :: _, [], h => h.elim
theorem stepA_wp {call : CallA} (hc : CallSound P call) (hn : NamesOk P) (ro : Option Nat) {o : Oper} (hT : TRel μ w T a.tmps) (wf : WF H) (rel : Rel μ H.get w) (fr : Free μ H.size H'.size) (h : stepA P call o T H = some (v, H'))
    {K : Act → World → Prop} {Q : Exit → Act → World → Prop} (hK : ∀ v' w' μ', VRel μ' w' v v' → Post μ H w μ' H' w' → K (a.put o.dst v') w') : o.wpIn (VF ro) 0 P a w K Q := by
  have plain : opA P o T H = some (v, H') → o.wpIn (VF ro) 0 P a w K Q := by
    intro h
    obtain ⟨nx, v', w', μ', hr, hnx, hv, hp⟩ := opA_sound hT wf rel fr h
    exact uponIn_of_value (opA_not_defer h) hr hnx (hK _ _ _ hv hp)
  unfold stepA at h
  split at h
  · rename_i c hop
    have hnd : ∀ c', o.op ≠ .defer c' := by intro c' hc'; rw [hop] at hc'; cases hc'
    split at h
    · rename_i f hf
      obtain ⟨⟨k, args⟩, hcal, hcall⟩ := bind_some' h
      unfold calleeA at hcal
      rw [hf] at hcal
      simp only at hcal
      split at hcal
      · rename_i k' first caps asx h1 h2
        split at hcal
        case isFalse => cases hcal
        rename_i hklt
        simp only [Option.some.injEq, Prod.mk.injEq] at hcal
        obtain ⟨rfl, rfl⟩ := hcal
        obtain ⟨fs, cs, hfe, hfs, hcs⟩ := evalA_rel hT h1
        have has := evalAll_rel hT h2
        have hargs : All2 (VRel μ w) (first.map (fun a => AV.one (.ptr (some a))) ++ asx ++ caps.map (fun a => AV.one (.ptr (some a)))) ((fs ++ c.args.map a.eval) ++ cs).toList := by
          simp only [Array.toList_append, Array.toList_map]
          exact ((ptrRels_vrels hfs).append has).append (ptrRels_vrels hcs)
        have hcc := (hc _ _ _ _ _ hcall).2
        rcases hcc with ⟨⟨fn, hfn, hbody⟩, hsound⟩ | ⟨hge, _⟩
        · have hrun : (execOp a.eval o).run P w = .ok (.enter k' ((fs ++ c.args.map a.eval) ++ cs)) w := by
            unfold execOp
            rw [hop]
            simp only [resolve, hf, hfe, Deferred.ofValue, Sem.run_bind, Sem.run_pure, Result.andThen_ok, invoke, callFunc, run_program, hfn]
            have hn' := hn _ _ hfn
            rw [if_neg (by rw [hn']; simp), if_neg (by cases hb : fn.body <;> simp_all)]
            rfl
          refine ⟨fun _ _ => trivial, ?_⟩
          rw [Oper.semAt_eq _ _ _ hnd, hrun]
          refine ⟨(fun h => by cases h), ?_⟩
          have hcalls := (callsIn_wide (n := 0 - 1)).2 ((hsound μ w _ hargs wf rel fr).mono (R' := fun e w'' => match e with
            | .returned v => K (a.put o.dst v) w''
            | .panicked chain => Q (.panic chain) a w''
            | .outgrown => LetsOut Q) (by
              rintro e w' ⟨v', μ', rfl, hv, hp⟩
              exact hK _ _ _ hv hp))
          refine CallsIn.mono (F := VF ro) (n := 0 - 1) hcalls ?_
          intro e w' he
          cases e <;> exact he
        · exact absurd hklt (Nat.not_lt.2 hge)
      · rename_i l asx h1 h2
        simp only [Option.some.injEq, Prod.mk.injEq] at hcal
        obtain ⟨rfl, rfl⟩ := hcal
        obtain ⟨r, s, hm, hfe⟩ := evalA_rel hT h1
        have has := evalAll_rel hT h2
        have hargs : All2 (VRel μ w) asx (c.args.map a.eval).toList := by
          simp only [Array.toList_map]
          exact has
        have hcc := (hc _ _ _ _ _ hcall).2
        rcases hcc with ⟨⟨fn, hfn, hbody⟩, hsound⟩ | ⟨hge, hsound⟩
        · have := (Array.getElem?_eq_some_iff.1 hfn).1
          omega
        · obtain ⟨lp, hlp, hsz, hround⟩ := hsound μ w _ r s (by rw [Nat.add_sub_cancel_left]; exact hm) hargs wf rel fr
          have hrun : (execOp a.eval o).run P w = .ok (.round r lp.fn ((lp.params.zip (c.args.map a.eval)).foldl (fun tmps (t, a) => tmps.setIfInBounds t a) lp.tmps) lp.assign lp.body) w := by
            unfold execOp
            rw [hop]
            simp only [resolve, hf, hfe, Deferred.ofValue, Sem.run_bind, Sem.run_pure, Result.andThen_ok, invoke]
            have := run_yield (P := P) hlp hsz
            simpa using this
          refine ⟨fun _ _ => trivial, ?_⟩
          rw [Oper.semAt_eq _ _ _ hnd, hrun]
          refine ⟨(fun h => by cases h), ?_⟩
          refine (hround ro).mono ?_
          rintro e w' ⟨v', μ', rfl, hv, hp⟩
          exact hK _ _ _ hv hp
      · cases hcal
    · exact plain h
  · exact plain h
theorem stepA_size {call : CallA} (hc : CallSound P call) {o : Oper} (h : stepA P call o T H = some (v, H')) : H.size ≤ H'.size := by
  unfold stepA at h
  split at h
  · split at h
    · obtain ⟨⟨k, args⟩, _, hcall⟩ := bind_some' h
      exact (hc _ _ _ _ _ hcall).1
    · exact opA_size h
  · exact opA_size h
theorem TRel.mono' {μ' : Mu} {w' : World} {t : Array Value} (hT : TRel μ w T t) (hle : μ.le μ') (hs : Shapes w w') : TRel μ' w' T t := All2.mono (fun _ _ => VRel.mono hle hs) hT
theorem TRel.put {dst : Option Tmp} {x : AV} {y : Value} (hT : TRel μ w T a.tmps) (h : VRel μ w x y) : TRel μ w (putA T dst x) (a.put dst y).tmps := by
  cases dst with
  | none => exact hT
  | some d =>
    simp only [putA, Act.put, TRel, Array.toList_setIfInBounds]
    exact All2.set h d hT
theorem bool_iff {x : AV} {y : Value} (h : VRel μ w x y) (b : Bool) : y = .bool b ↔ x = .one (.bool b) := by
  constructor
  · rintro rfl
    cases x with
    | one c =>
      cases c
      case bool b' => simp only [VRel, CRel, Value.bool.injEq] at h; rw [h]
      case ptr p => cases p with
        | none => simp [VRel, CRel] at h
        | some p => obtain ⟨_, _, _, e⟩ := h; cases e
      case sl p _ _ _ => cases p with
        | none => obtain ⟨_, _, e⟩ := h; cases e
        | some p => obtain ⟨_, _, _, _, _, _, e, _⟩ := h; cases e
      case map p => cases p with
        | none => simp [VRel, CRel] at h
        | some p => obtain ⟨_, _, _, e⟩ := h; cases e
      case fn f _ _ => obtain ⟨_, _, e, _⟩ := h; cases e
      case yield l => obtain ⟨_, _, _, e⟩ := h; cases e
      all_goals simp [VRel, CRel] at h
    | agg cs => obtain ⟨_, e, _⟩ := h; cases e
    | tup ps => obtain ⟨_, e, _⟩ := h; cases e
  · rintro rfl; exact h
theorem wanted_eq {ops : Array Oper} {o : Oper} (hT : TRel μ w T a.tmps) : Region.wanted o (yielded ops a.tmps) = wantedA ops T o := by
  unfold Region.wanted wantedA
  cases o.guard with
  | none => rfl
  | some p =>
    obtain ⟨j, want⟩ := p
    simp only [yielded]
    cases hd : (ops[j]?).bind (·.dst) with
    | none => simp
    | some d =>
      simp only [Option.bind_some]
      cases hx : T[d]? with
      | none =>
        have : a.tmps[d]? = none := by
          have hl := hT.length
          simp only [Array.length_toList] at hl
          rw [List.getElem?_eq_none_iff] at hx
          rw [Array.getElem?_eq_none_iff]; omega
        rw [this]; rfl
      | some x =>
        obtain ⟨y, hy, hr⟩ := All2.get hT hx
        rw [Array.getElem?_toList] at hy
        rw [hy]
        cases y
        case bool b =>
          have := (bool_iff hr b).1 rfl
          subst this
          cases b <;> cases want <;> rfl
        all_goals
          cases x with
          | one c => cases c <;> first | rfl | (simp [VRel, CRel] at hr; done)
          | agg cs => rfl
          | tup ps => rfl
theorem opsA_size {call : CallA} (hc : CallSound P call) {ops : Array Oper} : ∀ {l : List Oper} {T T' : List AV} {H H' : AHeap}, opsA P call ops l T H = some (T', H') → H.size ≤ H'.size
  | [], T, T', H, H', h => by simp only [opsA, Option.some.injEq, Prod.mk.injEq] at h; rw [h.2]; exact Nat.le_refl _
  | o :: l, T, T', H, H', h => by
    simp only [opsA] at h
    split at h
    · split at h
      · rename_i v H1 hs
        exact Nat.le_trans (stepA_size hc hs) (opsA_size hc h)
      · cases h
    · exact opsA_size hc h
theorem opsA_wp {call : CallA} (hc : CallSound P call) (hn : NamesOk P) (ro : Option Nat) {ops : Array Oper} {Q : Exit → Act → World → Prop} : ∀ {l : List Oper} {k : Nat} {T T' : List AV} {H H' : AHeap} {μ : Mu} {w : World} {a : Act},
    ops.toList.drop k = l → opsA P call ops l T H = some (T', H') → TRel μ w T a.tmps → WF H → Rel μ H.get w → Free μ H.size H'.size →
    (∀ t' w' μ', TRel μ' w' T' t' → Post μ H w μ' H' w' → Q .normal { a with tmps := t' } w') → wpOpsIn (VF ro) 0 P ops Q (List.range' k l.length) a w
  | [], k, T, T', H, H', μ, w, a, hl, h, hT, wf, rel, fr, hQ => by
    simp only [opsA, Option.some.injEq, Prod.mk.injEq] at h
    obtain ⟨rfl, rfl⟩ := h
    exact hQ a.tmps w μ hT (Post.refl wf rel)
  | o :: l, k, T, T', H, H', μ, w, a, hl, h, hT, wf, rel, fr, hQ => by
    have ho : ops[k]? = some o := by
      rw [← Array.getElem?_toList]
      have := congrArg (fun l => l[0]?) hl
      simpa using this
    have hl' : ops.toList.drop (k + 1) = l := by
      rw [← List.drop_drop, hl]; rfl
    simp only [List.length_cons, List.range'_succ, wpOpsIn, ho]
    rw [wanted_eq hT]
    simp only [opsA] at h
    split at h
    · rename_i hw
      rw [if_pos hw]
      split at h
      · rename_i v H1 hs
        have hs1 := stepA_size hc hs
        have hs2 := opsA_size hc h
        have fr1 : Free μ H.size H1.size := fun b h1 h2 => fr b h1 (by omega)
        refine stepA_wp hc hn ro hT wf rel fr1 hs ?_
        intro v' w' μ' hv hp
        have hle := hp.le fr1
        refine opsA_wp hc hn ro hl' h ((hT.mono' hle hp.shapes).put hv) hp.wf hp.rel ?_ ?_
        · intro b h1 h2
          rw [hp.out b (.inr h1)]
          exact fr b (by omega) h2
        · intro t' w'' μ'' hT' hp'
          have := hQ t' w'' μ'' hT' (hp.trans hp')
          have e : ({ a.put o.dst v' with tmps := t' } : Act) = { a with tmps := t' } := by cases o.dst <;> rfl
          rw [e]; exact this
      · cases h
    · rename_i hw
      rw [if_neg hw]
      refine ⟨fun _ _ => trivial, ?_⟩
      refine opsA_wp hc hn ro hl' h (hT.put (VRel_undef μ w)) wf rel fr ?_
      intro t' w'' μ'' hT' hp'
      have := hQ t' w'' μ'' hT' hp'
      have e : ({ a.put o.dst undef with tmps := t' } : Act) = { a with tmps := t' } := by cases o.dst <;> rfl
      rw [e]; exact this
end
end Go.AI
end
section
namespace Go.AI
section
variable {P : Program} {μ : Mu} {w : World} {a : Act} {v : AV}
theorem evalA_congr {T T' : List AV} {x : Operand} (h : ∀ t, x = .tmp t → T[t]? = T'[t]?) : evalA T x = evalA T' x := by
  cases x with
  | tmp t => simp only [evalA, h t rfl]
  | _ => rfl
theorem evalAll_congr {T T' : List AV} : ∀ {xs : List Operand}, (∀ x ∈ xs, evalA T x = evalA T' x) → evalAll T xs = evalAll T' xs
  | [], _ => rfl
  | x :: xs, h => by
    simp only [evalAll, h x List.mem_cons_self, evalAll_congr fun y hy => h y (List.mem_cons_of_mem _ hy)]
theorem evalParts_congr {T T' : List AV} : ∀ {xs : List (Nat × Operand)}, (∀ x ∈ xs, evalA T x.2 = evalA T' x.2) → evalParts T xs = evalParts T' xs
  | [], _ => rfl
  | (i, x) :: xs, h => by
    simp only [evalParts, h (i, x) List.mem_cons_self, evalParts_congr fun y hy => h y (List.mem_cons_of_mem _ hy)]
theorem optInt_congr {T T' : List AV} {x : Option Operand} (h : ∀ y, x = some y → evalA T y = evalA T' y) : optInt T x = optInt T' x := by
  cases x with
  | none => rfl
  | some y => simp only [optInt, h y rfl]
theorem opA_congr {T T' : List AV} {o : Oper} {H : AHeap} (h : ∀ x ∈ o.op.operands, evalA T x = evalA T' x) : opA P o T H = opA P o T' H := by
  obtain ⟨dst, op, type, pos, after, guard⟩ := o
  cases op <;> simp only [Op.operands] at h <;> simp only [opA]
  case move x => rw [h x (by simp)]
  case assign x => rw [h x (by simp)]
  case pick c x y => rw [h c (by simp), h x (by simp), h y (by simp)]
  case box t x => rw [h x (by simp)]
  case build t ps => rw [evalParts_congr fun x hx => h x.2 (by simp; exact ⟨x.1, by simpa using hx⟩)]
  case buildSlice t n ps => rw [evalParts_congr fun x hx => h x.2 (by simp; exact ⟨x.1, by simpa using hx⟩)]
  case insert t m k x => rw [h m (by simp), h k (by simp), h x (by simp)]
  case load t x => rw [h x (by simp)]
  case store t x y => rw [h x (by simp), h y (by simp)]
  case nilCheck x => rw [h x (by simp)]
  case binOp op t x y yt => rw [h x (by simp), h y (by simp)]
  case unOp op t x => rw [h x (by simp)]
  case convert s d x => rw [h x (by simp)]
  case makeFunc fn f c =>
    cases fn <;> simp only
    rw [evalAll_congr (xs := f.toList) fun x hx => h x (by simp; exact .inl (by simpa using hx)), evalAll_congr (xs := c.toList) fun x hx => h x (by simp; exact .inr (by simpa using hx))]
  case makeMap t r =>
    cases r with
    | none => rfl
    | some x => simp only [h x (by simp)]
  case makeSlice t l c => rw [h l (by simp), h c (by simp)]
  case slice t x lo hi mx =>
    rw [h x (by simp), optInt_congr (x := lo) fun y e => h y (by simp [e]), optInt_congr (x := hi) fun y e => h y (by simp [e]), optInt_congr (x := mx) fun y e => h y (by simp [e])]
  case fieldAddr t x f => rw [h x (by simp)]
  case field t x f => rw [h x (by simp)]
  case indexAddr t x i => rw [h x (by simp), h i (by simp)]
  case index t x i => rw [h x (by simp), h i (by simp)]
  case lookup t x i ok => rw [h x (by simp), h i (by simp)]
  case mapUpdate t m k x => rw [h m (by simp), h k (by simp), h x (by simp)]
  case extract x i => rw [h x (by simp)]
  case call c =>
    obtain ⟨callee, args, argTypes⟩ := c
    cases callee <;> simp only
    rw [evalAll_congr fun x hx => h x (by simp only [Call.operands]; simpa using hx)]
theorem stepA_congr {T T' : List AV} {call : CallA} {o : Oper} {H : AHeap} (h : ∀ x ∈ o.op.operands, evalA T x = evalA T' x) : stepA P call o T H = stepA P call o T' H := by
  have hop := opA_congr (P := P) (H := H) h
  obtain ⟨dst, op, type, pos, after, guard⟩ := o
  unfold stepA
  cases op <;> simp only <;> first
    | exact hop
    | (rename_i c
       obtain ⟨callee, args, argTypes⟩ := c
       cases callee <;> simp only <;> first
         | exact hop
         | (simp only [Op.operands] at h
            simp only [calleeA]
            rename_i f
            rw [h f (by simp [Call.operands]), evalAll_congr fun x hx => h x (by simp only [Call.operands]; simp; exact .inr (by simpa using hx))]))
theorem touchA_congr {T T' : List AV} {o : Oper} (h : ∀ x ∈ o.op.operands, evalA T x = evalA T' x) : touchA o T = touchA o T' := by
  obtain ⟨dst, op, type, pos, after, guard⟩ := o
  cases op <;> simp only [Op.operands] at h <;> simp only [touchA]
  case load t x => rw [h x (by simp)]
  case lookup t x i ok => rw [h x (by simp)]
  case call c =>
    obtain ⟨callee, args, argTypes⟩ := c
    cases callee <;> try rfl
    rename_i b
    cases b <;> first
      | rfl
      | (simp only; rw [evalAll_congr fun x hx => h x (by simp only [Call.operands]; simpa using hx)])
theorem wantedA_congr {T T' : List AV} {ops : Array Oper} {o : Oper} (h : ∀ j b t, o.guard = some (j, b) → (ops[j]?).bind (·.dst) = some t → T[t]? = T'[t]?) : wantedA ops T o = wantedA ops T' o := by
  unfold wantedA
  cases hg : o.guard with
  | none => rfl
  | some p =>
    obtain ⟨j, b⟩ := p
    simp only
    cases hd : (ops[j]?).bind (·.dst) with
    | none => rfl
    | some t => simp only [Option.bind_some, h j b t hg hd]
theorem looks_congr {T T' : List AV} {ops : Array Oper} {o : Oper} (h : ∀ t ∈ o.looksAt ops, T[t]? = T'[t]?) :
    (∀ x ∈ o.op.operands, evalA T x = evalA T' x) ∧ wantedA ops T o = wantedA ops T' o := by
  refine ⟨fun x hx => evalA_congr fun t e => h t ?_, wantedA_congr fun j b t hg hd => h t ?_⟩
  · subst e
    simp only [Oper.looksAt, List.mem_append, List.mem_filterMap]
    exact .inl ⟨.tmp t, by simpa using hx, rfl⟩
  · simp only [Oper.looksAt, List.mem_append, hg, hd]
    exact .inr (by simp)
theorem opA_alloc_abs {T : List AV} {H H' : AHeap} {o : Oper} (ha : isAlloc o.op = true) (h : opA P o T H = some (v, H')) : ∃ obj, H' = H.plus obj ∧ IsNew H obj := by
  obtain ⟨dst, op, type, pos, after, guard⟩ := o
  cases op
  case alloc t =>
    simp only [opA] at h
    split at h
    · simp only [Option.some.injEq, Prod.mk.injEq] at h; obtain ⟨_, rfl⟩ := h
      exact ⟨.row t H.size 0 false _, rfl, rfl, rfl, rfl⟩
    · cases h
  case box t x =>
    simp only [opA] at h
    split at h
    · simp only [Option.some.injEq, Prod.mk.injEq] at h; obtain ⟨_, rfl⟩ := h
      exact ⟨.row t H.size 0 false _, rfl, rfl, rfl, rfl⟩
    · cases h
  case buildSlice t len ps =>
    simp only [opA] at h
    (repeat' split at h) <;> first
      | (cases h; done)
      | (obtain ⟨cs, hcs, h⟩ := bind_some' h
         simp only [Option.some.injEq, Prod.mk.injEq] at h; obtain ⟨_, rfl⟩ := h
         exact ⟨.row _ H.size 0 false _, rfl, rfl, rfl, rfl⟩)
  case makeMap t r =>
    simp only [opA] at h
    (repeat' split at h) <;> first
      | (cases h; done)
      | (simp only [Option.some.injEq, Prod.mk.injEq] at h; obtain ⟨_, rfl⟩ := h
         exact ⟨.map [], rfl, trivial⟩)
  case makeSlice t l c =>
    simp only [opA] at h
    (repeat' split at h) <;> first
      | (cases h; done)
      | (simp only [Option.some.injEq, Prod.mk.injEq] at h; obtain ⟨_, rfl⟩ := h
         exact ⟨.row _ H.size 0 false _, rfl, rfl, rfl, rfl⟩)
  all_goals simp [isAlloc] at ha
theorem opA_calm_abs {T : List AV} {H H' : AHeap} {o : Oper} (hn : isEff o.op = false) (ha : isAlloc o.op = false) (h : opA P o T H = some (v, H')) : H' = H := by
  obtain ⟨dst, op, type, pos, after, guard⟩ := o
  cases op <;> simp only [opA] at h
  case call c =>
    obtain ⟨callee, args, argTypes⟩ := c
    cases callee
    case builtin b =>
      simp only at h
      obtain ⟨vs, hvs, h⟩ := bind_some' h
      cases b
      case len =>
        simp only [builtinA, lenA] at h
        (repeat' split at h) <;> first
          | (cases h; done)
          | (simp only [Option.some.injEq, Prod.mk.injEq] at h; exact h.2.symm)
      case min =>
        simp only [builtinA, minA] at h
        (repeat' split at h) <;> first
          | (cases h; done)
          | (simp only [Option.some.injEq, Prod.mk.injEq] at h; exact h.2.symm)
      case max =>
        simp only [builtinA, maxA] at h
        (repeat' split at h) <;> first
          | (cases h; done)
          | (simp only [Option.some.injEq, Prod.mk.injEq] at h; exact h.2.symm)
      all_goals simp [isEff] at hn
    all_goals simp at h
  case makeFunc fn first caps =>
    cases fn <;> simp only at h <;> (repeat' split at h) <;> first
      | (cases h; done)
      | (simp only [Option.some.injEq, Prod.mk.injEq] at h; exact h.2.symm)
  all_goals first
    | (simp [isEff] at hn; done)
    | (simp [isAlloc] at ha; done)
    | (cases h; done)
    | ((repeat' split at h) <;> first
        | (cases h; done)
        | (simp only [Option.some.injEq, Prod.mk.injEq] at h; exact h.2.symm)
        | (obtain ⟨_, _, h⟩ := bind_some' h; simp only [Option.some.injEq, Prod.mk.injEq] at h; exact h.2.symm)
        | (obtain ⟨_, _, h⟩ := bind_some' h; obtain ⟨_, _, h⟩ := bind_some' h; simp only [Option.some.injEq, Prod.mk.injEq] at h; exact h.2.symm)
        | (obtain ⟨_, _, h⟩ := bind_some' h; split at h <;> first | (cases h; done) | (simp only [Option.some.injEq, Prod.mk.injEq] at h; exact h.2.symm)))
theorem stepA_quiet {T : List AV} {H : AHeap} {call : CallA} {o : Oper} (hn : isEff o.op = false) : stepA P call o T H = opA P o T H := by
  obtain ⟨dst, op, type, pos, after, guard⟩ := o
  unfold stepA
  cases op <;> simp only
  rename_i c
  obtain ⟨callee, args, argTypes⟩ := c
  cases callee <;> simp only
  simp [isEff] at hn
theorem getD_push (acc : Array Nat) (x k : Nat) : (acc.push x).getD k 0 = if k < acc.size then acc.getD k 0 else if k = acc.size then x else 0 := by
  simp only [Array.getD_eq_getD_getElem?, Array.getElem?_push]
  by_cases h1 : k = acc.size
  · subst h1; simp
  · rw [if_neg h1]
    by_cases h2 : k < acc.size
    · rw [if_pos h2]
    · rw [if_neg h2, if_neg h1, Array.getElem?_eq_none (by omega)]; rfl
theorem before_spec (ops : Array Oper) : (Region.before ops).size = ops.size ∧
    ∀ (j i : Nat), ((Region.before ops).getD j 0).testBit i = true → ∃ o, ops[j]? = some o ∧ ∃ e ∈ o.after, Region.binds .any e = true ∧ (i = e.on ∨ ((Region.before ops).getD e.on 0).testBit i = true) := by
  have fold : ∀ (acc : Array Nat) (es : List Edge) (s i : Nat), (es.foldl (fun s e => if Region.binds .any e = true then s ||| 2 ^ e.on ||| acc.getD e.on 0 else s) s).testBit i = true →
      s.testBit i = true ∨ ∃ e ∈ es, Region.binds .any e = true ∧ (i = e.on ∨ (acc.getD e.on 0).testBit i = true) := by
    intro acc es
    induction es with
    | nil => intro s i h; exact .inl h
    | cons e es ih =>
      intro s i h
      simp only [List.foldl_cons] at h
      rcases ih _ i h with h1 | ⟨e', he', h2⟩
      · split at h1
        · rename_i hb
          simp only [Nat.testBit_or, Bool.or_eq_true] at h1
          rcases h1 with (h1 | h1) | h1
          · exact .inl h1
          · rw [Nat.testBit_two_pow] at h1
            exact .inr ⟨e, List.mem_cons_self, hb, .inl (by simpa using (of_decide_eq_true h1).symm)⟩
          · exact .inr ⟨e, List.mem_cons_self, hb, .inr h1⟩
        · exact .inl h1
      · exact .inr ⟨e', List.mem_cons_of_mem _ he', h2⟩
  have main : ∀ (l : List Oper) (acc : Array Nat) (pre : List Oper), pre.length = acc.size →
      (∀ (j i : Nat), (acc.getD j 0).testBit i = true → ∃ o, pre[j]? = some o ∧ ∃ e ∈ o.after, Region.binds .any e = true ∧ (i = e.on ∨ (acc.getD e.on 0).testBit i = true)) →
      let r := l.foldl (fun acc o => acc.push (o.after.foldl (fun s e => if Region.binds .any e = true then s ||| 2 ^ e.on ||| acc.getD e.on 0 else s) 0)) acc
      r.size = (pre ++ l).length ∧ ∀ (j i : Nat), (r.getD j 0).testBit i = true → ∃ o, (pre ++ l)[j]? = some o ∧ ∃ e ∈ o.after, Region.binds .any e = true ∧ (i = e.on ∨ (r.getD e.on 0).testBit i = true) := by
    intro l
    induction l with
    | nil => intro acc pre hl hacc; simpa [hl] using hacc
    | cons o l ih =>
      intro acc pre hl hacc
      simp only [List.foldl_cons]
      have := ih (acc.push (o.after.foldl (fun s e => if Region.binds .any e = true then s ||| 2 ^ e.on ||| acc.getD e.on 0 else s) 0)) (pre ++ [o]) (by simp [hl]) ?_
      · simpa using this
      · intro j i hji
        have keep : ∀ k, (acc.getD k 0).testBit i = true → ((acc.push (o.after.foldl (fun s e => if Region.binds .any e = true then s ||| 2 ^ e.on ||| acc.getD e.on 0 else s) 0)).getD k 0).testBit i = true := by
          intro k hk
          rw [getD_push]
          by_cases hlt : k < acc.size
          · rw [if_pos hlt]; exact hk
          · rw [Array.getD_eq_getD_getElem?, Array.getElem?_eq_none (by omega)] at hk
            simp at hk
        rw [getD_push] at hji
        by_cases hj : j < acc.size
        · rw [if_pos hj] at hji
          obtain ⟨o', ho', e, he, hb, h1⟩ := hacc j i hji
          refine ⟨o', ?_, e, he, hb, h1.imp id (keep _)⟩
          rw [List.getElem?_append_left (by omega)]
          exact ho'
        · by_cases hj2 : j = acc.size
          · subst hj2
            rw [if_neg (Nat.lt_irrefl _), if_pos rfl, ← Array.foldl_toList] at hji
            rcases fold acc o.after.toList 0 i hji with h0 | ⟨e, he, hb, h1⟩
            · simp at h0
            · refine ⟨o, ?_, e, by simpa using he, hb, h1.imp id (keep _)⟩
              rw [← hl]
              simp
          · rw [if_neg hj, if_neg hj2] at hji
            simp at hji
  have := main ops.toList #[] [] rfl (by intro j i h; simp [Array.getD] at h)
  simp only [List.nil_append] at this
  unfold Region.before
  rw [← Array.foldl_toList]
  exact ⟨by simpa using this.1, fun j i h => by
    obtain ⟨o, ho, h2⟩ := this.2 j i h
    exact ⟨o, by rw [← Array.getElem?_toList]; exact ho, h2⟩⟩
structure DrawOk (ops : Array Oper) : Prop where
  down : ∀ (j : Nat) (y : Oper), ops[j]? = some y → ∀ e ∈ y.after, Region.binds .any e = true → e.on < j
  guard : ∀ (j : Nat) (y : Oper) (g : Nat) (b : Bool), ops[j]? = some y → y.guard = some (g, b) → g < j ∧ ordered (Region.before ops) g j = true
  eff : ∀ (i j : Nat) (x y : Oper), i < j → ops[i]? = some x → ops[j]? = some y → isEff x.op = true → isEff y.op = true → ordered (Region.before ops) i j = true
  war : ∀ (i j : Nat) (x y : Oper) (t : Tmp), i < j → ops[i]? = some x → ops[j]? = some y → y.dst = some t → (x.dst = some t ∨ t ∈ x.looksAt ops) → ordered (Region.before ops) i j = true
  raw : ∀ (i j : Nat) (x y : Oper) (t : Tmp), i < j → ops[i]? = some x → ops[j]? = some y → x.dst = some t → t ∈ y.looksAt ops → ordered (Region.before ops) i j = true
theorem drawOk_spec {ops : Array Oper} (h : drawOk ops = true) : DrawOk ops := by
  unfold drawOk at h
  simp only [List.all_eq_true, List.mem_range] at h
  have hj : ∀ (j : Nat) (y : Oper), ops[j]? = some y → j < ops.size := by
    intro j y hy
    rcases Nat.lt_or_ge j ops.size with h | h
    · exact h
    · rw [Array.getElem?_eq_none h] at hy; cases hy
  have key : ∀ (j : Nat) (y : Oper), ops[j]? = some y → (y.after.all fun e => !Region.binds .any e || decide (e.on < j)) = true ∧
      (match y.guard with | some (g, _) => ordered (Region.before ops) g j && decide (g < j) | none => true) = true ∧
      ((List.range j).all fun i => match ops[i]? with
        | some x =>
          (!(isEff x.op && isEff y.op) || ordered (Region.before ops) i j) &&
          (!(y.dst.isSome && (x.dst == y.dst || (x.looksAt ops).any (fun t => y.dst == some t))) || ordered (Region.before ops) i j) &&
          (!(x.dst.isSome && (y.looksAt ops).any (fun t => x.dst == some t)) || ordered (Region.before ops) i j)
        | none => true) = true := by
    intro j y hy
    have := h j (hj j y hy)
    rw [hy] at this
    simp only [Bool.and_eq_true] at this
    exact ⟨this.1.1, this.1.2, this.2⟩
  have key2 : ∀ (i j : Nat) (x y : Oper), i < j → ops[i]? = some x → ops[j]? = some y →
      (!(isEff x.op && isEff y.op) || ordered (Region.before ops) i j) = true ∧
      (!(y.dst.isSome && (x.dst == y.dst || (x.looksAt ops).any (fun t => y.dst == some t))) || ordered (Region.before ops) i j) = true ∧
      (!(x.dst.isSome && (y.looksAt ops).any (fun t => x.dst == some t)) || ordered (Region.before ops) i j) = true := by
    intro i j x y hij hx hy
    have := (key j y hy).2.2
    rw [List.all_eq_true] at this
    have := this i (List.mem_range.2 hij)
    rw [hx] at this
    simp only [Bool.and_eq_true] at this
    exact ⟨this.1.1, this.1.2, this.2⟩
  constructor
  · intro j y hy e he hb
    have := (key j y hy).1
    rw [Array.all_eq_true'] at this
    have := this e he
    rw [hb] at this
    simpa using this
  · intro j y g b hy hg
    have := (key j y hy).2.1
    rw [hg] at this
    simp only [Bool.and_eq_true, decide_eq_true_eq] at this
    exact ⟨this.2, this.1⟩
  · intro i j x y hij hx hy ex ey
    have := (key2 i j x y hij hx hy).1
    rw [ex, ey] at this
    simpa using this
  · intro i j x y t hij hx hy hd ht
    have := (key2 i j x y hij hx hy).2.1
    rw [hd] at this
    have hc : (x.dst == some t || (x.looksAt ops).any (fun t' => some t == some t')) = true := by
      rcases ht with ht | ht
      · rw [ht]; simp
      · rw [Bool.or_eq_true]; right
        rw [List.any_eq_true]
        exact ⟨t, ht, by simp⟩
    rw [hc] at this
    simpa using this
  · intro i j x y t hij hx hy hd ht
    have := (key2 i j x y hij hx hy).2.2
    rw [hd] at this
    have hc : ((y.looksAt ops).any (fun t' => some t == some t')) = true := by
      rw [List.any_eq_true]
      exact ⟨t, ht, by simp⟩
    rw [hc] at this
    simpa using this
end
end Go.AI
end
section
namespace Go.AI
section
variable {P : Program} {call : CallA} {ops : Array Oper} {T : Nat → List AV} {Hs : Nat → AHeap} {val : Nat → AV}
structure Canon (P : Program) (call : CallA) (ops : Array Oper) (T : Nat → List AV) (Hs : Nat → AHeap) (val : Nat → AV) : Prop where
  step : ∀ (i : Nat) (o : Oper), ops[i]? = some o → T (i + 1) = putA (T i) o.dst (val i) ∧
    ((wantedA ops (T i) o = true ∧ stepA P call o (T i) (Hs i) = some (val i, Hs (i + 1))) ∨ (wantedA ops (T i) o = false ∧ val i = .tup [] ∧ Hs (i + 1) = Hs i))
  pairs : ∀ (i k : Nat) (o oe : Oper), ops[i]? = some o → ops[k]? = some oe → isRead o.op = true → isEff oe.op = true → i ≠ k → ordered (Region.before ops) i k = false → wantedA ops (T i) o = true →
    (k < i → ∀ b, touchA o (T i) = some b → (Hs k).size ≤ b ∨ (opA P o (T i) (Hs k)).map (·.1) = some (val i)) ∧ (i < k → (opA P o (T i) (Hs (k + 1))).map (·.1) = some (val i))
def viewN (Hs : Nat → AHeap) : Nat → Nat → Nat → Option AObj
  | 0, c, b => (Hs c).get b
  | m + 1, c, b => if b < (Hs c).size then (Hs c).get b else viewN Hs m (c + 1) b
def view (ops : Array Oper) (Hs : Nat → AHeap) (c : Nat) : Nat → Option AObj := viewN Hs (ops.size - c) c
theorem view_lt {c b : Nat} (h : b < (Hs c).size) : view ops Hs c b = (Hs c).get b := by
  unfold view
  cases ops.size - c with
  | zero => rfl
  | succ m => simp only [viewN, if_pos h]
theorem view_ge {c b : Nat} (hc : c < ops.size) (h : (Hs c).size ≤ b) : view ops Hs c b = view ops Hs (c + 1) b := by
  unfold view
  rw [show ops.size - c = (ops.size - (c + 1)) + 1 from by omega]
  simp only [viewN]
  rw [if_neg (by omega)]
theorem view_end (b : Nat) : view ops Hs ops.size b = (Hs ops.size).get b := by
  unfold view
  rw [Nat.sub_self]; rfl
theorem opGet {i : Nat} (h : i < ops.size) : ∃ o, ops[i]? = some o := ⟨ops[i], Array.getElem?_eq_getElem h⟩
theorem opLt {i : Nat} {o : Oper} (h : ops[i]? = some o) : i < ops.size := by
  rcases Nat.lt_or_ge i ops.size with h' | h'
  · exact h'
  · rw [Array.getElem?_eq_none h'] at h; cases h
theorem Canon.size (cn : Canon P call ops T Hs val) (hc : CallSound P call) {i : Nat} (hi : i < ops.size) : (Hs i).size ≤ (Hs (i + 1)).size := by
  obtain ⟨o, ho⟩ := opGet hi
  rcases (cn.step i o ho).2 with ⟨_, h⟩ | ⟨_, _, h⟩
  · exact stepA_size hc h
  · rw [h]; exact Nat.le_refl _
theorem Canon.mono (cn : Canon P call ops T Hs val) (hc : CallSound P call) : ∀ {j i : Nat}, i ≤ j → j ≤ ops.size → (Hs i).size ≤ (Hs j).size
  | 0, i, h, _ => by obtain rfl : i = 0 := by omega
                     exact Nat.le_refl _
  | j + 1, i, h, hj => by
    by_cases e : i = j + 1
    · subst e; exact Nat.le_refl _
    · exact Nat.le_trans (cn.mono hc (show i ≤ j by omega) (by omega)) (cn.size hc (by omega))
theorem Canon.quiet (cn : Canon P call ops T Hs val) {i : Nat} {o : Oper} (ho : ops[i]? = some o) (hn : isEff o.op = false) :
    Hs (i + 1) = Hs i ∨ ∃ obj, isAlloc o.op = true ∧ wantedA ops (T i) o = true ∧ Hs (i + 1) = (Hs i).plus obj ∧ IsNew (Hs i) obj := by
  rcases (cn.step i o ho).2 with ⟨hw, h⟩ | ⟨_, _, h⟩
  · rw [stepA_quiet hn] at h
    by_cases ha : isAlloc o.op = true
    · obtain ⟨obj, h1, h2⟩ := opA_alloc_abs ha h
      exact .inr ⟨obj, ha, hw, h1, h2⟩
    · exact .inl (opA_calm_abs hn (by simpa using ha) h)
  · exact .inl h
theorem plus_old {H : AHeap} {obj : AObj} (hn : IsNew H obj) {b : Nat} (h : b < H.size) : (H.plus obj).get b = H.get b := by
  rw [AHeap.get_plus hn, if_neg (by omega)]
theorem plus_new {H : AHeap} {obj : AObj} (hn : IsNew H obj) : (H.plus obj).get H.size = some obj := by
  rw [AHeap.get_plus hn, if_pos rfl]
theorem Canon.view_quiet (cn : Canon P call ops T Hs val) {i : Nat} {o : Oper} (ho : ops[i]? = some o) (hn : isEff o.op = false) : view ops Hs i = view ops Hs (i + 1) := by
  have hi := opLt ho
  funext b
  rcases cn.quiet ho hn with h | ⟨obj, _, _, h, hnew⟩
  · by_cases hb : b < (Hs i).size
    · rw [view_lt hb, view_lt (by rw [h]; exact hb), h]
    · rw [view_ge hi (by omega)]
  · by_cases hb : b < (Hs i).size
    · rw [view_lt hb, view_lt (by rw [h, AHeap.size_plus]; omega), h, plus_old hnew hb]
    · rw [view_ge hi (by omega)]
def dstAt (ops : Array Oper) (k : Nat) : Option Tmp := (ops[k]?).bind (·.dst)
def tmpsAt (ops : Array Oper) (T : Nat → List AV) (val : Nat → AV) (S : Nat → Bool) : Nat → List AV
  | 0 => T 0
  | k + 1 => if S k then putA (tmpsAt ops T val S k) (dstAt ops k) (val k) else tmpsAt ops T val S k
def addOp (S : Nat → Bool) (i : Nat) : Nat → Bool := fun k => if k = i then true else S k
theorem putA_get (l : List AV) (d : Option Tmp) (x : AV) (t : Nat) (h : d ≠ some t) : (putA l d x)[t]? = l[t]? := by
  cases d with
  | none => rfl
  | some d =>
    simp only [putA, List.getElem?_set]
    rw [if_neg (fun e => h (by rw [e]))]
theorem putA_get_congr {l m : List AV} {d : Option Tmp} {x : AV} {t : Nat} (h : l[t]? = m[t]?) : (putA l d x)[t]? = (putA m d x)[t]? := by
  cases d with
  | none => exact h
  | some d =>
    simp only [putA, List.getElem?_set]
    by_cases e : d = t
    · subst e
      rw [if_pos rfl, if_pos rfl]
      have : (d < l.length) ↔ (d < m.length) := by
        have h1 : l[d]? = none ↔ l.length ≤ d := List.getElem?_eq_none_iff
        have h2 : m[d]? = none ↔ m.length ≤ d := List.getElem?_eq_none_iff
        rw [h] at h1
        have h3 : l.length ≤ d ↔ m.length ≤ d := h1.symm.trans h2
        rw [← Nat.not_le, ← Nat.not_le, h3]
      by_cases hl : d < l.length
      · rw [if_pos hl, if_pos (this.1 hl)]
      · rw [if_neg hl, if_neg (fun h => hl (this.2 h))]
    · rw [if_neg e, if_neg e]; exact h
theorem putA_comm (l : List AV) (d e : Option Tmp) (x y : AV) (h : ∀ t, d = some t → e ≠ some t) : putA (putA l d x) e y = putA (putA l e y) d x := by
  cases d with
  | none => rfl
  | some d =>
    cases e with
    | none => rfl
    | some e =>
      have : d ≠ e := fun he => h d rfl (by rw [he])
      simp only [putA]
      rw [List.set_comm _ _ this]
theorem tmpsAt_all (cn : Canon P call ops T Hs val) {S : Nat → Bool} : ∀ {m : Nat}, m ≤ ops.size → (∀ k, k < m → S k = true) → tmpsAt ops T val S m = T m
  | 0, _, _ => rfl
  | m + 1, hm, h => by
    obtain ⟨o, ho⟩ := opGet (show m < ops.size by omega)
    simp only [tmpsAt, h m (by omega), if_true]
    rw [tmpsAt_all cn (by omega) fun k hk => h k (by omega), (cn.step m o ho).1]
    simp [dstAt, ho]
structure Listed (ops : Array Oper) (S : Nat → Bool) : Prop where
  down : ∀ (j : Nat) (y : Oper), ops[j]? = some y → S j = true → ∀ e ∈ y.after, Region.binds .any e = true → S e.on = true
theorem Listed.before {S : Nat → Bool} (dk : DrawOk ops) (ls : Listed ops S) : ∀ {j i : Nat}, S j = true → ((Region.before ops).getD j 0).testBit i = true → S i = true := by
  intro j
  induction j using Nat.strongRecOn with
  | _ j ih =>
    intro i hj hb
    obtain ⟨o, ho, e, he, hbi, h1⟩ := (before_spec ops).2 j i hb
    have hd := dk.down j o ho e he hbi
    have hs := ls.down j o ho hj e he hbi
    rcases h1 with rfl | h1
    · exact hs
    · exact ih e.on hd hs h1
structure Ready (ops : Array Oper) (S : Nat → Bool) (i : Nat) (o : Oper) : Prop where
  op : ops[i]? = some o
  new : S i = false
  down : ∀ e ∈ o.after, Region.binds .any e = true → S e.on = true
theorem Ready.pred {S : Nat → Bool} (dk : DrawOk ops) (ls : Listed ops S) {i : Nat} {o : Oper} (r : Ready ops S i o) {k : Nat} (hk : k < i) (h : ordered (Region.before ops) k i = true) : S k = true := by
  unfold ordered at h
  rw [Nat.max_eq_right (by omega), Nat.min_eq_left (by omega)] at h
  obtain ⟨o', ho', e, he, hb, h1⟩ := (before_spec ops).2 i k h
  rw [r.op] at ho'; cases ho'
  rcases h1 with rfl | h1
  · exact r.down e he hb
  · exact ls.before dk (r.down e he hb) h1
theorem Ready.succ {S : Nat → Bool} (dk : DrawOk ops) (ls : Listed ops S) {i : Nat} {o : Oper} (r : Ready ops S i o) {k : Nat} (hk : i < k) (h : ordered (Region.before ops) i k = true) : S k = false := by
  unfold ordered at h
  rw [Nat.max_eq_right (by omega), Nat.min_eq_left (by omega)] at h
  cases hs : S k with
  | false => rfl
  | true =>
    have := ls.before dk hs h
    rw [r.new] at this; cases this
theorem tmpsAt_look {S : Nat → Bool} (cn : Canon P call ops T Hs val) (dk : DrawOk ops) (ls : Listed ops S) {i : Nat} {o : Oper} (r : Ready ops S i o) {t : Tmp} (ht : t ∈ o.looksAt ops) :
    (tmpsAt ops T val S ops.size)[t]? = (T i)[t]? := by
  have hi := opLt r.op
  have lo : ∀ k, k ≤ i → (tmpsAt ops T val S k)[t]? = (T k)[t]? := by
    intro k
    induction k with
    | zero => intro _; rfl
    | succ k ih =>
      intro hk
      obtain ⟨x, hx⟩ := opGet (show k < ops.size by omega)
      have hd : dstAt ops k = x.dst := by simp [dstAt, hx]
      simp only [tmpsAt]
      rw [(cn.step k x hx).1, hd]
      cases hs : S k with
      | true => simp only [if_true]; exact putA_get_congr (ih (by omega))
      | false =>
        simp only [Bool.false_eq_true, if_false]
        rw [putA_get, ih (by omega)]
        intro e
        have := r.pred dk ls (by omega) (dk.raw k i x o t (by omega) hx r.op e ht)
        rw [hs] at this; cases this
  have up : ∀ m, i + m ≤ ops.size → (tmpsAt ops T val S (i + m))[t]? = (T i)[t]? := by
    intro m
    induction m with
    | zero => intro _; exact lo i (Nat.le_refl _)
    | succ m ih =>
      intro hm
      obtain ⟨x, hx⟩ := opGet (show i + m < ops.size by omega)
      have hd : dstAt ops (i + m) = x.dst := by simp [dstAt, hx]
      rw [show i + (m + 1) = (i + m) + 1 from by omega]
      simp only [tmpsAt]
      cases hs : S (i + m) with
      | false => simp only [Bool.false_eq_true, if_false]; exact ih (by omega)
      | true =>
        simp only [if_true]
        rw [putA_get, ih (by omega)]
        rw [hd]
        intro e
        have hlt : i < i + m := by
          rcases Nat.eq_zero_or_pos m with h | h
          · subst h
            have := r.new
            rw [Nat.add_zero] at hs
            rw [hs] at this; cases this
          · omega
        have := r.succ dk ls hlt (dk.war i (i + m) o x t hlt r.op hx e (.inr ht))
        rw [hs] at this; cases this
  have := up (ops.size - i) (by omega)
  rwa [show i + (ops.size - i) = ops.size from by omega] at this
theorem tmpsAt_add {S : Nat → Bool} (dk : DrawOk ops) (ls : Listed ops S) {i : Nat} {o : Oper} (r : Ready ops S i o) :
    tmpsAt ops T val (addOp S i) ops.size = putA (tmpsAt ops T val S ops.size) o.dst (val i) := by
  have hi := opLt r.op
  have lo : ∀ k, k ≤ i → tmpsAt ops T val (addOp S i) k = tmpsAt ops T val S k := by
    intro k
    induction k with
    | zero => intro _; rfl
    | succ k ih =>
      intro hk
      simp only [tmpsAt, ih (by omega), addOp, if_neg (show ¬ k = i by omega)]
  have up : ∀ m, i + 1 + m ≤ ops.size → tmpsAt ops T val (addOp S i) (i + 1 + m) = putA (tmpsAt ops T val S (i + 1 + m)) o.dst (val i) := by
    intro m
    induction m with
    | zero =>
      intro _
      have hd : dstAt ops i = o.dst := by simp [dstAt, r.op]
      simp only [tmpsAt, addOp, if_true, r.new, Bool.false_eq_true, if_false]
      rw [← hd]
      congr 1
      exact lo i (Nat.le_refl _)
    | succ m ih =>
      intro hm
      obtain ⟨x, hx⟩ := opGet (show i + 1 + m < ops.size by omega)
      have hd : dstAt ops (i + 1 + m) = x.dst := by simp [dstAt, hx]
      rw [show i + 1 + (m + 1) = (i + 1 + m) + 1 from by omega]
      simp only [tmpsAt]
      have e : addOp S i (i + 1 + m) = S (i + 1 + m) := by simp only [addOp]; rw [if_neg (by omega)]
      rw [e, ih (by omega)]
      cases hs : S (i + 1 + m) with
      | false => simp
      | true =>
        simp only [if_true]
        rw [hd]
        refine putA_comm _ _ _ _ _ ?_
        intro t h1 h2
        have := r.succ dk ls (show i < i + 1 + m by omega) (dk.war i (i + 1 + m) o x t (by omega) r.op hx h2 (.inl h1))
        rw [hs] at this; cases this
  have := up (ops.size - (i + 1)) (by omega)
  rwa [show i + 1 + (ops.size - (i + 1)) = ops.size from by omega] at this
end
end Go.AI
end
section
namespace Go.AI
section
variable {P : Program} {call : CallA} {ops : Array Oper} {T : Nat → List AV} {Hs : Nat → AHeap} {val : Nat → AV} {μ0 : Mu} {w0 : World} {a0 : Act}
def seen (μ : Mu) (g : Nat → Option AObj) : Nat → Option AObj := fun b => if (μ b).isSome then g b else none
structure Inv (ops : Array Oper) (T : Nat → List AV) (Hs : Nat → AHeap) (val : Nat → AV) (μ0 : Mu) (w0 : World) (a0 : Act) (S : Nat → Bool) (c : Nat) (μ : Mu) (a : Act) (w : World) : Prop where
  cle : c ≤ ops.size
  cut : ∀ e o, ops[e]? = some o → isEff o.op = true → (S e = true ↔ e < c)
  rel : Rel μ (seen μ (view ops Hs c)) w
  clos : ∀ b1 b2 o1 o2 k, (Hs c).get b1 = some o1 → (Hs c).get b2 = some o2 → grpOf o1 = some k → grpOf o2 = some k → (μ b1).isSome → (μ b2).isSome
  wf : WF (Hs c)
  dom : ∀ b, (μ b).isSome → b < (Hs 0).size ∨ (Hs ops.size).size ≤ b ∨ ∃ p, p < ops.size ∧ S p = true ∧ (Hs p).size ≤ b ∧ b < (Hs (p + 1)).size
  made : ∀ p, p < ops.size → S p = true → ∀ b, (Hs p).size ≤ b → b < (Hs (p + 1)).size → (μ b).isSome
  pend : ∀ b, (Hs c).size ≤ b → b < (Hs ops.size).size → (μ b).isSome → ∃ o, view ops Hs c b = some o ∧ (∀ k, grpOf o = some k → k = b) ∧ o.soft = true
  unm : ∀ b, b < (Hs c).size → μ b = none → (b < (Hs 0).size ∧ (Hs c).get b = (Hs 0).get b) ∨
    ∃ p obj, p < ops.size ∧ S p = false ∧ b = (Hs p).size ∧ Hs (p + 1) = (Hs p).plus obj ∧ IsNew (Hs p) obj ∧ (Hs c).get b = some obj
  tmps : TRel μ w (tmpsAt ops T val S ops.size) a.tmps
  defers : a.defers = a0.defers
  out : ∀ b, b < (Hs 0).size ∨ (Hs ops.size).size ≤ b → μ b = μ0 b
  fresh : ∀ b r s, (Hs 0).size ≤ b → b < (Hs ops.size).size → μ b = some (r, s) → w0.heap.size ≤ r ∨ ∃ b0 s0 o, μ0 b0 = some (r, s0) ∧ (Hs 0).get b0 = some o ∧ o.soft = true
  kind : ∀ b o, (Hs 0).get b = some o → ∃ o', (Hs c).get b = some o' ∧ sameKind o o'
  kind' : ∀ b o', b < (Hs 0).size → (Hs c).get b = some o' → ∃ o, (Hs 0).get b = some o ∧ sameKind o o'
  os : w.os = w0.os
  tape : w.tape = w0.tape
  output : w.output = w0.output
  wsize : w0.heap.size ≤ w.heap.size
  keep : ∀ k, k < w0.heap.size → (∀ b s o, μ0 b = some (k, s) → (Hs 0).get b = some o → o.soft = false) → w.heap[k]? = w0.heap[k]?
  shapes : Shapes w0 w
variable {S : Nat → Bool} {c : Nat} {μ : Mu} {a : Act} {w : World}
theorem seen_some {g : Nat → Option AObj} {b : Nat} {o : AObj} (h : seen μ g b = some o) : (μ b).isSome ∧ g b = some o := by
  unfold seen at h
  split at h
  · rename_i hm; exact ⟨hm, h⟩
  · cases h
theorem Inv.shift (cn : Canon P call ops T Hs val) (hc : CallSound P call) (iv : Inv ops T Hs val μ0 w0 a0 S c μ a w) {o : Oper} (ho : ops[c]? = some o) (hn : isEff o.op = false) :
    Inv ops T Hs val μ0 w0 a0 S (c + 1) μ a w := by
  have hlt := opLt ho
  have hv := cn.view_quiet ho hn
  have hq := cn.quiet ho hn
  have hsz := cn.size hc hlt
  have h0c : (Hs 0).size ≤ (Hs c).size := cn.mono hc (Nat.zero_le _) iv.cle
  have hold : ∀ b, b < (Hs c).size → (Hs (c + 1)).get b = (Hs c).get b := by
    intro b hb
    rcases hq with h | ⟨obj, _, _, h, hnew⟩
    · rw [h]
    · rw [h, plus_old hnew hb]
  have hwf : WF (Hs (c + 1)) := by
    rcases hq with h | ⟨obj, _, _, h, hnew⟩
    · rw [h]; exact iv.wf
    · rw [h]; exact iv.wf.plus obj
  -- a new block stands alone in its group
  have hown : ∀ b o', (Hs c).size ≤ b → (Hs (c + 1)).get b = some o' → b = (Hs c).size ∧ ∀ k, grpOf o' = some k → k = b := by
    intro b o' hb hg
    rcases hq with h | ⟨obj, _, _, h, hnew⟩
    · rw [h, AHeap.get_ge hb] at hg; cases hg
    · rw [h, AHeap.get_plus hnew] at hg
      split at hg
      · rename_i e
        subst e; cases hg
        exact ⟨rfl, fun k hk => grpOf_new hnew hk⟩
      · rw [AHeap.get_ge hb] at hg; cases hg
  refine { iv with cle := hlt, cut := ?_, rel := by rw [← hv]; exact iv.rel, clos := ?_, wf := hwf, pend := ?_, unm := ?_, kind := ?_, kind' := ?_ }
  · intro e oe he hee
    rw [iv.cut e oe he hee]
    have : e ≠ c := by rintro rfl; rw [ho] at he; cases he; rw [hn] at hee; cases hee
    omega
  · intro b1 b2 o1 o2 k g1 g2 k1 k2 h
    by_cases h1 : b1 < (Hs c).size
    · rw [hold b1 h1] at g1
      by_cases h2 : b2 < (Hs c).size
      · rw [hold b2 h2] at g2
        exact iv.clos b1 b2 o1 o2 k g1 g2 k1 k2 h
      · have := (hown b2 o2 (by omega) g2).2 k k2
        have := iv.wf.grp_lt g1 k1
        omega
    · have e1 := (hown b1 o1 (by omega) g1).2 k k1
      by_cases h2 : b2 < (Hs c).size
      · rw [hold b2 h2] at g2
        have := iv.wf.grp_lt g2 k2
        omega
      · have e2 := (hown b2 o2 (by omega) g2).2 k k2
        rw [← e2, e1]; exact h
  · intro b h1 h2 h3
    rw [← hv]
    exact iv.pend b (by omega) h2 h3
  · intro b hb hm
    by_cases h1 : b < (Hs c).size
    · rw [hold b h1]
      exact iv.unm b h1 hm
    · right
      rcases hq with h | ⟨obj, _, _, h, hnew⟩
      · rw [h] at hb; omega
      · have hb' : b = (Hs c).size := by rw [h, AHeap.size_plus] at hb; omega
        subst hb'
        refine ⟨c, obj, hlt, ?_, rfl, h, hnew, by rw [h]; exact plus_new hnew⟩
        cases hs : S c with
        | false => rfl
        | true =>
          have := iv.made c hlt hs _ (Nat.le_refl _) (by rw [h, AHeap.size_plus]; omega)
          rw [hm] at this; cases this
  · intro b o' hb
    obtain ⟨o2, h1, h2⟩ := iv.kind b o' hb
    exact ⟨o2, by rw [hold b (AHeap.get_lt h1)]; exact h1, h2⟩
  · intro b o' hb hg
    rw [hold b (by omega)] at hg
    exact iv.kind' b o' hb hg
theorem Inv.shiftTo (cn : Canon P call ops T Hs val) (hc : CallSound P call) : ∀ {d : Nat} {c : Nat}, Inv ops T Hs val μ0 w0 a0 S c μ a w → c + d ≤ ops.size → (∀ k o, c ≤ k → k < c + d → ops[k]? = some o → isEff o.op = false) →
    Inv ops T Hs val μ0 w0 a0 S (c + d) μ a w
  | 0, _, iv, _, _ => iv
  | d + 1, c, iv, h, hn => by
    obtain ⟨o, ho⟩ := opGet (show c < ops.size by omega)
    have := Inv.shiftTo cn hc (d := d) (iv.shift cn hc ho (hn c o (Nat.le_refl _) (by omega) ho)) (by omega) (fun k o' h1 h2 h3 => hn k o' (by omega) (by omega) h3)
    rwa [show c + 1 + d = c + (d + 1) from by omega] at this
theorem Inv.calm (_cn : Canon P call ops T Hs val) (dk : DrawOk ops) (ls : Listed ops S) (iv : Inv ops T Hs val μ0 w0 a0 S c μ a w) {i : Nat} {o : Oper} (r : Ready ops S i o) (hn : isEff o.op = false) (hsame : Hs (i + 1) = Hs i)
    {v' : Value} (hv : VRel μ w (val i) v') : Inv ops T Hs val μ0 w0 a0 (addOp S i) c μ (a.put o.dst v') w := by
  have add : ∀ k, k ≠ i → addOp S i k = S k := fun k hk => by simp only [addOp]; rw [if_neg hk]
  have up : ∀ k, S k = true → addOp S i k = true := fun k hk => by
    by_cases e : k = i
    · subst e; simp [addOp]
    · rw [add k e]; exact hk
  refine { iv with cut := ?_, dom := ?_, made := ?_, unm := ?_, tmps := ?_, defers := ?_ }
  · intro e oe he hee
    have : e ≠ i := by rintro rfl; rw [r.op] at he; cases he; rw [hn] at hee; cases hee
    rw [add e this]
    exact iv.cut e oe he hee
  · intro b hb
    rcases iv.dom b hb with h | h | ⟨p, h1, h2, h3, h4⟩
    · exact .inl h
    · exact .inr (.inl h)
    · exact .inr (.inr ⟨p, h1, up p h2, h3, h4⟩)
  · intro p hp hs b h1 h2
    by_cases e : p = i
    · subst e; rw [hsame] at h2; omega
    · rw [add p e] at hs
      exact iv.made p hp hs b h1 h2
  · intro b hb hm
    rcases iv.unm b hb hm with h | ⟨p, obj, h1, h2, h3, h4, h5, h6⟩
    · exact .inl h
    · refine .inr ⟨p, obj, h1, ?_, h3, h4, h5, h6⟩
      rw [add p]
      · exact h2
      · rintro rfl
        have := congrArg AHeap.size (hsame.symm.trans h4)
        rw [AHeap.size_plus] at this; omega
  · rw [tmpsAt_add dk ls r]
    exact iv.tmps.put hv
  · rw [← iv.defers]; cases o.dst <;> rfl
theorem alloc_view (cn : Canon P call ops T Hs val) (hc : CallSound P call) {i : Nat} {obj : AObj} (hi : i < ops.size) (hH : Hs (i + 1) = (Hs i).plus obj) (hnew : IsNew (Hs i) obj) :
    ∀ {d c : Nat}, c + d = i + 1 → 0 < d → view ops Hs c (Hs i).size = some obj := by
  intro d
  induction d with
  | zero => intro c _ h; omega
  | succ d ih =>
    intro c hcd _
    have hci : (Hs c).size ≤ (Hs i).size := cn.mono hc (by omega) (by omega)
    rw [view_ge (by omega) hci]
    by_cases hd : d = 0
    · subst hd
      obtain rfl : c = i := by omega
      rw [view_lt (by rw [hH, AHeap.size_plus]; omega), hH]
      exact plus_new hnew
    · exact ih (by omega) (by omega)
theorem Inv.alloc (cn : Canon P call ops T Hs val) (hc : CallSound P call) (dk : DrawOk ops) (ls : Listed ops S) (wf0 : WF (Hs 0)) (iv : Inv ops T Hs val μ0 w0 a0 S c μ a w) {i : Nat} {o : Oper} (r : Ready ops S i o) (hn : isEff o.op = false)
    {obj : AObj} {robj : Obj} {v' : Value} (hH : Hs (i + 1) = (Hs i).plus obj) (hnew : IsNew (Hs i) obj) (ho : ORel μ w 0 obj (some robj))
    (hv : ∀ μ' : Mu, μ' (Hs i).size = some (w.heap.size, 0) → VRel μ' (w.alloc robj) (val i) v') :
    Inv ops T Hs val μ0 w0 a0 (addOp S i) c (μ.ins (Hs i).size (w.heap.size, 0)) (a.put o.dst v') (w.alloc robj) := by
  have hi := opLt r.op
  have add : ∀ k, k ≠ i → addOp S i k = S k := fun k hk => by simp only [addOp]; rw [if_neg hk]
  have addi : addOp S i i = true := by simp [addOp]
  have up : ∀ k, S k = true → addOp S i k = true := fun k hk => by
    by_cases e : k = i
    · subst e; exact addi
    · rw [add k e]; exact hk
  have hsz1 : (Hs (i + 1)).size = (Hs i).size + 1 := by rw [hH, AHeap.size_plus]
  have h0i : (Hs 0).size ≤ (Hs i).size := cn.mono hc (Nat.zero_le _) (by omega)
  have hin : (Hs (i + 1)).size ≤ (Hs ops.size).size := cn.mono hc hi (Nat.le_refl _)
  have huniq : ∀ p, p < ops.size → (Hs p).size ≤ (Hs i).size → (Hs i).size < (Hs (p + 1)).size → p = i := by
    intro p hp h1 h2
    rcases Nat.lt_trichotomy p i with h | h | h
    · have := cn.mono hc (show p + 1 ≤ i by omega) (by omega); omega
    · exact h
    · have := cn.mono hc (show i + 1 ≤ p by omega) (by omega); omega
  have hb : μ (Hs i).size = none := by
    cases hm : μ (Hs i).size with
    | none => rfl
    | some x =>
      exfalso
      rcases iv.dom (Hs i).size (by rw [hm]; rfl) with h | h | ⟨p, h1, h2, h3, h4⟩
      · omega
      · omega
      · have := huniq p h1 h3 h4
        subst this
        rw [r.new] at h2; cases h2
  have hview : view ops Hs c (Hs i).size = some obj := by
    by_cases hb' : (Hs i).size < (Hs c).size
    · rw [view_lt hb']
      rcases iv.unm _ hb' hb with h | ⟨p, obj', h1, h2, h3, h4, h5, h6⟩
      · omega
      · have hp : p = i := huniq p h1 (by omega) (by rw [h4, AHeap.size_plus]; omega)
        subst hp
        have : (Hs (p + 1)).get (Hs p).size = some obj := by rw [hH]; exact plus_new hnew
        rw [h4, plus_new h5] at this
        rw [h6]; exact this
    · have hci : c ≤ i := by
        rcases Nat.lt_or_ge i c with h | h
        · have := cn.mono hc (show i + 1 ≤ c by omega) iv.cle; omega
        · exact h
      exact alloc_view cn hc hi hH hnew (d := i + 1 - c) (c := c) (by omega) (by omega)
  have hle : μ.le (μ.ins (Hs i).size (w.heap.size, 0)) := Mu.le_ins hb
  have hsh := shape_alloc w robj
  have hother : ∀ m, m ≠ (Hs i).size → (μ.ins (Hs i).size (w.heap.size, 0)) m = μ m := fun m hm => by unfold Mu.ins; rw [if_neg hm]
  have hself : ((μ.ins (Hs i).size (w.heap.size, 0)) (Hs i).size).isSome := by rw [Mu.ins_self]; rfl
  have hseen : seen (μ.ins (Hs i).size (w.heap.size, 0)) (view ops Hs c) = fun m => if m = (Hs i).size then some obj else seen μ (view ops Hs c) m := by
    funext m
    by_cases hm : m = (Hs i).size
    · subst hm
      rw [if_pos rfl]
      unfold seen
      rw [if_pos hself]
      exact hview
    · rw [if_neg hm]
      unfold seen
      rw [hother m hm]
  have hgrp : ∀ k, grpOf obj = some k → k = (Hs i).size := fun k hk => grpOf_new hnew hk
  refine { iv with cut := ?_, rel := ?_, clos := ?_, dom := ?_, made := ?_, pend := ?_, unm := ?_, tmps := ?_, defers := ?_, out := ?_, fresh := ?_, os := iv.os, tape := iv.tape, output := iv.output, wsize := ?_, keep := ?_, shapes := ?_ }
  · intro e oe he hee
    have : e ≠ i := by rintro rfl; rw [r.op] at he; cases he; rw [hn] at hee; cases hee
    rw [add e this]
    exact iv.cut e oe he hee
  · rw [hseen]
    refine iv.rel.plus hb ho ?_
    intro k _ b1 o1 _ h1 _
    exact (seen_some h1).1
  · intro b1 b2 o1 o2 k g1 g2 k1 k2 h
    by_cases e2 : b2 = (Hs i).size
    · subst e2; exact hself
    · rw [hother b2 e2]
      by_cases e1 : b1 = (Hs i).size
      · subst e1
        have hb1 := AHeap.get_lt g1
        have : obj = o1 := by
          rw [view_lt hb1, g1] at hview
          exact (Option.some.inj hview).symm
        subst this
        have hk := hgrp k k1
        subst hk
        cases hm : μ b2 with
        | some x => rfl
        | none =>
          rcases iv.unm b2 (AHeap.get_lt g2) hm with ⟨h3, h4⟩ | ⟨p, obj', h1, h2, h3, h4, h5, h6⟩
          · rw [g2] at h4
            have := wf0.grp_lt h4.symm k2
            omega
          · rw [g2] at h6
            cases h6
            have := grpOf_new h5 k2
            omega
      · rw [hother b1 e1] at h
        exact iv.clos b1 b2 o1 o2 k g1 g2 k1 k2 h
  · intro b hb'
    by_cases e : b = (Hs i).size
    · subst e
      exact .inr (.inr ⟨i, hi, addi, Nat.le_refl _, by omega⟩)
    · rw [hother b e] at hb'
      rcases iv.dom b hb' with h | h | ⟨p, h1, h2, h3, h4⟩
      · exact .inl h
      · exact .inr (.inl h)
      · exact .inr (.inr ⟨p, h1, up p h2, h3, h4⟩)
  · intro p hp hs b h1 h2
    by_cases e : b = (Hs i).size
    · subst e; exact hself
    · rw [hother b e]
      by_cases ep : p = i
      · subst ep; omega
      · rw [add p ep] at hs
        exact iv.made p hp hs b h1 h2
  · intro b h1 h2 h3
    by_cases e : b = (Hs i).size
    · subst e
      refine ⟨obj, hview, hgrp, ?_⟩
      cases obj with
      | row e' g st ro cells => obtain ⟨_, _, rfl⟩ := hnew; rfl
      | map es => rfl
      | loop => rfl
    · rw [hother b e] at h3
      exact iv.pend b h1 h2 h3
  · intro b hb' hm
    have e : b ≠ (Hs i).size := by rintro rfl; rw [Mu.ins_self] at hm; cases hm
    rw [hother b e] at hm
    rcases iv.unm b hb' hm with h | ⟨p, obj', h1, h2, h3, h4, h5, h6⟩
    · exact .inl h
    · refine .inr ⟨p, obj', h1, ?_, h3, h4, h5, h6⟩
      rw [add p]
      · exact h2
      · rintro rfl; exact e h3
  · rw [tmpsAt_add dk ls r]
    exact (iv.tmps.mono' hle hsh).put (hv _ (Mu.ins_self _ _ _))
  · rw [← iv.defers]; cases o.dst <;> rfl
  · intro b hb'
    rw [hother b (by omega)]
    exact iv.out b hb'
  · intro b r' s' h1 h2 h3
    by_cases e : b = (Hs i).size
    · subst e
      rw [Mu.ins_self] at h3
      simp only [Option.some.injEq, Prod.mk.injEq] at h3
      have := iv.wsize
      left; omega
    · rw [hother b e] at h3
      exact iv.fresh b r' s' h1 h2 h3
  · have := iv.wsize
    simp; omega
  · intro k hk hp
    rw [heap_old w robj (Nat.lt_of_lt_of_le hk iv.wsize)]
    exact iv.keep k hk hp
  · exact iv.shapes.trans hsh
end
end Go.AI
end
section
namespace Go.AI
section
variable {P : Program} {call : CallA} {ops : Array Oper} {T : Nat → List AV} {Hs : Nat → AHeap} {val : Nat → AV} {μ0 : Mu} {w0 : World} {a0 : Act}
variable {S : Nat → Bool} {c : Nat} {μ : Mu} {a : Act} {w : World}
theorem Inv.relHere (iv : Inv ops T Hs val μ0 w0 a0 S c μ a w) : Rel μ (Hs c).get w := by
  have sub : ∀ b o, (μ b).isSome → (Hs c).get b = some o → seen μ (view ops Hs c) b = some o := by
    intro b o hm hg
    unfold seen
    rw [if_pos hm, view_lt (AHeap.get_lt hg)]
    exact hg
  refine ⟨iv.rel.dom, ?_, ?_, iv.clos⟩
  · intro b r s o h ho
    exact iv.rel.obj b r s o h (sub b o (by rw [h]; rfl) ho)
  · intro b1 b2 r s1 s2 o1 o2 hne h1 h2 g1 g2
    exact iv.rel.sep b1 b2 r s1 s2 o1 o2 hne h1 h2 (sub b1 o1 (by rw [h1]; rfl) g1) (sub b2 o2 (by rw [h2]; rfl) g2)
theorem Inv.free (cn : Canon P call ops T Hs val) (hc : CallSound P call) (iv : Inv ops T Hs val μ0 w0 a0 S c μ a w) {o : Oper} (r : Ready ops S c o) : Free μ (Hs c).size (Hs (c + 1)).size := by
  intro b h1 h2
  have hi := opLt r.op
  cases hm : μ b with
  | none => rfl
  | some x =>
    exfalso
    have h0 : (Hs 0).size ≤ (Hs c).size := cn.mono hc (Nat.zero_le _) iv.cle
    have hn : (Hs (c + 1)).size ≤ (Hs ops.size).size := cn.mono hc hi (Nat.le_refl _)
    rcases iv.dom b (by rw [hm]; rfl) with h | h | ⟨p, h3, h4, h5, h6⟩
    · omega
    · omega
    · rcases Nat.lt_trichotomy p c with h | h | h
      · have := cn.mono hc (show p + 1 ≤ c by omega) iv.cle; omega
      · subst h; rw [r.new] at h4; cases h4
      · have := cn.mono hc (show c + 1 ≤ p by omega) (by omega); omega
theorem Inv.effect (cn : Canon P call ops T Hs val) (hc : CallSound P call) (dk : DrawOk ops) (ls : Listed ops S) (iv : Inv ops T Hs val μ0 w0 a0 S c μ a w) {o : Oper} (r : Ready ops S c o)
    {μ' : Mu} {w' : World} {v' : Value} (hp : Post μ (Hs c) w μ' (Hs (c + 1)) w') (hv : VRel μ' w' (val c) v') :
    Inv ops T Hs val μ0 w0 a0 (addOp S c) (c + 1) μ' (a.put o.dst v') w' := by
  have hi := opLt r.op
  have fr := iv.free cn hc r
  have hle := hp.le fr
  have add : ∀ k, k ≠ c → addOp S c k = S k := fun k hk => by simp only [addOp]; rw [if_neg hk]
  have addi : addOp S c c = true := by simp [addOp]
  have up : ∀ k, S k = true → addOp S c k = true := fun k hk => by
    by_cases e : k = c
    · subst e; exact addi
    · rw [add k e]; exact hk
  have h0c : (Hs 0).size ≤ (Hs c).size := cn.mono hc (Nat.zero_le _) iv.cle
  have hcn : (Hs (c + 1)).size ≤ (Hs ops.size).size := cn.mono hc hi (Nat.le_refl _)
  have hsz := hp.size
  -- a name that was there stays; a new one is of this step
  have hback : ∀ b, (μ' b).isSome → (μ b).isSome ∨ ((Hs c).size ≤ b ∧ b < (Hs (c + 1)).size) := by
    intro b h
    by_cases hb : b < (Hs c).size ∨ (Hs (c + 1)).size ≤ b
    · rw [hp.out b hb] at h; exact .inl h
    · exact .inr (by omega)
  have hviewge : ∀ b, (Hs (c + 1)).size ≤ b → view ops Hs (c + 1) b = view ops Hs c b := fun b hb => (view_ge hi (by omega)).symm
  -- what is made ahead of its place lies apart from all that this step sees
  have hapart : ∀ b r1 s1, (Hs (c + 1)).size ≤ b → μ b = some (r1, s1) → ∀ o1, view ops Hs c b = some o1 → ∀ b2 s2 o2, μ b2 = some (r1, s2) → (Hs c).get b2 = some o2 → False := by
    intro b r1 s1 hb hm o1 ho1 b2 s2 o2 hm2 ho2
    have hlt2 := AHeap.get_lt ho2
    have hbn : b < (Hs ops.size).size := by
      rcases Nat.lt_or_ge b (Hs ops.size).size with h | h
      · exact h
      · exfalso
        have key : ∀ d k, k + d = ops.size → view ops Hs k b = none := by
          intro d
          induction d with
          | zero => intro k hk; obtain rfl : k = ops.size := by omega
                    rw [view_end, AHeap.get_ge h]
          | succ d ih =>
            intro k hk
            have := cn.mono hc (show k ≤ ops.size by omega) (Nat.le_refl _)
            rw [view_ge (by omega) (by omega)]
            exact ih (k + 1) (by omega)
        rw [key (ops.size - c) c (by omega)] at ho1
        cases ho1
    obtain ⟨o', ho', hg', hs'⟩ := iv.pend b (by omega) hbn (by rw [hm]; rfl)
    rw [ho1] at ho'; cases ho'
    have ht := iv.rel.sep b b2 r1 s1 s2 o1 o2 (by omega) hm hm2 (by unfold seen; rw [if_pos (by rw [hm]; rfl)]; exact ho1) (by unfold seen; rw [if_pos (by rw [hm2]; rfl), view_lt hlt2]; exact ho2)
    cases o1 with
    | map es => exact ht.elim
    | loop => exact ht.elim
    | row e1 g1 st1 ro1 cs1 =>
      cases o2 with
      | map es => exact ht.elim
      | loop => exact ht.elim
      | row e2 g2 st2 ro2 cs2 =>
        simp only [AObj.soft, Bool.not_eq_true'] at hs'
        subst hs'
        rcases ht with ⟨h, _⟩ | ⟨_, _, h, _⟩
        · cases h
        · have := hg' g1 rfl
          have := iv.wf.lt _ _ _ _ _ _ ho2
          omega
  refine { cle := hi, cut := ?_, rel := ⟨?_, ?_, ?_, ?_⟩, clos := hp.rel.clos, wf := hp.wf, dom := ?_, made := ?_, pend := ?_, unm := ?_, tmps := ?_, defers := ?_, out := ?_, fresh := ?_, kind := ?_, kind' := ?_,
           os := hp.os.trans iv.os, tape := hp.tape.trans iv.tape, output := hp.output.trans iv.output, wsize := Nat.le_trans iv.wsize hp.wsize, keep := ?_, shapes := iv.shapes.trans hp.shapes }
  · intro e oe he' hee
    by_cases h : e = c
    · subst h; simp [addi]
    · rw [add e h, iv.cut e oe he' hee]
      omega
  · intro b r1 s1 h
    exact hp.rel.dom b r1 s1 h
  · intro b r1 s1 ob h ho
    obtain ⟨hm, ho⟩ := seen_some ho
    by_cases hb : b < (Hs (c + 1)).size
    · rw [view_lt hb] at ho
      exact hp.rel.obj b r1 s1 ob h ho
    · have hb' : (Hs (c + 1)).size ≤ b := by omega
      rw [hviewge b hb'] at ho
      have h' : μ b = some (r1, s1) := by rw [← hp.out b (.inr hb')]; exact h
      have hold := iv.rel.obj b r1 s1 ob h' (by unfold seen; rw [if_pos (by rw [h']; rfl)]; exact ho)
      rw [hp.keep r1 (iv.rel.dom b r1 s1 h') (fun b2 s2 o2 hm2 ho2 => (hapart b r1 s1 hb' h' ob ho b2 s2 o2 hm2 ho2).elim)]
      exact hold.mono hle hp.shapes
  · have far : ∀ b1 b2 r1 s1 s2 o1 o2, (Hs (c + 1)).size ≤ b1 → μ b1 = some (r1, s1) → view ops Hs c b1 = some o1 → b2 < (Hs (c + 1)).size → μ' b2 = some (r1, s2) → (Hs (c + 1)).get b2 = some o2 → False := by
      intro b1 b2 r1 s1 s2 o1 o2 hb1 h1 g1 hb2 h2 g2
      by_cases h : b2 < (Hs c).size
      · rw [hp.out b2 (.inl h)] at h2
        obtain ⟨o2', ho2', _⟩ := hp.kind' b2 o2 h g2
        exact hapart b1 r1 s1 hb1 h1 o1 g1 b2 s2 o2' h2 ho2'
      · have hd := iv.rel.dom b1 r1 s1 h1
        rcases hp.fresh b2 r1 s2 (by omega) hb2 h2 with h' | ⟨b0, s0, o, h3, h4, _⟩
        · omega
        · exact hapart b1 r1 s1 hb1 h1 o1 g1 b0 s0 o h3 h4
    intro b1 b2 r1 s1 s2 o1 o2 hne h1 h2 g1 g2
    obtain ⟨_, g1⟩ := seen_some g1
    obtain ⟨_, g2⟩ := seen_some g2
    by_cases hb1 : b1 < (Hs (c + 1)).size
    · rw [view_lt hb1] at g1
      by_cases hb2 : b2 < (Hs (c + 1)).size
      · rw [view_lt hb2] at g2
        exact hp.rel.sep b1 b2 r1 s1 s2 o1 o2 hne h1 h2 g1 g2
      · have hb2' : (Hs (c + 1)).size ≤ b2 := by omega
        rw [hviewge b2 hb2'] at g2
        rw [hp.out b2 (.inr hb2')] at h2
        exact (far b2 b1 r1 s2 s1 o2 o1 hb2' h2 g2 hb1 h1 g1).elim
    · have hb1' : (Hs (c + 1)).size ≤ b1 := by omega
      rw [hviewge b1 hb1'] at g1
      rw [hp.out b1 (.inr hb1')] at h1
      by_cases hb2 : b2 < (Hs (c + 1)).size
      · rw [view_lt hb2] at g2
        exact (far b1 b2 r1 s1 s2 o1 o2 hb1' h1 g1 hb2 h2 g2).elim
      · have hb2' : (Hs (c + 1)).size ≤ b2 := by omega
        rw [hviewge b2 hb2'] at g2
        rw [hp.out b2 (.inr hb2')] at h2
        exact iv.rel.sep b1 b2 r1 s1 s2 o1 o2 hne h1 h2 (by unfold seen; rw [if_pos (by rw [h1]; rfl)]; exact g1) (by unfold seen; rw [if_pos (by rw [h2]; rfl)]; exact g2)
  · intro b1 b2 o1 o2 k g1 g2 _ _ _
    exact (seen_some g2).1
  · intro b hb
    rcases hback b hb with h | ⟨h1, h2⟩
    · rcases iv.dom b h with h | h | ⟨p, h1, h2, h3, h4⟩
      · exact .inl h
      · exact .inr (.inl h)
      · exact .inr (.inr ⟨p, h1, up p h2, h3, h4⟩)
    · exact .inr (.inr ⟨c, hi, addi, h1, h2⟩)
  · intro p hp' hs b h1 h2
    by_cases e : p = c
    · subst e; exact hp.mapped b h1 h2
    · rw [add p e] at hs
      have := iv.made p hp' hs b h1 h2
      rw [Option.isSome_iff_exists] at this ⊢
      obtain ⟨x, hx⟩ := this
      exact ⟨x, hle _ _ hx⟩
  · intro b h1 h2 h3
    rw [hp.out b (.inr h1)] at h3
    rw [hviewge b h1]
    exact iv.pend b (by omega) h2 h3
  · intro b hb hm
    by_cases h : b < (Hs c).size
    · rw [hp.out b (.inl h)] at hm
      rw [hp.hidden b h hm]
      rcases iv.unm b h hm with h | ⟨p, obj, h1, h2, h3, h4, h5, h6⟩
      · exact .inl h
      · refine .inr ⟨p, obj, h1, ?_, h3, h4, h5, h6⟩
        rw [add p]
        · exact h2
        · rintro rfl; omega
    · have := hp.mapped b (by omega) hb
      rw [hm] at this; cases this
  · rw [tmpsAt_add dk ls r]
    exact (iv.tmps.mono' hle hp.shapes).put hv
  · rw [← iv.defers]; cases o.dst <;> rfl
  · intro b hb
    rw [hp.out b (by omega)]
    exact iv.out b hb
  · intro b r' s' h1 h2 h3
    by_cases h : b < (Hs c).size ∨ (Hs (c + 1)).size ≤ b
    · rw [hp.out b h] at h3
      exact iv.fresh b r' s' h1 h2 h3
    · rcases hp.fresh b r' s' (by omega) (by omega) h3 with h' | ⟨b0, s0, o0, h4, h5, h6⟩
      · have := iv.wsize; left; omega
      · by_cases h7 : b0 < (Hs 0).size
        · obtain ⟨oz, hz1, hz2⟩ := iv.kind' b0 o0 h7 h5
          rw [iv.out b0 (.inl h7)] at h4
          exact .inr ⟨b0, s0, oz, h4, hz1, by rw [← hz2.soft]; exact h6⟩
        · have := AHeap.get_lt h5
          exact iv.fresh b0 r' s0 (by omega) (by omega) h4
  · intro b ob hb
    obtain ⟨o1, h1, k1⟩ := iv.kind b ob hb
    obtain ⟨o2, h2, k2⟩ := hp.kind b o1 h1
    exact ⟨o2, h2, k1.trans k2⟩
  · intro b ob hb hg
    obtain ⟨o1, h1, k1⟩ := hp.kind' b ob (by omega) hg
    obtain ⟨o2, h2, k2⟩ := iv.kind' b o1 hb h1
    exact ⟨o2, h2, k2.trans k1⟩
  · intro k hk hprot
    rw [hp.keep k (Nat.lt_of_lt_of_le hk iv.wsize) ?_, iv.keep k hk hprot]
    intro b s ob hm ho
    have hlt := AHeap.get_lt ho
    by_cases h : b < (Hs 0).size
    · obtain ⟨oz, hz1, hz2⟩ := iv.kind' b ob h ho
      rw [iv.out b (.inl h)] at hm
      rw [hz2.soft]
      exact hprot b s oz hm hz1
    · rcases iv.fresh b k s (by omega) (by omega) hm with h' | ⟨b0, s0, o0, h4, h5, h6⟩
      · omega
      · have := hprot b0 s0 o0 h4 h5
        rw [h6] at this; cases this
theorem Inv.read (cn : Canon P call ops T Hs val) (hc : CallSound P call) (dk : DrawOk ops) (ls : Listed ops S) (iv : Inv ops T Hs val μ0 w0 a0 S c μ a w) {i : Nat} {o : Oper} (r : Ready ops S i o) (hn : isEff o.op = false) (hr : isRead o.op = true)
    (hw : wantedA ops (T i) o = true) {b : Nat} (ht : touchA o (T i) = some b) (hbi : b < (Hs i).size) :
    ∃ x, view ops Hs c b = (Hs x).get b ∧ (opA P o (T i) (Hs x)).map (·.1) = some (val i) := by
  have hi := opLt r.op
  have hstep : opA P o (T i) (Hs i) = some (val i, Hs (i + 1)) := by
    rcases (cn.step i o r.op).2 with ⟨_, h⟩ | ⟨h, _⟩
    · rw [stepA_quiet hn] at h; exact h
    · rw [hw] at h; cases h
  have hre : (opA P o (T i) (Hs i)).map (·.1) = some (val i) := by rw [hstep]; rfl
  rcases Nat.le_total c i with hci | hci
  · -- the read comes early: no effect between has been done
    have key : ∀ d k, k + d = i → c ≤ k → ∃ x, view ops Hs k b = (Hs x).get b ∧ (opA P o (T i) (Hs x)).map (·.1) = some (val i) := by
      intro d
      induction d with
      | zero =>
        intro k hk _
        obtain rfl : k = i := by omega
        exact ⟨k, view_lt hbi, hre⟩
      | succ d ih =>
        intro k hk hck
        obtain ⟨oe, hoe⟩ := opGet (show k < ops.size by omega)
        cases hee : isEff oe.op with
        | false => rw [cn.view_quiet hoe hee]; exact ih (k + 1) (by omega) (by omega)
        | true =>
          have hno : ordered (Region.before ops) i k = false := by
            cases ho : ordered (Region.before ops) i k with
            | false => rfl
            | true =>
              have ho' : ordered (Region.before ops) k i = true := by
                unfold ordered at ho ⊢
                rw [Nat.max_comm, Nat.min_comm]; exact ho
              have := r.pred dk ls (show k < i by omega) ho'
              have := (iv.cut k oe hoe hee).1 this
              omega
          rcases (cn.pairs i k o oe r.op hoe hr hee (by omega) hno hw).1 (by omega) b ht with h | h
          · rw [view_ge (by omega) h]; exact ih (k + 1) (by omega) (by omega)
          · by_cases hbk : b < (Hs k).size
            · exact ⟨k, view_lt hbk, h⟩
            · rw [view_ge (by omega) (by omega)]; exact ih (k + 1) (by omega) (by omega)
    exact key (i - c) c (by omega) (Nat.le_refl _)
  · -- the read comes late
    have key : ∀ d, i + d ≤ c → ∃ x, view ops Hs (i + d) b = (Hs x).get b ∧ (opA P o (T i) (Hs x)).map (·.1) = some (val i) := by
      intro d
      induction d with
      | zero => intro _; exact ⟨i, view_lt hbi, hre⟩
      | succ d ih =>
        intro hd
        obtain ⟨x, hx1, hx2⟩ := ih (by omega)
        have hcl := iv.cle
        obtain ⟨oe, hoe⟩ := opGet (show i + d < ops.size by omega)
        rw [show i + (d + 1) = (i + d) + 1 from by omega]
        cases hee : isEff oe.op with
        | false => rw [← cn.view_quiet hoe hee]; exact ⟨x, hx1, hx2⟩
        | true =>
          have hS : S (i + d) = true := (iv.cut (i + d) oe hoe hee).2 (by omega)
          have hlt : i < i + d := by
            rcases Nat.eq_zero_or_pos d with h | h
            · subst h
              rw [Nat.add_zero] at hS
              rw [r.new] at hS; cases hS
            · omega
          have hno : ordered (Region.before ops) i (i + d) = false := by
            cases ho : ordered (Region.before ops) i (i + d) with
            | false => rfl
            | true =>
              have := r.succ dk ls hlt ho
              rw [hS] at this; cases this
          refine ⟨i + d + 1, view_lt ?_, (cn.pairs i (i + d) o oe r.op hoe hr hee (by omega) hno hw).2 hlt⟩
          have := cn.mono hc (show i ≤ i + d + 1 by omega) (by omega)
          omega
    have := key (c - i) (by omega)
    rwa [show i + (c - i) = c from by omega] at this
end
end Go.AI
end
section
namespace Go.AI
section
variable {P : Program} {call : CallA} {ops : Array Oper} {T : Nat → List AV} {Hs : Nat → AHeap} {val : Nat → AV} {μ0 : Mu} {w0 : World} {a0 : Act}
variable {S : Nat → Bool} {c : Nat} {μ : Mu} {a : Act} {w : World}
theorem touch_read {o : Oper} {T : List AV} {b : Nat} (h : touchA o T = some b) : isRead o.op = true := by
  obtain ⟨dst, op, type, pos, after, guard⟩ := o
  cases op <;> simp only [touchA, reduceCtorEq] at h <;> first
    | rfl
    | (rename_i c
       obtain ⟨callee, args, argTypes⟩ := c
       cases callee <;> try (cases h; done)
       rename_i b'
       cases b' <;> first | rfl | (cases h; done))
theorem read_quiet {o : Oper} (h : isRead o.op = true) : isEff o.op = false ∧ isAlloc o.op = false := by
  obtain ⟨dst, op, type, pos, after, guard⟩ := o
  cases op <;> first
    | exact ⟨rfl, rfl⟩
    | (simp only [isRead, Bool.false_eq_true] at h; done)
    | (rename_i c
       obtain ⟨callee, args, argTypes⟩ := c
       cases callee <;> first
         | (simp only [isRead, Bool.false_eq_true] at h; done)
         | (rename_i b'
            cases b' <;> first
              | exact ⟨rfl, rfl⟩
              | (simp only [isRead, Bool.false_eq_true] at h; done)))
theorem touch_lt {o : Oper} {T : List AV} {b : Nat} {H : AHeap} {x : AV × AHeap} (h : touchA o T = some b) (h2 : opA P o T H = some x) : b < H.size := by
  obtain ⟨dst, op, type, pos, after, guard⟩ := o
  cases op <;> simp only [touchA, reduceCtorEq] at h
  case load t y =>
    simp only [opA] at h2
    split at h
    · rename_i p hp
      simp only [Option.some.injEq] at h; subst h
      rw [hp] at h2
      have key : ∀ n cs, H.load p n = some cs → p.1 < H.size := by
        intro n cs hl
        unfold AHeap.load at hl
        split at hl
        · rename_i hg; exact AHeap.get_lt hg
        · cases hl
      split at h2
      · rename_i p' n e1 _ _
        cases e1
        obtain ⟨cs, hcs, _⟩ := bind_some' h2
        exact key _ _ hcs
      · rename_i p' n e1 _ _
        cases e1
        split at h2
        · rename_i hl; exact key _ _ hl
        · cases h2
      · cases h2
    · cases h
  case lookup t y i ok =>
    simp only [opA] at h2
    split at h
    · rename_i r hr
      subst h
      rw [hr] at h2
      split at h2
      · rename_i kt et r' k hu e1 _
        cases e1
        split at h2
        · rename_i es z hes _
          simp only at hes
          split at hes
          · rename_i hg; exact AHeap.get_lt hg
          · cases hes
        · cases h2
      · cases h2
    · cases h
  case call c =>
    obtain ⟨callee, args, argTypes⟩ := c
    cases callee <;> try (cases h; done)
    rename_i b'
    cases b' <;> try (cases h; done)
    simp only at h
    simp only [opA] at h2
    split at h
    · rename_i r hr
      subst h
      rw [hr] at h2
      simp only [Option.bind_some, builtinA] at h2
      unfold lenA at h2
      split at h2
      all_goals first
        | (rename_i e1 _; cases e1; done)
        | (rename_i e1 _ _ _; cases e1; done)
        | (rename_i e1 _ _; cases e1; done)
        | skip
      · rename_i e1 _
        simp only [List.cons.injEq, AV.one.injEq, AC.map.injEq, Option.some.injEq, and_true] at e1
        subst e1
        split at h2
        · rename_i hg; exact AHeap.get_lt hg
        · cases h2
      · cases h2
    · cases h
theorem touch_mapped {o : Oper} {T : List AV} {b : Nat} (hT : TRel μ w T a.tmps) (h : touchA o T = some b) : (μ b).isSome := by
  obtain ⟨dst, op, type, pos, after, guard⟩ := o
  cases op <;> simp only [touchA, reduceCtorEq] at h
  case load t y =>
    split at h
    · rename_i p hp
      simp only [Option.some.injEq] at h; subst h
      obtain ⟨r, s, hm, _⟩ := evalA_rel hT hp
      rw [hm]; rfl
    · cases h
  case lookup t y i ok =>
    split at h
    · rename_i r hr
      subst h
      obtain ⟨r, s, hm, _⟩ := evalA_rel hT hr
      rw [hm]; rfl
    · cases h
  case call c =>
    obtain ⟨callee, args, argTypes⟩ := c
    cases callee <;> try (cases h; done)
    rename_i b'
    cases b' <;> try (cases h; done)
    simp only at h
    split at h
    · rename_i r hr
      subst h
      have := evalAll_rel hT hr
      obtain ⟨y, _, hy⟩ := all2_one this
      obtain ⟨r, s, hm, _⟩ := hy
      rw [hm]; rfl
    · cases h
theorem seen_here (rel : Rel μ (Hs 0).get w) (hend : (Hs 0).size ≤ (Hs ops.size).size) (mono : ∀ k, k ≤ ops.size → (Hs k).size ≤ (Hs ops.size).size) (fr : Free μ (Hs 0).size (Hs ops.size).size) : Rel μ (seen μ (view ops Hs 0)) w := by
  have sub : ∀ b o, seen μ (view ops Hs 0) b = some o → (Hs 0).get b = some o := by
    intro b o h
    obtain ⟨hm, hv⟩ := seen_some h
    by_cases hb : b < (Hs 0).size
    · rwa [view_lt hb] at hv
    · exfalso
      have hbn : (Hs ops.size).size ≤ b := by
        rcases Nat.lt_or_ge b (Hs ops.size).size with h' | h'
        · rw [fr b (by omega) h'] at hm; cases hm
        · exact h'
      have key : ∀ d k, k + d = ops.size → view ops Hs k b = none := by
        intro d
        induction d with
        | zero => intro k hk; obtain rfl : k = ops.size := by omega
                  rw [view_end, AHeap.get_ge hbn]
        | succ d ih =>
          intro k hk
          have := mono k (by omega)
          rw [view_ge (by omega) (by omega)]
          exact ih (k + 1) (by omega)
      rw [key ops.size 0 (by omega)] at hv
      cases hv
  refine ⟨rel.dom, ?_, ?_, ?_⟩
  · intro b r s o h ho
    exact rel.obj b r s o h (sub b o ho)
  · intro b1 b2 r s1 s2 o1 o2 hne h1 h2 g1 g2
    exact rel.sep b1 b2 r s1 s2 o1 o2 hne h1 h2 (sub _ _ g1) (sub _ _ g2)
  · intro b1 b2 o1 o2 k g1 g2 k1 k2 h
    exact rel.clos b1 b2 o1 o2 k (sub _ _ g1) (sub _ _ g2) k1 k2 h
theorem tmpsAt_none (h : ∀ k, S k = false) : ∀ m, tmpsAt ops T val S m = T 0
  | 0 => rfl
  | m + 1 => by simp only [tmpsAt, h m, Bool.false_eq_true, if_false]; exact tmpsAt_none h m
theorem Inv.start (cn : Canon P call ops T Hs val) (hc : CallSound P call) (hS : ∀ k, S k = false) (wf : WF (Hs 0)) (rel : Rel μ (Hs 0).get w) (fr : Free μ (Hs 0).size (Hs ops.size).size) (hT : TRel μ w (T 0) a.tmps) :
    Inv ops T Hs val μ w a S 0 μ a w := by
  have hend := cn.mono hc (Nat.zero_le ops.size) (Nat.le_refl _)
  refine { cle := Nat.zero_le _, cut := ?_, rel := seen_here rel hend (fun k hk => cn.mono hc hk (Nat.le_refl _)) fr, clos := rel.clos, wf := wf, dom := ?_, made := ?_, pend := ?_, unm := ?_, tmps := ?_, defers := rfl, out := fun _ _ => rfl, fresh := ?_,
           kind := fun b o h => ⟨o, h, sameKind.refl o⟩, kind' := fun b o _ h => ⟨o, h, sameKind.refl o⟩, os := rfl, tape := rfl, output := rfl, wsize := Nat.le_refl _, keep := fun _ _ _ => rfl, shapes := Shapes.refl w }
  · intro e o _ _; rw [hS]; simp
  · intro b hb
    rcases Nat.lt_or_ge b (Hs 0).size with h | h
    · exact .inl h
    · rcases Nat.lt_or_ge b (Hs ops.size).size with h' | h'
      · rw [fr b h h'] at hb; cases hb
      · exact .inr (.inl h')
  · intro p _ hs; rw [hS] at hs; cases hs
  · intro b h1 h2 h3; rw [fr b h1 h2] at h3; cases h3
  · intro b hb _; exact .inl ⟨hb, rfl⟩
  · rw [tmpsAt_none hS]; exact hT
  · intro b r s h1 h2 h3; rw [fr b h1 h2] at h3; cases h3
theorem Inv.finish (cn : Canon P call ops T Hs val) (hc : CallSound P call) (iv : Inv ops T Hs val μ0 w0 a0 S c μ a w) (hS : ∀ k, k < ops.size → S k = true) :
    TRel μ w (T ops.size) a.tmps ∧ Post μ0 (Hs 0) w0 μ (Hs ops.size) w ∧ a.defers = a0.defers := by
  have iv : Inv ops T Hs val μ0 w0 a0 S ops.size μ a w := by
    have hcle := iv.cle
    have := iv.shiftTo cn hc (d := ops.size - c) (by omega) (by
      intro k o h1 h2 ho
      cases he : isEff o.op with
      | false => rfl
      | true =>
        have := (iv.cut k o ho he).1 (hS k (opLt ho))
        omega)
    rwa [show c + (ops.size - c) = ops.size from by omega] at this
  have hend := cn.mono hc (Nat.zero_le ops.size) (Nat.le_refl _)
  refine ⟨by have := iv.tmps; rwa [tmpsAt_all cn (Nat.le_refl _) hS] at this, ⟨iv.wf, iv.relHere, hend, iv.out, iv.fresh, iv.kind, iv.kind', ?_, ?_, iv.os, iv.tape, iv.output, iv.wsize, iv.keep, iv.shapes⟩, iv.defers⟩
  · intro b hb hm
    rw [← iv.out b (.inl hb)] at hm
    rcases iv.unm b (by omega) hm with ⟨_, h⟩ | ⟨p, obj, h1, h2, _⟩
    · exact h
    · rw [hS p h1] at h2; cases h2
  · intro b h1 h2
    cases hm : μ b with
    | some x => rfl
    | none =>
      rcases iv.unm b h2 hm with ⟨h, _⟩ | ⟨p, obj, h3, h4, _⟩
      · omega
      · rw [hS p h3] at h4; cases h4
def listedS (l : Array Bool) : Nat → Bool := fun k => l.getD k false
theorem ready_spec {l : Array Bool} (hl : l.size = ops.size) {i : Nat} : i ∈ Region.ready .any ops l ↔ ∃ o, Ready ops (listedS l) i o := by
  unfold Region.ready
  simp only [List.mem_filter, List.mem_range, Bool.and_eq_true, Bool.not_eq_true']
  constructor
  · rintro ⟨h1, h2, h3⟩
    obtain ⟨o, ho⟩ := opGet h1
    rw [ho] at h3
    simp only [Option.map_some, Option.getD_some, Array.all_eq_true', Bool.or_eq_true, Bool.not_eq_true'] at h3
    refine ⟨o, ho, ?_, ?_⟩
    · unfold listedS
      simp only [Array.getD_eq_getD_getElem?, Array.getElem?_eq_getElem (show i < l.size by omega), Option.getD_some] at h2 ⊢
      exact h2
    · intro e he hb
      rcases h3 e he with h | h
      · rw [hb] at h; cases h
      · exact h
  · rintro ⟨o, r⟩
    have hi := opLt r.op
    refine ⟨hi, ?_, ?_⟩
    · have := r.new
      unfold listedS at this
      simp only [Array.getD_eq_getD_getElem?, Array.getElem?_eq_getElem (show i < l.size by omega), Option.getD_some] at this ⊢
      exact this
    · rw [r.op]
      simp only [Option.map_some, Option.getD_some, Array.all_eq_true', Bool.or_eq_true, Bool.not_eq_true']
      intro e he
      cases hb : Region.binds .any e with
      | false => exact .inl rfl
      | true => exact .inr (r.down e he hb)
theorem ready_nil {l : Array Bool} (hl : l.size = ops.size) (dk : DrawOk ops) (h : Region.ready .any ops l = []) : ∀ k, k < ops.size → listedS l k = true := by
  intro k
  induction k using Nat.strongRecOn with
  | _ k ih =>
    intro hk
    cases hs : listedS l k with
    | true => rfl
    | false =>
      exfalso
      obtain ⟨o, ho⟩ := opGet hk
      have : k ∈ Region.ready .any ops l := (ready_spec hl).2 ⟨o, ho, hs, fun e he hb => by
        have hd := dk.down k o ho e he hb
        exact ih e.on hd (by omega)⟩
      rw [h] at this; cases this
theorem listedS_add {l : Array Bool} (hl : l.size = ops.size) {i : Nat} (hi : i < ops.size) : listedS (l.setIfInBounds i true) = addOp (listedS l) i := by
  funext k
  unfold listedS addOp
  simp only [Array.getD_eq_getD_getElem?, Array.getElem?_setIfInBounds]
  by_cases h : i = k
  · subst h
    rw [if_pos rfl, if_pos (by omega), if_pos rfl]; rfl
  · rw [if_neg h, if_neg (Ne.symm h)]
theorem Listed.add {l : Array Bool} (_hl : l.size = ops.size) (ls : Listed ops (listedS l)) {i : Nat} {o : Oper} (r : Ready ops (listedS l) i o) : Listed ops (addOp (listedS l) i) := by
  constructor
  intro j y hy hs e he hb
  have up : listedS l e.on = true → addOp (listedS l) i e.on = true := fun h => by
    by_cases ee : e.on = i
    · simp [addOp, ee]
    · simp only [addOp]; rw [if_neg ee]; exact h
  by_cases h : j = i
  · subst h
    rw [r.op] at hy; cases hy
    exact up (r.down e he hb)
  · simp only [addOp] at hs
    rw [if_neg h] at hs
    exact up (ls.down j y hy hs e he hb)
def openCount (S : Nat → Bool) (n : Nat) : Nat := ((List.range n).filter fun k => !S k).length
theorem openCount_add {n i : Nat} (hi : i < n) (hS : S i = false) : openCount (addOp S i) n < openCount S n := by
  unfold openCount
  have key : ∀ l : List Nat, (l.filter fun k => !addOp S i k).length ≤ (l.filter fun k => !S k).length ∧ (i ∈ l → (l.filter fun k => !addOp S i k).length < (l.filter fun k => !S k).length) := by
    intro l
    induction l with
    | nil => simp
    | cons x l ih =>
      by_cases hx : x = i
      · subst hx
        have h1 : addOp S x x = true := by simp [addOp]
        simp only [List.filter_cons, h1, hS, Bool.not_true, Bool.not_false, Bool.false_eq_true, if_false, if_true, List.length_cons]
        exact ⟨by have := ih.1; omega, fun _ => by have := ih.1; omega⟩
      · have h1 : addOp S i x = S x := by simp only [addOp]; rw [if_neg hx]
        simp only [List.filter_cons, h1, List.mem_cons]
        split
        · simp only [List.length_cons]
          exact ⟨by have := ih.1; omega, fun h => by
            rcases h with h | h
            · exact absurd h.symm hx
            · have := ih.2 h; omega⟩
        · exact ⟨ih.1, fun h => by
            rcases h with h | h
            · exact absurd h.symm hx
            · exact ih.2 h⟩
  exact (key (List.range n)).2 (List.mem_range.2 hi)
theorem any_wp (cn : Canon P call ops T Hs val) (hc : CallSound P call) (hn : NamesOk P) (ro : Option Nat) (dk : DrawOk ops) (wf0 : WF (Hs 0)) {Q : Exit → Act → World → Prop}
    (hQ : ∀ μ a w, TRel μ w (T ops.size) a.tmps → Post μ0 (Hs 0) w0 μ (Hs ops.size) w → a.defers = a0.defers → Q .normal a w) :
    ∀ (fuel : Nat) (l : Array Bool) (c : Nat) (μ : Mu) (a : Act) (w : World), l.size = ops.size → Listed ops (listedS l) → openCount (listedS l) ops.size ≤ fuel → Inv ops T Hs val μ0 w0 a0 (listedS l) c μ a w →
      wpAnyIn (VF ro) 0 P .any ops Q fuel l a w := by
  have close : ∀ (l : Array Bool) (c : Nat) (μ : Mu) (a : Act) (w : World), (∀ k, k < ops.size → listedS l k = true) → Inv ops T Hs val μ0 w0 a0 (listedS l) c μ a w → Q .normal a w := by
    intro l c μ a w hS iv
    obtain ⟨h1, h2, h3⟩ := iv.finish cn hc hS
    exact hQ μ a w h1 h2 h3
  intro fuel
  induction fuel with
  | zero =>
    intro l c μ a w hl ls hcnt iv
    have hall : ∀ k, k < ops.size → listedS l k = true := by
      intro k hk
      cases hs : listedS l k with
      | true => rfl
      | false =>
        have := openCount_add hk hs
        omega
    refine ⟨?_, close l c μ a w hall iv⟩
    cases hr : Region.ready .any ops l with
    | nil => rfl
    | cons i rest =>
      obtain ⟨o, r⟩ := (ready_spec hl).1 (show i ∈ Region.ready .any ops l by rw [hr]; exact List.mem_cons_self)
      have := hall i (opLt r.op)
      rw [r.new] at this; cases this
  | succ fuel ih =>
    intro l c μ a w hl ls hcnt iv
    refine ⟨fun hr => close l c μ a w (ready_nil hl dk hr) iv, ?_⟩
    intro i hi
    obtain ⟨o, r⟩ := (ready_spec hl).1 hi
    have hlt := opLt r.op
    have hsadd := listedS_add hl hlt
    have hlsize : (l.setIfInBounds i true).size = ops.size := by simpa using hl
    have hlisted : Listed ops (listedS (l.setIfInBounds i true)) := by rw [hsadd]; exact ls.add hl r
    have hcount : openCount (listedS (l.setIfInBounds i true)) ops.size ≤ fuel := by
      rw [hsadd]
      have := openCount_add hlt r.new
      omega
    have next : ∀ c μ a w, Inv ops T Hs val μ0 w0 a0 (addOp (listedS l) i) c μ a w → wpAnyIn (VF ro) 0 P .any ops Q fuel (l.setIfInBounds i true) a w := by
      intro c μ a w iv'
      exact ih _ c μ a w hlsize hlisted hcount (by rw [hsadd]; exact iv')
    obtain ⟨hops, hwd⟩ := looks_congr (ops := ops) (o := o) (T := tmpsAt ops T val (listedS l) ops.size) (T' := T i) fun t ht => tmpsAt_look cn dk ls r ht
    have hstep := (cn.step i o r.op).2
    -- the place moves up to an effect
    have here : isEff o.op = true → Inv ops T Hs val μ0 w0 a0 (listedS l) i μ a w := by
      intro he
      have hci : c ≤ i := by
        rcases Nat.lt_or_ge i c with h | h
        · have := (iv.cut i o r.op he).2 h
          rw [r.new] at this; cases this
        · exact h
      have := iv.shiftTo cn hc (d := i - c) (by omega) (by
        intro k o' h1 h2 ho'
        cases hee : isEff o'.op with
        | false => rfl
        | true =>
          have := r.pred dk ls (show k < i by omega) (dk.eff k i o' o (by omega) ho' r.op hee he)
          have := (iv.cut k o' ho' hee).1 this
          omega)
      rwa [show c + (i - c) = i from by omega] at this
    unfold wpOpIn
    rw [r.op]
    simp only
    rw [wanted_eq iv.tmps, hwd]
    cases hw : wantedA ops (T i) o with
    | false =>
      rw [if_neg (by simp)]
      refine ⟨fun _ _ => trivial, ?_⟩
      obtain ⟨_, hv, hH⟩ : wantedA ops (T i) o = false ∧ val i = .tup [] ∧ Hs (i + 1) = Hs i := by
        rcases hstep with ⟨h, _⟩ | h
        · rw [hw] at h; cases h
        · exact h
      cases he : isEff o.op with
      | true =>
        have iv' := here he
        have hp : Post μ (Hs i) w μ (Hs (i + 1)) w := by rw [hH]; exact Post.refl iv'.wf iv'.relHere
        exact next _ _ _ _ (iv'.effect cn hc dk ls r hp (by rw [hv]; exact VRel_undef μ w))
      | false => exact next _ _ _ _ (iv.calm cn dk ls r he hH (by rw [hv]; exact VRel_undef μ w))
    | true =>
      rw [if_pos rfl]
      have hs : stepA P call o (T i) (Hs i) = some (val i, Hs (i + 1)) := by
        rcases hstep with ⟨_, h⟩ | ⟨h, _⟩
        · exact h
        · rw [hw] at h; cases h
      have hs' : stepA P call o (tmpsAt ops T val (listedS l) ops.size) (Hs i) = some (val i, Hs (i + 1)) := by rw [stepA_congr hops]; exact hs
      cases he : isEff o.op with
      | true =>
        have iv' := here he
        exact stepA_wp hc hn ro iv'.tmps iv'.wf iv'.relHere (iv'.free cn hc r) hs' fun v' w' μ' hv hp => next _ _ _ _ (iv'.effect cn hc dk ls r hp hv)
      | false =>
        rw [stepA_quiet he] at hs hs'
        cases ha : isAlloc o.op with
        | true =>
          obtain ⟨obj, robj, v', m⟩ := opA_alloc (P := P) (μ := μ) (w := w) iv.tmps ha hs'
          exact uponIn_of_value (opA_not_defer hs') m.run (.inl rfl) (next _ _ _ _ (iv.alloc cn hc dk ls wf0 r he m.heap m.new m.obj m.val))
        | false =>
          have hH : Hs (i + 1) = Hs i := opA_calm_abs he ha hs
          have calm : ∀ H H', (∀ b, touchA o (tmpsAt ops T val (listedS l) ops.size) = some b → seen μ (view ops Hs c) b = H.get b) → opA P o (tmpsAt ops T val (listedS l) ops.size) H = some (val i, H') →
              o.wpIn (VF ro) 0 P a w (wpAnyIn (VF ro) 0 P .any ops Q fuel (l.setIfInBounds i true)) Q := by
            intro H H' hg hop
            obtain ⟨_, v', hrun, hv⟩ := opA_calm iv.tmps iv.rel hg he ha hop
            exact uponIn_of_value (opA_not_defer hop) hrun (.inl rfl) (next _ _ _ _ (iv.calm cn dk ls r he hH hv))
          cases ht : touchA o (T i) with
          | none =>
            refine calm (Hs i) _ ?_ hs'
            intro b hb
            rw [touchA_congr hops, ht] at hb; cases hb
          | some b =>
            obtain ⟨x, hx1, hx2⟩ := iv.read cn hc dk ls r he (touch_read ht) hw ht (touch_lt ht hs)
            rw [Option.map_eq_some_iff] at hx2
            obtain ⟨⟨v1, H1⟩, hx3, hx4⟩ := hx2
            simp only at hx4
            subst hx4
            refine calm (Hs x) H1 ?_ (by rw [opA_congr hops]; exact hx3)
            intro b' hb'
            have hm := touch_mapped iv.tmps hb'
            rw [touchA_congr hops, ht] at hb'; cases hb'
            unfold seen
            rw [if_pos hm]
            exact hx1
end
end Go.AI
end
section
namespace Go.AI
section
variable {P : Program} {call : CallA} {ops : Array Oper} {μ : Mu} {a : Act} {w : World}
theorem statesA_spec : ∀ {l : List Oper} {s : St} {sts : List St}, statesA P call ops l s = some sts → sts[0]? = some s ∧ sts.length = l.length + 1 ∧
    ∀ (i : Nat) (o : Oper), l[i]? = some o → ∃ si sj, sts[i]? = some si ∧ sts[i + 1]? = some sj ∧
      ((wantedA ops si.1 o = true ∧ ∃ v, stepA P call o si.1 si.2 = some (v, sj.2) ∧ sj.1 = putA si.1 o.dst v) ∨ (wantedA ops si.1 o = false ∧ sj.1 = putA si.1 o.dst (.tup []) ∧ sj.2 = si.2))
  | [], s, sts, h => by
    simp only [statesA, Option.some.injEq] at h; subst h
    exact ⟨rfl, rfl, by simp⟩
  | o :: l, s, sts, h => by
    simp only [statesA] at h
    split at h
    · rename_i hw
      split at h
      · rename_i v H' hs
        rw [Option.map_eq_some_iff] at h
        obtain ⟨r, hr, rfl⟩ := h
        obtain ⟨h1, h2, h3⟩ := statesA_spec hr
        refine ⟨rfl, by simp [h2], ?_⟩
        intro i x hx
        cases i with
        | zero =>
          simp only [List.getElem?_cons_zero, Option.some.injEq] at hx; subst hx
          exact ⟨s, _, rfl, by simpa using h1, .inl ⟨hw, v, hs, rfl⟩⟩
        | succ i =>
          simp only [List.getElem?_cons_succ] at hx ⊢
          exact h3 i x hx
      · cases h
    · rename_i hw
      rw [Option.map_eq_some_iff] at h
      obtain ⟨r, hr, rfl⟩ := h
      obtain ⟨h1, h2, h3⟩ := statesA_spec hr
      refine ⟨rfl, by simp [h2], ?_⟩
      intro i x hx
      cases i with
      | zero =>
        simp only [List.getElem?_cons_zero, Option.some.injEq] at hx; subst hx
        exact ⟨s, (putA s.1 o.dst (.tup []), s.2), rfl, by simpa using h1, .inr ⟨by simpa using hw, rfl, rfl⟩⟩
      | succ i =>
        simp only [List.getElem?_cons_succ] at hx ⊢
        exact h3 i x hx
theorem opsA_states : ∀ {l : List Oper} {T T' : List AV} {H H' : AHeap}, opsA P call ops l T H = some (T', H') → ∃ sts, statesA P call ops l (T, H) = some sts ∧ sts.getLast? = some (T', H')
  | [], T, T', H, H', h => by
    simp only [opsA, Option.some.injEq] at h
    exact ⟨_, rfl, by rw [h]; rfl⟩
  | o :: l, T, T', H, H', h => by
    simp only [opsA] at h
    simp only [statesA]
    have cons : ∀ (s : St) (sts : List St) (x : St), sts.getLast? = some x → (s :: sts).getLast? = some x := by
      intro s sts x hx
      cases sts with
      | nil => simp at hx
      | cons y ys => rw [List.getLast?_cons_cons]; exact hx
    split at h
    · rename_i hw
      rw [if_pos hw]
      split at h
      · rename_i v H1 hs
        obtain ⟨sts, h1, h2⟩ := opsA_states h
        rw [h1]
        exact ⟨_, rfl, cons _ _ _ h2⟩
      · cases h
    · rename_i hw
      rw [if_neg hw]
      obtain ⟨sts, h1, h2⟩ := opsA_states h
      rw [h1]
      exact ⟨_, rfl, cons _ _ _ h2⟩
theorem mem_pairs {i k : Nat} {o oe : Oper} (ho : ops[i]? = some o) (hoe : ops[k]? = some oe) (hr : isRead o.op = true) (he : isEff oe.op = true) (hne : i ≠ k) (hno : ordered (Region.before ops) i k = false) : (i, k) ∈ pairsOf ops := by
  unfold pairsOf
  simp only [List.mem_flatMap, List.mem_range]
  refine ⟨i, opLt ho, ?_⟩
  rw [ho]
  simp only [hr, if_true, List.mem_map, List.mem_filter, List.mem_range, Bool.and_eq_true, bne_iff_ne, ne_eq, Bool.not_eq_true', Prod.mk.injEq]
  exact ⟨k, ⟨opLt hoe, ⟨hne, by rw [hoe]; simpa using he⟩, hno⟩, by simp⟩
theorem regionA_wp (hc : CallSound P call) (hn : NamesOk P) (ro : Option Nat) (hm : P.follows .mixedOrders = true) {id : Nat} {draw : Bool} {T T' : List AV} {H H' : AHeap} (h : regionA P call ops draw (T, H) = some (T', H')) (hT : TRel μ w T a.tmps) (wf : WF H)
    (rel : Rel μ H.get w) (fr : Free μ H.size H'.size) {Q : Exit → Act → World → Prop} (hQ : ∀ t' w' μ', TRel μ' w' T' t' → Post μ H w μ' H' w' → Q .normal { a with tmps := t' } w') : (Code.region id ops draw).wpIn (VF ro) 0 P Q a w := by
  unfold regionA at h
  split at h
  · rename_i hd
    subst hd
    refine wpIn_region ?_
    have := opsA_wp (Q := Q) hc hn ro (l := ops.toList) (k := 0) (by simp) h hT wf rel fr hQ
    rwa [Array.length_toList, ← List.range_eq_range'] at this
  · rename_i hd
    have hd' : draw = true := by simpa using hd
    subst hd'
    split at h
    · rename_i hok
      have dk := drawOk_spec hok
      have main : ∀ sts, statesA P call ops ops.toList (T, H) = some sts → (∀ p ∈ pairsOf ops, pairOk P ops sts p = true) → sts.getLast? = some (T', H') → (Code.region id ops true).wpIn (VF ro) 0 P Q a w := by
        intro sts hsts hpairs hlast
        obtain ⟨h1, h2, h3⟩ := statesA_spec hsts
        have hlen : sts.length = ops.size + 1 := by rw [h2, Array.length_toList]
        have hend : sts[ops.size]? = some (T', H') := by
          rw [List.getLast?_eq_getElem?, hlen] at hlast
          exact hlast
        let Tf : Nat → List AV := fun i => (sts[i]?.getD (T', H')).1
        let Hf : Nat → AHeap := fun i => (sts[i]?.getD (T', H')).2
        let vf : Nat → AV := fun i => match ops[i]? with
          | some o => if wantedA ops (Tf i) o then ((stepA P call o (Tf i) (Hf i)).map (·.1)).getD (.tup []) else .tup []
          | none => .tup []
        have hT0 : Tf 0 = T ∧ Hf 0 = H := by simp only [Tf, Hf, h1, Option.getD_some, and_self]
        have hTn : Tf ops.size = T' ∧ Hf ops.size = H' := by simp only [Tf, Hf, hend, Option.getD_some, and_self]
        have hstep : ∀ (i : Nat) (o : Oper), ops[i]? = some o → Tf (i + 1) = putA (Tf i) o.dst (vf i) ∧
            ((wantedA ops (Tf i) o = true ∧ stepA P call o (Tf i) (Hf i) = some (vf i, Hf (i + 1))) ∨ (wantedA ops (Tf i) o = false ∧ vf i = .tup [] ∧ Hf (i + 1) = Hf i)) := by
          intro i o ho
          obtain ⟨si, sj, e1, e2, e3⟩ := h3 i o (by rw [Array.getElem?_toList]; exact ho)
          have a1 : Tf i = si.1 := by simp only [Tf, e1, Option.getD_some]
          have a2 : Hf i = si.2 := by simp only [Hf, e1, Option.getD_some]
          have a3 : Tf (i + 1) = sj.1 := by simp only [Tf, e2, Option.getD_some]
          have a4 : Hf (i + 1) = sj.2 := by simp only [Hf, e2, Option.getD_some]
          have a5 : vf i = if wantedA ops (Tf i) o then ((stepA P call o (Tf i) (Hf i)).map (·.1)).getD (.tup []) else .tup [] := by simp only [vf, ho]
          rw [a5, a1, a2, a3, a4]
          rcases e3 with ⟨hw, v, hs, hp⟩ | ⟨hw, hp, hh⟩
          · rw [if_pos hw, hs]
            exact ⟨hp, .inl ⟨hw, rfl⟩⟩
          · rw [if_neg (by rw [hw]; simp)]
            exact ⟨hp, .inr ⟨hw, rfl, hh⟩⟩
        have cn : Canon P call ops Tf Hf vf := by
          refine ⟨hstep, ?_⟩
          intro i k o oe ho hoe hr he hne hno hw
          have hpk := hpairs (i, k) (mem_pairs ho hoe hr he hne hno)
          have hi := opLt ho
          have hk := opLt hoe
          obtain ⟨hq, hqa⟩ := read_quiet hr
          have hopi : opA P o (Tf i) (Hf i) = some (vf i, Hf (i + 1)) := by
            rcases (hstep i o ho).2 with ⟨_, h⟩ | ⟨h, _⟩
            · rw [stepA_quiet hq] at h; exact h
            · rw [hw] at h; cases h
          have get : ∀ j, j ≤ ops.size → ∃ s, sts[j]? = some s ∧ Tf j = s.1 ∧ Hf j = s.2 := by
            intro j hj
            obtain ⟨s, hs⟩ : ∃ s, sts[j]? = some s := ⟨sts[j]'(by omega), List.getElem?_eq_getElem (by omega)⟩
            exact ⟨s, hs, by simp only [Tf, hs, Option.getD_some], by simp only [Hf, hs, Option.getD_some]⟩
          obtain ⟨si, hsi, ti, hi'⟩ := get i (by omega)
          obtain ⟨sk, hsk, _, hk'⟩ := get k (by omega)
          obtain ⟨sl, hsl, _, hl'⟩ := get (k + 1) (by omega)
          unfold pairOk at hpk
          simp only [ho, hsi, hsk, hsl] at hpk
          rw [← ti, ← hi', ← hk', ← hl', hw, hopi] at hpk
          simp only [Bool.not_true, Bool.false_or, Option.map_some] at hpk
          constructor
          · intro hki b hb
            rw [if_pos hki, hb] at hpk
            simpa using hpk
          · intro hik
            rw [if_neg (by omega)] at hpk
            exact of_decide_eq_true hpk
        refine wpIn_region_any hm ?_
        have hS : ∀ k, listedS (Array.replicate ops.size false) k = false := by
          intro k
          unfold listedS
          rw [Array.getD_eq_getD_getElem?, Array.getElem?_replicate]
          split <;> rfl
        have fr' : Free μ (Hf 0).size (Hf ops.size).size := by rw [hT0.2, hTn.2]; exact fr
        have iv := Inv.start (S := listedS (Array.replicate ops.size false)) (a := a) cn hc hS (by rw [hT0.2]; exact wf) (by rw [hT0.2]; exact rel.drew) fr' (by rw [hT0.1]; exact hT)
        refine any_wp cn hc hn ro dk (by rw [hT0.2]; exact wf) (Q := Q) ?_ ops.size (Array.replicate ops.size false) 0 μ a w.drew (by simp) ⟨fun j y _ hs => by rw [hS] at hs; cases hs⟩ ?_ iv
        · intro μ' a' w' ht hp hdf
          rw [hTn.1] at ht
          rw [hT0.2, hTn.2] at hp
          have := hQ a'.tmps w' μ' ht ((post_drew wf rel).trans hp)
          have e : ({ a with tmps := a'.tmps } : Act) = a' := by cases a'; cases a; simp only at hdf ⊢; rw [hdf]
          rw [e] at this
          exact this
        · unfold openCount
          have := List.length_filter_le (fun k => !listedS (Array.replicate ops.size false) k) (List.range ops.size)
          simpa using this
      split at h
      · rename_i hp
        obtain ⟨sts, hsts, hlast⟩ := opsA_states h
        exact main sts hsts (by rw [hp]; simp) hlast
      · rename_i ps hps
        split at h
        · rename_i sts hsts
          split at h
          · rename_i hall
            exact main sts hsts (by simpa using hall) h
          · cases h
        · cases h
    · cases h
theorem regionA_size (hc : CallSound P call) {draw : Bool} {T T' : List AV} {H H' : AHeap} (h : regionA P call ops draw (T, H) = some (T', H')) : H.size ≤ H'.size := by
  have states : ∀ {l : List Oper} {s s' : St} {sts : List St}, statesA P call ops l s = some sts → sts.getLast? = some s' → s.2.size ≤ s'.2.size := by
    intro l
    induction l with
    | nil =>
      intro s s' sts h hl
      simp only [statesA, Option.some.injEq] at h; subst h
      simp only [List.getLast?_singleton, Option.some.injEq] at hl; subst hl
      exact Nat.le_refl _
    | cons o l ih =>
      intro s s' sts h hl
      have tail : ∀ {s1 : St} {r : List St}, statesA P call ops l s1 = some r → (s :: r).getLast? = some s' → s1.2.size ≤ s'.2.size := by
        intro s1 r hr hl'
        have hne : r ≠ [] := by
          intro e; subst e
          have := (statesA_spec hr).2.1
          simp at this
        cases r with
        | nil => exact absurd rfl hne
        | cons y ys => rw [List.getLast?_cons_cons] at hl'; exact ih hr hl'
      simp only [statesA] at h
      split at h
      · split at h
        · rename_i v H1 hs
          rw [Option.map_eq_some_iff] at h
          obtain ⟨r, hr, rfl⟩ := h
          exact Nat.le_trans (stepA_size hc hs) (tail hr hl)
        · cases h
      · rw [Option.map_eq_some_iff] at h
        obtain ⟨r, hr, rfl⟩ := h
        have := tail hr hl
        exact this
  unfold regionA at h
  split at h
  · exact opsA_size hc h
  · split at h
    · split at h
      · exact opsA_size hc h
      · split at h
        · rename_i sts hsts
          split at h
          · exact states hsts h
          · cases h
        · cases h
    · cases h
def Ex.out : Ex → Exit
  | .normal => .normal
  | .exit id => .exit id
  | .ret => .ret
theorem execA_size (hc : CallSound P call) (n : Nat) : ∀ (c : Code) (s : St) (e : Ex) (s' : St), execA P call n c s = some (e, s') → s.2.size ≤ s'.2.size := by
  intro c
  induction c with
  | skip => intro s e s' h; simp only [execA, Option.some.injEq, Prod.mk.injEq] at h; rw [h.2]; exact Nat.le_refl _
  | label l => intro s e s' h; simp only [execA, Option.some.injEq, Prod.mk.injEq] at h; rw [h.2]; exact Nat.le_refl _
  | region id ops draw =>
    intro s e s' h
    simp only [execA, Option.map_eq_some_iff, Prod.mk.injEq] at h
    obtain ⟨r, hr, _, rfl⟩ := h
    obtain ⟨T, H⟩ := s
    obtain ⟨T', H'⟩ := r
    exact regionA_size hc hr
  | seq x y ihx ihy =>
    intro s e s' h
    simp only [execA] at h
    split at h
    · rename_i s1 h1
      exact Nat.le_trans (ihx _ _ _ h1) (ihy _ _ _ h)
    · exact ihx _ _ _ h
  | cond q x y ihx ihy =>
    intro s e s' h
    simp only [execA] at h
    split at h
    · exact ihx _ _ _ h
    · exact ihy _ _ _ h
    · cases h
  | block id b ih =>
    intro s e s' h
    simp only [execA] at h
    split at h
    · rename_i id' s1 h1
      split at h <;> (simp only [Option.some.injEq, Prod.mk.injEq] at h; rw [← h.2]; exact ih _ _ _ h1)
    · exact ih _ _ _ h
  | loop b ih =>
    intro s e s' h
    simp only [execA] at h
    have key : ∀ m (s : St), iterA (fun s => execA P call n b s) m s = some (e, s') → s.2.size ≤ s'.2.size := by
      intro m
      induction m with
      | zero => intro s h; cases h
      | succ m ihm =>
        intro s h
        simp only [iterA] at h
        split at h
        · rename_i s1 h1
          exact Nat.le_trans (ih _ _ _ h1) (ihm _ h)
        · exact ih _ _ _ h
    exact key n s h
  | exit id => intro s e s' h; simp only [execA, Option.some.injEq, Prod.mk.injEq] at h; rw [h.2]; exact Nat.le_refl _
  | scope b ih => intro s e s' h; simp only [execA] at h; exact ih _ _ _ h
  | ret => intro s e s' h; simp only [execA, Option.some.injEq, Prod.mk.injEq] at h; rw [h.2]; exact Nat.le_refl _
  | rangeFunc f ps x y _ _ =>
    intro s e s' h
    simp only [execA] at h
    split at h
    · split at h
      · cases h
      · split at h
        · rename_i v H1 h1
          split at h
          · split at h
            · cases h
            · simp only [Option.some.injEq, Prod.mk.injEq] at h
              obtain ⟨_, rfl⟩ := h
              have := (hc _ _ _ _ _ h1).1
              simp only [AHeap.size_push] at this
              show s.2.size ≤ H1.size
              omega
          · cases h
        · cases h
    · cases h
  | goto l => intro s e s' h; simp [execA] at h
  | refuse why => intro s e s' h; simp [execA] at h
def Marks (B : Nat) (μ : Mu) (w : World) (ds : List Deferred) : Prop :=
  (∀ d ∈ ds, ∃ r, d = { target := .collected r, args := #[] } ∧ B ≤ r ∧ w.heap[r]? = some (.deferred (some [])) ∧ ∀ b s, μ b ≠ some (r, s)) ∧ ds.Nodup
theorem Marks.next {B : Nat} {μ μ' : Mu} {H H' : AHeap} {w w' : World} {ds : List Deferred} (m : Marks B μ w ds) (hp : Post μ H w μ' H' w') : Marks B μ' w' ds := by
  refine ⟨?_, m.2⟩
  intro d hd
  obtain ⟨r, h1, hB, h2, h3⟩ := m.1 d hd
  have hr : r < w.heap.size := (Array.getElem?_eq_some_iff.1 h2).1
  refine ⟨r, h1, hB, ?_, ?_⟩
  · rw [hp.keep r hr (fun b s o hb _ => absurd hb (h3 b s))]; exact h2
  · intro b s hb
    by_cases hout : b < H.size ∨ H'.size ≤ b
    · rw [hp.out b hout] at hb; exact h3 b s hb
    · rcases hp.fresh b r s (by omega) (by omega) hb with h | ⟨b0, s0, o, hb0, _⟩
      · omega
      · exact h3 b0 s0 hb0
def InRound (μ : Mu) (H : AHeap) (ro : Option Nat) : Prop :=
  ∀ r, ro = some r → ∃ b s k p t ps x y, μ b = some (r, s) ∧ H.get b = some (.loop k p t ps x y)
theorem InRound.next {μ μ' : Mu} {H H' : AHeap} {w w' : World} {ro : Option Nat} (ir : InRound μ H ro) (hp : Post μ H w μ' H' w') (fr : Free μ H.size H'.size) : InRound μ' H' ro := by
  intro r hr
  obtain ⟨b, s, k, p, t, ps, x, y, h1, h2⟩ := ir r hr
  obtain ⟨o', ho', hk⟩ := hp.kind b _ h2
  cases o' with
  | row => exact hk.elim
  | map => exact hk.elim
  | loop k' p' t' ps' x' y' => exact ⟨b, s, k', p', t', ps', x', y', hp.le fr _ _ h1, ho'⟩
def After (B : Nat) (μ : Mu) (s : St) (w : World) (e : Ex) (s' : St) : Exit → Act → World → Prop :=
  fun x a' w' => x = e.out ∧ ∃ μ', Marks B μ' w' a'.defers ∧ TRel μ' w' s'.1 a'.tmps ∧ Post μ s.2 w μ' s'.2 w'
theorem After.trans {B : Nat} {μ μ' : Mu} {s s1 s2 : St} {w w' : World} {e : Ex} {x : Exit} {a' : Act} {w'' : World} (hp : Post μ s.2 w μ' s1.2 w') (h : After B μ' s1 w' e s2 x a' w'') : After B μ s w e s2 x a' w'' := by
  obtain ⟨h1, μ'', h2, h3, h4⟩ := h
  exact ⟨h1, μ'', h2, h3, hp.trans h4⟩
theorem free_next {μ μ' : Mu} {H H1 H2 : AHeap} {w w' : World} (fr : Free μ H.size H2.size) (hp : Post μ H w μ' H1 w') : Free μ' H1.size H2.size := by
  intro b h1 h2
  rw [hp.out b (.inr h1)]
  have := hp.size
  exact fr b (by omega) h2
theorem wpIn_scope_straight {F : Fence} {n : Nat} {c : Code} {Q : Exit → Act → World → Prop} {a : Act} {w : World} (h : c.wpIn F n P (Exit.noGoto Q) a w) : (Code.scope c).wpIn F n P Q a w := by
  intro b k cs hro hb hr
  have s1 : ∀ {a : Act} {w : World}, step P (lone (b.atR a (.code (.scope c) :: k)) cs w) = .next (lone (b.atR a (.code c :: .inScope c :: k)) cs w) := step_lone_go (by simp [stepG, stepG.exec, Frame.atR])
  have s2 : ∀ {a : Act} {w : World}, step P (lone (b.atR a (.inScope c :: k)) cs w) = .next (lone (b.atR a k) cs w) := step_lone_go (by simp [stepG, stepG.exec, Frame.atR])
  have h0 : (lone (b.atR a (.code (.scope c) :: k)) cs w).fenced P F := fenced_calm hb hr rfl
  obtain ⟨e, a₁, w₁, hq, harr⟩ := h b (.inScope c :: k) cs hro hb hr
  cases e with
  | normal => exact ⟨.normal, a₁, w₁, hq, .head h0 s1 (StepsIn.trans harr (.one (fenced_calm hb hr rfl) s2))⟩
  | exit id =>
    have hx : exitTo id (.inScope c :: k) = exitTo id k := by simp [exitTo]
    exact ⟨.exit id, a₁, w₁, hq, fun k' hk => .head h0 s1 (harr.1 k' (by rw [hx]; exact hk)),
      fun hr' hk => let ⟨k₁, h1, h2⟩ := harr.2 hr' (by rw [hx]; exact hk); ⟨k₁, h1, .head h0 s1 h2⟩⟩
  | goto l => exact hq.elim
  | ret => exact ⟨_, a₁, w₁, hq, .of_steps (.one h0 s1) harr⟩
  | panic ch => exact ⟨_, a₁, w₁, hq, .of_steps (.one h0 s1) harr⟩
  | outgrown => exact ⟨_, a₁, w₁, hq, .of_steps (.one h0 s1) harr⟩
theorem post_unseen {H : AHeap} {robj : Obj} (wf : WF H) (rel : Rel μ H.get w) : Post μ H w μ H (w.alloc robj) := by
  have hs := shape_alloc w robj
  refine ⟨wf, ⟨?_, ?_, rel.sep, rel.clos⟩, Nat.le_refl _, fun _ _ => rfl, fun b _ _ h1 h2 _ => by omega, fun b o h => ⟨o, h, sameKind.refl o⟩, fun b o _ h => ⟨o, h, sameKind.refl o⟩, fun _ _ _ => rfl, fun b h1 h2 => by omega, rfl, rfl, rfl, by simp, fun k hk _ => heap_old w robj hk, hs⟩
  · intro b r s hb
    have := rel.dom b r s hb
    simp; omega
  · intro b r s o hb ho
    have hr := rel.dom b r s hb
    rw [heap_old w robj hr]
    exact (rel.obj b r s o hb ho).mono (fun _ _ h => h) hs
theorem post_loop {H : AHeap} {l r s : Nat} {lp lp' : Loop} {k k' : Nat} {p p' : Ex} {t : List AV} {ps : Array Tmp} {x y : Code} (wf : WF H) (rel : Rel μ H.get w) (hl : H.get l = some (.loop k p t ps x y)) (hm : μ l = some (r, s))
    (hlp : w.heap[r]? = some (.loop lp)) (hst : lp'.state = stOf k') (hpe : lp'.pending = jumpOf p') (hsame : lp'.params = lp.params ∧ lp'.assign = lp.assign ∧ lp'.body = lp.body ∧ lp'.tmps = lp.tmps) :
    Post μ H w μ (H.set l (.loop k' p' t ps x y)) (w.putObj r (.loop lp')) := by
  have hlt := AHeap.get_lt hl
  have hrlt : r < w.heap.size := (Array.getElem?_eq_some_iff.1 hlp).1
  have hget : ∀ m, (H.set l (.loop k' p' t ps x y)).get m = if m = l then some (.loop k' p' t ps x y) else H.get m := by
    intro m
    rw [AHeap.get_set]
    by_cases e : m = l
    · rw [if_pos ⟨e, hlt⟩, if_pos e]
    · rw [if_neg (fun h => e h.1), if_neg e]
  have hshape : ∀ m, (w.putObj r (.loop lp')).shape? m = w.shape? m := by
    intro m
    unfold World.shape?
    by_cases e : m = r
    · subst e
      rw [World.putObj_heap_same hrlt, hlp]
    · rw [World.putObj_heap_other e]
  have hs : Shapes w (w.putObj r (.loop lp')) := fun m z h => by rw [hshape]; exact h
  have hnone : ∀ b s' o, b ≠ l → μ b = some (r, s') → H.get b = some o → False := by
    intro b s' o hne hb ho
    have := rel.sep b l r s' s o _ hne hb hm ho hl
    cases o <;> exact this
  have hobj0 := rel.obj l r s _ hm hl
  obtain ⟨lp0, e0, _, _, e3, e4, e5, e6⟩ := hobj0
  rw [hlp] at e0
  cases e0
  refine ⟨?_, ⟨?_, ?_, ?_, ?_⟩, Nat.le_refl _, fun _ _ => rfl, fun b _ _ h1 h2 _ => by simp at h2; omega, ?_, ?_, ?_, fun b h1 h2 => by simp at h2; omega, rfl, rfl, rfl, by simp, ?_, hs⟩
  · refine wf.same rfl (fun g => rfl) ?_
    intro b o' ho'
    rw [hget] at ho'
    split at ho'
    · next e => subst e; cases ho'; exact ⟨_, hl, trivial⟩
    · exact ⟨o', ho', sameKind.refl _⟩
  · intro b r' s' hb
    have := rel.dom b r' s' hb
    simpa using this
  · intro b r' s' o hb ho
    rw [hget] at ho
    split at ho
    · next e =>
      subst e
      cases ho
      rw [hm] at hb
      cases hb
      rw [World.putObj_heap_same hrlt]
      refine ⟨lp', rfl, hst, hpe, by rw [hsame.1, e3], by rw [hsame.2.1, e4], by rw [hsame.2.2.1, e5], ?_⟩
      rw [hsame.2.2.2]
      exact e6.mono fun _ _ => VRel.mono (fun _ _ h => h) hs
    · next e =>
      have hne : r' ≠ r := by
        intro h; subst h
        exact hnone b s' o e hb ho
      rw [World.putObj_heap_other hne]
      exact (rel.obj b r' s' o hb ho).mono (fun _ _ h => h) hs
  · intro b1 b2 r' s1 s2 o1 o2 hne hb1 hb2 ho1 ho2
    rw [hget] at ho1 ho2
    split at ho1
    · next e1 =>
      subst e1
      split at ho2
      · next e2 => exact absurd e2.symm hne
      · next e2 =>
        rw [hm] at hb1; cases hb1
        exact (hnone b2 s2 o2 e2 hb2 ho2).elim
    · next e1 =>
      split at ho2
      · next e2 =>
        subst e2
        rw [hm] at hb2; cases hb2
        exact (hnone b1 s1 o1 e1 hb1 ho1).elim
      · exact rel.sep b1 b2 r' s1 s2 o1 o2 hne hb1 hb2 ho1 ho2
  · intro b1 b2 o1 o2 k1 ho1 ho2 hk1 hk2 hmm
    rw [hget] at ho1 ho2
    split at ho1
    · cases ho1; cases hk1
    · split at ho2
      · cases ho2; cases hk2
      · exact rel.clos b1 b2 o1 o2 k1 ho1 ho2 hk1 hk2 hmm
  · intro b o ho
    by_cases e : b = l
    · subst e; rw [hl] at ho; cases ho; exact ⟨.loop k' p' t ps x y, by rw [hget, if_pos rfl], trivial⟩
    · exact ⟨o, by rw [hget, if_neg e]; exact ho, sameKind.refl _⟩
  · intro b o' _ ho'
    rw [hget] at ho'
    split at ho'
    · next e => subst e; cases ho'; exact ⟨_, hl, trivial⟩
    · exact ⟨o', ho', sameKind.refl _⟩
  · intro b _ hb
    have : b ≠ l := by intro e; subst e; rw [hm] at hb; cases hb
    rw [hget, if_neg this]
  · intro k0 hk0 hprot
    have : k0 ≠ r := by
      intro e; subst e
      have := hprot l s _ hm hl
      cases this
    rw [World.putObj_heap_other this]
theorem noGoto_of {B : Nat} {μ : Mu} {s : St} {w : World} {e : Ex} {s' : St} {x : Exit} {a' : Act} {w' : World} (h : After B μ s w e s' x a' w') : Exit.noGoto (After B μ s w e s') x a' w' := by
  obtain ⟨rfl, hq⟩ := h
  cases e <;> exact ⟨rfl, hq⟩
theorem run_enter {H : AHeap} (rel : Rel μ H.get w) {ro : Option Nat} (ir : InRound μ H ro) (fn : FuncId) (tmps : Array Value) (ps : Array Tmp) (assign body : Code) :
    ∃ mark w1 lp, (Instr.enterLoop fn tmps ps assign body ro).run P w = .ok (w1.heap.size, mark) (w1.alloc (.loop lp)) ∧ lp.state = .ready ∧ lp.pending = none ∧ lp.tmps = tmps ∧ lp.params = ps ∧ lp.assign = assign ∧ lp.body = body ∧
      ((mark = [] ∧ w1 = w) ∨ (mark = [{ target := .collected w.heap.size, args := #[] }] ∧ w1 = w.alloc (.deferred (some [])))) := by
  cases ro with
  | none =>
    refine ⟨_, w.alloc (.deferred (some [])), { state := .ready, pending := none, fn, tmps, params := ps, assign, body, defers := w.heap.size }, ?_, rfl, rfl, rfl, rfl, rfl, rfl, .inr ⟨rfl, rfl⟩⟩
    rw [World.size_alloc]
    exact run_enterLoop_outer fn tmps ps assign body
  | some r =>
    obtain ⟨b, s, k, p, t, ps', x, y, h1, h2⟩ := ir r rfl
    obtain ⟨lp0, e0, _⟩ := rel.obj b r s _ h1 h2
    refine ⟨[], w, { state := .ready, pending := none, fn, tmps, params := ps, assign, body, defers := lp0.defers }, ?_, rfl, rfl, rfl, rfl, rfl, rfl, .inl ⟨rfl, rfl⟩⟩
    unfold Instr.enterLoop
    simp only [Sem.run_bind, run_getLoop e0, run_newObj_alloc, Result.andThen, Sem.run_pure]
theorem execA_wp (hc : CallSound P call) (hn : NamesOk P) (hm : P.follows .mixedOrders = true) (n : Nat) : ∀ (c : Code) (s : St) (e : Ex) (s' : St), execA P call n c s = some (e, s') →
    ∀ (ro : Option Nat) (B : Nat) (μ : Mu) (a : Act) (w : World), TRel μ w s.1 a.tmps → WF s.2 → Rel μ s.2.get w → Free μ s.2.size s'.2.size → Marks B μ w a.defers ∧ B ≤ w.heap.size → InRound μ s.2 ro → c.wpIn (VF ro) 0 P (After B μ s w e s') a w := by
  intro c
  induction c with
  | skip =>
    intro s e s' h ro B μ a w hT wf rel fr mk ir
    simp only [execA, Option.some.injEq, Prod.mk.injEq] at h
    obtain ⟨rfl, rfl⟩ := h
    exact wpIn_skip ⟨rfl, μ, mk.1, hT, Post.refl wf rel⟩
  | label l =>
    intro s e s' h ro B μ a w hT wf rel fr mk ir
    simp only [execA, Option.some.injEq, Prod.mk.injEq] at h
    obtain ⟨rfl, rfl⟩ := h
    exact wpIn_label ⟨rfl, μ, mk.1, hT, Post.refl wf rel⟩
  | region id ops draw =>
    intro s e s' h ro B μ a w hT wf rel fr mk ir
    simp only [execA, Option.map_eq_some_iff, Prod.mk.injEq] at h
    obtain ⟨r, hr, rfl, rfl⟩ := h
    obtain ⟨T, H⟩ := s
    obtain ⟨T', H'⟩ := r
    exact regionA_wp hc hn ro hm hr hT wf rel fr fun t' w' μ' ht hp => ⟨rfl, μ', mk.1.next hp, ht, hp⟩
  | seq x y ihx ihy =>
    intro s e s' h ro B μ a w hT wf rel fr mk ir
    simp only [execA] at h
    refine wpIn_seq ?_
    split at h
    · rename_i s1 h1
      have hs1 := execA_size hc n _ _ _ _ h1
      have hs2 := execA_size hc n _ _ _ _ h
      have fr1 : Free μ s.2.size s1.2.size := fun b q1 q2 => fr b q1 (by omega)
      refine wpIn_mono (ihx _ _ _ h1 ro B μ a w hT wf rel fr1 mk ir) ?_
      rintro x' a' w' ⟨rfl, μ', mk', ht, hp⟩
      show y.wpIn (VF ro) 0 P _ a' w'
      exact wpIn_mono (ihy _ _ _ h ro B μ' a' w' ht hp.wf hp.rel (free_next fr hp) ⟨mk', Nat.le_trans mk.2 hp.wsize⟩ (ir.next hp fr1)) fun _ _ _ q => After.trans hp q
    · rename_i hno
      refine wpIn_mono (ihx _ _ _ h ro B μ a w hT wf rel fr mk ir) ?_
      rintro x' a' w' hq
      obtain ⟨rfl, hq'⟩ := hq
      cases e with
      | normal => exact absurd h (hno s')
      | exit id => exact ⟨rfl, hq'⟩
      | ret => exact ⟨rfl, hq'⟩
  | cond q x y ihx ihy =>
    intro s e s' h ro B μ a w hT wf rel fr mk ir
    simp only [execA] at h
    split at h
    · rename_i hq
      exact wpIn_cond_true (evalA_rel hT hq) (ihx _ _ _ h ro B μ a w hT wf rel fr mk ir)
    · rename_i hq
      exact wpIn_cond_false (evalA_rel hT hq) (ihy _ _ _ h ro B μ a w hT wf rel fr mk ir)
    · cases h
  | block id b ih =>
    intro s e s' h ro B μ a w hT wf rel fr mk ir
    simp only [execA] at h
    refine wpIn_block ?_
    split at h
    · rename_i id' s1 h1
      split at h
      · rename_i hid
        subst hid
        simp only [Option.some.injEq, Prod.mk.injEq] at h
        obtain ⟨rfl, rfl⟩ := h
        refine wpIn_mono (ih _ _ _ h1 ro B μ a w hT wf rel fr mk ir) ?_
        rintro x' a' w' ⟨rfl, hq⟩
        show (if id' = id' then _ else _)
        rw [if_pos rfl]
        exact ⟨rfl, hq⟩
      · rename_i hid
        simp only [Option.some.injEq, Prod.mk.injEq] at h
        obtain ⟨rfl, rfl⟩ := h
        refine wpIn_mono (ih _ _ _ h1 ro B μ a w hT wf rel fr mk ir) ?_
        rintro x' a' w' ⟨rfl, hq⟩
        show (if id' = id then _ else _)
        rw [if_neg hid]
        exact ⟨rfl, hq⟩
    · rename_i hno
      refine wpIn_mono (ih _ _ _ h ro B μ a w hT wf rel fr mk ir) ?_
      rintro x' a' w' hq
      obtain ⟨rfl, hq'⟩ := hq
      cases e with
      | normal => exact ⟨rfl, hq'⟩
      | exit id' => exact absurd h (hno id' s')
      | ret => exact ⟨rfl, hq'⟩
  | loop b ih =>
    intro s e s' h ro B μ a w hT wf rel fr mk ir
    simp only [execA] at h
    refine wpIn_loop_rounds n ?_
    have key2 : ∀ m (s : St), iterA (fun s => execA P call n b s) m s = some (e, s') → s.2.size ≤ s'.2.size := by
      intro m
      induction m with
      | zero => intro s h; cases h
      | succ m ihm =>
        intro s h
        simp only [iterA] at h
        split at h
        · rename_i s2 h2
          exact Nat.le_trans (execA_size hc n _ _ _ _ h2) (ihm _ h)
        · exact execA_size hc n _ _ _ _ h
    have key : ∀ (m : Nat) (s : St) (μ1 : Mu) (a1 : Act) (w1 : World), iterA (fun s => execA P call n b s) m s = some (e, s') → TRel μ1 w1 s.1 a1.tmps → WF s.2 → Rel μ1 s.2.get w1 → Free μ1 s.2.size s'.2.size →
        Marks B μ1 w1 a1.defers ∧ B ≤ w1.heap.size → InRound μ1 s.2 ro → Code.roundsIn (VF ro) 0 P b (After B μ1 s w1 e s') m a1 w1 := by
      intro m
      induction m with
      | zero => intro s μ1 a1 w1 h; cases h
      | succ m ihm =>
        intro s μ1 a1 w1 h hT wf rel fr mk ir
        rw [roundsIn_succ]
        simp only [iterA] at h
        split at h
        · rename_i s1 h1
          have hs1 := execA_size hc n _ _ _ _ h1
          have hs2 : s1.2.size ≤ s'.2.size := key2 m s1 h
          have fr1 : Free μ1 s.2.size s1.2.size := fun b' q1 q2 => fr b' q1 (by omega)
          refine wpIn_mono (ih _ _ _ h1 ro B μ1 a1 w1 hT wf rel fr1 mk ir) ?_
          rintro x' a' w' ⟨rfl, μ', mk', ht, hp⟩
          show Code.roundsIn (VF ro) 0 P b _ m a' w'
          have := ihm s1 μ' a' w' h ht hp.wf hp.rel (free_next fr hp) ⟨mk', Nat.le_trans mk.2 hp.wsize⟩ (ir.next hp fr1)
          have mono : ∀ (m : Nat) (a2 : Act) (w2 : World), Code.roundsIn (VF ro) 0 P b (After B μ' s1 w' e s') m a2 w2 → Code.roundsIn (VF ro) 0 P b (After B μ1 s w1 e s') m a2 w2 := by
            intro m
            induction m with
            | zero => intro a2 w2 h; exact h
            | succ m ihm2 =>
              intro a2 w2 h
              rw [roundsIn_succ] at h ⊢
              refine wpIn_mono h ?_
              intro x a3 w3 hq
              cases x with
              | normal => exact ihm2 _ _ hq
              | exit id => exact After.trans hp hq
              | goto l => exact After.trans hp hq
              | ret => exact After.trans hp hq
              | panic ch => exact After.trans hp hq
              | outgrown => exact After.trans hp hq
          exact mono m a' w' this
        · rename_i hno
          refine wpIn_mono (ih _ _ _ h ro B μ1 a1 w1 hT wf rel fr mk ir) ?_
          rintro x' a' w' hq
          obtain ⟨rfl, hq'⟩ := hq
          cases e with
          | normal => exact absurd h (hno s')
          | exit id => exact ⟨rfl, hq'⟩
          | ret => exact ⟨rfl, hq'⟩
    exact key n s μ a w h hT wf rel fr mk ir
  | exit id =>
    intro s e s' h ro B μ a w hT wf rel fr mk ir
    simp only [execA, Option.some.injEq, Prod.mk.injEq] at h
    obtain ⟨rfl, rfl⟩ := h
    exact wpIn_exit ⟨rfl, μ, mk.1, hT, Post.refl wf rel⟩
  | scope b ih =>
    intro s e s' h ro B μ a w hT wf rel fr mk ir
    simp only [execA] at h
    exact wpIn_scope_straight (wpIn_mono (ih _ _ _ h ro B μ a w hT wf rel fr mk ir) fun _ _ _ q => noGoto_of q)
  | ret =>
    intro s e s' h ro B μ a w hT wf rel fr mk ir
    simp only [execA, Option.some.injEq, Prod.mk.injEq] at h
    obtain ⟨rfl, rfl⟩ := h
    exact wpIn_ret ⟨rfl, μ, mk.1, hT, Post.refl wf rel⟩
  | rangeFunc f ps x y _ _ =>
    intro s e s' h ro B μ a w hT wf rel fr mk ir
    simp only [execA] at h
    split at h
    · rename_i g first caps hf
      split at h
      · cases h
      · rename_i hglt
        split at h
        · rename_i rv H1 hcall
          split at h
          · rename_i st pend t' ps' x' y' hl1
            split at h
            · cases h
            · rename_i hst1
              simp only [Option.some.injEq, Prod.mk.injEq] at h
              obtain ⟨rfl, rfl⟩ := h
              obtain ⟨fs, cs, hfe, hfs, hcs⟩ := evalA_rel hT hf
              have hsz := (hc _ _ _ _ _ hcall).1
              simp only [AHeap.size_push] at hsz
              have hcc := (hc _ _ _ _ _ hcall).2
              rcases hcc with ⟨⟨fn, hfn, hbody⟩, hsound⟩ | ⟨hge, _⟩
              case inr => exact absurd hge hglt
              have hsz' : (H1.set s.2.size (.loop 3 pend t' ps' x' y')).size = H1.size := rfl
              simp only [hsz'] at fr
              refine wpIn_rangeFunc fun fid _ => ?_
              obtain ⟨mark, w1, lp, hent, e1, e2, e3, e4, e5, e6, hmk⟩ := run_enter (P := P) rel ir fid a.tmps ps x y
              have post1 : Post μ s.2 w μ s.2 w1 := by
                rcases hmk with ⟨_, rfl⟩ | ⟨_, rfl⟩
                · exact Post.refl wf rel
                · exact post_unseen wf rel
              have hfree0 : μ s.2.size = none := fr _ (Nat.le_refl _) (by omega)
              have post2 : Post μ s.2 w1 (μ.ins s.2.size (w1.heap.size, 0)) (s.2.push (.loop 0 .normal s.1 ps x y)) (w1.alloc (.loop lp)) :=
                post_plus (obj := .loop 0 .normal s.1 ps x y) post1.wf post1.rel hfree0 trivial
                  ⟨lp, rfl, e1, e2, e4, e5, e6, by rw [e3]; exact hT.mono fun _ _ => VRel.mono (fun _ _ h => h) post1.shapes⟩
              have post12 := post1.trans post2
              have fr12 : Free μ s.2.size (s.2.push (.loop 0 .normal s.1 ps x y)).size := fun b h1 h2 => fr b h1 (by simp only [AHeap.size_push] at h2; omega)
              have le12 := post12.le fr12
              have hmu : (μ.ins s.2.size (w1.heap.size, 0)) s.2.size = some (w1.heap.size, 0) := Mu.ins_self _ _ _
              have hargs : All2 (VRel (μ.ins s.2.size (w1.heap.size, 0)) (w1.alloc (.loop lp))) (first.map (fun a => AV.one (.ptr (some a))) ++ [.one (.yield s.2.size)] ++ caps.map (fun a => AV.one (.ptr (some a))))
                  ((fs ++ #[Value.func (.yield w1.heap.size) #[] #[]]) ++ cs).toList := by
                simp only [Array.toList_append]
                refine All2.append (All2.append ?_ ?_) ?_
                · exact (ptrRels_vrels (hfs.mono fun _ _ => PtrRel.mono le12))
                · exact ⟨⟨_, _, hmu, rfl⟩, trivial⟩
                · exact (ptrRels_vrels (hcs.mono fun _ _ => PtrRel.mono le12))
              have hcalls := hsound _ _ _ hargs post12.wf post12.rel (free_next fr post12)
              have hres : (resolve a.eval (rangeCall f w1.heap.size) 0).run P (w1.alloc (.loop lp)) = .ok { target := .fn (.func g) cs, args := fs ++ #[Value.func (.yield w1.heap.size) #[] #[]] } (w1.alloc (.loop lp)) := by
                simp only [resolve, hfe, Deferred.ofValue, Sem.run_bind, Sem.run_pure, Result.andThen_ok]
                have e : Array.map a.eval #[Operand.const (Value.func (Fn.yield w1.heap.size) #[] #[])] = #[Value.func (Fn.yield w1.heap.size) #[] #[]] := by simp [Act.eval]
                rw [e]
              have hinv : (invoke (.fn (.func g) cs) (fs ++ #[Value.func (.yield w1.heap.size) #[] #[]])).run P (w1.alloc (.loop lp)) = .ok (.enter g ((fs ++ #[Value.func (.yield w1.heap.size) #[] #[]]) ++ cs)) (w1.alloc (.loop lp)) := by
                simp only [invoke, callFunc, Sem.run_bind, Sem.run_pure, Result.andThen_ok, run_program, hfn]
                have hn' := hn _ _ hfn
                rw [if_neg (by rw [hn']; simp), if_neg (by cases hb : fn.body <;> simp_all)]
                rfl
              refine ⟨w1.heap.size, mark, w1.alloc (.loop lp), _, _, g, _, _, hent, hres, fun _ _ => trivial, hinv, (fun h => by cases h), ?_⟩
              refine CallsIn.mono (F := VF ro) (n := 0 - 1) ((callsIn_wide (n := 0 - 1)).2 hcalls) ?_
              rintro en w3 ⟨v', μ3, rfl, _, hp3⟩
              have fr3 := free_next (H2 := H1) fr post12
              have hl3 : μ3 s.2.size = some (w1.heap.size, 0) := by
                rw [hp3.out _ (.inl (by simp))]; exact hmu
              obtain ⟨lp3, f0, f1, f2, f3, f4, f5, f6⟩ := hp3.rel.obj _ _ _ _ hl3 hl1
              have hnb : lp3.state ≠ .busy := by
                rw [f1]
                intro hbz
                match st, hst1, hbz with
                | 0, _, hbz => cases hbz
                | 1, h, _ => exact h rfl
                | 2, _, hbz => cases hbz
                | n + 3, _, hbz => cases hbz
              have post4 := post_loop (lp' := { lp3 with state := .exhausted }) (k' := 3) (p' := pend) hp3.wf hp3.rel hl1 hl3 f0 rfl f2 ⟨rfl, rfl, rfl, rfl⟩
              refine ⟨lp3.pending, _, run_endLoop f0 hnb, ?_⟩
              have postAll := (post12.trans hp3).trans post4
              have hmarks : Marks B μ3 (w3.putObj w1.heap.size (.loop { lp3 with state := .exhausted })) (mark ++ a.defers) := by
                refine Marks.next (Marks.next ?_ hp3) post4
                rcases hmk with ⟨rfl, _⟩ | ⟨rfl, hw1⟩
                · exact mk.1.next post12
                · obtain ⟨m1, m2⟩ := mk.1.next post12
                  refine ⟨?_, ?_⟩
                  · intro d hd
                    rcases List.mem_append.1 hd with hd | hd
                    · simp only [List.mem_singleton] at hd
                      refine ⟨w.heap.size, hd, mk.2, ?_, ?_⟩
                      · rw [heap_old w1 _ (by rw [hw1]; simp), hw1]
                        exact World.alloc_heap_new w _
                      · intro b s0 hb
                        unfold Mu.ins at hb
                        split at hb
                        · simp only [Option.some.injEq, Prod.mk.injEq] at hb
                          have h1 := hb.1
                          rw [hw1] at h1
                          simp at h1
                        · have := rel.dom b _ _ hb
                          omega
                    · exact m1 d hd
                  · refine List.nodup_cons.2 ⟨?_, m2⟩
                    intro hd
                    obtain ⟨r, hr, _, h2, _⟩ := mk.1.1 _ hd
                    have hr' : w.heap.size = r := by
                      have := congrArg Deferred.target hr
                      simpa using this
                    have := (Array.getElem?_eq_some_iff.1 h2).1
                    omega
              have hle := (post12.trans hp3).le (fun b h1 h2 => fr b h1 h2)
              have ht : TRel μ3 (w3.putObj w1.heap.size (.loop { lp3 with state := .exhausted })) s.1 a.tmps :=
                All2.mono (fun _ _ => VRel.mono hle postAll.shapes) hT
              have done : After B μ s w pend (s.1, H1.set s.2.size (.loop 3 pend t' ps' x' y')) pend.out { a with defers := mark ++ a.defers } (w3.putObj w1.heap.size (.loop { lp3 with state := .exhausted })) :=
                ⟨rfl, μ3, hmarks, ht, postAll⟩
              revert done
              generalize w3.putObj w1.heap.size (.loop { lp3 with state := .exhausted }) = W4
              intro done
              rw [f2]
              cases pend with
              | normal => exact done
              | exit id => exact wpIn_exit done
              | ret => exact wpIn_ret done
          · cases h
        · cases h
    · cases h
  | goto l => intro s e s' h; simp [execA] at h
  | refuse why => intro s e s' h; simp [execA] at h
def readRes (t : Array Value) : ResultVar → Sem Value
  | .tmp i => pure (t.getD i undef)
  | .cell i ty => do loadVar ty (← asAddr (t.getD i undef))
theorem resultsA_run {H : AHeap} (rel : Rel μ H.get w) {T : List AV} {t : Array Value} (hT : TRel μ w T t) : ∀ {rs : List ResultVar} {ps : List (Bool × List AC)}, resultsA P T H rs = some ps →
    ∃ vs : List Value, (rs.mapM (readRes t) : Sem (List Value)).run P w = .ok vs w ∧ All2 (PRel μ w) ps vs
  | [], ps, h => by
    simp only [resultsA, Option.some.injEq] at h; subst h
    exact ⟨[], rfl, trivial⟩
  | .tmp i :: rs, ps, h => by
    simp only [resultsA] at h
    split at h
    · rename_i p ps' h1 h2
      simp only [Option.some.injEq] at h; subst h
      obtain ⟨vs, h3, h4⟩ := resultsA_run rel hT h2
      refine ⟨t.getD i undef :: vs, ?_, AV.part_rel h1 (hT.getD i), h4⟩
      simp only [List.mapM_cons, readRes, Sem.run_bind, Sem.run_pure, Result.andThen_ok, h3]
    · cases h
  | .cell i ty :: rs, ps, h => by
    simp only [resultsA] at h
    split at h
    · rename_i b n ps' h0 h1 h2 h3
      rw [Option.map_eq_some_iff] at h
      obtain ⟨cs, hcs, rfl⟩ := h
      obtain ⟨vs, h4, h5⟩ := resultsA_run rel hT h3
      have hv := hT.getD i
      rw [h0] at hv
      obtain ⟨ad, us, e1, e2, e3, e4⟩ := load_rel (g := H.get) rel rfl hcs hv
      refine ⟨.agg us.toArray :: vs, ?_, ⟨us.toArray, rfl, by simpa using e3⟩, h5⟩
      have ha : (asAddr (t.getD i undef)).run P w = .ok ad w := by rw [e1]; rfl
      simp only [List.mapM_cons, readRes, Sem.run_bind, ha, Sem.run_pure, Result.andThen_ok, loadVar_agg h1 h2 e2 e4, h4]
    · rename_i b n ps' h0 h1 h2 h3
      rw [Option.map_eq_some_iff] at h
      obtain ⟨cs, hcs, rfl⟩ := h
      obtain ⟨vs, h4, h5⟩ := resultsA_run rel hT h3
      have hv := hT.getD i
      rw [h0] at hv
      obtain ⟨ad, us, e1, e2, e3, e4⟩ := load_rel (g := H.get) rel rfl hcs hv
      have hl := e3.length
      cases us with
      | nil => simp at e2
      | cons u us =>
        cases cs with
        | nil => exact e3.elim
        | cons c cs =>
          obtain rfl : us = [] := List.eq_nil_of_length_eq_zero (by simpa using e2)
          obtain rfl : cs = [] := List.eq_nil_of_length_eq_zero (by simpa using hl)
          refine ⟨u :: vs, ?_, ⟨c, rfl, e3.1⟩, h5⟩
          have ha : (asAddr (t.getD i undef)).run P w = .ok ad w := by rw [e1]; rfl
          simp only [List.mapM_cons, readRes, Sem.run_bind, ha, Sem.run_pure, Result.andThen_ok, loadVar_one h1 (show w.cell? ad = some u by simpa [Addr.add] using e4 0 u rfl), h4]
    · cases h
theorem shape_hidden {r : Nat} {x y : Option (List Deferred)} (h : w.heap[r]? = some (.deferred x)) (m : Nat) : (w.putObj r (.deferred y)).shape? m = w.shape? m := by
  unfold World.shape?
  by_cases e : m = r
  · subst e
    rw [World.putObj_heap_same (Array.getElem?_eq_some_iff.1 h).1, h]
  · rw [World.putObj_heap_other e]
theorem post_hidden {μ' : Mu} {H H' : AHeap} {w w' : World} {r : Nat} {x y : Option (List Deferred)} (hp : Post μ H w μ' H' w') (hr : w.heap.size ≤ r) (h : w'.heap[r]? = some (.deferred x)) (hm : ∀ b s, μ' b ≠ some (r, s)) :
    Post μ H w μ' H' (w'.putObj r (.deferred y)) := by
  have hs : Shapes w' (w'.putObj r (.deferred y)) := fun m z hz => by rw [shape_hidden h]; exact hz
  refine ⟨hp.wf, ⟨?_, ?_, hp.rel.sep, hp.rel.clos⟩, hp.size, hp.out, hp.fresh, hp.kind, hp.kind', hp.hidden, hp.mapped, hp.os, hp.tape, hp.output, by simpa using hp.wsize, ?_, hp.shapes.trans hs⟩
  · intro b r' s' hb
    have := hp.rel.dom b r' s' hb
    simpa using this
  · intro b r' s' o hb ho
    have : r' ≠ r := by intro e; subst e; exact hm b s' hb
    rw [World.putObj_heap_other this]
    exact (hp.rel.obj b r' s' o hb ho).mono (fun _ _ h => h) hs
  · intro k hk hprot
    rw [World.putObj_heap_other (by omega)]
    exact hp.keep k hk hprot
theorem leaves {μ' : Mu} {H H' : AHeap} {fn : Func} {T : List AV} {tmps : Array Value} {R : Ending → World → Prop}
    (fin : ∀ w', Post μ H w μ' H' w' → TRel μ' w' T tmps → ∃ v, (results fn tmps).run P w' = .ok v w' ∧ R (.returned v) w') : ∀ (ds : List Deferred) (w' : World), Marks w.heap.size μ' w' ds → Post μ H w μ' H' w' → TRel μ' w' T tmps →
      LeavesInM Fence.wide 0 P fn tmps R ds .returning w'
  | [], w', _, hp, ht => fin w' hp ht
  | d :: ds, w', mk, hp, ht => by
    obtain ⟨r, rfl, hB, h2, h3⟩ := mk.1 d (List.mem_cons_self ..)
    refine ⟨by simp, .inl ⟨r, _, rfl, run_takeDeferred h2, ?_⟩⟩
    have hs : Shapes w' (w'.putObj r (.deferred none)) := fun m z hz => by rw [shape_hidden h2]; exact hz
    refine leaves fin ds _ ⟨?_, (List.nodup_cons.1 mk.2).2⟩ (post_hidden hp hB h2 h3) (All2.mono (fun _ _ => VRel.mono (fun _ _ h => h) hs) ht)
    intro d hd
    obtain ⟨r', e, hB', h2', h3'⟩ := mk.1 d (List.mem_cons_of_mem _ hd)
    refine ⟨r', e, hB', ?_, h3'⟩
    rw [World.putObj_heap_other]
    · exact h2'
    · intro er
      subst er
      subst e
      exact (List.nodup_cons.1 mk.2).1 hd
theorem setAll_rel : ∀ {l : List (Tmp × AV)} {m : List (Tmp × Value)} {T : List AV} {t : Array Value}, All2 (fun x y => x.1 = y.1 ∧ VRel μ w x.2 y.2) l m → TRel μ w T t →
    TRel μ w (setAll T l) (m.foldl (fun tmps x => tmps.setIfInBounds x.1 x.2) t)
  | [], [], _, _, _, h => h
  | x :: l, y :: m, T, t, ⟨⟨h1, h2⟩, h3⟩, h => by
    simp only [setAll, List.foldl_cons]
    refine setAll_rel h3 ?_
    simp only [TRel, Array.toList_setIfInBounds, h1]
    exact All2.set h2 _ h
  | [], _ :: _, _, _, h, _ => h.elim
  | _ :: _, [], _, _, h, _ => h.elim
theorem zip_rel : ∀ {ps : List Tmp} {l : List AV} {m : List Value}, All2 (VRel μ w) l m → All2 (fun (x : Tmp × AV) (y : Tmp × Value) => x.1 = y.1 ∧ VRel μ w x.2 y.2) (ps.zip l) (ps.zip m)
  | [], _, _, _ => by simp [All2]
  | _ :: _, [], [], _ => by simp [All2]
  | _ :: _, _ :: _, _ :: _, h => ⟨⟨rfl, h.1⟩, zip_rel h.2⟩
  | _ :: _, [], _ :: _, h => h.elim
  | _ :: _, _ :: _, [], h => h.elim
theorem roundA_size (hc : CallSound P call) {n l : Nat} {args : List AV} {H H' : AHeap} {v : AV} (h : roundA P call n l args H = some (v, H')) : H.size ≤ H'.size := by
  unfold roundA at h
  split at h
  · split at h
    · split at h
      · rename_i s1 h1
        split at h
        · split at h
          · rename_i e s3 h3
            split at h
            · simp only [Option.some.injEq, Prod.mk.injEq] at h
              obtain ⟨_, rfl⟩ := h
              have k1 := execA_size hc n _ _ _ _ h1
              have k3 := execA_size hc n _ _ _ _ h3
              have k3' : s1.2.size ≤ s3.2.size := k3
              exact Nat.le_trans k1 k3'
            · cases h
          · cases h
        · cases h
      · cases h
    · cases h
  · cases h
theorem round_sound (hc : CallSound P call) (hn : NamesOk P) (hm : P.follows .mixedOrders = true) {n l : Nat} {args : List AV} {H H' : AHeap} {v : AV} (h : roundA P call n l args H = some (v, H')) {rargs : Array Value} {r s : Nat}
    (hl : μ l = some (r, s)) (hargs : All2 (VRel μ w) args rargs.toList) (wf : WF H) (rel : Rel μ H.get w) (fr : Free μ H.size H'.size) :
    ∃ lp : Loop, w.heap[r]? = some (.loop lp) ∧ rargs.size = lp.params.size ∧
      ∀ ro, RoundIn (VF ro) 0 P r lp.fn ((lp.params.zip rargs).foldl (fun tmps (t, a) => tmps.setIfInBounds t a) lp.tmps) lp.assign lp.body w (CallPost μ H w H' v) := by
  unfold roundA at h
  split at h
  · rename_i st0 pe0 tmps ps asg body hg
    obtain ⟨lp, f0, f1, f2, rfl, rfl, rfl, f6⟩ := rel.obj l r s _ hl hg
    refine ⟨lp, f0, ?_⟩
    split at h
    · rename_i hlen
      have hlen' : rargs.size = lp.params.size := by
        have := hargs.length
        simp only [Array.length_toList] at this
        omega
      refine ⟨hlen', fun ro => ?_⟩
      split at h
      · rename_i s1 h1
        split at h
        · rename_i p1 t1 ps1 a1 b1 hg1
          split at h
          · rename_i e s3 h3
            split at h
            · rename_i st4 pe4 t4 ps4 a4 b4 hg3
              simp only [Option.some.injEq, Prod.mk.injEq] at h
              obtain ⟨rfl, rfl⟩ := h
              have k1 : H.size ≤ s1.2.size := execA_size hc n _ _ _ _ h1
              have k3 : s1.2.size ≤ s3.2.size := execA_size hc n lp.body (s1.1, s1.2.set l (.loop 1 p1 t1 ps1 a1 b1)) e s3 h3
              have fr' : Free μ H.size s3.2.size := fr
              refine roundIn_of_wpIn (F := VF ro) (n := 0) trivial ?_
              have hT : TRel μ w (setAll tmps (lp.params.toList.zip args)) ((lp.params.zip rargs).foldl (fun tmps (t, a) => tmps.setIfInBounds t a) lp.tmps) := by
                have := setAll_rel (zip_rel (ps := lp.params.toList) hargs) (T := tmps) (t := lp.tmps) f6
                have e : (lp.params.zip rargs).foldl (fun tmps (t, a) => tmps.setIfInBounds t a) lp.tmps = (lp.params.toList.zip rargs.toList).foldl (fun tmps x => tmps.setIfInBounds x.1 x.2) lp.tmps := by
                  rw [← Array.foldl_toList, Array.toList_zip]
                rw [e]
                exact this
              have fr1 : Free μ H.size s1.2.size := fun b q1 q2 => fr' b q1 (by omega)
              have ir : InRound μ H (some r) := fun r' hr' => by cases hr'; exact ⟨l, s, _, _, _, _, _, _, hl, hg⟩
              have w1 := execA_wp hc hn hm n _ _ _ _ h1 (some r) w.heap.size μ { tmps := (lp.params.zip rargs).foldl (fun tmps (t, a) => tmps.setIfInBounds t a) lp.tmps, defers := [] } w hT wf rel fr1
                ⟨⟨fun d hd => (List.not_mem_nil hd).elim, List.nodup_nil⟩, Nat.le_refl _⟩ ir
              refine wpIn_mono w1 ?_
              rintro x a' w' ⟨rfl, μ1, mk1, ht1, hp1⟩
              have hl1 : μ1 l = some (r, s) := hp1.le fr1 _ _ hl
              obtain ⟨lp1, g0, g1, g2, g3, g4, g5, g6⟩ := hp1.rel.obj l r s _ hl1 hg1
              refine ⟨_, run_beginRound g0 g1, ?_⟩
              have post2 := post_loop (lp' := { lp1 with state := .busy }) (k' := 1) (p' := p1) hp1.wf hp1.rel hg1 hl1 g0 rfl g2 ⟨rfl, rfl, rfl, rfl⟩
              have post12 := hp1.trans post2
              have ht2 := All2.mono (fun _ _ => VRel.mono (fun _ _ h => h) post2.shapes) ht1
              have ir2 : InRound μ1 (s1.2.set l (.loop 1 p1 t1 ps1 a1 b1)) (some r) := (ir.next hp1 fr1).next post2 (fun b h1 h2 => by simp at h2; omega)
              have w2 := execA_wp hc hn hm n _ _ _ _ h3 (some r) w.heap.size μ1 a' _ ht2 post2.wf post2.rel (fun b q1 q2 => free_next fr' hp1 b q1 q2) ⟨mk1.next post2, post12.wsize⟩ ir2
              refine wpIn_mono w2 ?_
              rintro x a'' w'' ⟨rfl, μ3, mk3, ht3, hp3⟩
              have hl3 : μ3 l = some (r, s) := hp3.le (fun b q1 q2 => free_next fr' hp1 b q1 q2) _ _ hl1
              obtain ⟨lp3, q0, q1, q2, q3, q4, q5, q6⟩ := hp3.rel.obj l r s _ hl3 hg3
              have last : ∀ (jump : Option Code), jump = jumpOf e → ∃ v w4, (Instr.endRound r jump).run P w'' = .ok v w4 ∧ CallPost μ H w (s3.2.set l (.loop (if e = .normal then 0 else 2) e t4 ps4 a4 b4)) (.one (.bool (decide (e = .normal)))) (.returned v) w4 := by
                intro jump hj
                subst hj
                refine ⟨_, _, run_endRound _ q0, _, μ3, rfl, ?_, (post12.trans hp3).trans (post_loop hp3.wf hp3.rel hg3 hl3 q0 ?_ rfl ⟨rfl, rfl, rfl, rfl⟩)⟩
                · cases e <;> rfl
                · cases e <;> rfl
              cases e with
              | normal => exact last _ rfl
              | exit id => exact last _ rfl
              | ret => exact last _ rfl
            · cases h
          · cases h
        · cases h
      · cases h
    · cases h
  · cases h
theorem callA_sound [BaseC P] (hB : CallSound P (BaseC.call P)) (hn : NamesOk P) (hm : P.follows .mixedOrders = true) : ∀ n, CallSound P (callA P n)
  | 0 => by intro f args H v H' h; cases h
  | n + 1 => by
    intro f args H v H' h
    have ih := callA_sound hB hn hm n
    simp only [callA] at h
    split at h
    · exact hB f args H v H' h
    split at h
    · rename_i fn hf
      split at h
      · rename_i c hb
        have key : ∀ (e : Ex) (s : St), (e = .normal ∨ e = .ret) → execA P (callA P n) n c (args ++ List.replicate (fn.ntmps - args.length) (.tup []), H) = some (e, s) →
            (match resultsA P s.1 s.2 fn.results.toList with | some [p] => some (unpart p, s.2) | some ps => some (.tup ps, s.2) | none => none) = some (v, H') →
            H.size ≤ H'.size ∧ (∃ fn, P.funcs[f]? = some fn ∧ fn.body.isSome) ∧ ∀ μ w (rargs : Array Value), All2 (VRel μ w) args rargs.toList → WF H → Rel μ H.get w → Free μ H.size H'.size →
              Calls P f rargs w (CallPost μ H w H' v) := by
          intro e s he hex hres
          have hH : s.2 = H' := by
            split at hres <;> simp only [Option.some.injEq, Prod.mk.injEq, reduceCtorEq] at hres <;> exact hres.2
          refine ⟨by have := execA_size ih n _ _ _ _ hex; rw [← hH]; exact this, ⟨fn, hf, by rw [hb]; rfl⟩, ?_⟩
          intro μ w rargs hargs wf rel fr
          refine (callsIn_wide (n := 0)).1 (callsIn_of_wp_marks (F := Fence.wide) (n := 0) hf hb trivial ?_)
          have hlen := hargs.length
          simp only [Array.length_toList] at hlen
          have hT : TRel μ w (args ++ List.replicate (fn.ntmps - args.length) (.tup [])) (rargs ++ Array.replicate (fn.ntmps - rargs.size) undef) := by
            simp only [TRel, Array.toList_append, Array.toList_replicate]
            rw [hlen]
            exact hargs.append (All2.replicate (VRel_undef μ w) _)
          refine wpIn_mono (F := Fence.wide) (execA_wp ih hn hm n _ _ _ _ hex none w.heap.size μ { tmps := rargs ++ Array.replicate (fn.ntmps - rargs.size) undef, defers := [] } w hT wf rel (by rw [hH]; exact fr) ⟨⟨fun d hd => (List.not_mem_nil hd).elim, List.nodup_nil⟩, Nat.le_refl _⟩ (fun r hr => by cases hr)) ?_
          rintro x a' w1 ⟨rfl, μ', mk, ht1, hp1⟩
          suffices hfin : ∀ w', Post μ H w μ' s.2 w' → TRel μ' w' s.1 a'.tmps → ∃ v0, (results fn a'.tmps).run P w' = .ok v0 w' ∧ CallPost μ H w H' v (.returned v0) w' by
            have := leaves hfin a'.defers w1 mk hp1 ht1
            rcases he with rfl | rfl
            · exact this
            · exact this
          intro w' hp ht
          have hres' : ∃ vs : List Value, ∃ ps, resultsA P s.1 s.2 fn.results.toList = some ps ∧ (fn.results.toList.mapM (readRes a'.tmps) : Sem (List Value)).run P w' = .ok vs w' ∧ All2 (PRel μ' w') ps vs := by
            cases hr : resultsA P s.1 s.2 fn.results.toList with
            | none => rw [hr] at hres; cases hres
            | some ps =>
              obtain ⟨vs, h1, h2⟩ := resultsA_run hp.rel ht hr
              exact ⟨vs, ps, rfl, h1, h2⟩
          obtain ⟨vs, ps, hr, hrun, hrel⟩ := hres'
          rw [hr] at hres
          have hrun2 : (results fn a'.tmps).run P w' = .ok (if h : vs.length = 1 then vs[0] else .tuple vs.toArray) w' := by
            have e : (results fn a'.tmps) = (do let vs ← fn.results.mapM (readRes a'.tmps); pure (if h : vs.size = 1 then vs[0] else .tuple vs) : Sem Value) := rfl
            rw [e, Array.mapM_eq_mapM_toList]
            simp only [Sem.run_bind, Sem.run_map, hrun, Result.andThen_ok, Sem.run_pure, List.size_toArray, List.getElem_toArray]
          have fin : ∃ v' μ'', VRel μ'' w' v v' ∧ Post μ H w μ'' H' w' ∧ v' = (if h : vs.length = 1 then vs[0] else .tuple vs.toArray) := by
            rw [← hH]
            cases ps with
            | nil =>
              simp only [Option.some.injEq, Prod.mk.injEq] at hres
              obtain ⟨rfl, _⟩ := hres
              obtain rfl := All2_nil hrel
              exact ⟨_, μ', ⟨#[], rfl, trivial⟩, hp, rfl⟩
            | cons p ps =>
              cases ps with
              | nil =>
                simp only [Option.some.injEq, Prod.mk.injEq] at hres
                obtain ⟨rfl, _⟩ := hres
                obtain ⟨u, rfl, hu⟩ := all2_one hrel
                exact ⟨u, μ', unpart_rel hu, hp, rfl⟩
              | cons q qs =>
                simp only [Option.some.injEq, Prod.mk.injEq] at hres
                obtain ⟨rfl, _⟩ := hres
                have hl := hrel.length
                refine ⟨.tuple vs.toArray, μ', ⟨vs.toArray, rfl, hrel⟩, hp, ?_⟩
                rw [dif_neg]
                simp only [List.length_cons] at hl
                omega
          obtain ⟨v', μ'', hv, hp', hv'⟩ := fin
          exact ⟨_, hrun2, v', μ'', by rw [hv'], hv, hp'⟩
        split at h
        · rename_i s hex
          have := key .normal s (.inl rfl) hex h
          exact ⟨this.1, .inl this.2⟩
        · rename_i s hex
          have := key .ret s (.inr rfl) hex h
          exact ⟨this.1, .inl this.2⟩
        · cases h
      · cases h
    · split at h
      · rename_i hge
        refine ⟨roundA_size ih h, .inr ⟨hge, fun μ w rargs r s hl hargs wf rel fr => round_sound ih hn hm h hl hargs wf rel fr⟩⟩
      · cases h
end
end Go.AI
end
section
namespace Go.AI
noncomputable def lim {α : Type} (g : Nat → Option α) : Option α :=
  open Classical in if h : ∃ n, (g n).isSome then g h.choose else none
theorem lim_some {α : Type} {g : Nat → Option α} {r : α} (hm : ∀ n m r, n ≤ m → g n = some r → g m = some r) : lim g = some r ↔ ∃ n, g n = some r := by
  constructor
  · intro h
    unfold lim at h
    split at h
    · exact ⟨_, h⟩
    · cases h
  · rintro ⟨n, h⟩
    have hx : ∃ n, (g n).isSome := ⟨n, by rw [h]; rfl⟩
    unfold lim
    rw [dif_pos hx]
    obtain ⟨v, hv⟩ := Option.isSome_iff_exists.1 hx.choose_spec
    have e1 := hm _ (max n hx.choose) _ (Nat.le_max_right _ _) hv
    have e2 := hm _ (max n hx.choose) _ (Nat.le_max_left _ _) h
    rw [hv]; rw [e1] at e2; exact e2
theorem iterA_mono {body body' : St → Option (Ex × St)} (hb : ∀ s r, body s = some r → body' s = some r) :
    ∀ {n m : Nat} {s : St} {r : Ex × St}, n ≤ m → iterA body n s = some r → iterA body' m s = some r
  | 0, _, _, _, _, h => by simp [iterA] at h
  | n + 1, 0, _, _, h, _ => by omega
  | n + 1, m + 1, s, r, hnm, h => by
    rw [iterA] at h ⊢
    cases hx : body s with
    | none => rw [hx] at h; cases h
    | some q =>
      rw [hb _ _ hx]
      rw [hx] at h
      obtain ⟨e, s'⟩ := q
      cases e with
      | normal => exact iterA_mono hb (by omega) h
      | exit i => exact h
      | ret => exact h
variable {P : Program}
abbrev CallLe (c d : CallA) : Prop := ∀ f a H r, c f a H = some r → d f a H = some r
theorem stepA_mono {c d : CallA} (h : CallLe c d) {o : Oper} {t : List AV} {H : AHeap} {r} (hr : stepA P c o t H = some r) : stepA P d o t H = some r := by
  unfold stepA at hr ⊢
  split at hr
  · split at hr
    · next p _ =>
      revert hr
      cases calleeA P _ t with
      | none => intro hr; cases hr
      | some p => exact h _ _ _ _
    · exact hr
  · exact hr
theorem opsA_mono {c d : CallA} (h : CallLe c d) {ops : Array Oper} : ∀ {l : List Oper} {t : List AV} {H : AHeap} {r}, opsA P c ops l t H = some r → opsA P d ops l t H = some r
  | [], _, _, _, hr => hr
  | o :: l, t, H, r, hr => by
    rw [opsA] at hr ⊢
    split at hr
    · next hw =>
      rw [if_pos hw]
      split at hr
      · next hs => rw [stepA_mono h hs]; exact opsA_mono h hr
      · cases hr
    · next hw => rw [if_neg hw]; exact opsA_mono h hr
theorem statesA_mono {c d : CallA} (h : CallLe c d) {ops : Array Oper} : ∀ {l : List Oper} {s : St} {r}, statesA P c ops l s = some r → statesA P d ops l s = some r
  | [], _, _, hr => hr
  | o :: l, s, r, hr => by
    rw [statesA] at hr ⊢
    split at hr
    · next hw =>
      rw [if_pos hw]
      split at hr
      · next hs =>
        rw [stepA_mono h hs]
        cases hx : statesA P c ops l _ with
        | none => rw [hx] at hr; cases hr
        | some q => rw [hx] at hr; simp only; rw [statesA_mono h hx]; exact hr
      · cases hr
    · next hw =>
      rw [if_neg hw]
      cases hx : statesA P c ops l _ with
      | none => rw [hx] at hr; cases hr
      | some q => rw [hx] at hr; rw [statesA_mono h hx]; exact hr
theorem regionA_mono {c d : CallA} (h : CallLe c d) {ops : Array Oper} {draw : Bool} {s : St} {r} (hr : regionA P c ops draw s = some r) : regionA P d ops draw s = some r := by
  unfold regionA at hr ⊢
  split
  · next hd => rw [if_pos hd] at hr; exact opsA_mono h hr
  · next hd =>
    rw [if_neg hd] at hr
    split
    · next hk =>
      rw [if_pos hk] at hr
      split at hr
      · exact opsA_mono h hr
      · split at hr
        · next hs => rw [statesA_mono h hs]; exact hr
        · cases hr
    · next hk => rw [if_neg hk] at hr; cases hr
theorem execA_mono {c d : CallA} (h : CallLe c d) : ∀ {code : Code} {n m : Nat} {s : St} {r}, n ≤ m → execA P c n code s = some r → execA P d m code s = some r
  | .skip, _, _, _, _, _, hr => by simpa [execA] using hr
  | .label _, _, _, _, _, _, hr => by simpa [execA] using hr
  | .region _ ops draw, n, m, s, r, hnm, hr => by
    simp only [execA] at hr ⊢
    cases hx : regionA P c ops draw s with
    | none => rw [hx] at hr; cases hr
    | some q => rw [hx] at hr; rw [regionA_mono h hx]; exact hr
  | .seq a b, n, m, s, r, hnm, hr => by
    simp only [execA] at hr ⊢
    cases hx : execA P c n a s with
    | none => rw [hx] at hr; cases hr
    | some q =>
      rw [hx] at hr; rw [execA_mono h hnm hx]
      obtain ⟨e, s'⟩ := q
      cases e with
      | normal => exact execA_mono h hnm hr
      | exit i => exact hr
      | ret => exact hr
  | .cond x a b, n, m, s, r, hnm, hr => by
    simp only [execA] at hr ⊢
    split at hr
    · exact execA_mono h hnm hr
    · exact execA_mono h hnm hr
    · cases hr
  | .block id b, n, m, s, r, hnm, hr => by
    simp only [execA] at hr ⊢
    cases hx : execA P c n b s with
    | none => rw [hx] at hr; cases hr
    | some q => rw [hx] at hr; rw [execA_mono h hnm hx]; exact hr
  | .loop b, n, m, s, r, hnm, hr => by
    simp only [execA] at hr ⊢
    exact iterA_mono (fun s r hs => execA_mono h hnm hs) hnm hr
  | .exit id, _, _, _, _, _, hr => by simpa [execA] using hr
  | .scope b, n, m, s, r, hnm, hr => by
    simp only [execA] at hr ⊢
    exact execA_mono h hnm hr
  | .ret, _, _, _, _, _, hr => by simpa [execA] using hr
  | .goto .., _, _, _, _, _, hr => by simp [execA] at hr
  | .rangeFunc f ps x y, n, m, s, r, hnm, hr => by
    simp only [execA] at hr ⊢
    split at hr
    · split at hr
      · cases hr
      · next hg =>
        rw [if_neg hg]
        split at hr
        · next hcall => rw [h _ _ _ _ hcall]; exact hr
        · cases hr
    · cases hr
  | .refuse .., _, _, _, _, _, hr => by simp [execA] at hr
theorem roundA_mono {c d : CallA} (h : CallLe c d) {n m l : Nat} {args : List AV} {H : AHeap} {r} (hnm : n ≤ m) (hr : roundA P c n l args H = some r) : roundA P d m l args H = some r := by
  unfold roundA at hr ⊢
  split at hr
  · split at hr
    · next hl =>
      rw [if_pos hl]
      split at hr
      · next h1 =>
        rw [execA_mono h hnm h1]
        simp only
        split at hr
        · next hg =>
          split at hr
          · next h3 =>
            rw [execA_mono h hnm h3]
            exact hr
          · cases hr
        · cases hr
      · cases hr
    · cases hr
  · cases hr
theorem callA_mono [BaseC P] : ∀ {n m : Nat}, n ≤ m → CallLe (callA P n) (callA P m)
  | 0, _, _, _, _, _, _, h => by simp [callA] at h
  | n + 1, 0, h, _, _, _, _, _ => by omega
  | n + 1, m + 1, hnm, f, a, H, r, h => by
    unfold callA at h ⊢
    split
    · next hb => rw [if_pos hb] at h; exact h
    next hb =>
    rw [if_neg hb] at h
    split at h
    · split at h
      · next c _ =>
        revert h
        cases hx : execA P (callA P n) n c _ with
        | none => intro h; cases h
        | some q => rw [execA_mono (callA_mono (by omega)) (by omega) hx]; exact id
      · cases h
    · split at h
      · next hg => rw [if_pos hg]; exact roundA_mono (callA_mono (by omega)) (by omega) h
      · cases h
noncomputable def iterE (body : St → Option (Ex × St)) (s : St) : Option (Ex × St) := lim (fun n => iterA body n s)
theorem iterE_some {body : St → Option (Ex × St)} {s : St} {r} : iterE body s = some r ↔ ∃ n, iterA body n s = some r :=
  lim_some fun _ _ _ h hr => iterA_mono (fun _ _ h => h) h hr
theorem lim_none {α : Type} {g : Nat → Option α} (h : ∀ n, g n = none) : lim g = none := by
  unfold lim
  split
  · exact h _
  · rfl
theorem iterE_eq (body : St → Option (Ex × St)) (s : St) : iterE body s = match body s with
    | some (.normal, s') => iterE body s'
    | r => r := by
  cases hx : body s with
  | none =>
    simp only
    refine lim_none fun n => ?_
    cases n with
    | zero => rfl
    | succ n => rw [iterA, hx]
  | some q =>
    obtain ⟨e, s'⟩ := q
    cases e with
    | normal =>
      simp only
      cases hy : iterE body s' with
      | some r =>
        obtain ⟨n, hn⟩ := iterE_some.1 hy
        exact iterE_some.2 ⟨n + 1, by rw [iterA, hx]; exact hn⟩
      | none =>
        cases hz : iterE body s with
        | none => rfl
        | some r =>
          obtain ⟨n, hn⟩ := iterE_some.1 hz
          cases n with
          | zero => simp [iterA] at hn
          | succ n =>
            rw [iterA, hx] at hn
            rw [iterE_some.2 ⟨n, hn⟩] at hy; cases hy
    | exit i => exact iterE_some.2 ⟨1, by rw [iterA, hx]⟩
    | ret => exact iterE_some.2 ⟨1, by rw [iterA, hx]⟩
noncomputable def callE (P : Program) [BaseC P] : CallA := fun f args H => lim (fun n => callA P n f args H)
theorem callE_some [BaseC P] {f : FuncId} {args : List AV} {H : AHeap} {r} : callE P f args H = some r ↔ ∃ n, callA P n f args H = some r :=
  lim_some fun _ _ _ h hr => callA_mono h _ _ _ _ hr
structure SOp where
  dst : Option Tmp
  op : Op
  guard : Option (Option Tmp × Bool)
inductive SC where
  | skip
  | region (ops : List SOp)
  | held (ops : List SOp) (pairs : List (Nat × Nat))
  | seq (a b : SC)
  | cond (c : Operand) (thn els : SC)
  | block (id : Nat) (body : SC)
  | loop (body : SC)
  | exit (id : Nat)
  | ret
  | rangeF (f : Operand) (ps : Array Tmp) (a b : Code)
  | bad
def slimOp (ops : Array Oper) (o : Oper) : SOp := ⟨o.dst, o.op, o.guard.map fun g => ((ops[g.1]?).bind (·.dst), g.2)⟩
def slim (tbl : List (Nat × List (Nat × Nat))) : Code → SC
  | .skip => .skip
  | .label _ => .skip
  | .region id ops draw =>
    if draw then match tbl.find? (fun e => e.1 == id) with
      | some (_, []) => .region (ops.toList.map (slimOp ops))
      | some (_, p :: ps) => .held (ops.toList.map (slimOp ops)) (p :: ps)
      | none => .bad
    else .region (ops.toList.map (slimOp ops))
  | .seq a b => .seq (slim tbl a) (slim tbl b)
  | .cond c a b => .cond c (slim tbl a) (slim tbl b)
  | .block id b => .block id (slim tbl b)
  | .loop b => .loop (slim tbl b)
  | .exit id => .exit id
  | .scope b => slim tbl b
  | .ret => .ret
  | .rangeFunc f ps a b => .rangeF f ps a b
  | _ => .bad
def slimOk (tbl : List (Nat × List (Nat × Nat))) : Code → Bool
  | .region id ops draw =>
    if draw then match tbl.find? (fun e => e.1 == id) with
      | some (_, ps) => drawOk ops && decide (pairsOf ops = ps)
      | none => false
    else true
  | .seq a b => slimOk tbl a && slimOk tbl b
  | .cond _ a b => slimOk tbl a && slimOk tbl b
  | .block _ b => slimOk tbl b
  | .loop b => slimOk tbl b
  | .scope b => slimOk tbl b
  | .skip | .label _ | .exit _ | .ret => true
  | .rangeFunc .. => true
  | _ => false
def plainOper (op : Op) : Oper := ⟨none, op, 0, "", #[], none⟩
def stepS (P : Program) (call : CallA) (op : Op) (t : List AV) (H : AHeap) : Option (AV × AHeap) := stepA P call (plainOper op) t H
def wantedS (t : List AV) : Option (Option Tmp × Bool) → Bool
  | none => true
  | some (d, want) => match d.bind (t[·]?) with
    | some (.one (.bool b)) => b == want
    | _ => false
theorem wantedA_slim (ops : Array Oper) (t : List AV) (o : Oper) : wantedA ops t o = wantedS t (slimOp ops o).guard := by
  unfold wantedA slimOp wantedS
  cases o.guard with
  | none => rfl
  | some g => rfl
def opsS (P : Program) (call : CallA) : List SOp → List AV → AHeap → Option (List AV × AHeap)
  | [], t, H => some (t, H)
  | o :: rest, t, H =>
    if wantedS t o.guard then
      match stepS P call o.op t H with
      | some (v, H') => opsS P call rest (putA t o.dst v) H'
      | none => none
    else opsS P call rest (putA t o.dst (.tup [])) H
theorem opsS_slim (call : CallA) (ops : Array Oper) : ∀ (l : List Oper) (t : List AV) (H : AHeap), opsS P call (l.map (slimOp ops)) t H = opsA P call ops l t H
  | [], _, _ => rfl
  | o :: l, t, H => by
    simp only [List.map_cons, opsS, opsA, ← wantedA_slim]
    split
    · rw [show stepS P call (slimOp ops o).op t H = stepA P call o t H from rfl]
      cases stepA P call o t H with
      | none => rfl
      | some r => exact opsS_slim call ops l _ _
    · exact opsS_slim call ops l _ _
def statesS (P : Program) (call : CallA) : List SOp → St → Option (List St)
  | [], s => some [s]
  | o :: rest, s =>
    if wantedS s.1 o.guard then
      match stepS P call o.op s.1 s.2 with
      | some (v, H') => (statesS P call rest (putA s.1 o.dst v, H')).map (s :: ·)
      | none => none
    else (statesS P call rest (putA s.1 o.dst (.tup []), s.2)).map (s :: ·)
theorem statesS_slim (call : CallA) (ops : Array Oper) : ∀ (l : List Oper) (s : St), statesS P call (l.map (slimOp ops)) s = statesA P call ops l s
  | [], _ => rfl
  | o :: l, s => by
    simp only [List.map_cons, statesS, statesA, ← wantedA_slim]
    split
    · rw [show stepS P call (slimOp ops o).op s.1 s.2 = stepA P call o s.1 s.2 from rfl]
      cases stepA P call o s.1 s.2 with
      | none => rfl
      | some r => simp only [statesS_slim call ops l]; rfl
    · simp only [statesS_slim call ops l]; rfl
def pairS (P : Program) (ops : List SOp) (sts : List St) (p : Nat × Nat) : Bool :=
  match ops[p.1]?, sts[p.1]?, sts[p.2]?, sts[p.2 + 1]? with
  | some o, some si, some sj, some sk =>
    !wantedS si.1 o.guard ||
    (let v := (opA P (plainOper o.op) si.1 si.2).map (·.1)
     if p.2 < p.1 then
       (match touchA (plainOper o.op) si.1 with
        | some b => decide (sj.2.size ≤ b) || decide ((opA P (plainOper o.op) si.1 sj.2).map (·.1) = v)
        | none => true)
     else decide ((opA P (plainOper o.op) si.1 sk.2).map (·.1) = v))
  | _, _, _, _ => false
theorem pairS_slim (ops : Array Oper) (sts : List St) (p : Nat × Nat) : pairS P (ops.toList.map (slimOp ops)) sts p = pairOk P ops sts p := by
  unfold pairS pairOk
  rw [List.getElem?_map, Array.getElem?_toList]
  cases hx : ops[p.1]? with
  | none => rfl
  | some o =>
    simp only [Option.map_some]
    split
    · next e1 e2 e3 e4 =>
      injection e1 with e1
      subst e1
      rw [e2, e3, e4]
      simp only [← wantedA_slim]
      rfl
    · next h =>
      split
      · next e1 e2 e3 e4 => exact absurd e4 (h _ _ _ _ (by rfl) e2 e3)
      · rfl
noncomputable def execS (P : Program) (call : CallA) : SC → St → Option (Ex × St)
  | .skip, s => some (.normal, s)
  | .region ops, s => (opsS P call ops s.1 s.2).map fun r => (.normal, r)
  | .held ops ps, s => match statesS P call ops s with
    | some sts => if ps.all (pairS P ops sts) then sts.getLast?.map fun r => (.normal, r) else none
    | none => none
  | .seq a b, s => match execS P call a s with
    | some (.normal, s') => execS P call b s'
    | r => r
  | .cond c a b, s => match evalA s.1 c with
    | some (.one (.bool true)) => execS P call a s
    | some (.one (.bool false)) => execS P call b s
    | _ => none
  | .block id b, s => match execS P call b s with
    | some (.exit id', s') => if id' = id then some (.normal, s') else some (.exit id', s')
    | r => r
  | .loop b, s => iterE (fun s => execS P call b s) s
  | .exit id, s => some (.exit id, s)
  | .ret, s => some (.ret, s)
  | .rangeF f params assign body, s => match evalA s.1 f with
    | some (.one (.fn g first caps)) =>
      if P.funcs.size ≤ g then none else
      match call g (first.map (fun a => .one (.ptr (some a))) ++ [.one (.yield s.2.size)] ++ caps.map (fun a => .one (.ptr (some a)))) (s.2.push (.loop 0 .normal s.1 params assign body)) with
      | some (_, H) => match H.get s.2.size with
        | some (.loop st pend t ps a b) => if st = 1 then none else some (pend, (s.1, H.set s.2.size (.loop 3 pend t ps a b)))
        | _ => none
      | none => none
    | _ => none
  | .bad, _ => none
abbrev Late (q : Nat → Prop) : Prop := ∃ N, ∀ n, N ≤ n → q n
theorem stepA_late [BaseC P] {o : Oper} {t : List AV} {H : AHeap} {r} (h : stepA P (callE P) o t H = some r) : Late fun n => stepA P (callA P n) o t H = some r := by
  unfold stepA at h ⊢
  split at h
  · split at h
    · revert h
      cases hc : calleeA P _ t with
      | none => intro h; cases h
      | some p =>
        intro h
        obtain ⟨n, hn⟩ := callE_some.1 h
        exact ⟨n, fun m hm => callA_mono hm _ _ _ _ hn⟩
    · exact ⟨0, fun _ _ => h⟩
  · exact ⟨0, fun _ _ => h⟩
theorem opsA_late [BaseC P] {ops : Array Oper} : ∀ {l : List Oper} {t : List AV} {H : AHeap} {r}, opsA P (callE P) ops l t H = some r → Late fun n => opsA P (callA P n) ops l t H = some r
  | [], _, _, _, h => ⟨0, fun _ _ => h⟩
  | o :: l, t, H, r, h => by
    simp only [opsA] at h ⊢
    split at h
    · next hw =>
      simp only [if_pos hw]
      split at h
      · next v H' hs =>
        obtain ⟨N, hN⟩ := stepA_late hs
        obtain ⟨M, hM⟩ := opsA_late h
        exact ⟨max N M, fun n hn => by show _ = _; rw [hN n (by omega)]; exact hM n (by omega)⟩
      · cases h
    · next hw => simp only [if_neg hw]; exact opsA_late h
theorem statesA_late [BaseC P] {ops : Array Oper} : ∀ {l : List Oper} {s : St} {r}, statesA P (callE P) ops l s = some r → Late fun n => statesA P (callA P n) ops l s = some r
  | [], _, _, h => ⟨0, fun _ _ => h⟩
  | o :: l, s, r, h => by
    simp only [statesA] at h ⊢
    split at h
    · next hw =>
      simp only [if_pos hw]
      split at h
      · next v H' hs =>
        obtain ⟨N, hN⟩ := stepA_late hs
        cases hx : statesA P (callE P) ops l (putA s.1 o.dst v, H') with
        | none => rw [hx] at h; cases h
        | some q =>
          obtain ⟨M, hM⟩ := statesA_late hx
          rw [hx] at h
          exact ⟨max N M, fun n hn => by show _ = _; rw [hN n (by omega)]; simp only; rw [hM n (by omega)]; exact h⟩
      · cases h
    · next hw =>
      simp only [if_neg hw]
      cases hx : statesA P (callE P) ops l (putA s.1 o.dst (.tup []), s.2) with
      | none => rw [hx] at h; cases h
      | some q =>
        obtain ⟨M, hM⟩ := statesA_late hx
        rw [hx] at h
        exact ⟨M, fun n hn => by show _ = _; rw [hM n hn]; exact h⟩
theorem execS_late [BaseC P] {tbl : List (Nat × List (Nat × Nat))} : ∀ {c : Code} {s : St} {r}, slimOk tbl c = true → execS P (callE P) (slim tbl c) s = some r → Late fun n => execA P (callA P n) n c s = some r
  | .skip, s, r, _, h => ⟨0, fun _ _ => h⟩
  | .label _, s, r, _, h => ⟨0, fun _ _ => h⟩
  | .region id ops draw, s, r, ho, h => by
    simp only [slim] at h
    simp only [execA]
    cases draw with
    | false =>
      simp only [Bool.false_eq_true, if_false, execS] at h
      rw [opsS_slim] at h
      simp only [regionA, if_true]
      cases hx : opsA P (callE P) ops ops.toList s.1 s.2 with
      | none => rw [hx] at h; cases h
      | some q =>
        rw [hx] at h
        obtain ⟨N, hN⟩ := opsA_late hx
        exact ⟨N, fun n hn => by show _ = _; rw [hN n hn]; exact h⟩
    | true =>
      simp only [slimOk, if_true] at ho h
      split at ho
      · next ps hp =>
        simp only [Bool.and_eq_true, decide_eq_true_eq] at ho
        rw [hp] at h
        simp only [regionA, Bool.true_eq_false, if_false, ho.1, if_true, ho.2]
        cases ps with
        | nil =>
          simp only [execS] at h ⊢
          rw [opsS_slim] at h
          cases hx : opsA P (callE P) ops ops.toList s.1 s.2 with
          | none => rw [hx] at h; cases h
          | some q =>
            rw [hx] at h
            obtain ⟨N, hN⟩ := opsA_late hx
            exact ⟨N, fun n hn => by show _ = _; rw [hN n hn]; exact h⟩
        | cons p ps =>
          simp only [execS] at h ⊢
          rw [statesS_slim] at h
          cases hx : statesA P (callE P) ops ops.toList s with
          | none => rw [hx] at h; cases h
          | some sts =>
            rw [hx] at h
            obtain ⟨N, hN⟩ := statesA_late hx
            have e : (pairS P (ops.toList.map (slimOp ops)) sts) = pairOk P ops sts := funext fun p => pairS_slim ops sts p
            simp only [e] at h
            split at h
            · next hk =>
              exact ⟨N, fun n hn => by show _ = _; rw [hN n hn]; simp only [hk, if_true]; exact h⟩
            · cases h
      · cases ho
  | .seq a b, s, r, ho, h => by
    simp only [slimOk, Bool.and_eq_true] at ho
    simp only [slim, execS, execA] at h ⊢
    cases hx : execS P (callE P) (slim tbl a) s with
    | none => rw [hx] at h; cases h
    | some q =>
      obtain ⟨N, hN⟩ := execS_late ho.1 hx
      rw [hx] at h
      obtain ⟨e, s'⟩ := q
      cases e with
      | normal =>
        obtain ⟨M, hM⟩ := execS_late ho.2 h
        exact ⟨max N M, fun n hn => by show _ = _; rw [hN n (by omega)]; exact hM n (by omega)⟩
      | exit i => exact ⟨N, fun n hn => by show _ = _; rw [hN n hn]; exact h⟩
      | ret => exact ⟨N, fun n hn => by show _ = _; rw [hN n hn]; exact h⟩
  | .cond x a b, s, r, ho, h => by
    simp only [slimOk, Bool.and_eq_true] at ho
    simp only [slim, execS, execA] at h ⊢
    split at h
    · next hx => rw [hx]; exact execS_late ho.1 h
    · next hx => rw [hx]; exact execS_late ho.2 h
    · cases h
  | .block id b, s, r, ho, h => by
    simp only [slimOk] at ho
    simp only [slim, execS, execA] at h ⊢
    cases hx : execS P (callE P) (slim tbl b) s with
    | none => rw [hx] at h; cases h
    | some q =>
      obtain ⟨N, hN⟩ := execS_late ho hx
      rw [hx] at h
      exact ⟨N, fun n hn => by show _ = _; rw [hN n hn]; exact h⟩
  | .loop b, s, r, ho, h => by
    simp only [slimOk] at ho
    simp only [slim, execS, execA] at h ⊢
    obtain ⟨k, hk⟩ := iterE_some.1 h
    have key : ∀ k s, iterA (fun s => execS P (callE P) (slim tbl b) s) k s = some r → ∃ N, ∀ n m, N ≤ n → N ≤ m → iterA (fun s => execA P (callA P n) n b s) m s = some r := by
      intro k
      induction k with
      | zero => intro s h; simp [iterA] at h
      | succ k ih =>
        intro s h
        rw [iterA] at h
        cases hx : execS P (callE P) (slim tbl b) s with
        | none => rw [hx] at h; cases h
        | some q =>
          obtain ⟨N, hN⟩ := execS_late ho hx
          rw [hx] at h
          obtain ⟨e, s'⟩ := q
          cases e with
          | normal =>
            obtain ⟨M, hM⟩ := ih s' h
            refine ⟨max N M + 1, fun n m hn hm => ?_⟩
            obtain ⟨m', rfl⟩ : ∃ m', m = m' + 1 := ⟨m - 1, by omega⟩
            rw [iterA, hN n (by omega)]
            exact hM n m' (by omega) (by omega)
          | exit i =>
            refine ⟨N + 1, fun n m hn hm => ?_⟩
            obtain ⟨m', rfl⟩ : ∃ m', m = m' + 1 := ⟨m - 1, by omega⟩
            rw [iterA, hN n (by omega)]; exact h
          | ret =>
            refine ⟨N + 1, fun n m hn hm => ?_⟩
            obtain ⟨m', rfl⟩ : ∃ m', m = m' + 1 := ⟨m - 1, by omega⟩
            rw [iterA, hN n (by omega)]; exact h
    obtain ⟨N, hN⟩ := key k s hk
    exact ⟨N, fun n hn => hN n n hn hn⟩
  | .exit id, s, r, _, h => ⟨0, fun _ _ => h⟩
  | .scope b, s, r, ho, h => by
    simp only [slimOk] at ho
    simp only [slim, execA] at h ⊢
    exact execS_late ho h
  | .ret, s, r, _, h => ⟨0, fun _ _ => h⟩
  | .goto .., _, _, _, h => by simp [slim, execS] at h
  | .rangeFunc f ps a b, s, r, _, h => by
    simp only [slim, execS, execA] at h ⊢
    split at h
    · next g first caps hf =>
      rw [hf]
      simp only
      split at h
      · cases h
      next hg =>
      split at h
      · next v H hc =>
        obtain ⟨N, hN⟩ := callE_some.1 hc
        exact ⟨N, fun n hn => by show _ = _; rw [if_neg hg, callA_mono hn _ _ _ _ hN]; exact h⟩
      · cases h
    · cases h
  | .refuse .., _, _, _, h => by simp [slim, execS] at h
def finS (P : Program) (res : List ResultVar) : Option (Ex × St) → Option (AV × AHeap)
  | some (.normal, s) | some (.ret, s) => match resultsA P s.1 s.2 res with
    | some [p] => some (unpart p, s.2)
    | some ps => some (.tup ps, s.2)
    | none => none
  | _ => none
theorem callE_of [BaseC P] {f : FuncId} {fn : Func} {c : Code} {args : List AV} {H : AHeap} {r} (tbl : List (Nat × List (Nat × Nat)))
    (hx0 : BaseC.has P f = false) (hf : P.funcs[f]? = some fn) (hb : fn.body = some c) (ho : slimOk tbl c = true)
    (h : finS P fn.results.toList (execS P (callE P) (slim tbl c) (args ++ List.replicate (fn.ntmps - args.length) (.tup []), H)) = some r) : callE P f args H = some r := by
  cases hx : execS P (callE P) (slim tbl c) (args ++ List.replicate (fn.ntmps - args.length) (.tup []), H) with
  | none => rw [hx] at h; cases h
  | some q =>
    obtain ⟨N, hN⟩ := execS_late ho hx
    rw [hx] at h
    refine callE_some.2 ⟨N + 1, ?_⟩
    unfold callA
    rw [hx0, if_neg (by simp), hf]; simp only; rw [hb]; simp only; rw [hN N (Nat.le_refl _)]
    obtain ⟨e, s'⟩ := q
    cases e with
    | normal => exact h
    | exit i => cases h
    | ret => exact h
theorem callE_sound [BaseC P] (hB : CallSound P (BaseC.call P)) (hn : NamesOk P) (hm : P.follows .mixedOrders = true) {f : FuncId} {args : List AV} {H H' : AHeap} {v : AV}
    (h : callE P f args H = some (v, H')) : ∃ n, callA P n f args H = some (v, H') ∧ CallSound P (callA P n) := by
  obtain ⟨n, hc⟩ := callE_some.1 h
  exact ⟨n, hc, callA_sound hB hn hm n⟩
end Go.AI
end
section
namespace Go.AI
variable {P : Program} {call : CallA}
noncomputable def thenS (P : Program) (call : CallA) (b : SC) (r : Option (Ex × St)) : Option (Ex × St) :=
  match r with
  | some (.normal, s') => execS P call b s'
  | r => r
noncomputable def blockS (id : Nat) (r : Option (Ex × St)) : Option (Ex × St) :=
  match r with
  | some (.exit id', s') => if id' = id then some (.normal, s') else some (.exit id', s')
  | r => r
noncomputable def condS (P : Program) (call : CallA) (a b : SC) (s : St) (c : Option AV) : Option (Ex × St) :=
  match c with
  | some (.one (.bool true)) => execS P call a s
  | some (.one (.bool false)) => execS P call b s
  | _ => none
def endS (r : Option (List AV × AHeap)) : Option (Ex × St) := r.map fun r => (.normal, r)
def contS (P : Program) (call : CallA) (dst : Option Tmp) (rest : List SOp) (t : List AV) (r : Option (AV × AHeap)) : Option (List AV × AHeap) :=
  match r with
  | some (v, H') => opsS P call rest (putA t dst v) H'
  | none => none
def guardS (P : Program) (call : CallA) (o : SOp) (rest : List SOp) (t : List AV) (H : AHeap) (w : Bool) : Option (List AV × AHeap) :=
  if w then contS P call o.dst rest t (stepS P call o.op t H) else opsS P call rest (putA t o.dst (.tup [])) H
noncomputable def loopS (P : Program) (call : CallA) (b : SC) (s : St) : Option (Ex × St) := iterE (fun s => execS P call b s) s
theorem execS_skip {s : St} : execS P call .skip s = some (.normal, s) := rfl
theorem execS_exit {s : St} {id : Nat} : execS P call (.exit id) s = some (.exit id, s) := rfl
theorem execS_ret {s : St} : execS P call .ret s = some (.ret, s) := rfl
theorem execS_seq {a b : SC} {s : St} : execS P call (.seq a b) s = thenS P call b (execS P call a s) := by
  rw [execS]; unfold thenS; rfl
theorem execS_cond {x : Operand} {a b : SC} {t : List AV} {H : AHeap} : execS P call (.cond x a b) (t, H) = condS P call a b (t, H) (evalA t x) := by
  rw [execS]; unfold condS; rfl
theorem execS_block {id : Nat} {b : SC} {s : St} : execS P call (.block id b) s = blockS id (execS P call b s) := by
  rw [execS]; unfold blockS; rfl
theorem execS_loop {b : SC} {s : St} : execS P call (.loop b) s = loopS P call b s := rfl
theorem execS_region {ops : List SOp} {t : List AV} {H : AHeap} : execS P call (.region ops) (t, H) = endS (opsS P call ops t H) := rfl
theorem thenS_normal {b : SC} {s : St} : thenS P call b (some (.normal, s)) = execS P call b s := rfl
theorem thenS_ret {b : SC} {s : St} : thenS P call b (some (.ret, s)) = some (.ret, s) := rfl
theorem thenS_exit {b : SC} {s : St} {id : Nat} : thenS P call b (some (.exit id, s)) = some (.exit id, s) := rfl
theorem blockS_normal {s : St} {id : Nat} : blockS id (some (.normal, s)) = some (.normal, s) := rfl
theorem blockS_ret {s : St} {id : Nat} : blockS id (some (.ret, s)) = some (.ret, s) := rfl
theorem blockS_exit {s : St} {id id' : Nat} : blockS id (some (.exit id', s)) = if id' = id then some (.normal, s) else some (.exit id', s) := rfl
theorem condS_true {a b : SC} {s : St} : condS P call a b s (some (.one (.bool true))) = execS P call a s := rfl
theorem condS_false {a b : SC} {s : St} : condS P call a b s (some (.one (.bool false))) = execS P call b s := rfl
theorem endS_some {s : List AV × AHeap} : endS (some s) = some (.normal, s) := rfl
theorem opsS_nil {t : List AV} {H : AHeap} : opsS P call [] t H = some (t, H) := rfl
theorem opsS_cons {dst : Option Tmp} {op : Op} {rest : List SOp} {t : List AV} {H : AHeap} : opsS P call (⟨dst, op, none⟩ :: rest) t H = contS P call dst rest t (stepS P call op t H) := rfl
theorem opsS_guard {dst : Option Tmp} {op : Op} {g : Option Tmp × Bool} {rest : List SOp} {t : List AV} {H : AHeap} :
    opsS P call (⟨dst, op, some g⟩ :: rest) t H = guardS P call ⟨dst, op, some g⟩ rest t H (wantedS t (some g)) := by
  unfold opsS guardS contS
  rfl
theorem guardS_true {o : SOp} {rest : List SOp} {t : List AV} {H : AHeap} : guardS P call o rest t H true = contS P call o.dst rest t (stepS P call o.op t H) := rfl
theorem guardS_false {o : SOp} {rest : List SOp} {t : List AV} {H : AHeap} : guardS P call o rest t H false = opsS P call rest (putA t o.dst (.tup [])) H := rfl
theorem contS_some {dst : Option Tmp} {rest : List SOp} {t : List AV} {v : AV} {H' : AHeap} : contS P call dst rest t (some (v, H')) = opsS P call rest (putA t dst v) H' := rfl
end Go.AI
end
section
namespace Go.AI
variable {P : Program} {D : Type}
def offsOk (P : Program) : List Field → Nat → Nat → Bool
  | [], off, n => off == n
  | f :: fs, off, n => f.offset == off && offsOk P fs (off + P.cellsOf f.type) n
def simpleT (P : Program) (ok : List TypeId) (t : TypeId) : Bool :=
  match P.underlying t with
  | some .bool | some (.int _) | some .string => true
  | some (.slice e) => ok.contains e && P.cellsOf e != 0
  | some (.struct fs) => fs.toList.all (fun f => ok.contains f.type) && offsOk P fs.toList 0 (P.cellsOf t)
  | some (.array m e) => ok.contains e && P.cellsOf t == m * P.cellsOf e
  | _ => false
def goodL (good : TypeId → List AC → DataW D → Prop) (e : TypeId) (sz : Nat) : List AC → List (DataW D) → Prop
  | cs, [] => cs = []
  | cs, d :: ds => good e (cs.take sz) d ∧ goodL good e sz (cs.drop sz) ds
def goodF (P : Program) (good : TypeId → List AC → DataW D → Prop) : List Field → List AC → List (DataW D) → Prop
  | [], cs, [] => cs = []
  | f :: fs, cs, d :: ds => good f.type (cs.take (P.cellsOf f.type)) d ∧ goodF P good fs (cs.drop (P.cellsOf f.type)) ds
  | _, _, _ => False
def goodStep (P : Program) (H : AHeap) (good : TypeId → List AC → DataW D → Prop) (t : TypeId) (cs : List AC) (d : DataW D) : Prop :=
  match P.underlying t with
  | some .bool => ∃ b, cs = [.bool b] ∧ d = .lit (.bool b)
  | some (.int k) => ∃ n, cs = [.int k n] ∧ d = .lit (.int k n) ∧ (Lit.int k n).wf = true
  | some .string => ∃ s : ByteArray, cs = [.str s] ∧ d = .lit (.string s.data.toList) ∧ s.size ≤ maxLen
  | some (.slice e) => (cs = [.sl none 0 0 (some 0)] ∧ d = .nil) ∨
      ∃ b ds rest cells, cs = [.sl (some (b, 0)) (P.cellsOf e) ds.length none] ∧ d = .slice ds rest ∧ H.get b = some (.row e b 0 true (cells.map some)) ∧
        goodL good e (P.cellsOf e) cells ds ∧ ds.length ≤ maxLen ∧ cells.length = ds.length * P.cellsOf e
  | some (.struct fs) => ∃ ds, d = .agg ds ∧ goodF P good fs.toList cs ds
  | some (.array m e) => ∃ ds, d = .agg ds ∧ ds.length = m ∧ goodL good e (P.cellsOf e) cs ds
  | _ => False
def Good (P : Program) (H : AHeap) : Nat → TypeId → List AC → DataW D → Prop
  | 0 => fun _ _ _ => False
  | n + 1 => goodStep P H (Good P H n)
theorem goodL.mono {good good' : TypeId → List AC → DataW D → Prop} (h : ∀ t cs d, good t cs d → good' t cs d) {e : TypeId} {sz : Nat} : ∀ {ds : List (DataW D)} {cs : List AC}, goodL good e sz cs ds → goodL good' e sz cs ds
  | [], _, k => k
  | _ :: _, _, k => ⟨h _ _ _ k.1, goodL.mono h k.2⟩
theorem goodF.mono {good good' : TypeId → List AC → DataW D → Prop} (h : ∀ t cs d, good t cs d → good' t cs d) : ∀ {fs : List Field} {ds : List (DataW D)} {cs : List AC}, goodF P good fs cs ds → goodF P good' fs cs ds
  | [], [], _, k => k
  | _ :: _, _ :: _, _, k => ⟨h _ _ _ k.1, goodF.mono h k.2⟩
  | [], _ :: _, _, k => k.elim
  | _ :: _, [], _, k => k.elim
theorem Good.mono {H H' : AHeap} (hg : ∀ b o, H.get b = some o → H'.get b = some o) : ∀ {n : Nat} {t : TypeId} {cs : List AC} {d : DataW D}, Good P H n t cs d → Good P H' n t cs d
  | 0, _, _, _, h => h
  | n + 1, t, cs, d, h => by
    simp only [Good, goodStep] at h ⊢
    split
    all_goals rename_i hu
    all_goals simp only [hu] at h
    · exact h
    · exact h
    · exact h
    · rcases h with h | ⟨b, ds, rest, cells, h1, h2, h3, h4, h5⟩
      · exact .inl h
      · exact .inr ⟨b, ds, rest, cells, h1, h2, hg _ _ h3, goodL.mono (fun t cs d => Good.mono hg) h4, h5⟩
    · obtain ⟨ds, h1, h2⟩ := h
      exact ⟨ds, h1, goodF.mono (fun t cs d => Good.mono hg) h2⟩
    · obtain ⟨ds, h1, h2, h3⟩ := h
      exact ⟨ds, h1, h2, goodL.mono (fun t cs d => Good.mono hg) h3⟩
structure Laid (W : World) (H : AHeap) (μ : Mu) : Prop where
  wf : WF H
  ro : ∀ b o, H.get b = some o → ∃ e cells, o = .row e b 0 true cells
  rel : Rel μ H.get W
  out : ∀ b, H.size ≤ b → μ b = none
structure LaidLe (H : AHeap) (μ : Mu) (H' : AHeap) (μ' : Mu) : Prop where
  size : H.size ≤ H'.size
  get : ∀ b o, H.get b = some o → H'.get b = some o
  mu : μ.le μ'
theorem LaidLe.refl (H : AHeap) (μ : Mu) : LaidLe H μ H μ := ⟨Nat.le_refl _, fun _ _ h => h, fun _ _ h => h⟩
theorem LaidLe.trans {H H1 H2 : AHeap} {μ μ1 μ2 : Mu} (h : LaidLe H μ H1 μ1) (k : LaidLe H1 μ1 H2 μ2) : LaidLe H μ H2 μ2 :=
  ⟨Nat.le_trans h.size k.size, fun b o x => k.get b o (h.get b o x), fun b x y => k.mu b x (h.mu b x y)⟩
theorem Laid.empty (W : World) : Laid W .empty (fun _ => none) :=
  ⟨WF.empty, fun b o h => by simp [AHeap.empty, AHeap.get] at h, ⟨fun _ _ _ h => by simp at h, fun _ _ _ _ h => by simp at h, fun _ _ _ _ _ _ _ _ h => by simp at h, fun b1 _ _ _ _ h => by simp [AHeap.empty, AHeap.get] at h⟩, fun _ _ => rfl⟩
def pushRo (H : AHeap) (e : TypeId) (cells : List AC) : AHeap := (H.push (.row e H.size 0 true (cells.map some))).setExt H.size (cells.length, false)
theorem get_pushRo (H : AHeap) (e : TypeId) (cells : List AC) (b : Nat) : (pushRo H e cells).get b = if b = H.size then some (.row e H.size 0 true (cells.map some)) else H.get b := by
  unfold pushRo
  rw [AHeap.get_setExt, AHeap.get_push]
theorem ext_pushRo (H : AHeap) (e : TypeId) (cells : List AC) (g : Nat) : (pushRo H e cells).ext g = if g = H.size then (cells.length, false) else H.ext g := by
  unfold pushRo AHeap.ext AHeap.setExt
  simp only [Trie.get_set]
  split <;> rfl
theorem Laid.push {W : World} {H : AHeap} {μ : Mu} (l : Laid W H μ) {e : TypeId} {cells : List AC} {r s : Nat} {c : Array Value} {e' : TypeId} {fz : Nat × Nat}
    (hr : W.heap[r]? = some (.cells c e' fz)) (hs : s + cells.length ≤ c.size) (hc : ∀ i x, cells[i]? = some x → ∃ v, c[s + i]? = some v ∧ CRel μ W x v) :
    Laid W (pushRo H e cells) (fun b => if b = H.size then some (r, s) else μ b) ∧ LaidLe H μ (pushRo H e cells) (fun b => if b = H.size then some (r, s) else μ b) := by
  have hle : Mu.le μ (fun b => if b = H.size then some (r, s) else μ b) := by
    intro b x hb
    by_cases h : b = H.size
    · subst h; rw [l.out _ (Nat.le_refl _)] at hb; cases hb
    · simp only [if_neg h]; exact hb
  have hle2 : LaidLe H μ (pushRo H e cells) (fun b => if b = H.size then some (r, s) else μ b) := by
    refine ⟨by show H.size ≤ H.size + 1; omega, fun b o h => ?_, hle⟩
    have := AHeap.get_lt h
    rw [get_pushRo, if_neg (by omega)]; exact h
  have hro : ∀ b o, (pushRo H e cells).get b = some o → ∃ e cells, o = .row e b 0 true cells := by
    intro b o h
    rw [get_pushRo] at h
    split at h
    · next hb => subst hb; cases h; exact ⟨_, _, rfl⟩
    · exact l.ro b o h
  refine ⟨⟨?_, hro, ⟨?_, ?_, ?_, ?_⟩, ?_⟩, hle2⟩
  · constructor
    · intro b e1 g st ro cs h
      obtain ⟨_, _, he⟩ := hro _ _ h
      cases he
      exact AHeap.get_lt h
    · intro b e1 g st ro cs h
      obtain ⟨_, _, he⟩ := hro _ _ h
      cases he
      rw [get_pushRo] at h
      rw [ext_pushRo]
      split at h
      · next hb => simp only [Option.some.injEq, AObj.row.injEq] at h; rw [if_pos hb, ← h.2.2.2.2]; simp
      · next hb => rw [if_neg hb]; exact l.wf.reach _ _ _ _ _ _ h
    · intro b1 b2 e1 g st1 ro1 cs1 e2 st2 ro2 cs2 hne h1 h2
      obtain ⟨_, _, he⟩ := hro _ _ h1
      obtain ⟨_, _, he'⟩ := hro _ _ h2
      cases he; cases he'
      exact absurd rfl hne
  · intro b r' s' hb
    split at hb
    · cases hb
      exact (Array.getElem?_eq_some_iff.1 hr).1
    · exact l.rel.dom b r' s' hb
  · intro b r' s' o hb ho
    by_cases h : b = H.size
    · rw [if_pos h] at hb
      cases hb
      rw [get_pushRo, if_pos h] at ho
      cases ho
      refine ⟨c, e', fz, hr, by simpa using hs, by simp, ?_⟩
      intro i x hx
      rw [List.getElem?_map] at hx
      cases hi : cells[i]? with
      | none => rw [hi] at hx; cases hx
      | some y =>
        rw [hi] at hx
        cases hx
        obtain ⟨v, h1, h2⟩ := hc i _ hi
        exact ⟨v, h1, h2.mono hle (Shapes.refl W)⟩
    · rw [if_neg h] at hb
      rw [get_pushRo, if_neg h] at ho
      exact (l.rel.obj b r' s' o hb ho).mono hle (Shapes.refl W)
  · intro b1 b2 r' s1 s2 o1 o2 hne hb1 hb2 ho1 ho2
    obtain ⟨_, _, rfl⟩ := hro _ _ ho1
    obtain ⟨_, _, rfl⟩ := hro _ _ ho2
    exact .inl ⟨rfl, rfl⟩
  · intro b1 b2 o1 o2 k ho1 ho2 hk1 hk2 hm
    obtain ⟨_, _, rfl⟩ := hro _ _ ho1
    obtain ⟨_, _, rfl⟩ := hro _ _ ho2
    simp only [grpOf, Option.some.injEq] at hk1 hk2
    subst hk1; subst hk2
    exact hm
  · intro b hb
    have hb' : H.size + 1 ≤ b := hb
    rw [if_neg (by omega)]
    exact l.out b (by omega)
variable {W : World} {enc : TypeId × Value → D}
abbrev SlicesShape (W : World) (cs : List Value) : Prop := ∀ a len cap, Value.slice (some a) len cap ∈ cs → ∃ x, W.shape? a.block = some x
theorem lay_seq {n : Nat} {ok : List TypeId}
    (ih : ∀ (t : TypeId) (cs : List Value) (x : DataW D × List MemPlace), t ∈ ok → DataW.trod enc P W 0 (fun _ => true) true n t cs = some x → (∃ r y, W.shape? r = some y) ∨ SlicesShape W cs →
      ∀ (H : AHeap) (μ : Mu), Laid W H μ → ∃ H' μ' acs, Laid W H' μ' ∧ LaidLe H μ H' μ' ∧ All2 (CRel μ' W) acs cs ∧ Good P H' n t acs x.1) :
    ∀ (l : List (TypeId × List Value × (DataW D × List MemPlace))), (∀ it ∈ l, it.1 ∈ ok ∧ DataW.trod enc P W 0 (fun _ => true) true n it.1 it.2.1 = some it.2.2 ∧ ((∃ r y, W.shape? r = some y) ∨ SlicesShape W it.2.1)) →
      ∀ (H : AHeap) (μ : Mu), Laid W H μ → ∃ H' μ' acss, Laid W H' μ' ∧ LaidLe H μ H' μ' ∧
        All2 (fun (acs : List AC) (it : TypeId × List Value × (DataW D × List MemPlace)) => All2 (CRel μ' W) acs it.2.1 ∧ Good P H' n it.1 acs it.2.2.1) acss l
  | [], _, H, μ, hl => ⟨H, μ, [], hl, LaidLe.refl _ _, trivial⟩
  | it :: l, h, H, μ, hl => by
    obtain ⟨h1, h2, h3⟩ := h it (List.mem_cons_self ..)
    obtain ⟨H1, μ1, acs, l1, le1, r1, g1⟩ := ih _ _ _ h1 h2 h3 H μ hl
    obtain ⟨H2, μ2, acss, l2, le2, k2⟩ := lay_seq ih l (fun it hit => h it (List.mem_cons_of_mem _ hit)) H1 μ1 l1
    exact ⟨H2, μ2, acs :: acss, l2, le1.trans le2, ⟨r1.mono fun _ _ => CRel.mono le2.mu (Shapes.refl W), g1.mono le2.get⟩, k2⟩
theorem All2.flatten {α β : Type} {R : α → β → Prop} : ∀ {l : List (List α)} {m : List (List β)}, All2 (All2 R) l m → All2 R l.flatten m.flatten
  | [], [], _ => trivial
  | _ :: _, _ :: _, h => by simpa using All2.append h.1 (All2.flatten h.2)
  | [], _ :: _, h => h.elim
  | _ :: _, [], h => h.elim
theorem goodL_of {n sz : Nat} {e : TypeId} {H : AHeap} {μ : Mu} : ∀ {acss : List (List AC)} {l : List (TypeId × List Value × (DataW D × List MemPlace))}, (∀ it ∈ l, it.1 = e ∧ it.2.1.length = sz) →
    All2 (fun (acs : List AC) (it : TypeId × List Value × (DataW D × List MemPlace)) => All2 (CRel μ W) acs it.2.1 ∧ Good P H n it.1 acs it.2.2.1) acss l →
    goodL (Good P H n) e sz acss.flatten (l.map (·.2.2.1)) ∧ acss.flatten.length = l.length * sz ∧ All2 (CRel μ W) acss.flatten (l.map (·.2.1)).flatten
  | [], [], _, _ => ⟨rfl, by simp, trivial⟩
  | acs :: acss, it :: l, h, k => by
    obtain ⟨h1, h2⟩ := h it (List.mem_cons_self ..)
    obtain ⟨k1, k2, k3⟩ := goodL_of (fun it hit => h it (List.mem_cons_of_mem _ hit)) k.2
    have hlen : acs.length = sz := by rw [k.1.1.length, h2]
    refine ⟨⟨?_, ?_⟩, ?_, ?_⟩
    · simp only [List.flatten_cons]
      rw [List.take_left' hlen, ← h1]
      exact k.1.2
    · simp only [List.flatten_cons]
      rw [List.drop_left' hlen]
      exact k1
    · simp only [List.flatten_cons, List.length_append, List.length_cons, k2, hlen, Nat.add_mul, Nat.one_mul]
      omega
    · simp only [List.flatten_cons, List.map_cons]
      exact k.1.1.append k3
  | [], _ :: _, _, k => k.elim
  | _ :: _, [], _, k => k.elim
theorem goodF_of {n : Nat} {H : AHeap} {μ : Mu} : ∀ {fs : List Field} {acss : List (List AC)} {l : List (TypeId × List Value × (DataW D × List MemPlace))}, l.map (·.1) = fs.map (·.type) → (∀ it ∈ l, it.2.1.length = P.cellsOf it.1) →
    All2 (fun (acs : List AC) (it : TypeId × List Value × (DataW D × List MemPlace)) => All2 (CRel μ W) acs it.2.1 ∧ Good P H n it.1 acs it.2.2.1) acss l →
    goodF P (Good P H n) fs acss.flatten (l.map (·.2.2.1)) ∧ All2 (CRel μ W) acss.flatten (l.map (·.2.1)).flatten
  | [], [], [], _, _, _ => ⟨rfl, trivial⟩
  | f :: fs, acs :: acss, it :: l, hm, h, k => by
    have h2 := h it (List.mem_cons_self ..)
    simp only [List.map_cons, List.cons.injEq] at hm
    obtain ⟨k1, k3⟩ := goodF_of hm.2 (fun it hit => h it (List.mem_cons_of_mem _ hit)) k.2
    have hlen : acs.length = P.cellsOf f.type := by rw [k.1.1.length, h2, hm.1]
    refine ⟨⟨?_, ?_⟩, ?_⟩
    · simp only [List.flatten_cons]
      rw [List.take_left' hlen, ← hm.1]
      exact k.1.2
    · simp only [List.flatten_cons]
      rw [List.drop_left' hlen]
      exact k1
    · simp only [List.flatten_cons, List.map_cons]
      exact k.1.1.append k3
  | _, [], _ :: _, _, _, k => k.elim
  | _, _ :: _, [], _, _, k => k.elim
  | [], _ :: _, _ :: _, hm, _, _ => by simp at hm
  | _ :: _, [], [], hm, _, _ => by simp at hm
theorem fields_flatten {α : Type} : ∀ {fs : List Field} {off n : Nat} {cs : List α}, offsOk P fs off n = true → cs.length = n →
    (fs.map fun f => (cs.drop f.offset).take (P.cellsOf f.type)).flatten = cs.drop off ∧ (∀ f ∈ fs, f.offset + P.cellsOf f.type ≤ n) ∧ off ≤ n
  | [], off, n, cs, h, hl => by
    simp only [offsOk, beq_iff_eq] at h
    refine ⟨?_, by simp, by omega⟩
    simp only [List.map_nil, List.flatten_nil]
    rw [List.drop_eq_nil_of_le (by omega)]
  | f :: fs, off, n, cs, h, hl => by
    simp only [offsOk, Bool.and_eq_true, beq_iff_eq] at h
    obtain ⟨h1, h2, h3⟩ := fields_flatten h.2 hl
    refine ⟨?_, ?_, by omega⟩
    · simp only [List.map_cons, List.flatten_cons, h1, h.1]
      rw [← List.drop_drop]
      exact List.take_append_drop _ _
    · intro g hg
      rcases List.mem_cons.1 hg with rfl | hg
      · omega
      · exact h2 g hg
theorem cells_read {a : Addr} {n : Nat} {cs : List Value} (h : W.cells? 0 a n = some cs) (hn : n ≠ 0) : ∃ c e fz, W.heap[a.block]? = some (.cells c e fz) ∧ cs.length = n ∧ a.off + n ≤ c.size ∧ (∀ i, i < n → c[a.off + i]? = cs[i]?) ∧ a.spot = none := by
  obtain ⟨_, hlen, hc⟩ := World.cells?_some h
  have h0 := hc 0 (by omega)
  have hadd : a.add 0 = a := rfl
  rw [hadd] at h0
  unfold World.cell? at h0
  have hsome : ∃ v, cs[0]? = some v := ⟨cs[0]'(by omega), List.getElem?_eq_getElem _⟩
  obtain ⟨v, hv⟩ := hsome
  rw [hv] at h0
  split at h0
  · next c e fz hb =>
    split at h0
    · cases h0
    · next hs =>
      have hspot : a.spot = none := by
        cases hs' : a.spot with
        | none => rfl
        | some x => rw [hs'] at hs; exact absurd rfl hs
      have hall : ∀ i, i < n → c[a.off + i]? = cs[i]? := by
        intro i hi
        have := hc i hi
        unfold World.cell? Addr.add at this
        by_cases hi0 : i = 0
        · subst hi0
          simp only [if_true, hb, hspot, Option.isSome_none, Bool.false_eq_true, if_false] at this
          exact this
        · simp only [if_neg hi0, hb, Option.isSome_none, Bool.false_eq_true, if_false] at this
          exact this
      refine ⟨c, e, fz, hb, hlen, ?_, hall, hspot⟩
      have := hall (n - 1) (by omega)
      rw [List.getElem?_eq_getElem (by omega)] at this
      have := (Array.getElem?_eq_some_iff.1 this).1
      omega
  · cases h0
theorem add_block (a : Addr) (k : Nat) : (a.add k).block = a.block := by
  unfold Addr.add; split <;> rfl
theorem add_off (a : Addr) (k : Nat) : (a.add k).off = a.off + k := by
  unfold Addr.add; split
  · next h => subst h; rfl
  · rfl
theorem lay {ok : List TypeId} (hok : ∀ t ∈ ok, simpleT P ok t = true) : ∀ (n : Nat) (t : TypeId) (cs : List Value) (x : DataW D × List MemPlace), t ∈ ok → DataW.trod enc P W 0 (fun _ => true) true n t cs = some x →
    (∃ r y, W.shape? r = some y) ∨ SlicesShape W cs → ∀ (H : AHeap) (μ : Mu), Laid W H μ → ∃ H' μ' acs, Laid W H' μ' ∧ LaidLe H μ H' μ' ∧ All2 (CRel μ' W) acs cs ∧ Good P H' n t acs x.1
  | 0, _, _, _, _, h, _, _, _, _ => by simp [DataW.trod] at h
  | n + 1, t, cs, x, ht, h, hs, H, μ, hl => by
    have hsimple := hok t ht
    unfold simpleT at hsimple
    split at hsimple
    · next hu =>
      obtain ⟨b, rfl, rfl⟩ := DataW.trod_bool hu h
      exact ⟨H, μ, [.bool b], hl, LaidLe.refl _ _, ⟨rfl, trivial⟩, by simp only [Good, goodStep, hu]; exact ⟨b, rfl, rfl⟩⟩
    · next k hu =>
      obtain ⟨i, rfl, rfl, hw⟩ := DataW.trod_int hu h
      exact ⟨H, μ, [.int k i], hl, LaidLe.refl _ _, ⟨rfl, trivial⟩, by simp only [Good, goodStep, hu]; exact ⟨i, rfl, rfl, hw⟩⟩
    · next hu =>
      obtain ⟨s, rfl, rfl, hm⟩ := DataW.trod_string hu h
      exact ⟨H, μ, [.str s], hl, LaidLe.refl _ _, ⟨rfl, trivial⟩, by simp only [Good, goodStep, hu]; exact ⟨s, rfl, rfl, hm⟩⟩
    · next e hu =>
      simp only [Bool.and_eq_true, List.contains_iff_mem, bne_iff_ne, ne_eq] at hsimple
      obtain ⟨he, hsz⟩ := hsimple
      rcases DataW.trod_slice hu h with ⟨rfl, rfl⟩ | ⟨a, len, cap, elems, rest, m, hm, rfl, rfl, _, hle, hcap, hlen, hel, hrest, _⟩
      · exact ⟨H, μ, [.sl none 0 0 (some 0)], hl, LaidLe.refl _ _, ⟨⟨rfl, rfl, rfl⟩, trivial⟩, by simp [Good, goodStep, hu]⟩
      · cases hm
        obtain ⟨hrl, hrest⟩ := hrest rfl
        have hread : ∀ i, i < cap → ∃ cs', W.cells? 0 (a.add (i * P.cellsOf e)) (P.cellsOf e) = some cs' ∧ (i < len → ∃ y, elems[i]? = some y ∧ DataW.trod enc P W 0 (fun _ => true) true n e cs' = some y) := by
          intro i hi
          by_cases hil : i < len
          · have hx := hel i hil
            rw [List.getElem?_eq_getElem (by omega)] at hx
            rw [Option.bind_eq_some_iff] at hx
            obtain ⟨cs', h1, h2⟩ := hx
            exact ⟨cs', h1, fun _ => ⟨_, List.getElem?_eq_getElem (by omega), h2⟩⟩
          · have hx := hrest (i - len) (by omega)
            rw [List.getElem?_eq_getElem (by omega), Option.bind_eq_some_iff] at hx
            obtain ⟨cs', h1, h2⟩ := hx
            rw [show len + (i - len) = i from by omega] at h1
            exact ⟨cs', h1, fun h => absurd h hil⟩
        -- the row's shape
        have hrow : ∃ r c e' fz s0, W.heap[r]? = some (.cells c e' fz) ∧ (cap ≠ 0 → r = a.block ∧ s0 = a.off ∧ a.spot = none ∧ a.off + cap * P.cellsOf e ≤ c.size) ∧ (cap = 0 → s0 = 0) := by
          by_cases hc0 : cap = 0
          · have : ∃ r y, W.shape? r = some y := by
              rcases hs with hs | hs
              · exact hs
              · exact ⟨_, hs a len cap (by simp)⟩
            obtain ⟨r, y, hr⟩ := this
            unfold World.shape? at hr
            split at hr
            · next c e' fz hb => exact ⟨r, c, e', fz, 0, hb, fun h => absurd hc0 h, fun _ => rfl⟩
            · cases hr
          · obtain ⟨cs0, h0, _⟩ := hread 0 (by omega)
            obtain ⟨c, e', fz, hb, _, _, _, hsp⟩ := cells_read h0 hsz
            obtain ⟨cs1, h1, _⟩ := hread (cap - 1) (by omega)
            obtain ⟨c1, e1, fz1, hb1, _, hs1, _, _⟩ := cells_read h1 hsz
            rw [add_block] at hb hb1
            rw [hb] at hb1
            cases hb1
            rw [add_off] at hs1
            have hsp' : a.spot = none := by simpa [Addr.add] using hsp
            refine ⟨a.block, c, e', fz, a.off, hb, fun _ => ⟨rfl, rfl, hsp', ?_⟩, fun h => absurd h hc0⟩
            have : cap * P.cellsOf e = (cap - 1) * P.cellsOf e + P.cellsOf e := by
              rw [← Nat.succ_mul]; congr 1; omega
            omega
        obtain ⟨r, c, e', fz, s0, hb, hc1, hc2⟩ := hrow
        -- the elements
        have hitems : ∃ l : List (TypeId × List Value × (DataW D × List MemPlace)), l.length = len ∧ l.map (·.2.2) = elems ∧ ∀ i it, l[i]? = some it → it.1 = e ∧ W.cells? 0 (a.add (i * P.cellsOf e)) (P.cellsOf e) = some it.2.1 ∧ DataW.trod enc P W 0 (fun _ => true) true n e it.2.1 = some it.2.2 := by
          have hk : ∀ k, k ≤ len → ∃ l : List (TypeId × List Value × (DataW D × List MemPlace)), l.length = k ∧ l.map (·.2.2) = elems.take k ∧ ∀ i it, l[i]? = some it → it.1 = e ∧ W.cells? 0 (a.add (i * P.cellsOf e)) (P.cellsOf e) = some it.2.1 ∧ DataW.trod enc P W 0 (fun _ => true) true n e it.2.1 = some it.2.2 := by
            intro k
            induction k with
            | zero => exact fun _ => ⟨[], rfl, by simp, by simp⟩
            | succ k ihk =>
              intro hk
              obtain ⟨l, hl1, hl2, hl3⟩ := ihk (by omega)
              obtain ⟨cs', h1, h2⟩ := hread k (by omega)
              obtain ⟨y, hy, h3⟩ := h2 (by omega)
              refine ⟨l ++ [(e, cs', y)], by simp [hl1], ?_, ?_⟩
              · rw [List.map_append, hl2, List.take_add_one, hy]; rfl
              · intro i it hi
                by_cases hik : i < k
                · rw [List.getElem?_append_left (by omega)] at hi
                  exact hl3 i it hi
                · rw [List.getElem?_append_right (by omega), hl1] at hi
                  have : i - k = 0 := by
                    rcases Nat.eq_zero_or_pos (i - k) with h | h
                    · exact h
                    · rw [List.getElem?_eq_none (by simp; omega)] at hi; cases hi
                  rw [this] at hi
                  cases hi
                  have hik' : i = k := by omega
                  subst hik'
                  exact ⟨rfl, h1, h3⟩
          obtain ⟨l, h1, h2, h3⟩ := hk len (Nat.le_refl _)
          exact ⟨l, h1, by rw [h2, List.take_of_length_le (by omega)], h3⟩
        obtain ⟨l, hll, hlm, hli⟩ := hitems
        obtain ⟨H1, μ1, acss, l1, le1, k1⟩ := lay_seq (n := n) (ok := ok) (fun t cs x => lay hok n t cs x) l (by
          intro it hit
          obtain ⟨i, hi⟩ := List.getElem?_of_mem hit
          obtain ⟨h1, h2, h3⟩ := hli i it hi
          rw [h1]
          exact ⟨he, h3, .inl ⟨r, _, by unfold World.shape?; rw [hb]⟩⟩) H μ hl
        have hlens : ∀ it ∈ l, it.1 = e ∧ it.2.1.length = P.cellsOf e := by
          intro it hit
          obtain ⟨i, hi⟩ := List.getElem?_of_mem hit
          obtain ⟨h1, h2, _⟩ := hli i it hi
          exact ⟨h1, (World.cells?_some h2).2.1⟩
        obtain ⟨g1, g2, g3⟩ := goodL_of hlens k1
        have hcell : ∀ i x, acss.flatten[i]? = some x → ∃ v, c[s0 + i]? = some v ∧ CRel μ1 W x v := by
          intro i x hx
          obtain ⟨v, hv, hrel⟩ := g3.get hx
          refine ⟨v, ?_, hrel⟩
          have hi : i < len * P.cellsOf e := by
            have := (List.getElem?_eq_some_iff.1 hx).1
            rw [g2, hll] at this; exact this
          have hlen0 : len ≠ 0 := by intro h0; rw [h0] at hi; simp at hi
          have hcap0 : cap ≠ 0 := by omega
          obtain ⟨rfl, rfl, hsp, hfit⟩ := hc1 hcap0
          -- the i-th cell of the flattened list
          have key : ∀ (l : List (TypeId × List Value × (DataW D × List MemPlace))) (k0 : Nat), (∀ i it, l[i]? = some it → W.cells? 0 (a.add ((k0 + i) * P.cellsOf e)) (P.cellsOf e) = some it.2.1) →
              ∀ i v, (l.map (·.2.1)).flatten[i]? = some v → c[a.off + k0 * P.cellsOf e + i]? = some v := by
            intro l
            induction l with
            | nil => intro _ _ i v hv; simp at hv
            | cons it l ihl =>
              intro k0 hit i v hv
              have h0 := hit 0 it rfl
              obtain ⟨c', e2, fz2, hb2, hl2, _, hc2, _⟩ := cells_read h0 hsz
              rw [add_block, hb] at hb2
              cases hb2
              simp only [List.map_cons, List.flatten_cons] at hv
              by_cases hii : i < P.cellsOf e
              · rw [List.getElem?_append_left (by omega)] at hv
                have := hc2 i hii
                rw [add_off, Nat.add_zero] at this
                rw [this]; exact hv
              · rw [List.getElem?_append_right (by omega), hl2] at hv
                have := ihl (k0 + 1) (fun i it hi => by have := hit (i + 1) it (by simpa using hi); rw [show k0 + 1 + i = k0 + (i + 1) from by omega]; exact this) _ v hv
                rw [show a.off + (k0 + 1) * P.cellsOf e + (i - P.cellsOf e) = a.off + k0 * P.cellsOf e + i from by rw [Nat.add_mul, Nat.one_mul]; omega] at this
                exact this
          have := key l 0 (fun i it hi => by rw [Nat.zero_add]; exact (hli i it hi).2.1) i v hv
          simpa using this
        have hfits : s0 + acss.flatten.length ≤ c.size := by
          rw [g2, hll]
          by_cases hcap0 : cap = 0
          · rw [hc2 hcap0]
            have : len = 0 := by omega
            subst this; simp
          · obtain ⟨rfl, rfl, _, hfit⟩ := hc1 hcap0
            have := Nat.mul_le_mul_right (P.cellsOf e) hle
            omega
        obtain ⟨l2, le2⟩ := l1.push (e := e) hb hfits hcell
        have hel' : elems.length = l.length := by rw [← hlm]; simp
        refine ⟨_, _, [.sl (some (H1.size, 0)) (P.cellsOf e) len none], l2, le1.trans le2, ⟨?_, trivial⟩, ?_⟩
        · have hshape : W.shape? r = some (e', c.size) := by unfold World.shape?; rw [hb]
          refine ⟨a, cap, r, s0, e', c.size, rfl, hle, by simp, by simp, ?_, hshape, ?_⟩
          · by_cases hcap0 : cap = 0
            · exact .inl hcap0
            · obtain ⟨rfl, rfl, hsp, _⟩ := hc1 hcap0
              right
              cases a with
              | mk b o s => simp at hsp; simp [hsp]
          · by_cases hcap0 : cap = 0
            · rw [hc2 hcap0, hcap0]; simp
            · obtain ⟨rfl, rfl, _, hfit⟩ := hc1 hcap0
              simpa using hfit
        · simp only [Good, goodStep, hu]
          refine .inr ⟨H1.size, elems.map (·.1), rest.map (·.1), acss.flatten, by simp [hlen], rfl, by rw [get_pushRo, if_pos rfl], ?_, ?_, ?_⟩
          · rw [← hlm, List.map_map]
            exact goodL.mono (fun t cs d => Good.mono le2.get) g1
          · simp only [List.length_map]; omega
          · rw [g2]; simp [hel']
    · next fs hu =>
      simp only [Bool.and_eq_true, List.all_eq_true, List.contains_iff_mem] at hsimple
      obtain ⟨hfo, hoff⟩ := hsimple
      obtain ⟨xs, m, hm, rfl, hlen, hxl, hx⟩ := DataW.trod_struct hu h
      cases hm
      obtain ⟨hfl, hin, _⟩ := fields_flatten (P := P) (cs := cs) hoff hlen
      let l : List (TypeId × List Value × (DataW D × List MemPlace)) := (fs.toList.zip xs).map fun p => (p.1.type, (cs.drop p.1.offset).take (P.cellsOf p.1.type), p.2)
      have hz : (fs.toList.zip xs).map (·.1) = fs.toList := List.map_fst_zip (by simp [hxl])
      have hz2 : (fs.toList.zip xs).map (·.2) = xs := List.map_snd_zip (by simp [hxl])
      have hmem : ∀ p ∈ fs.toList.zip xs, p.1 ∈ fs.toList ∧ DataW.trod enc P W 0 (fun _ => true) true n p.1.type ((cs.drop p.1.offset).take (P.cellsOf p.1.type)) = some p.2 := by
        intro p hp
        obtain ⟨i, hi⟩ := List.getElem?_of_mem hp
        rw [List.getElem?_zip_eq_some] at hi
        have h1 := hx i p.1 (by rw [← Array.getElem?_toList]; exact hi.1)
        rw [hi.2] at h1
        exact ⟨List.mem_of_getElem? hi.1, h1⟩
      obtain ⟨H1, μ1, acss, l1, le1, k1⟩ := lay_seq (n := n) (ok := ok) (fun t cs x => lay hok n t cs x) l (by
        intro it hit
        simp only [l, List.mem_map] at hit
        obtain ⟨p, hp, rfl⟩ := hit
        obtain ⟨h1, h2⟩ := hmem p hp
        refine ⟨hfo _ h1, h2, ?_⟩
        rcases hs with hs | hs
        · exact .inl hs
        · exact .inr fun a len cap hm => hs a len cap (List.mem_of_mem_drop (List.mem_of_mem_take hm))) H μ hl
      have hmap : l.map (·.1) = fs.toList.map (·.type) := by
        conv => rhs; rw [← hz]
        simp only [l, List.map_map]
        rfl
      obtain ⟨g1, g2⟩ := goodF_of (P := P) (fs := fs.toList) hmap (by
        intro it hit
        simp only [l, List.mem_map] at hit
        obtain ⟨p, hp, rfl⟩ := hit
        have := hin _ (hmem p hp).1
        simp only [List.length_take, List.length_drop]
        omega) k1
      refine ⟨H1, μ1, acss.flatten, l1, le1, ?_, ?_⟩
      · have e1 : (l.map (·.2.1)).flatten = cs := by
          have : l.map (·.2.1) = fs.toList.map fun f => (cs.drop f.offset).take (P.cellsOf f.type) := by
            conv => rhs; rw [← hz]
            simp only [l, List.map_map]
            rfl
          rw [this, hfl]; simp
        rw [e1] at g2; exact g2
      · simp only [Good, goodStep, hu]
        refine ⟨_, rfl, ?_⟩
        have e2 : l.map (·.2.2.1) = xs.map (·.1) := by
          conv => rhs; rw [← hz2]
          simp only [l, List.map_map]
          rfl
        rw [← e2]; exact g1
    · next m' e hu =>
      simp only [Bool.and_eq_true, List.contains_iff_mem, beq_iff_eq] at hsimple
      obtain ⟨he, hsz⟩ := hsimple
      have hx : ∃ xs : List (DataW D × List MemPlace), cs.length = P.cellsOf t ∧ x.1 = .agg (xs.map (·.1)) ∧ ((List.range m').mapM fun i => DataW.trod enc P W 0 (fun _ => true) true n e ((cs.drop (i * P.cellsOf e)).take (P.cellsOf e))) = some xs := by
        unfold DataW.trod at h
        rw [hu] at h
        split at h <;> simp_all
        rename_i hm
        obtain ⟨rfl, rfl⟩ := hm
        obtain ⟨a, h1, h2⟩ := h.2
        exact ⟨a, by rw [← h2], h1⟩
      obtain ⟨xs, hlen, hx1, hxs⟩ := hx
      have hxl : xs.length = m' := by simpa using mapM_some_length hxs
      let l : List (TypeId × List Value × (DataW D × List MemPlace)) := ((List.range m').zip xs).map fun p => (e, (cs.drop (p.1 * P.cellsOf e)).take (P.cellsOf e), p.2)
      have hz : ((List.range m').zip xs).map (·.1) = List.range m' := List.map_fst_zip (by simp [hxl])
      have hz2 : ((List.range m').zip xs).map (·.2) = xs := List.map_snd_zip (by simp [hxl])
      have hmem : ∀ p ∈ (List.range m').zip xs, p.1 < m' ∧ DataW.trod enc P W 0 (fun _ => true) true n e ((cs.drop (p.1 * P.cellsOf e)).take (P.cellsOf e)) = some p.2 := by
        intro p hp
        obtain ⟨i, hi⟩ := List.getElem?_of_mem hp
        rw [List.getElem?_zip_eq_some] at hi
        have h1 := mapM_some_get hxs i p.1 hi.1
        rw [hi.2] at h1
        exact ⟨by simpa using List.mem_of_getElem? hi.1, h1⟩
      obtain ⟨H1, μ1, acss, l1, le1, k1⟩ := lay_seq (n := n) (ok := ok) (fun t cs x => lay hok n t cs x) l (by
        intro it hit
        simp only [l, List.mem_map] at hit
        obtain ⟨p, hp, rfl⟩ := hit
        obtain ⟨h1, h2⟩ := hmem p hp
        refine ⟨he, h2, ?_⟩
        rcases hs with hs | hs
        · exact .inl hs
        · exact .inr fun a len cap hm => hs a len cap (List.mem_of_mem_drop (List.mem_of_mem_take hm))) H μ hl
      obtain ⟨g1, _, g2⟩ := goodL_of (sz := P.cellsOf e) (e := e) (by
        intro it hit
        simp only [l, List.mem_map] at hit
        obtain ⟨p, hp, rfl⟩ := hit
        have h1 := (hmem p hp).1
        refine ⟨rfl, ?_⟩
        have h2 : (p.1 + 1) * P.cellsOf e ≤ m' * P.cellsOf e := Nat.mul_le_mul_right _ h1
        rw [Nat.add_mul, Nat.one_mul] at h2
        simp only [List.length_take, List.length_drop]
        omega) k1
      refine ⟨H1, μ1, acss.flatten, l1, le1, ?_, ?_⟩
      · have e1 : (l.map (·.2.1)).flatten = cs := by
          have h1 : l.map (·.2.1) = (List.range m').map fun i => (cs.drop (i * P.cellsOf e)).take (P.cellsOf e) := by
            conv => rhs; rw [← hz]
            simp only [l, List.map_map]
            rfl
          rw [h1]
          have h2 : ∀ k, k ≤ m' → ((List.range k).map fun i => (cs.drop (i * P.cellsOf e)).take (P.cellsOf e)).flatten = cs.take (k * P.cellsOf e) := by
            intro k
            induction k with
            | zero => intro _; simp
            | succ k ihk =>
              intro hk
              rw [List.range_succ, List.map_append, List.flatten_append, ihk (by omega), Nat.add_mul, Nat.one_mul, List.take_add]
              simp
          rw [h2 m' (Nat.le_refl _), List.take_of_length_le (by omega)]
        rw [e1] at g2; exact g2
      · simp only [Good, goodStep, hu]
        have e2 : l.map (·.2.2.1) = xs.map (·.1) := by
          conv => rhs; rw [← hz2]
          simp only [l, List.map_map]
          rfl
        exact ⟨_, hx1, by simp [hxl], by rw [← e2]; exact g1⟩
    · cases hsimple
end Go.AI
end
section
namespace Go.AI
open Go.RowKit Go.WideShapes Go.ChangeShapes
variable {P : Program} {D : Type} {W : World} {enc : TypeId × Value → D}
def avOf (P : Program) (t : TypeId) (cs : List AC) : AV :=
  match P.underlying t with
  | some (.struct _) | some (.array _ _) => .agg cs
  | _ => .one (cs.headD .nilFn)
def GoodArgs (P : Program) (H : AHeap) : List TypeId → List AV → List (DataW D) → Prop
  | [], [], [] => True
  | t :: ts, a :: asx, d :: ds => (∃ n cs, Good P H n t cs d ∧ a = avOf P t cs) ∧ GoodArgs P H ts asx ds
  | _, _, _ => False
theorem GoodArgs.mono {H H' : AHeap} (hg : ∀ b o, H.get b = some o → H'.get b = some o) : ∀ {ts : List TypeId} {asx : List AV} {ds : List (DataW D)}, GoodArgs P H ts asx ds → GoodArgs P H' ts asx ds
  | [], [], [], h => h
  | _ :: _, _ :: _, _ :: _, ⟨⟨n, cs, h1, h2⟩, h3⟩ => ⟨⟨n, cs, h1.mono hg, h2⟩, GoodArgs.mono hg h3⟩
  | [], _ :: _, _, h => h.elim
  | [], [], _ :: _, h => h.elim
  | _ :: _, [], _, h => h.elim
  | _ :: _, _ :: _, [], h => h.elim
theorem lay_args {ok : List TypeId} (hok : ∀ t ∈ ok, simpleT P ok t = true) {base : Nat} : ∀ {ts : List TypeId} {vs : List Value} {ds : List (DataW D)} {ps : List MemPlace}, (∀ t ∈ ts, t ∈ ok) →
    DataW.TrodAll enc P W 0 (fun _ => true) true ts vs ds ps → (∀ (j : Nat) t v, ts[j]? = some t → vs[j]? = some v → Value.okWide P W .any base t v) →
    ∀ (H : AHeap) (μ : Mu), Laid W H μ → ∃ H' μ' asx, Laid W H' μ' ∧ LaidLe H μ H' μ' ∧ All2 (VRel μ' W) asx vs ∧ GoodArgs P H' ts asx ds
  | [], [], [], _, _, _, _, H, μ, hl => ⟨H, μ, [], hl, LaidLe.refl _ _, trivial, trivial⟩
  | t :: ts, v :: vs, d :: ds, ps, hts, ⟨p, q, ⟨n, h1⟩, h2, _⟩, hv, H, μ, hl => by
    have hv0 := hv 0 t v rfl rfl
    have ht := hts t (List.mem_cons_self ..)
    have hsimple := hok t ht
    have hs : SlicesShape W v.cells.toList := by
      intro a len cap hm
      have key : ∀ u w', Cell.okWide P W .any base u w' → w' = .slice (some a) len cap → ∃ x, W.shape? a.block = some x := by
        intro u w' hk hw
        subst hw
        unfold Cell.okWide at hk
        split at hk
        all_goals first | (rename_i h; cases h; done) | skip
        unfold Cell.ok at hk
        split at hk
        all_goals first | (rename_i h; cases h; done) | skip
        all_goals first | exact hk.elim | skip
        all_goals
          rename_i heq
          cases heq
          obtain ⟨_, _, _, _, row, cells, hsh, _⟩ := hk
          exact ⟨_, hsh⟩
      unfold Value.okWide at hv0
      split at hv0
      · obtain ⟨cs, rfl, _, ts', _, _, hc⟩ := hv0
        obtain ⟨i, hi⟩ := List.getElem?_of_mem hm
        obtain ⟨u, _, hk⟩ := hc i _ (by rw [← Array.getElem?_toList]; exact hi)
        exact key u _ hk rfl
      · obtain ⟨cs, rfl, _, ts', _, _, hc⟩ := hv0
        obtain ⟨i, hi⟩ := List.getElem?_of_mem hm
        obtain ⟨u, _, hk⟩ := hc i _ (by rw [← Array.getElem?_toList]; exact hi)
        exact key u _ hk rfl
      · refine key t v hv0 ?_
        unfold Value.cells at hm
        split at hm
        · exfalso
          unfold simpleT at hsimple
          unfold Cell.okWide at hv0
          split at hv0
          all_goals first | (rename_i h; cases h; done) | skip
          unfold Cell.ok at hv0
          split at hv0
          all_goals first | (rename_i h; cases h; done) | skip
          all_goals exact hv0
        · have hm' : Value.slice (some a) len cap = v := by simpa using hm
          exact hm'.symm
    obtain ⟨H1, μ1, acs, l1, le1, r1, g1⟩ := lay hok n t v.cells.toList (d, p) ht h1 (.inr hs) H μ hl
    obtain ⟨H2, μ2, asx, l2, le2, r2, g2⟩ := lay_args hok (fun t ht => hts t (List.mem_cons_of_mem _ ht)) h2 (fun j t' v' hj hv' => hv (j + 1) t' v' (by simpa using hj) (by simpa using hv')) H1 μ1 l1
    refine ⟨H2, μ2, avOf P t acs :: asx, l2, le1.trans le2, ⟨?_, r2⟩, ⟨⟨n, acs, g1.mono le2.get, rfl⟩, g2⟩⟩
    have r1' := r1.mono fun _ _ => CRel.mono le2.mu (Shapes.refl W)
    unfold avOf
    unfold Value.okWide at hv0
    split
    · next hu =>
      rw [hu] at hv0
      obtain ⟨cs, rfl, _⟩ := hv0
      exact ⟨cs, rfl, r1'⟩
    · next hu =>
      rw [hu] at hv0
      obtain ⟨cs, rfl, _⟩ := hv0
      exact ⟨cs, rfl, r1'⟩
    · next hn1 hn2 =>
      have hcell : Cell.okWide P W .any base t v := by
        split at hv0
        · next h => exact absurd h (hn1 _)
        · next h => exact absurd h (hn2 _ _)
        · exact hv0
      have hc1 : v.cells.toList = [v] := by
        unfold Value.cells
        split
        · exfalso
          unfold Cell.okWide at hcell
          split at hcell
          all_goals first | (rename_i h; cases h; done) | skip
          unfold Cell.ok at hcell
          split at hcell
          all_goals first | (rename_i h; cases h; done) | exact hcell
        · rfl
      rw [hc1] at r1'
      cases acs with
      | nil => exact r1'.elim
      | cons c rest =>
        cases rest with
        | nil => exact r1'.1
        | cons _ _ => exact r1'.2.elim
theorem calls_true [BaseC P] (hB : CallSound P (BaseC.call P)) (hn : NamesOk P) (hm : P.follows .mixedOrders = true) {ok : List TypeId} (hok : ∀ t ∈ ok, simpleT P ok t = true) {base : Nat} {f : FuncId} {args : Array Value} {ts : List TypeId} {ds : List (DataW D)} {ps : List MemPlace} (hlt : f < P.funcs.size)
    (hts : ∀ t ∈ ts, t ∈ ok) (hA : DataW.TrodAll enc P W 0 (fun _ => true) true ts args.toList ds ps)
    (hval : ∀ (j : Nat) t v, ts[j]? = some t → args[j]? = some v → Value.okWide P W .any base t v)
    (main : ∀ (H : AHeap) (asx : List AV), WF H → (∀ b o, H.get b = some o → ∃ e cells, o = .row e b 0 true cells) → GoodArgs P H ts asx ds → ∃ H', callE P f asx H = some (.one (.bool true), H')) :
    Calls P f args W fun e W' => e = .returned (.bool true) ∧ Below W.heap.size W W' := by
  obtain ⟨H, μ, asx, l, _, r, g⟩ := lay_args hok hts hA (fun j t v hj hv => hval j t v hj (by rw [← Array.getElem?_toList]; exact hv)) .empty (fun _ => none) (Laid.empty W)
  obtain ⟨H', hrun⟩ := main H asx l.wf l.ro g
  obtain ⟨n, hc, hs⟩ := callE_sound hB hn hm hrun
  have hcc := (hs _ _ _ _ _ hc).2
  rcases hcc with ⟨_, hs⟩ | ⟨hge, _⟩
  case inr => exact absurd hlt (Nat.not_lt.2 hge)
  refine (hs μ W args r l.wf l.rel (fun b hb _ => l.out b hb)).mono ?_
  rintro e W' ⟨v', μ', rfl, hv, hp⟩
  have hv' : v' = .bool true := hv
  subst hv'
  refine ⟨rfl, hp.os, hp.tape, hp.output, hp.wsize, fun k hk => hp.keep k hk ?_⟩
  intro b s o _ ho
  obtain ⟨_, _, rfl⟩ := l.ro b o ho
  rfl
theorem post_true {f : Func} {s : ChangeSpec} {fresh handsOn again : Bool} {W W' : World} {args : Array Value} {ds gs : List (DataW D)} {before : List MemPlace} {tb : TypeId}
    (hW : DataW.Whole enc P f.params.toList s.vars false W args.toList ds gs before) (hvars : s.vars = []) (hfn : (s.fn D (ds ++ gs)) = { results := [.lit (.bool true)], args := ds })
    (hres : f.resultTypes = #[tb]) (hb : P.underlying tb = some .bool) (hlaid : laidOutB P = true) (hread : ∀ t ∈ f.params.toList, P.readableRec t = true ∧ t < P.types.size)
    (hbelow : Below W.heap.size W W') (post_of_below : ∀ (pa pv : List MemPlace)
      (_ : ∀ (b : Nat) (sp : Nat → Bool) (hd : Bool), DataW.TrodAll enc P W' b sp hd f.resultTypes.toList ((Value.bool true).resultList f.resultTypes.size) (s.fn D (ds ++ gs)).results [])
      (_ : ∀ sp : Nat → Bool, (∀ p ∈ before, sp p.block = true) → DataW.TrodAll enc P W' 0 sp true f.params.toList args.toList (s.fn D (ds ++ gs)).args pa)
      (_ : ∀ sp : Nat → Bool, (∀ p ∈ before, sp p.block = true) → DataW.TrodVars enc P W' sp s.vars (s.fn D (ds ++ gs)).vars pv)
      (_ : before = pa ++ pv)
      (_ : ∀ (j : Nat) (t : TypeId) (r : Value), f.resultTypes[j]? = some t → ((Value.bool true).resultList f.resultTypes.size)[j]? = some r → Value.okWide P W' .any 0 t r),
      s.post enc P f false fresh handsOn again W args (.bool true) W') :
    s.post enc P f false fresh handsOn again W args (.bool true) W' := by
  have hW' := hW
  obtain ⟨p, q, hA, hV, hbe, _, _⟩ := hW
  rw [hvars] at hV
  have hq : gs = [] ∧ q = [] := by
    cases gs with
    | nil => exact ⟨rfl, hV⟩
    | cons _ _ => exact hV.elim
  obtain ⟨rfl, rfl⟩ := hq
  refine post_of_below p [] ?_ ?_ ?_ (by simpa using hbe) ?_
  · intro b sp hd
    rw [hfn, hres]
    exact ⟨[], [], shut_bool hb true, rfl, rfl⟩
  · intro sp hsp
    rw [hfn]
    have key : ∀ {ts : List TypeId} {vs : List Value} {ds : List (DataW D)} {ps : List MemPlace}, (∀ t ∈ ts, P.readableRec t = true ∧ t < P.types.size) → (∀ x ∈ ps, x ∈ before) →
        DataW.TrodAll enc P W 0 (fun _ => true) true ts vs ds ps → DataW.TrodAll enc P W' 0 sp true ts vs ds ps := by
      intro ts
      induction ts with
      | nil => intro vs ds ps _ _ h; cases vs <;> cases ds <;> first | exact h | exact h.elim
      | cons t ts ih =>
        intro vs ds ps ht hps h
        cases vs with
        | nil => exact h.elim
        | cons v vs =>
          cases ds with
          | nil => exact h.elim
          | cons d ds =>
            obtain ⟨p, q, h1, h2, rfl⟩ := h
            refine ⟨p, q, ?_, ih (fun t ht' => ht t (List.mem_cons_of_mem _ ht')) (fun x hx => hps x (List.mem_append_right _ hx)) h2, rfl⟩
            obtain ⟨hr, hrow⟩ := ht t (List.mem_cons_self ..)
            exact WideElems.Trod_stays hlaid hr hrow h1 (fun x hx => hbelow.same (hW'.lt x (hps x (List.mem_append_left _ hx)))) (fun x hx => hsp x (hps x (List.mem_append_left _ hx)))
    exact key hread (fun x hx => by rw [hbe]; exact List.mem_append_left _ hx) hA
  · intro sp _
    rw [hfn, hvars]
    rfl
  · exact ok_one hres rfl (okWide_bool_mk hb true)
end Go.AI
end
section
namespace Go.AI
namespace Trie
variable {α : Type}
theorem setN_setN : ∀ (k : Nat) (t : Trie α) (n : Nat) (x y : α), setN k (setN k t n x) n y = setN k t n y
  | 0, t, n, x, y => by simp [setN, parts]
  | k + 1, t, n, x, y => by
    by_cases h0 : n = 0
    · simp [setN_succ, parts, h0]
    · by_cases h1 : n % 2 = 1
      · have ih := setN_setN k t.parts.2.1 (n / 2) x y
        simp only [setN_succ, h0, h1, if_true, if_false, parts] at ih ⊢
        rw [ih]
      · have ih := setN_setN k t.parts.2.2 (n / 2 - 1) x y
        simp only [setN_succ, h0, h1, if_false, parts] at ih ⊢
        rw [ih]
theorem set_set (t : Trie α) (n : Nat) (x y : α) : (t.set n x).set n y = t.set n y := setN_setN n t n x y
end Trie
def Keeps (H H' : AHeap) : Prop := ∀ b o, H.get b = some o → H'.get b = some o
theorem Keeps.refl (H : AHeap) : Keeps H H := fun _ _ h => h
theorem Keeps.trans {A B C : AHeap} (h : Keeps A B) (k : Keeps B C) : Keeps A C := fun b o x => k b o (h b o x)
theorem Keeps.newRow (H : AHeap) (e : TypeId) (cells : List (Option AC)) : Keeps H (H.newRow e cells) := by
  intro b o h
  have := AHeap.get_lt h
  rw [AHeap.get_newRow, if_neg (by omega)]; exact h
theorem Keeps.push (H : AHeap) (o' : AObj) : Keeps H (H.push o') := by
  intro b o h
  have := AHeap.get_lt h
  rw [AHeap.get_push, if_neg (by omega)]; exact h
theorem Keeps.load {H H' : AHeap} (k : Keeps H H') {a : APtr} {n : Nat} {cs : List AC} (h : H.load a n = some cs) : H'.load a n = some cs := by
  unfold AHeap.load at h ⊢
  cases hg : H.get a.1 with
  | none => rw [hg] at h; cases h
  | some o => rw [hg] at h; rw [k _ _ hg]; exact h
theorem load_newRow_self (H : AHeap) (e : TypeId) (cells : List (Option AC)) (o n : Nat) : (H.newRow e cells).load (H.size, o) n = takeAll cells o n := by
  unfold AHeap.load
  rw [AHeap.get_newRow, if_pos rfl]
theorem store_newRow_self (H : AHeap) (e : TypeId) (cells : List (Option AC)) (o : Nat) (vs : List AC) (h : o + vs.length ≤ cells.length) :
    (H.newRow e cells).store (H.size, o) vs = some (H.newRow e (splice cells o (vs.map some))) := by
  unfold AHeap.store
  rw [AHeap.get_newRow, if_pos rfl]
  simp only [h, if_true]
  have hx : ((H.newRow e cells).ext H.size).2 = false := by rw [AHeap.ext_newRow, if_pos rfl]
  unfold AHeap.stores
  rw [hx]
  simp only [Bool.false_eq_true, if_false]
  unfold AHeap.newRow AHeap.set AHeap.setExt AHeap.push
  simp only [Trie.set_set, length_splice]
theorem takeAll_some : ∀ {cells : List (Option AC)} {o n : Nat} {cs : List AC}, takeAll cells o n = some cs → cs.length = n ∧ ∀ i, i < n → cells[o + i]? = (cs[i]?).map some
  | _, _, 0, cs, h => by simp only [takeAll, Option.some.injEq] at h; subst h; exact ⟨rfl, fun i hi => by omega⟩
  | cells, o, n + 1, cs, h => by
    rw [takeAll] at h
    split at h
    · next c hc =>
      rw [Option.map_eq_some_iff] at h
      obtain ⟨cs', h1, rfl⟩ := h
      obtain ⟨h2, h3⟩ := takeAll_some h1
      refine ⟨by simp [h2], fun i hi => ?_⟩
      cases i with
      | zero => simpa using hc
      | succ i => have := h3 i (by omega); rw [show o + (i + 1) = o + 1 + i from by omega, this]; simp
    · cases h
theorem takeAll_of : ∀ {cells : List (Option AC)} {o n : Nat} {cs : List AC}, cs.length = n → (∀ i, i < n → cells[o + i]? = (cs[i]?).map some) → takeAll cells o n = some cs
  | _, _, 0, cs, h, _ => by simp only [takeAll]; rw [List.eq_nil_of_length_eq_zero h]
  | cells, o, n + 1, [], h, _ => by simp at h
  | cells, o, n + 1, c :: cs, h, k => by
    rw [takeAll]
    have h0 := k 0 (by omega)
    simp only [Nat.add_zero, List.getElem?_cons_zero, Option.map_some] at h0
    rw [h0]
    simp only
    rw [takeAll_of (cs := cs) (by simpa using h) (fun i hi => by have := k (i + 1) (by omega); rw [show o + 1 + i = o + (i + 1) from by omega, this]; simp)]
    rfl
theorem load_cell {H : AHeap} {b o n : Nat} {cs : List AC} (h : H.load (b, o) n = some cs) {i : Nat} {c : AC} (hc : cs[i]? = some c) : H.load (b, o + i) 1 = some [c] := by
  unfold AHeap.load at h ⊢
  simp only at h ⊢
  split at h
  · next cells hg =>
    obtain ⟨h1, h2⟩ := takeAll_some h
    have hi : i < n := by
      have := (List.getElem?_eq_some_iff.1 hc).1
      omega
    refine takeAll_of rfl fun k hk => ?_
    obtain rfl : k = 0 := by omega
    rw [Nat.add_zero, h2 i hi, hc]; rfl
  · cases h
def SC.sub : SC → List Nat → SC
  | c, [] => c
  | .seq a _, 0 :: p => a.sub p
  | .seq _ b, _ :: p => b.sub p
  | .cond _ a _, 0 :: p => a.sub p
  | .cond _ _ b, _ :: p => b.sub p
  | .block _ b, _ :: p => b.sub p
  | .loop b, _ :: p => b.sub p
  | _, _ :: _ => .bad
attribute [simp] execS_skip execS_exit execS_ret execS_seq execS_cond execS_block execS_loop execS_region thenS_normal thenS_ret thenS_exit blockS_normal blockS_ret blockS_exit condS_true condS_false endS_some
  opsS_nil opsS_cons opsS_guard guardS_true guardS_false contS_some load_newRow_self store_newRow_self
attribute [simp] stepS stepA plainOper opA evalA binA putA fieldsA ofVal ofCell intA wantedS calleeA evalAll takeAll splice AV.cells AV.part unpart finS resultsA AV.val AC.val evalParts placesA fillA ofCells ofPart ofParts
end Go.AI
namespace Go.AI
def Wp (r : Option (Ex × St)) (Q : Ex → List AV → AHeap → Prop) : Prop :=
  match r with
  | some (e, s) => Q e s.1 s.2
  | none => False
theorem Wp.get {r : Option (Ex × St)} {Q : Ex → List AV → AHeap → Prop} (h : Wp r Q) : ∃ e t H, r = some (e, (t, H)) ∧ Q e t H := by
  unfold Wp at h
  split at h
  · exact ⟨_, _, _, rfl, h⟩
  · exact h.elim
theorem wrap_small {n : Int} (h1 : -9223372036854775808 ≤ n) (h2 : n < 9223372036854775808) : IntKind.i64.wrap n = n := by
  simp only [IntKind.wrap, IntKind.signed, IntKind.bits, Bool.true_and]
  split
  · next h => simp at h; omega
  · next h => simp at h; omega
end Go.AI
end
