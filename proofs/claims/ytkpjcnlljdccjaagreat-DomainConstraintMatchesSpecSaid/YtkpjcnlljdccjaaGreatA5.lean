/- Joined by a program: what the proof of the law leans on, part 5. -/
import Derived.Test.YtkpjcnlljdccjaaGreatA4
set_option linter.unusedVariables false
set_option linter.unusedSimpArgs false
section
namespace Go.AI
def pu (H : AHeap) (v : AV) : Option (AV × AHeap) := some (v, H)
def opF : Op → Program → List AV → AHeap → Option (AV × AHeap)
  | .move x | .assign x => fun P tmps H => (evalA tmps x).bind fun v => some (v, H)
  | .pick c a b => fun P tmps H => match evalA tmps c, evalA tmps a, evalA tmps b with
    | some (.one (.bool t)), some u, some v => pu H (if t then u else v)
    | _, _, _ => none
  | .alloc t => fun P tmps H => match (zeroA P t).bind AV.cells with
    | some cs => some (.one (.ptr (some (H.size, 0))), H.newRow t (cs.map some))
    | none => none
  | .box t x => fun P tmps H => match (evalA tmps x).bind AV.cells with
    | some cs => some (.one (.ptr (some (H.size, 0))), H.newRow t (cs.map some))
    | none => none
  | .build t ps => fun P tmps H => match (zeroA P t).bind AV.cells, evalParts tmps ps.toList, P.underlying t with
    | some zero, some parts, some (.struct fs) => match placesA P fs.toList with
      | some places => (fillA (places[·]?) zero parts).bind fun cs => pu H (.agg cs)
      | none => none
    | some zero, some parts, some (.array _ e) => match sizeT P e with
      | some size => (fillA (fun i => some (i * size, size)) zero parts).bind fun cs => pu H (.agg cs)
      | none => none
    | _, _, _ => none
  | .buildSlice t len ps => fun P tmps H => match P.underlying t with
    | some (.slice e) => match sizeT P e, (zeroA P e).bind AV.cells, evalParts tmps ps.toList with
      | some size, some zero, some parts =>
        if size = 0 ∨ len * size > 16777216 ∨ zero.length ≠ size then none else
        (fillA (fun i => some (i * size, size)) (List.flatten (List.replicate len zero)) parts).bind fun cs =>
          some (.one (.sl (some (H.size, 0)) size len (some len)), H.newRow e (cs.map some))
      | _, _, _ => none
    | _ => none
  | .load t x => fun P tmps H => match evalA tmps x, isAggT P t, sizeT P t with
    | some (.one (.ptr (some a))), some true, some n => (H.load a n).bind fun cs => pu H (.agg cs)
    | some (.one (.ptr (some a))), some false, some _ => match H.load a 1 with
      | some [c] => pu H (.one c)
      | _ => none
    | _, _, _ => none
  | .store t x v => fun P tmps H => match evalA tmps x, (evalA tmps v).bind AV.cells, sizeT P t with
    | some (.one (.ptr (some a))), some cs, some n => if cs.length = n then (H.store a cs).bind fun H' => some (.tup [], H') else none
    | _, _, _ => none
  | .nilCheck x => fun P tmps H => match evalA tmps x with
    | some (.one (.ptr none)) | some (.one .nilIface) | some (.one .nilFn) => none
    | some v => pu H v
    | none => none
  | .binOp op t x y _ => fun P tmps H => match evalA tmps x, evalA tmps y with
    | some a, some b => (binA P op t x y a b).bind fun v => some (v, H)
    | _, _ => none
  | .unOp op _ x => fun P tmps H => match op, evalA tmps x with
    | .not, some (.one (.bool b)) => pu H (.one (.bool !b))
    | op, some v => (v.val.bind fun u => (pureRun P (Op.unary op u)).bind ofVal).bind fun v => some (v, H)
    | _, none => none
  | .convert s d x => fun P tmps H => (evalA tmps x).bind fun v => (v.val.bind fun u => (pureRun P (convert s d u)).bind ofVal).bind fun v => some (v, H)
  | .makeFunc (.func f) first caps => fun P tmps H => match (evalAll tmps first.toList).bind ptrs, (evalAll tmps caps.toList).bind ptrs with
    | some a, some b => pu H (.one (.fn f a b))
    | _, _ => none
  | .makeMap t r => fun P tmps H => match P.underlying t with
    | some (.map _ _) => match r with
      | none => some (.one (.map (some H.size)), H.push (.map []))
      | some x => match (evalA tmps x).bind intA with
        | some _ => some (.one (.map (some H.size)), H.push (.map []))
        | none => none
    | _ => none
  | .makeSlice t l c => fun P tmps H => match P.underlying t with
    | some (.slice e) => match P.info? e, (zeroA P e).bind AV.cells, (evalA tmps l).bind intA, (evalA tmps c).bind intA with
      | some i, some zero, some len, some cap =>
        if 0 ≤ len ∧ len ≤ cap ∧ cap * i.bytes ≤ maxBytes ∧ cap ≤ 4611686018427387904 ∧ i.size ≠ 0 ∧ zero.length = i.size then
          some (.one (.sl (some (H.size, 0)) i.size len.toNat (some cap.toNat)), H.newRow e ((List.flatten (List.replicate cap.toNat zero)).map some))
        else none
      | _, _, _, _ => none
    | _ => none
  | .slice t x lo hi mx => fun P tmps H => match P.underlying t with
    | some (.slice e) => match evalA tmps x, optInt tmps lo, optInt tmps hi, optInt tmps mx, sizeT P e with
      | some (.one s), some l, some h, some none, some sz => if mx.isNone then (sliceA sz s l h).bind fun r => pu H (.one r) else none
      | some (.one s), some l, some (some h), some (some m), some sz => (slice3A sz s l h m).bind fun r => pu H (.one r)
      | _, _, _, _, _ => none
    | some .string => match evalA tmps x, optInt tmps lo, optInt tmps hi, mx with
      | some (.one (.str s)), some l, some h, none =>
        if 0 ≤ l.getD 0 ∧ l.getD 0 ≤ h.getD s.size ∧ h.getD s.size ≤ s.size then pu H (.one (.str (s.extract (l.getD 0).toNat (h.getD s.size).toNat))) else none
      | _, _, _, _ => none
    | _ => none
  | .fieldAddr t x f => fun P tmps H => match evalA tmps x, fieldsA P t with
    | some (.one (.ptr (some a))), some fs => match fs[f]? with
      | some fd => match sizeT P fd.type with
        | some (_ + 1) => pu H (.one (.ptr (some (a.1, a.2 + fd.offset))))
        | _ => none
      | none => none
    | _, _ => none
  | .field t x f => fun P tmps H => match (evalA tmps x), fieldsA P t with
    | some (.agg cs), some fs => (fs[f]?).bind fun fd => (partA P fd.type cs fd.offset).bind fun v => some (v, H)
    | _, _ => none
  | .indexAddr t x ix => fun P tmps H => match evalA tmps x, (evalA tmps ix).bind intA, P.underlying t with
    | some (.one (.sl (some a) sz len _)), some i, some (.slice e) =>
      if 0 ≤ i ∧ i < len ∧ sizeT P e = some sz ∧ sz ≠ 0 then pu H (.one (.ptr (some (a.1, a.2 + i.toNat * sz)))) else none
    | some (.one (.ptr (some a))), some i, some (.array len e) =>
      if 0 ≤ i ∧ i < len then (sizeT P e).bind fun sz => if sz = 0 then none else pu H (.one (.ptr (some (a.1, a.2 + i.toNat * sz)))) else none
    | _, _, _ => none
  | .index t x ix => fun P tmps H => match evalA tmps x, (evalA tmps ix).bind intA, P.underlying t with
    | some (.agg cs), some i, some (.array len e) =>
      if 0 ≤ i ∧ i < len then (sizeT P e).bind fun sz => (partA P e cs (i.toNat * sz)).bind fun v => some (v, H) else none
    | some (.one (.str s)), some i, some .string => if 0 ≤ i then (s[i.toNat]?).bind fun b => pu H (.one (.int .u8 b.toNat)) else none
    | _, _, _ => none
  | .lookup t x ix ok => fun P tmps H => match P.underlying t, evalA tmps x, (evalA tmps ix).bind AV.val with
    | some (.map kt et), some (.one (.map r)), some k =>
      let es? : Option (List (Value × AV)) := match r with
        | none => some []
        | some b => match H.get b with
          | some (.map es) => some es
          | _ => none
      match es?, zeroA P et with
      | some es, some z =>
        if keyOkA P kt es.isEmpty k then
          match findA P kt k es with
          | some r =>
            let v := (r.map (·.2)).getD z
            if ok then v.part.bind fun p => pu H (.tup [p, (false, [.bool r.isSome])]) else pu H v
          | none => none
        else none
      | _, _ => none
    | _, _, _ => none
  | .mapUpdate t m k x | .insert t m k x => fun P tmps H => match P.underlying t, evalA tmps m, (evalA tmps k).bind AV.val, evalA tmps x with
    | some (.map kt _), some (.one (.map (some b))), some k, some v =>
      match H.get b with
      | some (.map es) =>
        if keyOkA P kt false k ∧ plainKey k ∧ v.part.isSome then
          match findA P kt k es with
          | some (some (i, _)) => if (es[i]?).any (fun e => decide (Instr.sameBits 10000 e.1 k = true)) then some (.tup [], H.set b (.map (es.modify i fun _ => (k, v)))) else none
          | some none => some (.tup [], H.set b (.map (es ++ [(k, v)])))
          | none => none
        else none
      | _ => none
    | _, _, _, _ => none
  | .extract x ix => fun P tmps H => match evalA tmps x with
    | some (.tup vs) => (vs[ix]?).bind fun p => pu H (unpart p)
    | _ => none
  | .call { callee := .builtin b, args, argTypes } => fun P tmps H => (evalAll tmps args.toList).bind fun vs => builtinA P H b vs argTypes
  | _ => fun _ _ _ => none
theorem opF_eq {P : Program} {T : List AV} {H : AHeap} (o : Oper) : opF o.op P T H = opA P o T H := by
  obtain ⟨dst, op, type, pos, after, guard⟩ := o
  cases op
  case call c =>
    obtain ⟨callee, args, argTypes⟩ := c
    cases callee <;> rfl
  case makeFunc fn first caps => cases fn <;> rfl
  all_goals rfl
def stepF : Op → Program → CallA → List AV → AHeap → Option (AV × AHeap)
  | .call c => match c.callee with
    | .value _ => fun P call T H => (calleeA P c T).bind fun p => call p.1 p.2 H
    | _ => fun P _ T H => opF (.call c) P T H
  | op => fun P _ T H => opF op P T H
theorem stepF_eq {P : Program} {call : CallA} {T : List AV} {H : AHeap} (o : Oper) : stepF o.op P call T H = stepA P call o T H := by
  unfold stepA
  have h := opF_eq (P := P) (T := T) (H := H) o
  obtain ⟨dst, op, type, pos, after, guard⟩ := o
  cases op
  case call c =>
    obtain ⟨callee, args, argTypes⟩ := c
    cases callee
    case value f => rfl
    all_goals exact h
  all_goals exact h
def opsF (P : Program) (call : CallA) (ops : Array Oper) : List Oper → List AV → AHeap → Option (List AV × AHeap)
  | [], tmps, H => some (tmps, H)
  | o :: rest, tmps, H =>
    if wantedA ops tmps o then
      match stepF o.op P call tmps H with
      | some (v, H') => opsF P call ops rest (putA tmps o.dst v) H'
      | none => none
    else opsF P call ops rest (putA tmps o.dst (.tup [])) H
theorem opsF_eq {P : Program} {call : CallA} {ops : Array Oper} : ∀ (l : List Oper) (T : List AV) (H : AHeap), opsF P call ops l T H = opsA P call ops l T H
  | [], _, _ => rfl
  | o :: l, T, H => by
    simp only [opsF, opsA, stepF_eq]
    split
    · cases stepA P call o T H with
      | none => rfl
      | some r => exact opsF_eq l _ _
    · exact opsF_eq l _ _
def regionF (P : Program) (tbl : List (Nat × List (Nat × Nat))) (call : CallA) (id : Nat) (ops : Array Oper) (draw : Bool) (s : St) : Option St :=
  match draw with
  | false => opsF P call ops ops.toList s.1 s.2
  | true => match tbl.find? (fun e => e.1 == id) with
    | some (_, []) => opsF P call ops ops.toList s.1 s.2
    | _ => regionT P tbl call id ops true s
theorem regionF_eq {P : Program} {tbl : List (Nat × List (Nat × Nat))} {call : CallA} {id : Nat} {ops : Array Oper} {draw : Bool} {s : St} : regionF P tbl call id ops draw s = regionT P tbl call id ops draw s := by
  unfold regionF
  cases draw with
  | false => simp only [opsF_eq]; rfl
  | true =>
    simp only
    split
    · next h => simp only [opsF_eq, regionT, h, if_true]
    · rfl
def execF (P : Program) (tbl : List (Nat × List (Nat × Nat))) (call : CallA) (n : Nat) : Code → St → Option (Ex × St)
  | .skip, s => some (.normal, s)
  | .region id ops draw, s => (regionF P tbl call id ops draw s).map fun r => (.normal, r)
  | .seq a b, s => match execF P tbl call n a s with
    | some (.normal, s') => execF P tbl call n b s'
    | r => r
  | .cond c a b, s => match evalA s.1 c with
    | some (.one (.bool true)) => execF P tbl call n a s
    | some (.one (.bool false)) => execF P tbl call n b s
    | _ => none
  | .block id b, s => match execF P tbl call n b s with
    | some (.exit id', s') => if id' = id then some (.normal, s') else some (.exit id', s')
    | r => r
  | .loop b, s => iterA (fun s => execF P tbl call n b s) n s
  | .exit id, s => some (.exit id, s)
  | .scope b, s => execF P tbl call n b s
  | .ret, s => some (.ret, s)
  | c, s => execA P call n c s
theorem execF_eq {P : Program} {tbl : List (Nat × List (Nat × Nat))} {call : CallA} {n : Nat} : ∀ (c : Code) (s : St), execF P tbl call n c s = execT P tbl call n c s
  | .skip, _ => rfl
  | .label _, _ => rfl
  | .region id ops draw, s => by simp only [execF, execT, regionF_eq]
  | .seq a b, s => by
    simp only [execF, execT]
    rw [execF_eq a]
    cases execT P tbl call n a s with
    | none => rfl
    | some q =>
      obtain ⟨e, s'⟩ := q
      cases e with
      | normal => exact execF_eq b s'
      | exit i => rfl
      | ret => rfl
  | .cond x a b, s => by
    simp only [execF, execT]
    rw [execF_eq a, execF_eq b]
    rfl
  | .block id b, s => by
    simp only [execF, execT]
    rw [execF_eq b]
    rfl
  | .loop b, s => by
    simp only [execF, execT]
    exact iterA_congr (fun s => execF_eq b s) n s
  | .exit id, _ => rfl
  | .scope b, s => by
    simp only [execF, execT]
    exact execF_eq b s
  | .ret, _ => rfl
  | .goto .., _ => rfl
  | .rangeFunc .., _ => rfl
  | .refuse .., _ => rfl
end Go.AI
end
