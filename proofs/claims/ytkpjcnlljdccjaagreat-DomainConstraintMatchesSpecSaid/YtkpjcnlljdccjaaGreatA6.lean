/- Joined by a program: what the proof of the law leans on, part 6. -/
import Derived.Test.YtkpjcnlljdccjaaGreatA5
set_option linter.unusedVariables false
set_option linter.unusedSimpArgs false
section
namespace Go.AI
set_option linter.unusedVariables false
def evalG (tr : Trie AV) : Operand → Option AV
  | .tmp t => some ((tr.get t).getD (.tup []))
  | .const v => ofVal v
  | .global _ => none
  | .func f => some (.one (.fn f [] []))
def evalAllG (ev : Operand → Option AV) : List Operand → Option (List AV)
  | [] => some []
  | x :: r => match ev x, evalAllG ev r with
    | some v, some vs => some (v :: vs)
    | _, _ => none
def evalPartsG (ev : Operand → Option AV) : List (Nat × Operand) → Option (List (Nat × AV))
  | [] => some []
  | (i, x) :: r => match ev x, evalPartsG ev r with
    | some v, some vs => some ((i, v) :: vs)
    | _, _ => none
def optIntG (ev : Operand → Option AV) : Option Operand → Option (Option Int)
  | none => some none
  | some x => (ev x).bind fun v => (intA v).map some
theorem evalAllG_eq {T : List AV} : ∀ l, evalAllG (evalA T) l = evalAll T l
  | [] => rfl
  | x :: r => by simp only [evalAllG, evalAll, evalAllG_eq r]; rfl
theorem evalPartsG_eq {T : List AV} : ∀ l, evalPartsG (evalA T) l = evalParts T l
  | [] => rfl
  | (i, x) :: r => by simp only [evalPartsG, evalParts, evalPartsG_eq r]; rfl
theorem optIntG_eq {T : List AV} : ∀ l, optIntG (evalA T) l = optInt T l
  | none => rfl
  | some x => rfl
def opG : Op → Program → (Operand → Option AV) → AHeap → Option (AV × AHeap)
  | .move x | .assign x => fun P ev H => (ev x).bind fun v => some (v, H)
  | .pick c a b => fun P ev H => match ev c, ev a, ev b with
    | some (.one (.bool t)), some u, some v => pu H (if t then u else v)
    | _, _, _ => none
  | .alloc t => fun P ev H => match (zeroA P t).bind AV.cells with
    | some cs => some (.one (.ptr (some (H.size, 0))), H.newRow t (cs.map some))
    | none => none
  | .box t x => fun P ev H => match (ev x).bind AV.cells with
    | some cs => some (.one (.ptr (some (H.size, 0))), H.newRow t (cs.map some))
    | none => none
  | .build t ps => fun P ev H => match (zeroA P t).bind AV.cells, evalPartsG ev ps.toList, P.underlying t with
    | some zero, some parts, some (.struct fs) => match placesA P fs.toList with
      | some places => (fillA (places[·]?) zero parts).bind fun cs => pu H (.agg cs)
      | none => none
    | some zero, some parts, some (.array _ e) => match sizeT P e with
      | some size => (fillA (fun i => some (i * size, size)) zero parts).bind fun cs => pu H (.agg cs)
      | none => none
    | _, _, _ => none
  | .buildSlice t len ps => fun P ev H => match P.underlying t with
    | some (.slice e) => match sizeT P e, (zeroA P e).bind AV.cells, evalPartsG ev ps.toList with
      | some size, some zero, some parts =>
        if size = 0 ∨ len * size > 16777216 ∨ zero.length ≠ size then none else
        (fillA (fun i => some (i * size, size)) (List.flatten (List.replicate len zero)) parts).bind fun cs =>
          some (.one (.sl (some (H.size, 0)) size len (some len)), H.newRow e (cs.map some))
      | _, _, _ => none
    | _ => none
  | .load t x => fun P ev H => match ev x, isAggT P t, sizeT P t with
    | some (.one (.ptr (some a))), some true, some n => (H.load a n).bind fun cs => pu H (.agg cs)
    | some (.one (.ptr (some a))), some false, some _ => match H.load a 1 with
      | some [c] => pu H (.one c)
      | _ => none
    | _, _, _ => none
  | .store t x v => fun P ev H => match ev x, (ev v).bind AV.cells, sizeT P t with
    | some (.one (.ptr (some a))), some cs, some n => if cs.length = n then (H.store a cs).bind fun H' => some (.tup [], H') else none
    | _, _, _ => none
  | .nilCheck x => fun P ev H => match ev x with
    | some (.one (.ptr none)) | some (.one .nilIface) | some (.one .nilFn) => none
    | some v => pu H v
    | none => none
  | .binOp op t x y _ => fun P ev H => match ev x, ev y with
    | some a, some b => (binA P op t x y a b).bind fun v => some (v, H)
    | _, _ => none
  | .unOp op _ x => fun P ev H => match op, ev x with
    | .not, some (.one (.bool b)) => pu H (.one (.bool !b))
    | op, some v => (v.val.bind fun u => (pureRun P (Op.unary op u)).bind ofVal).bind fun v => some (v, H)
    | _, none => none
  | .convert s d x => fun P ev H => (ev x).bind fun v => (v.val.bind fun u => (pureRun P (convert s d u)).bind ofVal).bind fun v => some (v, H)
  | .makeFunc (.func f) first caps => fun P ev H => match (evalAllG ev first.toList).bind ptrs, (evalAllG ev caps.toList).bind ptrs with
    | some a, some b => pu H (.one (.fn f a b))
    | _, _ => none
  | .makeMap t r => fun P ev H => match P.underlying t with
    | some (.map _ _) => match r with
      | none => some (.one (.map (some H.size)), H.push (.map []))
      | some x => match (ev x).bind intA with
        | some _ => some (.one (.map (some H.size)), H.push (.map []))
        | none => none
    | _ => none
  | .makeSlice t l c => fun P ev H => match P.underlying t with
    | some (.slice e) => match P.info? e, (zeroA P e).bind AV.cells, (ev l).bind intA, (ev c).bind intA with
      | some i, some zero, some len, some cap =>
        if 0 ≤ len ∧ len ≤ cap ∧ cap * i.bytes ≤ maxBytes ∧ cap ≤ 4611686018427387904 ∧ i.size ≠ 0 ∧ zero.length = i.size then
          some (.one (.sl (some (H.size, 0)) i.size len.toNat (some cap.toNat)), H.newRow e ((List.flatten (List.replicate cap.toNat zero)).map some))
        else none
      | _, _, _, _ => none
    | _ => none
  | .slice t x lo hi mx => fun P ev H => match P.underlying t with
    | some (.slice e) => match ev x, optIntG ev lo, optIntG ev hi, optIntG ev mx, sizeT P e with
      | some (.one s), some l, some h, some none, some sz => if mx.isNone then (sliceA sz s l h).bind fun r => pu H (.one r) else none
      | some (.one s), some l, some (some h), some (some m), some sz => (slice3A sz s l h m).bind fun r => pu H (.one r)
      | _, _, _, _, _ => none
    | some .string => match ev x, optIntG ev lo, optIntG ev hi, mx with
      | some (.one (.str s)), some l, some h, none =>
        if 0 ≤ l.getD 0 ∧ l.getD 0 ≤ h.getD s.size ∧ h.getD s.size ≤ s.size then pu H (.one (.str (s.extract (l.getD 0).toNat (h.getD s.size).toNat))) else none
      | _, _, _, _ => none
    | _ => none
  | .fieldAddr t x f => fun P ev H => match ev x, fieldsA P t with
    | some (.one (.ptr (some a))), some fs => match fs[f]? with
      | some fd => match sizeT P fd.type with
        | some (_ + 1) => pu H (.one (.ptr (some (a.1, a.2 + fd.offset))))
        | _ => none
      | none => none
    | _, _ => none
  | .field t x f => fun P ev H => match (ev x), fieldsA P t with
    | some (.agg cs), some fs => (fs[f]?).bind fun fd => (partA P fd.type cs fd.offset).bind fun v => some (v, H)
    | _, _ => none
  | .indexAddr t x ix => fun P ev H => match ev x, (ev ix).bind intA, P.underlying t with
    | some (.one (.sl (some a) sz len _)), some i, some (.slice e) =>
      if 0 ≤ i ∧ i < len ∧ sizeT P e = some sz ∧ sz ≠ 0 then pu H (.one (.ptr (some (a.1, a.2 + i.toNat * sz)))) else none
    | some (.one (.ptr (some a))), some i, some (.array len e) =>
      if 0 ≤ i ∧ i < len then (sizeT P e).bind fun sz => if sz = 0 then none else pu H (.one (.ptr (some (a.1, a.2 + i.toNat * sz)))) else none
    | _, _, _ => none
  | .index t x ix => fun P ev H => match ev x, (ev ix).bind intA, P.underlying t with
    | some (.agg cs), some i, some (.array len e) =>
      if 0 ≤ i ∧ i < len then (sizeT P e).bind fun sz => (partA P e cs (i.toNat * sz)).bind fun v => some (v, H) else none
    | some (.one (.str s)), some i, some .string => if 0 ≤ i then (s[i.toNat]?).bind fun b => pu H (.one (.int .u8 b.toNat)) else none
    | _, _, _ => none
  | .lookup t x ix ok => fun P ev H => match P.underlying t, ev x, (ev ix).bind AV.val with
    | some (.map kt et), some (.one (.map r)), some k =>
      let es? : Option (List (Value × AV)) := match r with
        | none => some []
        | some b => match H.get b with
          | some (.map es) => some es
          | _ => none
      match es?, zeroA P et with
      | some es, some z =>
        if keyOkA P kt es.isEmpty k then
          match findA P kt k es with
          | some r =>
            let v := (r.map (·.2)).getD z
            if ok then v.part.bind fun p => pu H (.tup [p, (false, [.bool r.isSome])]) else pu H v
          | none => none
        else none
      | _, _ => none
    | _, _, _ => none
  | .mapUpdate t m k x | .insert t m k x => fun P ev H => match P.underlying t, ev m, (ev k).bind AV.val, ev x with
    | some (.map kt _), some (.one (.map (some b))), some k, some v =>
      match H.get b with
      | some (.map es) =>
        if keyOkA P kt false k ∧ plainKey k ∧ v.part.isSome then
          match findA P kt k es with
          | some (some (i, _)) => if (es[i]?).any (fun e => decide (Instr.sameBits 10000 e.1 k = true)) then some (.tup [], H.set b (.map (es.modify i fun _ => (k, v)))) else none
          | some none => some (.tup [], H.set b (.map (es ++ [(k, v)])))
          | none => none
        else none
      | _ => none
    | _, _, _, _ => none
  | .extract x ix => fun P ev H => match ev x with
    | some (.tup vs) => (vs[ix]?).bind fun p => pu H (unpart p)
    | _ => none
  | .call { callee := .builtin b, args, argTypes } => fun P ev H => (evalAllG ev args.toList).bind fun vs => builtinA P H b vs argTypes
  | _ => fun _ _ _ => none
theorem opG_eq {P : Program} {T : List AV} {H : AHeap} (op : Op) : opG op P (evalA T) H = opF op P T H := by
  cases op
  case call c =>
    obtain ⟨callee, args, argTypes⟩ := c
    cases callee
    case builtin b => simp only [opG, opF, evalAllG_eq]
    all_goals rfl
  case makeFunc fn first caps => cases fn <;> first | rfl | (simp only [opG, opF, evalAllG_eq]; rfl)
  case build t ps => simp only [opG, opF, evalPartsG_eq]; rfl
  case buildSlice t n ps => simp only [opG, opF, evalPartsG_eq]; rfl
  case slice t x l h m => simp only [opG, opF, optIntG_eq]; rfl
  all_goals rfl
def calleeG (P : Program) (c : Call) (ev : Operand → Option AV) : Option (FuncId × List AV) :=
  match c.callee with
  | .value f => match ev f, evalAllG ev c.args.toList with
    | some (.one (.fn g first caps)), some args => if g < P.funcs.size then some (g, first.map (fun a => .one (.ptr (some a))) ++ args ++ caps.map (fun a => .one (.ptr (some a)))) else none
    | some (.one (.yield l)), some args => some (P.funcs.size + l, args)
    | _, _ => none
  | _ => none
theorem calleeG_eq {P : Program} {T : List AV} (c : Call) : calleeG P c (evalA T) = calleeA P c T := by
  obtain ⟨callee, args, argTypes⟩ := c
  cases callee
  case value f => simp only [calleeG, calleeA, evalAllG_eq]; rfl
  all_goals rfl
def stepG : Op → Program → CallA → (Operand → Option AV) → AHeap → Option (AV × AHeap)
  | .call c => match c.callee with
    | .value _ => fun P call ev H => (calleeG P c ev).bind fun p => call p.1 p.2 H
    | _ => fun P _ ev H => opG (.call c) P ev H
  | op => fun P _ ev H => opG op P ev H
theorem stepG_eq {P : Program} {call : CallA} {T : List AV} {H : AHeap} (op : Op) : stepG op P call (evalA T) H = stepF op P call T H := by
  have h := opG_eq (P := P) (T := T) (H := H) op
  cases op
  case call c =>
    obtain ⟨callee, args, argTypes⟩ := c
    cases callee
    case value f => simp only [stepG, stepF, calleeG_eq]
    all_goals exact h
  all_goals exact h
def Rep (n : Nat) (T : List AV) (tr : Trie AV) : Prop := T.length = n ∧ ∀ i, (tr.get i).getD (.tup []) = (T[i]?).getD (.tup [])
theorem Rep.eval {n : Nat} {T : List AV} {tr : Trie AV} (r : Rep n T tr) : evalG tr = evalA T := by
  funext x
  cases x with
  | tmp t => simp only [evalG, evalA, r.2 t]
  | const v => rfl
  | global g => rfl
  | func f => rfl
def wantedG (ops : Array Oper) (tr : Trie AV) (o : Oper) : Bool :=
  match o.guard with
  | none => true
  | some (j, want) => match ((ops[j]?).bind (·.dst)).bind (tr.get ·) with
    | some (.one (.bool b)) => b == want
    | _ => false
theorem Rep.wanted {n : Nat} {T : List AV} {tr : Trie AV} (r : Rep n T tr) (ops : Array Oper) (o : Oper) : wantedG ops tr o = wantedA ops T o := by
  unfold wantedG wantedA
  cases o.guard with
  | none => rfl
  | some g =>
    obtain ⟨j, want⟩ := g
    simp only
    cases (ops[j]?).bind (·.dst) with
    | none => rfl
    | some d =>
      simp only [Option.bind_some]
      have h := r.2 d
      cases h1 : tr.get d with
      | none =>
        rw [h1] at h
        cases h2 : T[d]? with
        | none => rfl
        | some x => rw [h2] at h; simp only [Option.getD_none, Option.getD_some] at h; subst h; rfl
      | some y =>
        rw [h1] at h
        cases h2 : T[d]? with
        | none => rw [h2] at h; simp only [Option.getD_none, Option.getD_some] at h; subst h; rfl
        | some x => rw [h2] at h; simp only [Option.getD_some] at h; subst h; rfl
def putG (n : Nat) (tr : Trie AV) (dst : Option Tmp) (v : AV) : Trie AV :=
  match dst with
  | some d => if d < n then tr.set d v else tr
  | none => tr
theorem Rep.put {n : Nat} {T : List AV} {tr : Trie AV} (r : Rep n T tr) (dst : Option Tmp) (v : AV) : Rep n (putA T dst v) (putG n tr dst v) := by
  cases dst with
  | none => exact r
  | some d =>
    simp only [putA, putG]
    refine ⟨by simp [r.1], fun i => ?_⟩
    split
    · next hd =>
      rw [Trie.get_set, List.getElem?_set]
      by_cases hi : i = d
      · subst hi; simp [r.1, hd]
      · rw [if_neg hi, if_neg (Ne.symm hi)]; exact r.2 i
    · next hd =>
      rw [List.getElem?_set]
      by_cases hi : d = i
      · subst hi
        have := r.2 d
        rw [if_pos rfl, if_neg (by rw [r.1]; exact hd), this, List.getElem?_eq_none (by rw [r.1]; exact Nat.le_of_not_lt hd)]
      · rw [if_neg hi]; exact r.2 i
def forceNat {β : Sort _} (n : Nat) (f : Nat → β) : β :=
  match n with
  | 0 => f 0
  | k + 1 => f (k + 1)
def forceInt {β : Sort _} (n : Int) (f : Int → β) : β :=
  match n with
  | .ofNat m => forceNat m fun m => f (.ofNat m)
  | .negSucc m => forceNat m fun m => f (.negSucc m)
def forceAC {β : Sort _} (c : AC) (f : AC → β) : β :=
  match c with
  | .bool true => f (.bool true)
  | .bool false => f (.bool false)
  | .int k n => forceInt n fun n => f (.int k n)
  | .ptr none => f (.ptr none)
  | .ptr (some (b, o)) => forceNat b fun b => forceNat o fun o => f (.ptr (some (b, o)))
  | .sl (some (b, o)) sz len none => forceNat b fun b => forceNat o fun o => forceNat sz fun sz => forceNat len fun len => f (.sl (some (b, o)) sz len none)
  | .sl (some (b, o)) sz len (some c) => forceNat b fun b => forceNat o fun o => forceNat sz fun sz => forceNat len fun len => forceNat c fun c => f (.sl (some (b, o)) sz len (some c))
  | .map none => f (.map none)
  | .map (some b) => forceNat b fun b => f (.map (some b))
  | c => f c
def forceCells {β : Sort _} : List AC → (List AC → β) → β
  | [], f => f []
  | c :: cs, f => forceAC c fun c => forceCells cs fun cs => f (c :: cs)
def forceAV {β : Sort _} (v : AV) (f : AV → β) : β :=
  match v with
  | .one c => forceAC c fun c => f (.one c)
  | .agg cs => forceCells cs fun cs => f (.agg cs)
  | .tup vs => f (.tup vs)
def forceH {β : Sort _} (H : AHeap) (f : AHeap → β) : β :=
  match H with
  | ⟨s, .nil, e⟩ => forceNat s fun s => f ⟨s, .nil, e⟩
  | ⟨s, .node v l r, e⟩ => forceNat s fun s => f ⟨s, .node v l r, e⟩
theorem forceNat_eq {β : Sort _} (n : Nat) (f : Nat → β) : forceNat n f = f n := by cases n <;> rfl
theorem forceInt_eq {β : Sort _} (n : Int) (f : Int → β) : forceInt n f = f n := by cases n <;> simp only [forceInt, forceNat_eq]
theorem forceAC_eq {β : Sort _} (c : AC) (f : AC → β) : forceAC c f = f c := by
  unfold forceAC
  split <;> simp only [forceNat_eq, forceInt_eq]
theorem forceCells_eq {β : Sort _} : ∀ (cs : List AC) (f : List AC → β), forceCells cs f = f cs
  | [], _ => rfl
  | c :: cs, f => by simp only [forceCells, forceAC_eq, forceCells_eq cs]
theorem forceAV_eq {β : Sort _} (v : AV) (f : AV → β) : forceAV v f = f v := by cases v <;> simp only [forceAV, forceAC_eq, forceCells_eq]
theorem forceH_eq {β : Sort _} (H : AHeap) (f : AHeap → β) : forceH H f = f H := by
  obtain ⟨s, o, e⟩ := H
  cases o <;> simp only [forceH, forceNat_eq]
def opsG (P : Program) (call : CallA) (ops : Array Oper) (n : Nat) : List Oper → Trie AV → AHeap → Option (Trie AV × AHeap)
  | [], tr, H => some (tr, H)
  | o :: rest, tr, H =>
    if wantedG ops tr o then
      match stepG o.op P call (evalG tr) H with
      | some (v, H') => forceAV v fun v => forceH H' fun H' => opsG P call ops n rest (putG n tr o.dst v) H'
      | none => none
    else opsG P call ops n rest (putG n tr o.dst (.tup [])) H
theorem opsG_of {P : Program} {call : CallA} {ops : Array Oper} {n : Nat} : ∀ {l : List Oper} {T : List AV} {tr tr' : Trie AV} {H H' : AHeap}, Rep n T tr → opsG P call ops n l tr H = some (tr', H') → ∃ T', opsF P call ops l T H = some (T', H') ∧ Rep n T' tr'
  | [], T, tr, tr', H, H', r, h => by
    simp only [opsG, Option.some.injEq, Prod.mk.injEq] at h
    obtain ⟨rfl, rfl⟩ := h
    exact ⟨T, rfl, r⟩
  | o :: l, T, tr, tr', H, H', r, h => by
    simp only [opsG, r.wanted, r.eval, stepG_eq, forceAV_eq, forceH_eq] at h
    simp only [opsF]
    split at h
    · next hw =>
      rw [if_pos hw]
      split at h
      · next v H1 hs => rw [hs]; exact opsG_of (r.put _ _) h
      · cases h
    · next hw => rw [if_neg hw]; exact opsG_of (r.put _ _) h
def listOf (n : Nat) (tr : Trie AV) : List AV := (List.range n).map fun i => (tr.get i).getD (.tup [])
theorem Rep.list {n : Nat} {T : List AV} {tr : Trie AV} (r : Rep n T tr) : listOf n tr = T := by
  apply List.ext_getElem?
  intro i
  unfold listOf
  rw [List.getElem?_map]
  by_cases hi : i < n
  · rw [List.getElem?_range hi, Option.map_some, r.2 i, List.getElem?_eq_getElem (by rw [r.1]; exact hi)]; rfl
  · rw [List.getElem?_eq_none (by simpa using Nat.le_of_not_lt hi), List.getElem?_eq_none (by rw [r.1]; omega)]; rfl
def treeFrom : List AV → Nat → Trie AV → Trie AV
  | [], _, tr => tr
  | v :: l, k, tr => treeFrom l (k + 1) (tr.set k v)
def treeOf (T : List AV) : Trie AV := treeFrom T 0 .nil
theorem get_treeFrom : ∀ (l : List AV) (k : Nat) (tr : Trie AV) (i : Nat), (treeFrom l k tr).get i = if k ≤ i ∧ i < k + l.length then l[i - k]? else tr.get i
  | [], k, tr, i => by simp only [treeFrom, List.length_nil]; rw [if_neg (by omega)]
  | v :: l, k, tr, i => by
    simp only [treeFrom, get_treeFrom l, Trie.get_set, List.length_cons]
    by_cases h0 : i = k
    · subst h0
      rw [if_neg (by omega), if_pos rfl, if_pos (by omega)]; simp
    · rw [if_neg h0]
      by_cases h1 : k + 1 ≤ i ∧ i < k + 1 + l.length
      · rw [if_pos h1, if_pos (by omega), show i - k = (i - (k + 1)) + 1 from by omega]; simp
      · rw [if_neg h1, if_neg (by omega)]
theorem Rep.tree (T : List AV) : Rep T.length T (treeOf T) := by
  refine ⟨rfl, fun i => ?_⟩
  unfold treeOf
  rw [get_treeFrom]
  by_cases h : i < T.length
  · rw [if_pos (by omega)]; rfl
  · rw [if_neg (by omega), List.getElem?_eq_none (by omega)]; rfl
def regionG (P : Program) (tbl : List (Nat × List (Nat × Nat))) (call : CallA) (id : Nat) (ops : Array Oper) (draw : Bool) (n : Nat) (tr : Trie AV) (H : AHeap) : Option (Trie AV × AHeap) :=
  let slow := match regionT P tbl call id ops true (listOf n tr, H) with
    | some (T', H') => if T'.length = n then some (treeOf T', H') else none
    | none => none
  match draw with
  | false => opsG P call ops n ops.toList tr H
  | true => match tbl.find? (fun e => e.1 == id) with
    | some (_, []) => opsG P call ops n ops.toList tr H
    | _ => slow
theorem regionG_of {P : Program} {tbl : List (Nat × List (Nat × Nat))} {call : CallA} {id : Nat} {ops : Array Oper} {draw : Bool} {n : Nat} {T : List AV} {tr tr' : Trie AV} {H H' : AHeap} (r : Rep n T tr)
    (h : regionG P tbl call id ops draw n tr H = some (tr', H')) : ∃ T', regionF P tbl call id ops draw (T, H) = some (T', H') ∧ Rep n T' tr' := by
  unfold regionG at h
  unfold regionF
  have slow : (match regionT P tbl call id ops true (listOf n tr, H) with
      | some (T', H') => if T'.length = n then some (treeOf T', H') else none
      | none => none) = some (tr', H') → ∃ T', regionT P tbl call id ops true (T, H) = some (T', H') ∧ Rep n T' tr' := by
    intro h
    rw [r.list] at h
    split at h
    · next T1 H1 h1 =>
      split at h
      · next hn =>
        simp only [Option.some.injEq, Prod.mk.injEq] at h
        obtain ⟨rfl, rfl⟩ := h
        exact ⟨T1, h1, by have := Rep.tree T1; rwa [hn] at this⟩
      · cases h
    · cases h
  cases draw with
  | false => exact opsG_of r h
  | true =>
    simp only at h ⊢
    split at h
    · next heq => rw [heq]; exact opsG_of r h
    · next hne =>
      have e : (match tbl.find? (fun e => e.1 == id) with
        | some (_, []) => opsF P call ops ops.toList T H
        | _ => regionT P tbl call id ops true (T, H)) = regionT P tbl call id ops true (T, H) := by
        split
        · next heq => exact absurd heq (hne _)
        · rfl
      simp only [e]
      exact slow h
def iterG {σ : Type} (body : σ → Option (Ex × σ)) : Nat → σ → Option (Ex × σ)
  | 0, _ => none
  | n + 1, s => match body s with
    | some (.normal, s') => iterG body n s'
    | r => r
def execG (P : Program) (tbl : List (Nat × List (Nat × Nat))) (call : CallA) (n N : Nat) : Code → Trie AV × AHeap → Option (Ex × (Trie AV × AHeap))
  | .skip, s => some (.normal, s)
  | .region id ops draw, s => (regionG P tbl call id ops draw N s.1 s.2).map fun r => (.normal, r)
  | .seq a b, s => match execG P tbl call n N a s with
    | some (.normal, s') => execG P tbl call n N b s'
    | r => r
  | .cond c a b, s => match evalG s.1 c with
    | some (.one (.bool true)) => execG P tbl call n N a s
    | some (.one (.bool false)) => execG P tbl call n N b s
    | _ => none
  | .block id b, s => match execG P tbl call n N b s with
    | some (.exit id', s') => if id' = id then some (.normal, s') else some (.exit id', s')
    | r => r
  | .loop b, s => iterG (fun s => execG P tbl call n N b s) n s
  | .exit id, s => some (.exit id, s)
  | .scope b, s => execG P tbl call n N b s
  | .ret, s => some (.ret, s)
  | .rangeFunc f params assign body, s => match execA P call n (.rangeFunc f params assign body) (listOf N s.1, s.2) with
    | some (e, (_, H')) => some (e, (s.1, H'))
    | none => none
  | _, _ => none
theorem execG_of {P : Program} {tbl : List (Nat × List (Nat × Nat))} {call : CallA} {n N : Nat} : ∀ {c : Code} {T : List AV} {tr tr' : Trie AV} {H H' : AHeap} {e : Ex}, Rep N T tr → execG P tbl call n N c (tr, H) = some (e, (tr', H')) → ∃ T', execF P tbl call n c (T, H) = some (e, (T', H')) ∧ Rep N T' tr'
  | .skip, T, tr, tr', H, H', e, r, h => by
    simp only [execG, Option.some.injEq, Prod.mk.injEq] at h
    obtain ⟨rfl, rfl, rfl⟩ := h
    exact ⟨T, rfl, r⟩
  | .region id ops draw, T, tr, tr', H, H', e, r, h => by
    simp only [execG, Option.map_eq_some_iff, Prod.mk.injEq] at h
    obtain ⟨q, hq, rfl, rfl⟩ := h
    obtain ⟨T', h1, h2⟩ := regionG_of r hq
    exact ⟨T', by simp only [execF, h1]; rfl, h2⟩
  | .seq a b, T, tr, tr', H, H', e, r, h => by
    simp only [execG] at h
    simp only [execF]
    cases hx : execG P tbl call n N a (tr, H) with
    | none => rw [hx] at h; cases h
    | some q =>
      obtain ⟨e1, tr1, H1⟩ := q
      obtain ⟨T1, h1, r1⟩ := execG_of r hx
      rw [hx] at h
      rw [h1]
      cases e1 with
      | normal => exact execG_of r1 h
      | exit i =>
        simp only [Option.some.injEq, Prod.mk.injEq] at h
        obtain ⟨rfl, rfl, rfl⟩ := h
        exact ⟨T1, rfl, r1⟩
      | ret =>
        simp only [Option.some.injEq, Prod.mk.injEq] at h
        obtain ⟨rfl, rfl, rfl⟩ := h
        exact ⟨T1, rfl, r1⟩
  | .cond x a b, T, tr, tr', H, H', e, r, h => by
    simp only [execG, r.eval] at h
    simp only [execF]
    split at h
    · next hx => rw [hx]; exact execG_of r h
    · next hx => rw [hx]; exact execG_of r h
    · cases h
  | .block id b, T, tr, tr', H, H', e, r, h => by
    simp only [execG] at h
    simp only [execF]
    cases hx : execG P tbl call n N b (tr, H) with
    | none => rw [hx] at h; cases h
    | some q =>
      obtain ⟨e1, tr1, H1⟩ := q
      obtain ⟨T1, h1, r1⟩ := execG_of r hx
      rw [hx] at h
      rw [h1]
      cases e1 with
      | normal =>
        simp only [Option.some.injEq, Prod.mk.injEq] at h
        obtain ⟨rfl, rfl, rfl⟩ := h
        exact ⟨T1, rfl, r1⟩
      | exit i =>
        simp only at h ⊢
        split at h
        · next hi =>
          simp only [Option.some.injEq, Prod.mk.injEq] at h
          obtain ⟨rfl, rfl, rfl⟩ := h
          exact ⟨T1, by rw [if_pos hi], r1⟩
        · next hi =>
          simp only [Option.some.injEq, Prod.mk.injEq] at h
          obtain ⟨rfl, rfl, rfl⟩ := h
          exact ⟨T1, by rw [if_neg hi], r1⟩
      | ret =>
        simp only [Option.some.injEq, Prod.mk.injEq] at h
        obtain ⟨rfl, rfl, rfl⟩ := h
        exact ⟨T1, rfl, r1⟩
  | .loop b, T, tr, tr', H, H', e, r, h => by
    simp only [execG] at h
    simp only [execF]
    have key : ∀ (m : Nat) (T : List AV) (tr : Trie AV) (H : AHeap), Rep N T tr → iterG (fun s => execG P tbl call n N b s) m (tr, H) = some (e, (tr', H')) → ∃ T', iterA (fun s => execF P tbl call n b s) m (T, H) = some (e, (T', H')) ∧ Rep N T' tr' := by
      intro m
      induction m with
      | zero => intro T tr H r h; cases h
      | succ m ih =>
        intro T tr H r h
        rw [iterG] at h
        rw [iterA]
        cases hx : execG P tbl call n N b (tr, H) with
        | none => rw [hx] at h; cases h
        | some q =>
          obtain ⟨e1, tr1, H1⟩ := q
          obtain ⟨T1, h1, r1⟩ := execG_of r hx
          rw [hx] at h
          rw [h1]
          cases e1 with
          | normal => exact ih T1 tr1 H1 r1 h
          | exit i =>
            simp only [Option.some.injEq, Prod.mk.injEq] at h
            obtain ⟨rfl, rfl, rfl⟩ := h
            exact ⟨T1, rfl, r1⟩
          | ret =>
            simp only [Option.some.injEq, Prod.mk.injEq] at h
            obtain ⟨rfl, rfl, rfl⟩ := h
            exact ⟨T1, rfl, r1⟩
    exact key n T tr H r h
  | .exit id, T, tr, tr', H, H', e, r, h => by
    simp only [execG, Option.some.injEq, Prod.mk.injEq] at h
    obtain ⟨rfl, rfl, rfl⟩ := h
    exact ⟨T, rfl, r⟩
  | .scope b, T, tr, tr', H, H', e, r, h => by
    simp only [execG] at h
    simp only [execF]
    exact execG_of r h
  | .ret, T, tr, tr', H, H', e, r, h => by
    simp only [execG, Option.some.injEq, Prod.mk.injEq] at h
    obtain ⟨rfl, rfl, rfl⟩ := h
    exact ⟨T, rfl, r⟩
  | .rangeFunc f ps x y, T, tr, tr', H, H', e, r, h => by
    simp only [execG, r.list] at h
    have hf : execF P tbl call n (.rangeFunc f ps x y) (T, H) = execA P call n (.rangeFunc f ps x y) (T, H) := rfl
    rw [hf]
    cases hx : execA P call n (.rangeFunc f ps x y) (T, H) with
    | none => rw [hx] at h; cases h
    | some q =>
      obtain ⟨e1, T1, H1⟩ := q
      rw [hx] at h
      simp only [Option.some.injEq, Prod.mk.injEq] at h
      obtain ⟨rfl, rfl, rfl⟩ := h
      have : T1 = T := by
        simp only [execA] at hx
        split at hx
        · split at hx
          · cases hx
          · split at hx
            · split at hx
              · split at hx
                · cases hx
                · simp only [Option.some.injEq, Prod.mk.injEq] at hx
                  exact hx.2.1.symm
              · cases hx
            · cases hx
        · cases hx
      subst this
      exact ⟨_, rfl, r⟩
  | .label _, _, _, _, _, _, _, _, h => by simp [execG] at h
  | .goto .., _, _, _, _, _, _, _, h => by simp [execG] at h
  | .refuse .., _, _, _, _, _, _, _, h => by simp [execG] at h
def roundG (P : Program) (call : CallA) (n : Nat) (l : Nat) (args : List AV) (H : AHeap) : Option (AV × AHeap) :=
  match H.get l with
  | some (.loop _ _ tmps params assign body) =>
    if args.length = params.size then
      match execG P [] call n tmps.length assign (treeOf (setAll tmps (params.toList.zip args)), H) with
      | some (.normal, s1) => match s1.2.get l with
        | some (.loop 0 p1 t1 ps1 a1 b1) => match execG P [] call n tmps.length body (s1.1, s1.2.set l (.loop 1 p1 t1 ps1 a1 b1)) with
          | some (e, s3) => match s3.2.get l with
            | some (.loop _ _ t4 ps4 a4 b4) => some (.one (.bool (decide (e = .normal))), s3.2.set l (.loop (if e = .normal then 0 else 2) e t4 ps4 a4 b4))
            | _ => none
          | none => none
        | _ => none
      | _ => none
    else none
  | _ => none
theorem tblOk_nil : ∀ c : Code, tblOk [] c = true
  | .skip | .label _ | .exit _ | .ret | .goto .. | .rangeFunc .. | .refuse .. => rfl
  | .region _ _ draw => by cases draw <;> rfl
  | .seq a b => by simp only [tblOk, tblOk_nil a, tblOk_nil b]; rfl
  | .cond _ a b => by simp only [tblOk, tblOk_nil a, tblOk_nil b]; rfl
  | .block _ b => by simp only [tblOk, tblOk_nil b]
  | .loop b => by simp only [tblOk, tblOk_nil b]
  | .scope b => by simp only [tblOk, tblOk_nil b]
theorem length_setAll : ∀ (l : List (Tmp × AV)) (T : List AV), (setAll T l).length = T.length
  | [], _ => rfl
  | x :: l, T => by simp only [setAll, length_setAll l, List.length_set]
theorem execG_A {P : Program} {call : CallA} {n N : Nat} {tbl : List (Nat × List (Nat × Nat))} {c : Code} (ht : tblOk tbl c = true) {T : List AV} {tr tr' : Trie AV} {H H' : AHeap} {e : Ex} (r : Rep N T tr) (h : execG P tbl call n N c (tr, H) = some (e, (tr', H'))) :
    ∃ T', execA P call n c (T, H) = some (e, (T', H')) ∧ Rep N T' tr' := by
  obtain ⟨T', h1, h2⟩ := execG_of r h
  rw [execF_eq, execT_eq ht] at h1
  exact ⟨T', h1, h2⟩
theorem roundG_of {P : Program} {call : CallA} {n l : Nat} {args : List AV} {H : AHeap} {r} (h : roundG P call n l args H = some r) : roundA P call n l args H = some r := by
  unfold roundG at h
  unfold roundA
  split at h
  · next st pe tmps params assign body hg =>
    split at h
    · next hl =>
      rw [hg]
      simp only
      rw [if_pos hl]
      split at h
      · next s1 h1 =>
        obtain ⟨tr1, H1⟩ := s1
        have r0 : Rep tmps.length (setAll tmps (params.toList.zip args)) (treeOf (setAll tmps (params.toList.zip args))) := by
          have := Rep.tree (setAll tmps (params.toList.zip args))
          rwa [length_setAll] at this
        obtain ⟨T1, e1, r1⟩ := execG_A (tblOk_nil _) r0 h1
        rw [e1]
        simp only
        split at h
        · next p1 t1 ps1 a1 b1 hg1 =>
          simp only at hg1
          rw [hg1]
          simp only
          split at h
          · next e s3 h3 =>
            obtain ⟨tr3, H3⟩ := s3
            obtain ⟨T3, e3, r3⟩ := execG_A (tblOk_nil _) r1 h3
            rw [e3]
            exact h
          · cases h
        · cases h
      · cases h
    · cases h
  · cases h
def callG (P : Program) [BaseC P] (tbls : List (List (Nat × List (Nat × Nat)))) : Nat → CallA
  | 0, _, _, _ => none
  | n + 1, f, args, H =>
    if BaseC.has P f then BaseC.call P f args H else
    match P.funcs[f]? with
    | some fn => match fn.body with
      | some c => match execG P (tbls[f]?.getD []) (callG P tbls n) n (args ++ List.replicate (fn.ntmps - args.length) (AV.tup [])).length c (treeOf args, H) with
        | some (.normal, s) | some (.ret, s) => match resultsA P (listOf (args ++ List.replicate (fn.ntmps - args.length) (AV.tup [])).length s.1) s.2 fn.results.toList with
          | some [p] => some (unpart p, s.2)
          | some ps => some (.tup ps, s.2)
          | none => none
        | _ => none
      | none => none
    | none => if P.funcs.size ≤ f then roundG P (callG P tbls n) n (f - P.funcs.size) args H else none
theorem callG_le {P : Program} [BaseC P] {tbls : List (List (Nat × List (Nat × Nat)))} (ht : TblsOk P tbls) : ∀ n, CallLe (callG P tbls n) (callA P n)
  | 0 => by intro f a H r hr; cases hr
  | n + 1 => by
    intro f a H r hr
    unfold callG at hr
    unfold callA
    split at hr
    · next hb => rw [if_pos hb]; exact hr
    next hb0 =>
    rw [if_neg hb0]
    split at hr
    · next fn hf =>
      rw [hf]
      simp only
      split at hr
      · next c hb =>
        rw [hb]
        simp only
        have r0 : Rep (a ++ List.replicate (fn.ntmps - a.length) (AV.tup [])).length (a ++ List.replicate (fn.ntmps - a.length) (AV.tup [])) (treeOf a) := by
          refine ⟨rfl, fun i => ?_⟩
          have := (Rep.tree a).2 i
          rw [this]
          by_cases hi : i < a.length
          · rw [List.getElem?_append_left hi]
          · rw [List.getElem?_eq_none (by omega), List.getElem?_append_right (by omega), List.getElem?_replicate]
            split <;> rfl
        revert hr
        cases hx : execG P (tbls[f]?.getD []) (callG P tbls n) n (a ++ List.replicate (fn.ntmps - a.length) (AV.tup [])).length c (treeOf a, H) with
        | none => intro hr; cases hr
        | some q =>
          obtain ⟨e, tr', H'⟩ := q
          obtain ⟨T', h1, r1⟩ := execG_A (ht f fn c hf hb) r0 hx
          rw [execA_mono (callG_le ht n) (Nat.le_refl _) h1]
          have hl := r1.list
          intro hr
          cases e
          case exit => exact hr
          all_goals
            simp only at hr
            rw [hl] at hr
            exact hr
      · cases hr
    · next hf =>
      rw [hf]
      split at hr
      · next hg => simp only [if_pos hg]; exact roundA_mono (callG_le ht n) (Nat.le_refl _) (roundG_of hr)
      · cases hr
theorem callE_of_G {P : Program} [BaseC P] {tbls : List (List (Nat × List (Nat × Nat)))} (h : TblsOk P tbls) {n : Nat} {f : FuncId} {args : List AV} {H : AHeap} {r} (hr : callG P tbls n f args H = some r) : callE P f args H = some r :=
  callE_some.2 ⟨n, callG_le h n _ _ _ _ hr⟩
end Go.AI
end
