/- Joined by a program: what the proof of the law leans on, part 7. -/
import Derived.Test.YtkpjcnlljdccjaaGreatA6
set_option linter.unusedVariables false
set_option linter.unusedSimpArgs false
section
namespace Go.AI
set_option linter.unusedVariables false
def opsK : List Oper → Program → CallA → Array Oper → Nat → Trie AV → AHeap → Option (Trie AV × AHeap)
  | [] => fun _ _ _ _ tr H => some (tr, H)
  | o :: rest => fun P call ops n tr H =>
    if wantedG ops tr o then
      match stepG o.op P call (evalG tr) H with
      | some (v, H') => forceAV v fun v => forceH H' fun H' => opsK rest P call ops n (putG n tr o.dst v) H'
      | none => none
    else opsK rest P call ops n (putG n tr o.dst (.tup [])) H
theorem opsK_eq {P : Program} {call : CallA} {ops : Array Oper} {n : Nat} : ∀ (l : List Oper) (tr : Trie AV) (H : AHeap), opsK l P call ops n tr H = opsG P call ops n l tr H
  | [], _, _ => rfl
  | o :: l, tr, H => by
    simp only [opsK, opsG, forceAV_eq, forceH_eq]
    split
    · cases stepG o.op P call (evalG tr) H with
      | none => rfl
      | some r => exact opsK_eq l _ _
    · exact opsK_eq l _ _
def regionK (draw : Bool) : Program → List (Nat × List (Nat × Nat)) → CallA → Nat → Array Oper → Nat → Trie AV → AHeap → Option (Trie AV × AHeap) :=
  match draw with
  | false => fun P tbl call id ops n tr H => opsK ops.toList P call ops n tr H
  | true => fun P tbl call id ops n tr H => match tbl.find? (fun e => e.1 == id) with
    | some (_, []) => opsK ops.toList P call ops n tr H
    | _ => regionG P tbl call id ops true n tr H
theorem regionK_eq {P : Program} {tbl : List (Nat × List (Nat × Nat))} {call : CallA} {id : Nat} {ops : Array Oper} {draw : Bool} {n : Nat} {tr : Trie AV} {H : AHeap} : regionK draw P tbl call id ops n tr H = regionG P tbl call id ops draw n tr H := by
  unfold regionK
  cases draw with
  | false => simp only [opsK_eq, regionG]
  | true =>
    simp only [opsK_eq]
    split
    · next h => simp only [regionG, h]
    · rfl
abbrev KSt := Trie AV × AHeap
def iterK : Nat → (KSt → Option (Ex × KSt)) → KSt → Option (Ex × KSt)
  | 0 => fun _ _ => none
  | n + 1 => fun body s => match body s with
    | some (.normal, s') => iterK n body s'
    | r => r
theorem iterK_eq : ∀ (n : Nat) (body : KSt → Option (Ex × KSt)) (s : KSt), iterK n body s = iterG body n s
  | 0, _, _ => rfl
  | n + 1, body, s => by
    simp only [iterK, iterG]
    cases body s with
    | none => rfl
    | some q =>
      obtain ⟨e, s'⟩ := q
      cases e with
      | normal => exact iterK_eq n body s'
      | exit i => rfl
      | ret => rfl
def execK : Code → Program → List (Nat × List (Nat × Nat)) → CallA → Nat → Nat → KSt → Option (Ex × KSt)
  | .skip => fun _ _ _ _ _ s => some (.normal, s)
  | .region id ops draw => fun P tbl call n N s => match regionK draw P tbl call id ops N s.1 s.2 with
    | some r => some (.normal, r)
    | none => none
  | .seq a b => fun P tbl call n N s => match execK a P tbl call n N s with
    | some (.normal, s') => execK b P tbl call n N s'
    | r => r
  | .cond c a b => fun P tbl call n N s => match evalG s.1 c with
    | some (.one (.bool true)) => execK a P tbl call n N s
    | some (.one (.bool false)) => execK b P tbl call n N s
    | _ => none
  | .block id b => fun P tbl call n N s => match execK b P tbl call n N s with
    | some (.exit id', s') => if id' = id then some (.normal, s') else some (.exit id', s')
    | r => r
  | .loop b => fun P tbl call n N s => iterK n (fun s => execK b P tbl call n N s) s
  | .exit id => fun _ _ _ _ _ s => some (.exit id, s)
  | .scope b => fun P tbl call n N s => execK b P tbl call n N s
  | .ret => fun _ _ _ _ _ s => some (.ret, s)
  | c => fun P tbl call n N s => execG P tbl call n N c s
theorem execK_eq {P : Program} {tbl : List (Nat × List (Nat × Nat))} {call : CallA} {n N : Nat} : ∀ (c : Code) (s : KSt), execK c P tbl call n N s = execG P tbl call n N c s
  | .skip, _ => rfl
  | .label _, _ => rfl
  | .region id ops draw, s => by
    simp only [execK, execG, regionK_eq]
    cases regionG P tbl call id ops draw N s.1 s.2 <;> rfl
  | .seq a b, s => by
    simp only [execK, execG]
    rw [execK_eq a]
    cases execG P tbl call n N a s with
    | none => rfl
    | some q =>
      obtain ⟨e, s'⟩ := q
      cases e with
      | normal => exact execK_eq b s'
      | exit i => rfl
      | ret => rfl
  | .cond x a b, s => by
    simp only [execK, execG]
    rw [execK_eq a, execK_eq b]
    rfl
  | .block id b, s => by
    simp only [execK, execG]
    rw [execK_eq b]
    rfl
  | .loop b, s => by
    simp only [execK, execG]
    rw [iterK_eq]
    have : (fun s => execK b P tbl call n N s) = fun s => execG P tbl call n N b s := funext fun s => execK_eq b s
    rw [this]
  | .exit id, _ => rfl
  | .scope b, s => by
    simp only [execK, execG]
    exact execK_eq b s
  | .ret, _ => rfl
  | .goto .., _ => rfl
  | .rangeFunc .., _ => rfl
  | .refuse .., _ => rfl
def callK (P : Program) [BaseC P] (tbls : List (List (Nat × List (Nat × Nat)))) : Nat → CallA
  | 0, _, _, _ => none
  | n + 1, f, args, H =>
    if BaseC.has P f then BaseC.call P f args H else
    match P.funcs[f]? with
    | some fn => match fn.body with
      | some c => match execK c P (tbls[f]?.getD []) (callK P tbls n) n (args ++ List.replicate (fn.ntmps - args.length) (AV.tup [])).length (treeOf args, H) with
        | some (.normal, s) | some (.ret, s) => match resultsA P (listOf (args ++ List.replicate (fn.ntmps - args.length) (AV.tup [])).length s.1) s.2 fn.results.toList with
          | some [p] => some (unpart p, s.2)
          | some ps => some (.tup ps, s.2)
          | none => none
        | _ => none
      | none => none
    | none => if P.funcs.size ≤ f then roundG P (callK P tbls n) n (f - P.funcs.size) args H else none
theorem callK_eq {P : Program} [BaseC P] {tbls : List (List (Nat × List (Nat × Nat)))} : ∀ n, callK P tbls n = callG P tbls n
  | 0 => rfl
  | n + 1 => by
    funext f args H
    unfold callK callG
    rw [callK_eq n]
    simp only [execK_eq]
    rfl
theorem callE_of_K {P : Program} [BaseC P] {tbls : List (List (Nat × List (Nat × Nat)))} (h : TblsOk P tbls) {n : Nat} {f : FuncId} {args : List AV} {H : AHeap} {r} (hr : callK P tbls n f args H = some r) : callE P f args H = some r :=
  callE_of_G h (by rw [← callK_eq]; exact hr)
end Go.AI
end
