/- Joined by a program: what the proof of the law leans on, part 4. -/
import Derived.Test.YtkpjcnlljdccjaaGreatA3
set_option linter.unusedVariables false
set_option linter.unusedSimpArgs false
section
namespace Go.AI
variable {P : Program} {call : CallA}
def tblOk (tbl : List (Nat × List (Nat × Nat))) : Code → Bool
  | .region id ops draw =>
    if draw then match tbl.find? (fun e => e.1 == id) with
      | some (_, ps) => drawOk ops && decide (pairsOf ops = ps)
      | none => true
    else true
  | .seq a b => tblOk tbl a && tblOk tbl b
  | .cond _ a b => tblOk tbl a && tblOk tbl b
  | .block _ b => tblOk tbl b
  | .loop b => tblOk tbl b
  | .scope b => tblOk tbl b
  | _ => true
def regionT (P : Program) (tbl : List (Nat × List (Nat × Nat))) (call : CallA) (id : Nat) (ops : Array Oper) (draw : Bool) (s : St) : Option St :=
  if draw then match tbl.find? (fun e => e.1 == id) with
    | some (_, []) => opsA P call ops ops.toList s.1 s.2
    | some (_, p :: ps) => match statesA P call ops ops.toList s with
      | some sts => if (p :: ps).all (pairOk P ops sts) then sts.getLast? else none
      | none => none
    | none => regionA P call ops draw s
  else opsA P call ops ops.toList s.1 s.2
def execT (P : Program) (tbl : List (Nat × List (Nat × Nat))) (call : CallA) (n : Nat) : Code → St → Option (Ex × St)
  | .skip, s => some (.normal, s)
  | .region id ops draw, s => (regionT P tbl call id ops draw s).map fun r => (.normal, r)
  | .seq a b, s => match execT P tbl call n a s with
    | some (.normal, s') => execT P tbl call n b s'
    | r => r
  | .cond c a b, s => match evalA s.1 c with
    | some (.one (.bool true)) => execT P tbl call n a s
    | some (.one (.bool false)) => execT P tbl call n b s
    | _ => none
  | .block id b, s => match execT P tbl call n b s with
    | some (.exit id', s') => if id' = id then some (.normal, s') else some (.exit id', s')
    | r => r
  | .loop b, s => iterA (fun s => execT P tbl call n b s) n s
  | .exit id, s => some (.exit id, s)
  | .scope b, s => execT P tbl call n b s
  | .ret, s => some (.ret, s)
  | c, s => execA P call n c s
theorem regionT_eq {tbl : List (Nat × List (Nat × Nat))} {id : Nat} {ops : Array Oper} {draw : Bool} {s : St} (h : tblOk tbl (.region id ops draw) = true) : regionT P tbl call id ops draw s = regionA P call ops draw s := by
  unfold regionT
  cases draw with
  | false => rfl
  | true =>
    simp only [if_true]
    simp only [tblOk, if_true] at h
    split
    · next heq =>
      rw [heq] at h
      simp only [Bool.and_eq_true, decide_eq_true_eq] at h
      simp only [regionA, Bool.true_eq_false, if_false, h.1, if_true, h.2]
    · next heq =>
      rw [heq] at h
      simp only [Bool.and_eq_true, decide_eq_true_eq] at h
      simp only [regionA, Bool.true_eq_false, if_false, h.1, if_true, h.2]
      rfl
    · rfl
theorem iterA_congr {f g : St → Option (Ex × St)} (h : ∀ s, f s = g s) (n : Nat) (s : St) : iterA f n s = iterA g n s := by
  have : f = g := funext h
  rw [this]
theorem execT_eq {tbl : List (Nat × List (Nat × Nat))} {n : Nat} : ∀ {c : Code} {s : St}, tblOk tbl c = true → execT P tbl call n c s = execA P call n c s
  | .skip, _, _ => rfl
  | .label _, _, _ => rfl
  | .region id ops draw, s, h => by simp only [execT, execA, regionT_eq h]
  | .seq a b, s, h => by
    simp only [tblOk, Bool.and_eq_true] at h
    simp only [execT, execA]
    rw [execT_eq h.1]
    cases execA P call n a s with
    | none => rfl
    | some q =>
      obtain ⟨e, s'⟩ := q
      cases e with
      | normal => exact execT_eq h.2
      | exit i => rfl
      | ret => rfl
  | .cond x a b, s, h => by
    simp only [tblOk, Bool.and_eq_true] at h
    simp only [execT, execA]
    rw [execT_eq h.1, execT_eq h.2]
    rfl
  | .block id b, s, h => by
    simp only [tblOk] at h
    simp only [execT, execA]
    rw [execT_eq h]
    rfl
  | .loop b, s, h => by
    simp only [tblOk] at h
    simp only [execT, execA]
    exact iterA_congr (fun s => execT_eq h) n s
  | .exit id, _, _ => rfl
  | .scope b, s, h => by
    simp only [tblOk] at h
    simp only [execT, execA]
    exact execT_eq h
  | .ret, _, _ => rfl
  | .goto .., _, _ => rfl
  | .rangeFunc .., _, _ => rfl
  | .refuse .., _, _ => rfl
def TblsOk (P : Program) (tbls : List (List (Nat × List (Nat × Nat)))) : Prop :=
  ∀ (f : Nat) (fn : Func) (c : Code), P.funcs[f]? = some fn → fn.body = some c → tblOk (tbls[f]?.getD []) c = true
def tblsOk (P : Program) (tbls : List (List (Nat × List (Nat × Nat)))) : Bool :=
  (P.funcs.toList.zipIdx).all fun p => match p.1.body with
    | some c => tblOk (tbls[p.2]?.getD []) c
    | none => true
theorem TblsOk.of {tbls : List (List (Nat × List (Nat × Nat)))} (h : tblsOk P tbls = true) : TblsOk P tbls := by
  intro f fn c hf hb
  unfold tblsOk at h
  rw [List.all_eq_true] at h
  have := h (fn, f) (by
    rw [List.mem_zipIdx_iff_getElem?]
    rw [Array.getElem?_toList]; exact hf)
  simp only [hb] at this
  exact this
end Go.AI
end
