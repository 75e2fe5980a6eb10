/- Joined by a program: what the proof of the law leans on, part 1. -/
import Derived.Orders
import Derived.LoopN
import Derived.Laws.Slices
import Derived.Laws.Cells
import Derived.Laws.Append
import Derived.Laws.World
import Derived.Laws.MakeOwn
import Derived.Laws.Rows
import Derived.Laws.CopyRow
import Derived.Laws.AppendOwn
set_option linter.unusedVariables false
set_option linter.unusedSimpArgs false
section
namespace Go.AI
abbrev APtr := Nat × Nat
inductive AC where
  | bool (b : Bool)
  | int (k : IntKind) (n : Int)
  | str (s : ByteArray)
  | ptr (a : Option APtr)
  | sl (a : Option APtr) (sz len : Nat) (cap : Option Nat)
  | map (r : Option Nat)
  | fn (f : FuncId) (first caps : List APtr)
  | nilFn
  | nilIface
  | yield (l : Nat)
  deriving DecidableEq, Inhabited
inductive AV where
  | one (c : AC)
  | agg (cs : List AC)
  | tup (vs : List (Bool × List AC))
  deriving DecidableEq, Inhabited
inductive Trie (α : Type) where
  | nil
  | node (v : Option α) (l r : Trie α)
namespace Trie
variable {α : Type}
def get : Trie α → Nat → Option α
  | nil, _ => none
  | node v l r, n => cond (Nat.beq n 0) v (cond (Nat.beq (Nat.mod n 2) 1) (l.get (Nat.div n 2)) (r.get (Nat.sub (Nat.div n 2) 1)))
theorem get_node (v : Option α) (l r : Trie α) (n : Nat) : (node v l r).get n = if n = 0 then v else if n % 2 = 1 then l.get (n / 2) else r.get (n / 2 - 1) := by
  rw [get]
  by_cases h0 : n = 0
  · rw [if_pos h0]; subst h0; rfl
  · rw [if_neg h0]
    have e0 : Nat.beq n 0 = false := by cases n with
      | zero => exact absurd rfl h0
      | succ k => rfl
    rw [e0]
    simp only [cond_false]
    by_cases h1 : n % 2 = 1
    · rw [if_pos h1]
      have e1 : Nat.beq (Nat.mod n 2) 1 = true := by rw [show Nat.mod n 2 = 1 from h1]; rfl
      rw [e1]; rfl
    · rw [if_neg h1]
      have e1 : Nat.beq (Nat.mod n 2) 1 = false := by
        cases hb : Nat.beq (Nat.mod n 2) 1 with
        | false => rfl
        | true => exact absurd (Nat.eq_of_beq_eq_true hb) h1
      rw [e1]; rfl
def parts : Trie α → Option α × Trie α × Trie α
  | nil => (none, nil, nil)
  | node v l r => (v, l, r)
def setN : Nat → Trie α → Nat → α → Trie α
  | 0, t, _, x => node (some x) t.parts.2.1 t.parts.2.2
  | k + 1, t, n, x =>
    cond (Nat.beq n 0) (node (some x) t.parts.2.1 t.parts.2.2)
      (cond (Nat.beq (Nat.mod n 2) 1) (node t.parts.1 (setN k t.parts.2.1 (Nat.div n 2) x) t.parts.2.2)
        (node t.parts.1 t.parts.2.1 (setN k t.parts.2.2 (Nat.sub (Nat.div n 2) 1) x)))
theorem setN_succ (k : Nat) (t : Trie α) (n : Nat) (x : α) : setN (k + 1) t n x =
    if n = 0 then node (some x) t.parts.2.1 t.parts.2.2
    else if n % 2 = 1 then node t.parts.1 (setN k t.parts.2.1 (n / 2) x) t.parts.2.2
    else node t.parts.1 t.parts.2.1 (setN k t.parts.2.2 (n / 2 - 1) x) := by
  rw [setN]
  by_cases h0 : n = 0
  · rw [if_pos h0]; subst h0; rfl
  · rw [if_neg h0]
    have e0 : Nat.beq n 0 = false := by cases n with
      | zero => exact absurd rfl h0
      | succ k => rfl
    rw [e0]
    simp only [cond_false]
    by_cases h1 : n % 2 = 1
    · rw [if_pos h1]
      have e1 : Nat.beq (Nat.mod n 2) 1 = true := by rw [show Nat.mod n 2 = 1 from h1]; rfl
      rw [e1]; rfl
    · rw [if_neg h1]
      have e1 : Nat.beq (Nat.mod n 2) 1 = false := by
        cases hb : Nat.beq (Nat.mod n 2) 1 with
        | false => rfl
        | true => exact absurd (Nat.eq_of_beq_eq_true hb) h1
      rw [e1]; rfl
def set (t : Trie α) (n : Nat) (x : α) : Trie α := setN n t n x
end Trie
inductive Ex where
  | normal
  | exit (id : Nat)
  | ret
  deriving DecidableEq, Inhabited
inductive AObj where
  | row (elem : TypeId) (grp st : Nat) (ro : Bool) (cells : List (Option AC))
  | map (es : List (Value × AV))
  | loop (st : Nat) (pend : Ex) (tmps : List AV) (params : Array Tmp) (assign body : Code)
  deriving Inhabited
structure AHeap where
  size : Nat
  objs : Trie AObj
  exts : Trie (Nat × Bool)
namespace AHeap
def empty : AHeap := ⟨0, .nil, .nil⟩
def get (H : AHeap) (b : Nat) : Option AObj := if b < H.size then H.objs.get b else none
def set (H : AHeap) (b : Nat) (o : AObj) : AHeap := { H with objs := H.objs.set b o }
def push (H : AHeap) (o : AObj) : AHeap := { H with size := H.size + 1, objs := H.objs.set H.size o }
def ext (H : AHeap) (g : Nat) : Nat × Bool := (H.exts.get g).getD (0, true)
def setExt (H : AHeap) (g : Nat) (e : Nat × Bool) : AHeap := { H with exts := H.exts.set g e }
def newRow (H : AHeap) (elem : TypeId) (cells : List (Option AC)) : AHeap :=
  (H.push (.row elem H.size 0 false cells)).setExt H.size (cells.length, false)
end AHeap
def takeAll (cells : List (Option AC)) (o n : Nat) : Option (List AC) :=
  match n with
  | 0 => some []
  | n + 1 => match cells[o]? with
    | some (some c) => (takeAll cells (o + 1) n).map (c :: ·)
    | _ => none
def splice (cells : List (Option AC)) (o : Nat) : List (Option AC) → List (Option AC)
  | [] => cells
  | v :: vs => splice (cells.set o v) (o + 1) vs
def blot (g lo hi : Nat) : AObj → AObj
  | .row elem g' st ro cells => if g' = g then .row elem g' st ro (cells.mapIdx fun i c => if lo ≤ st + i ∧ st + i < hi then none else c) else .row elem g' st ro cells
  | o => o
def AHeap.blotAll (H : AHeap) (g lo hi : Nat) : Nat → AHeap
  | 0 => H
  | b + 1 => match H.get b with
    | some o => (H.blotAll g lo hi b).set b (blot g lo hi o)
    | none => H.blotAll g lo hi b
def AHeap.blotGroup (H : AHeap) (g lo hi : Nat) : AHeap := if (H.ext g).1 ≤ lo then H else H.blotAll g lo hi H.size
def AHeap.load (H : AHeap) (a : APtr) (n : Nat) : Option (List AC) :=
  match H.get a.1 with
  | some (.row _ _ _ _ cells) => takeAll cells a.2 n
  | _ => none
def AHeap.stores (H : AHeap) (b e k st off : Nat) (cells : List (Option AC)) (xs : List (Option AC)) : AHeap :=
  (if (H.ext k).2 then H.blotGroup k (st + off) (st + off + xs.length) else H).set b (.row e k st false (splice cells off xs))
def AHeap.store (H : AHeap) (a : APtr) (vs : List AC) : Option AHeap :=
  match H.get a.1 with
  | some (.row elem g st false cells) =>
    if a.2 + vs.length ≤ cells.length then some (H.stores a.1 elem g st a.2 cells (vs.map some)) else none
  | _ => none
def AC.val : AC → Option Value
  | .bool b => some (.bool b)
  | .int k n => some (.int k n)
  | .str s => some (.string s)
  | .ptr none => some (.pointer none)
  | .sl none _ 0 (some 0) => some (.slice none 0 0)
  | .map none => some (.map none)
  | .fn f [] [] => some (.func (.func f) #[] #[])
  | .nilFn => some .nilFunc
  | .nilIface => some .nilIface
  | _ => none
def cellsVal : List AC → Option (List Value)
  | [] => some []
  | c :: cs => match c.val, cellsVal cs with
    | some v, some vs => some (v :: vs)
    | _, _ => none
def AV.val : AV → Option Value
  | .one c => c.val
  | .agg cs => (cellsVal cs).map fun vs => .agg vs.toArray
  | .tup _ => none
def ofCell : Value → Option AC
  | .bool b => some (.bool b)
  | .int k n => some (.int k n)
  | .string s => some (.str s)
  | .pointer none => some (.ptr none)
  | .slice none 0 0 => some (.sl none 0 0 (some 0))
  | .map none => some (.map none)
  | .func (.func f) a b => if a.size = 0 ∧ b.size = 0 then some (.fn f [] []) else none
  | .nilFunc => some .nilFn
  | .nilIface => some .nilIface
  | _ => none
def ofCells : List Value → Option (List AC)
  | [] => some []
  | v :: vs => match ofCell v, ofCells vs with
    | some c, some cs => some (c :: cs)
    | _, _ => none
def ofPart : Value → Option (Bool × List AC)
  | .agg cs => (ofCells cs.toList).map fun l => (true, l)
  | v => (ofCell v).map fun c => (false, [c])
def ofParts : List Value → Option (List (Bool × List AC))
  | [] => some []
  | v :: vs => match ofPart v, ofParts vs with
    | some c, some cs => some (c :: cs)
    | _, _ => none
def ofVal : Value → Option AV
  | .agg cs => (ofCells cs.toList).map .agg
  | .tuple vs => (ofParts vs.toList).map .tup
  | v => (ofCell v).map .one
def AV.cells : AV → Option (List AC)
  | .one c => some [c]
  | .agg cs => some cs
  | .tup _ => none
def unpart : Bool × List AC → AV
  | (false, [c]) => .one c
  | (_, cs) => .agg cs
def AV.part : AV → Option (Bool × List AC)
  | .one c => some (false, [c])
  | .agg cs => some (true, cs)
  | .tup _ => none
abbrev St := List AV × AHeap
def evalA (tmps : List AV) : Operand → Option AV
  | .tmp t => some (tmps[t]?.getD (.tup []))
  | .const v => ofVal v
  | .global _ => none
  | .func f => some (.one (.fn f [] []))
def pureRun {α : Type} (P : Program) : Sem α → Option α
  | .pure a => some a
  | .program k => pureRun P (k P)
  | _ => none
section
variable (P : Program)
def isAggT (t : TypeId) : Option Bool :=
  match P.underlying t with
  | some (.struct _) | some (.array _ _) => some true
  | some _ => some false
  | none => none
def sizeT (t : TypeId) : Option Nat := (P.info? t).map (·.size)
def zeroA (t : TypeId) : Option AV := (P.info? t).bind fun i => i.zero.bind ofVal
def partA (t : TypeId) (cs : List AC) (off : Nat) : Option AV :=
  match isAggT P t, sizeT P t with
  | some true, some n => some (.agg ((cs.drop off).take n))
  | some false, some _ => (cs[off]?).map .one
  | _, _ => none
def fillA (place : Nat → Option (Nat × Nat)) (cells : List AC) : List (Nat × AV) → Option (List AC)
  | [] => some cells
  | (i, v) :: rest =>
    match place i, v.cells with
    | some (off, size), some cs =>
      if cs.length ≠ size ∨ off + cs.length > cells.length then none
      else fillA place (cells.take off ++ cs ++ cells.drop (off + cs.length)) rest
    | _, _ => none
def evalParts (tmps : List AV) : List (Nat × Operand) → Option (List (Nat × AV))
  | [] => some []
  | (i, x) :: r => match evalA tmps x, evalParts tmps r with
    | some v, some vs => some ((i, v) :: vs)
    | _, _ => none
def evalAll (tmps : List AV) : List Operand → Option (List AV)
  | [] => some []
  | x :: r => match evalA tmps x, evalAll tmps r with
    | some v, some vs => some (v :: vs)
    | _, _ => none
def intA : AV → Option Int
  | .one (.int _ n) => some n
  | _ => none
def ptrs : List AV → Option (List APtr)
  | [] => some []
  | .one (.ptr (some a)) :: r => (ptrs r).map (a :: ·)
  | _ => none
def nilA : TypeDesc → AC → AC → Option Bool
  | .pointer _, .ptr a, .ptr b => if a.isNone then some b.isNone else if b.isNone then some false else none
  | .slice _, .sl a _ _ _, .sl b _ _ _ => if a.isNone then some b.isNone else if b.isNone then some false else none
  | .map _ _, .map a, .map b => if a.isNone then some b.isNone else if b.isNone then some false else none
  | .func _ _ _, .nilFn, .nilFn => some true
  | .func _ _ _, .nilFn, .fn _ _ _ => some false
  | .func _ _ _, .fn _ _ _, .nilFn => some false
  | _, _, _ => none
def pureBin (op : BinOp) (t : TypeId) (x y : Operand) (a b : Value) : Option AV :=
  (pureRun P (do eqGuard op t x y a b; binOp op t a b)).bind ofVal
def binA (op : BinOp) (t : TypeId) (x y : Operand) (a b : AV) : Option AV :=
  match a, b with
  | .one (.int k m), .one (.int k' n) =>
    match op with
    | .shl => if 0 ≤ n then some (.one (.int k (k.wrap (m * 2 ^ (min n.toNat k.bits))))) else none
    | .shr => if 0 ≤ n then some (.one (.int k (m.fdiv (2 ^ (min n.toNat k.bits))))) else none
    | _ =>
      if k = k' then
        match op with
        | .add => some (.one (.int k (k.wrap (m + n))))
        | .sub => some (.one (.int k (k.wrap (m - n))))
        | .mul => some (.one (.int k (k.wrap (m * n))))
        | .quo => if n = 0 then none else some (.one (.int k (k.wrap (m.tdiv n))))
        | .rem => if n = 0 then none else some (.one (.int k (m.tmod n)))
        | .and => some (.one (.int k (k.wrap ((BitVec.ofInt k.bits m &&& BitVec.ofInt k.bits n).toNat : Int))))
        | .or => some (.one (.int k (k.wrap ((BitVec.ofInt k.bits m ||| BitVec.ofInt k.bits n).toNat : Int))))
        | .xor => some (.one (.int k (k.wrap ((BitVec.ofInt k.bits m ^^^ BitVec.ofInt k.bits n).toNat : Int))))
        | .andNot => some (.one (.int k (k.wrap ((BitVec.ofInt k.bits m &&& ~~~ BitVec.ofInt k.bits n).toNat : Int))))
        | .eql => some (.one (.bool (m == n)))
        | .neq => some (.one (.bool (m != n)))
        | .lss => some (.one (.bool (decide (m < n))))
        | .leq => some (.one (.bool (decide (m ≤ n))))
        | .gtr => some (.one (.bool (decide (m > n))))
        | .geq => some (.one (.bool (decide (m ≥ n))))
        | _ => none
      else none
  | a, b =>
    match a.val, b.val with
    | some u, some v => pureBin P op t x y u v
    | _, _ =>
      match a, b, op with
      | .one c, .one d, .eql => (P.underlying t).bind fun k => (nilA k c d).map fun r => .one (.bool r)
      | .one c, .one d, .neq => (P.underlying t).bind fun k => (nilA k c d).map fun r => .one (.bool !r)
      | _, _, _ => none
def maxBytes : Nat := 140737488355328
def findNowA (kind : TypeDesc) (k : Value) : List (Value × AV) → Nat → Option (Option (Nat × AV))
  | [], _ => some none
  | e :: es, i =>
    match Instr.sameNow kind k e.1 with
    | some true => some (some (i, e.2))
    | some false => findNowA kind k es (i + 1)
    | none => none
def findAskingA (kt : TypeId) (k : Value) : List (Value × AV) → Nat → Option (Option (Nat × AV))
  | [], _ => some none
  | e :: es, i =>
    match pureRun P (Op.equal kt k e.1) with
    | some true => some (some (i, e.2))
    | some false => findAskingA kt k es (i + 1)
    | none => none
def findA (kt : TypeId) (k : Value) (es : List (Value × AV)) : Option (Option (Nat × AV)) :=
  match P.underlying kt with
  | some d => match findNowA d k es 0 with
    | some r => some r
    | none => findAskingA P kt k es 0
  | none => none
def keyOkA (kt : TypeId) (empty : Bool) (k : Value) : Bool := (pureRun P (Instr.checkKey empty 10000 kt k)).isSome
def plainCell : Value → Bool
  | .bool _ | .int _ _ | .string _ => true
  | _ => false
def plainKey : Value → Bool
  | .agg cs => cs.toList.all plainCell
  | v => plainCell v
def AHeap.alias (H : AHeap) (e k st : Nat) (lo : Nat) (cells : List (Option AC)) : AHeap :=
  ((H.blotGroup k lo (st + cells.length)).push (.row e k st false cells)).setExt k (max (H.ext k).1 (st + cells.length), true)
def appendA (H : AHeap) (sz bytes : Nat) (elem : TypeId) (s : AC) (n : Nat) (xs : List AC) : Option (AC × AHeap) :=
  match s with
  | .sl a sz' len cap =>
    if (len + n) * bytes > maxBytes ∨ len + n > 4611686018427387904 then none
    else if n = 0 then some (s, H)
    else match a with
      | none => some (.sl (some (H.size, 0)) sz n none, H.newRow elem (xs.map some))
      | some (b, o) =>
        if sz' ≠ sz then none else
        match H.get b with
        | some (.row e g st ro cells) =>
          if o + len * sz > cells.length then none else
          match cap with
          | some c =>
            if len + n ≤ c then
              if ro ∨ o + len * sz + xs.length > cells.length then none
              else some (.sl a sz (len + n) cap, H.stores b e g st (o + len * sz) cells (xs.map some))
            else some (.sl (some (H.size, 0)) sz (len + n) none, H.newRow elem ((cells.drop o).take (len * sz) ++ xs.map some))
          | none =>
            if ro then none else
            some (.sl (some (H.size, 0)) sz (len + n) none, H.alias e g (st + o) (st + (o + len * sz)) ((cells.drop o).take (len * sz) ++ xs.map some))
        | _ => none
  | _ => none
def srcA (H : AHeap) (sz : Nat) : AC → Option (Nat × List AC)
  | .sl none _ _ _ => some (0, [])
  | .sl (some b) sz' len _ => if len = 0 then some (0, []) else if sz' = sz then (H.load b (len * sz)).map fun cs => (len, cs) else none
  | .str s => if sz = 1 then some (s.size, s.data.toList.map fun b => .int .u8 b.toNat) else none
  | _ => none
def sliceA (size : Nat) (s : AC) (lo hi : Option Int) : Option AC :=
  match s with
  | .sl a sz len cap =>
    if (a = none ∨ sz = size) ∧ 0 ≤ lo.getD 0 ∧ lo.getD 0 ≤ hi.getD len ∧ hi.getD len ≤ len then
      some (.sl (a.map fun p => (p.1, p.2 + (lo.getD 0).toNat * sz)) sz ((hi.getD len).toNat - (lo.getD 0).toNat) (cap.map (· - (lo.getD 0).toNat)))
    else none
  | _ => none
def slice3A (size : Nat) (s : AC) (lo : Option Int) (hi mx : Int) : Option AC :=
  match s with
  | .sl a sz len _ =>
    if (a = none ∨ sz = size) ∧ 0 ≤ lo.getD 0 ∧ lo.getD 0 ≤ hi ∧ hi ≤ mx ∧ mx ≤ len then
      some (.sl (a.map fun p => (p.1, p.2 + (lo.getD 0).toNat * sz)) sz (hi.toNat - (lo.getD 0).toNat) (some (mx.toNat - (lo.getD 0).toNat)))
    else none
  | _ => none
def optInt (tmps : List AV) : Option Operand → Option (Option Int)
  | none => some none
  | some x => (evalA tmps x).bind fun v => (intA v).map some
def fieldsA (t : TypeId) : Option (List Field) :=
  match P.underlying t with
  | some (.struct fs) => some fs.toList
  | _ => none
def placesA : List Field → Option (List (Nat × Nat))
  | [] => some []
  | f :: fs => match sizeT P f.type, placesA fs with
    | some n, some ps => some ((f.offset, n) :: ps)
    | _, _ => none
def lenA (H : AHeap) (vs : List AV) (argTypes : Array TypeId) : Option (AV × AHeap) :=
  match vs, (argTypes[0]?).bind P.underlying with
  | [.one (.str s)], some .string => some (.one (.int .i64 s.size), H)
  | [.one (.sl _ _ n _)], some (.slice _) => some (.one (.int .i64 n), H)
  | [.agg _], some (.array n _) => some (.one (.int .i64 n), H)
  | [.one (.map none)], some (.map _ _) => some (.one (.int .i64 0), H)
  | [.one (.map (some b))], some (.map _ _) => match H.get b with
    | some (.map es) => some (.one (.int .i64 es.length), H)
    | _ => none
  | _, _ => none
def minA (H : AHeap) : List AV → Option (AV × AHeap)
  | [.one (.int k m), .one (.int k' n)] => if k = k' then some (.one (.int k (if n < m then n else m)), H) else none
  | [.one (.int k m), .one (.int k' n), .one (.int k'' p)] =>
    if k = k' ∧ k = k'' then some (.one (.int k (if p < (if n < m then n else m) then p else (if n < m then n else m))), H) else none
  | _ => none
def maxA (H : AHeap) : List AV → Option (AV × AHeap)
  | [.one (.int k m), .one (.int k' n)] => if k = k' then some (.one (.int k (if n > m then n else m)), H) else none
  | _ => none
def isSrcT : TypeDesc → Bool
  | .slice _ => true
  | .string => true
  | _ => false
def appA (H : AHeap) (vs : List AV) (argTypes : Array TypeId) : Option (AV × AHeap) :=
  match vs, (argTypes[0]?).bind P.underlying, (argTypes[1]?).bind P.underlying with
  | [.one s, .one x], some (.slice e), some xt => match P.info? e with
    | some i =>
      if isSrcT xt = false ∨ i.size = 0 ∨ i.bytes = 0 ∨ ((zeroA P e).bind AV.cells).map List.length ≠ some i.size then none else
      (srcA H i.size x).bind fun p => (appendA H i.size i.bytes e s p.1 p.2).bind fun r => some (.one r.1, r.2)
    | none => none
  | _, _, _ => none
def copyA (H : AHeap) (vs : List AV) (argTypes : Array TypeId) : Option (AV × AHeap) :=
  match vs, (argTypes[0]?).bind P.underlying with
  | [.one (.sl a sz len _), .one x], some (.slice e) => (sizeT P e).bind fun size => (srcA H size x).bind fun p =>
    if min p.1 len = 0 then some (.one (.int .i64 0), H)
    else match a with
      | some a => if sz = size ∧ size ≠ 0 then
          (H.store a (p.2.take (min p.1 len * size))).bind fun H' => some (.one (.int .i64 (min p.1 len : Nat)), H')
        else none
      | none => none
  | _, _ => none
def clearA (H : AHeap) (vs : List AV) (argTypes : Array TypeId) : Option (AV × AHeap) :=
  match vs, (argTypes[0]?).bind P.underlying with
  | [.one (.sl a sz len _)], some (.slice e) =>
    if len = 0 then some (.tup [], H) else
    ((zeroA P e).bind AV.cells).bind fun zero => match a with
      | some a => if zero.length = sz ∧ sz ≠ 0 then (H.store a (List.flatten (List.replicate len zero))).bind fun H' => some (.tup [], H') else none
      | none => none
  | _, _ => none
def deleteA (H : AHeap) (vs : List AV) (argTypes : Array TypeId) : Option (AV × AHeap) :=
  match vs, (argTypes[0]?).bind P.underlying with
  | [.one (.map none), k], some (.map kt _) => k.val.bind fun k => if keyOkA P kt true k then some (.tup [], H) else none
  | [.one (.map (some b)), k], some (.map kt _) => k.val.bind fun k => match H.get b with
    | some (.map es) => if keyOkA P kt es.isEmpty k then
        (findA P kt k es).bind fun f => match f with
          | some p => some (.tup [], H.set b (.map (es.eraseIdx p.1)))
          | none => some (.tup [], H)
      else none
    | _ => none
  | _, _ => none
def builtinA (H : AHeap) (b : Builtin) (vs : List AV) (argTypes : Array TypeId) : Option (AV × AHeap) :=
  match b with
  | .len => lenA P H vs argTypes
  | .min => minA H vs
  | .max => maxA H vs
  | .append => appA P H vs argTypes
  | .copy => copyA P H vs argTypes
  | .clear => clearA P H vs argTypes
  | .delete => deleteA P H vs argTypes
  | _ => none
def opA (o : Oper) (tmps : List AV) (H : AHeap) : Option (AV × AHeap) :=
  let ev := evalA tmps
  let pure (v : AV) : Option (AV × AHeap) := some (v, H)
  match o.op with
  | .move x | .assign x => (ev x).bind pure
  | .pick c a b => match ev c, ev a, ev b with
    | some (.one (.bool t)), some u, some v => pure (if t then u else v)
    | _, _, _ => none
  | .alloc t => match (zeroA P t).bind AV.cells with
    | some cs => some (.one (.ptr (some (H.size, 0))), H.newRow t (cs.map some))
    | none => none
  | .box t x => match (ev x).bind AV.cells with
    | some cs => some (.one (.ptr (some (H.size, 0))), H.newRow t (cs.map some))
    | none => none
  | .build t ps => match (zeroA P t).bind AV.cells, evalParts tmps ps.toList, P.underlying t with
    | some zero, some parts, some (.struct fs) => match placesA P fs.toList with
      | some places => (fillA (places[·]?) zero parts).bind fun cs => pure (.agg cs)
      | none => none
    | some zero, some parts, some (.array _ e) => match sizeT P e with
      | some size => (fillA (fun i => some (i * size, size)) zero parts).bind fun cs => pure (.agg cs)
      | none => none
    | _, _, _ => none
  | .buildSlice t len ps => match P.underlying t with
    | some (.slice e) => match sizeT P e, (zeroA P e).bind AV.cells, evalParts tmps ps.toList with
      | some size, some zero, some parts =>
        if size = 0 ∨ len * size > 16777216 ∨ zero.length ≠ size then none else
        (fillA (fun i => some (i * size, size)) (List.flatten (List.replicate len zero)) parts).bind fun cs =>
          some (.one (.sl (some (H.size, 0)) size len (some len)), H.newRow e (cs.map some))
      | _, _, _ => none
    | _ => none
  | .load t x => match ev x, isAggT P t, sizeT P t with
    | some (.one (.ptr (some a))), some true, some n => (H.load a n).bind fun cs => pure (.agg cs)
    | some (.one (.ptr (some a))), some false, some _ => match H.load a 1 with
      | some [c] => pure (.one c)
      | _ => none
    | _, _, _ => none
  | .store t x v => match ev x, (ev v).bind AV.cells, sizeT P t with
    | some (.one (.ptr (some a))), some cs, some n => if cs.length = n then (H.store a cs).bind fun H' => some (.tup [], H') else none
    | _, _, _ => none
  | .nilCheck x => match ev x with
    | some (.one (.ptr none)) | some (.one .nilIface) | some (.one .nilFn) => none
    | some v => pure v
    | none => none
  | .binOp op t x y _ => match ev x, ev y with
    | some a, some b => (binA P op t x y a b).bind pure
    | _, _ => none
  | .unOp op _ x => match op, ev x with
    | .not, some (.one (.bool b)) => pure (.one (.bool !b))
    | op, some v => (v.val.bind fun u => (pureRun P (Op.unary op u)).bind ofVal).bind pure
    | _, none => none
  | .convert s d x => (ev x).bind fun v => (v.val.bind fun u => (pureRun P (convert s d u)).bind ofVal).bind pure
  | .makeFunc (.func f) first caps => match (evalAll tmps first.toList).bind ptrs, (evalAll tmps caps.toList).bind ptrs with
    | some a, some b => pure (.one (.fn f a b))
    | _, _ => none
  | .makeMap t r => match P.underlying t with
    | some (.map _ _) => match r with
      | none => some (.one (.map (some H.size)), H.push (.map []))
      | some x => match (ev x).bind intA with
        | some _ => some (.one (.map (some H.size)), H.push (.map []))
        | none => none
    | _ => none
  | .makeSlice t l c => match P.underlying t with
    | some (.slice e) => match P.info? e, (zeroA P e).bind AV.cells, (ev l).bind intA, (ev c).bind intA with
      | some i, some zero, some len, some cap =>
        if 0 ≤ len ∧ len ≤ cap ∧ cap * i.bytes ≤ maxBytes ∧ cap ≤ 4611686018427387904 ∧ i.size ≠ 0 ∧ zero.length = i.size then
          some (.one (.sl (some (H.size, 0)) i.size len.toNat (some cap.toNat)), H.newRow e ((List.flatten (List.replicate cap.toNat zero)).map some))
        else none
      | _, _, _, _ => none
    | _ => none
  | .slice t x lo hi mx => match P.underlying t with
    | some (.slice e) => match ev x, optInt tmps lo, optInt tmps hi, optInt tmps mx, sizeT P e with
      | some (.one s), some l, some h, some none, some sz => if mx.isNone then (sliceA sz s l h).bind fun r => pure (.one r) else none
      | some (.one s), some l, some (some h), some (some m), some sz => (slice3A sz s l h m).bind fun r => pure (.one r)
      | _, _, _, _, _ => none
    | some .string => match ev x, optInt tmps lo, optInt tmps hi, mx with
      | some (.one (.str s)), some l, some h, none =>
        if 0 ≤ l.getD 0 ∧ l.getD 0 ≤ h.getD s.size ∧ h.getD s.size ≤ s.size then pure (.one (.str (s.extract (l.getD 0).toNat (h.getD s.size).toNat))) else none
      | _, _, _, _ => none
    | _ => none
  | .fieldAddr t x f => match ev x, fieldsA P t with
    | some (.one (.ptr (some a))), some fs => match fs[f]? with
      | some fd => match sizeT P fd.type with
        | some (_ + 1) => pure (.one (.ptr (some (a.1, a.2 + fd.offset))))
        | _ => none
      | none => none
    | _, _ => none
  | .field t x f => match (ev x), fieldsA P t with
    | some (.agg cs), some fs => (fs[f]?).bind fun fd => (partA P fd.type cs fd.offset).bind pure
    | _, _ => none
  | .indexAddr t x ix => match ev x, (ev ix).bind intA, P.underlying t with
    | some (.one (.sl (some a) sz len _)), some i, some (.slice e) =>
      if 0 ≤ i ∧ i < len ∧ sizeT P e = some sz ∧ sz ≠ 0 then pure (.one (.ptr (some (a.1, a.2 + i.toNat * sz)))) else none
    | some (.one (.ptr (some a))), some i, some (.array len e) =>
      if 0 ≤ i ∧ i < len then (sizeT P e).bind fun sz => if sz = 0 then none else pure (.one (.ptr (some (a.1, a.2 + i.toNat * sz)))) else none
    | _, _, _ => none
  | .index t x ix => match ev x, (ev ix).bind intA, P.underlying t with
    | some (.agg cs), some i, some (.array len e) =>
      if 0 ≤ i ∧ i < len then (sizeT P e).bind fun sz => (partA P e cs (i.toNat * sz)).bind pure else none
    | some (.one (.str s)), some i, some .string => if 0 ≤ i then (s[i.toNat]?).bind fun b => pure (.one (.int .u8 b.toNat)) else none
    | _, _, _ => none
  | .lookup t x ix ok => match P.underlying t, ev x, (ev ix).bind AV.val with
    | some (.map kt et), some (.one (.map r)), some k =>
      let es? : Option (List (Value × AV)) := match r with
        | none => some []
        | some b => match H.get b with
          | some (.map es) => some es
          | _ => none
      match es?, zeroA P et with
      | some es, some z =>
        if keyOkA P kt es.isEmpty k then
          match findA P kt k es with
          | some r =>
            let v := (r.map (·.2)).getD z
            if ok then v.part.bind fun p => pure (.tup [p, (false, [.bool r.isSome])]) else pure v
          | none => none
        else none
      | _, _ => none
    | _, _, _ => none
  | .mapUpdate t m k x | .insert t m k x => match P.underlying t, ev m, (ev k).bind AV.val, ev x with
    | some (.map kt _), some (.one (.map (some b))), some k, some v =>
      match H.get b with
      | some (.map es) =>
        if keyOkA P kt false k ∧ plainKey k ∧ v.part.isSome then
          match findA P kt k es with
          | some (some (i, _)) => if (es[i]?).any (fun e => decide (Instr.sameBits 10000 e.1 k = true)) then some (.tup [], H.set b (.map (es.modify i fun _ => (k, v)))) else none
          | some none => some (.tup [], H.set b (.map (es ++ [(k, v)])))
          | none => none
        else none
      | _ => none
    | _, _, _, _ => none
  | .extract x ix => match ev x with
    | some (.tup vs) => (vs[ix]?).bind fun p => pure (unpart p)
    | _ => none
  | .call { callee := .builtin b, args, argTypes } => (evalAll tmps args.toList).bind fun vs => builtinA P H b vs argTypes
  | _ => none
def calleeA (c : Call) (tmps : List AV) : Option (FuncId × List AV) :=
  match c.callee with
  | .value f => match evalA tmps f, evalAll tmps c.args.toList with
    | some (.one (.fn g first caps)), some args => if g < P.funcs.size then some (g, first.map (fun a => .one (.ptr (some a))) ++ args ++ caps.map (fun a => .one (.ptr (some a)))) else none
    | some (.one (.yield l)), some args => some (P.funcs.size + l, args)
    | _, _ => none
  | _ => none
abbrev CallA := FuncId → List AV → AHeap → Option (AV × AHeap)
class BaseC (P : Program) where
  has : FuncId → Bool
  call : CallA
def stepA (call : CallA) (o : Oper) (tmps : List AV) (H : AHeap) : Option (AV × AHeap) :=
  match o.op with
  | .call c => match c.callee with
    | .value _ => (calleeA P c tmps).bind fun p => call p.1 p.2 H
    | _ => opA P o tmps H
  | _ => opA P o tmps H
def putA (tmps : List AV) (dst : Option Tmp) (v : AV) : List AV :=
  match dst with
  | some d => tmps.set d v
  | none => tmps
def wantedA (ops : Array Oper) (tmps : List AV) (o : Oper) : Bool :=
  match o.guard with
  | none => true
  | some (j, want) => match ((ops[j]?).bind (·.dst)).bind (tmps[·]?) with
    | some (.one (.bool b)) => b == want
    | _ => false
def opsA (call : CallA) (ops : Array Oper) : List Oper → List AV → AHeap → Option (List AV × AHeap)
  | [], tmps, H => some (tmps, H)
  | o :: rest, tmps, H =>
    if wantedA ops tmps o then
      match stepA P call o tmps H with
      | some (v, H') => opsA call ops rest (putA tmps o.dst v) H'
      | none => none
    else opsA call ops rest (putA tmps o.dst (.tup [])) H
def isEff : Op → Bool
  | .move _ | .assign _ | .pick .. | .build .. | .nilCheck _ | .binOp .. | .unOp .. | .convert .. | .makeFunc .. | .fieldAddr .. | .field .. | .indexAddr .. | .index .. | .extract .. | .slice ..
  | .load .. | .lookup .. | .alloc _ | .box .. | .buildSlice .. | .makeMap .. | .makeSlice .. => false
  | .call { callee := .builtin .len, .. } => false
  | .call { callee := .builtin .min, .. } => false
  | .call { callee := .builtin .max, .. } => false
  | _ => true
def isAlloc : Op → Bool
  | .alloc _ | .box .. | .buildSlice .. | .makeMap .. | .makeSlice .. => true
  | _ => false
def touchA (o : Oper) (tmps : List AV) : Option Nat :=
  match o.op with
  | .load _ x => match evalA tmps x with
    | some (.one (.ptr (some a))) => some a.1
    | _ => none
  | .lookup _ x _ _ => match evalA tmps x with
    | some (.one (.map r)) => r
    | _ => none
  | .call { callee := .builtin .len, args, .. } => match evalAll tmps args.toList with
    | some [.one (.map r)] => r
    | _ => none
  | _ => none
def isRead : Op → Bool
  | .load .. | .lookup .. => true
  | .call { callee := .builtin .len, .. } => true
  | _ => false
def ordered (b : Array Nat) (i j : Nat) : Bool := (b.getD (max i j) 0).testBit (min i j)
def pairsOf (ops : Array Oper) : List (Nat × Nat) :=
  let b := Region.before ops
  (List.range ops.size).flatMap fun i => match ops[i]? with
    | some x => if isRead x.op then ((List.range ops.size).filter fun j => i != j && (ops[j]?.any fun y => isEff y.op) && !ordered b i j).map fun j => (i, j) else []
    | none => []
def drawOk (ops : Array Oper) : Bool :=
  let b := Region.before ops
  (List.range ops.size).all fun j => match ops[j]? with
    | some y =>
      (y.after.all fun e => !Region.binds .any e || decide (e.on < j)) &&
      (match y.guard with
        | some (g, _) => ordered b g j && decide (g < j)
        | none => true) &&
      (List.range j).all fun i => match ops[i]? with
        | some x =>
          (!(isEff x.op && isEff y.op) || ordered b i j) &&
          (!(y.dst.isSome && (x.dst == y.dst || (x.looksAt ops).any (fun t => y.dst == some t))) || ordered b i j) &&
          (!(x.dst.isSome && (y.looksAt ops).any (fun t => x.dst == some t)) || ordered b i j)
        | none => true
    | none => true
def statesA (call : CallA) (ops : Array Oper) : List Oper → St → Option (List St)
  | [], s => some [s]
  | o :: rest, s =>
    if wantedA ops s.1 o then
      match stepA P call o s.1 s.2 with
      | some (v, H') => (statesA call ops rest (putA s.1 o.dst v, H')).map (s :: ·)
      | none => none
    else (statesA call ops rest (putA s.1 o.dst (.tup []), s.2)).map (s :: ·)
def pairOk (ops : Array Oper) (sts : List St) (p : Nat × Nat) : Bool :=
  match ops[p.1]?, sts[p.1]?, sts[p.2]?, sts[p.2 + 1]? with
  | some o, some si, some sj, some sk =>
    !wantedA ops si.1 o ||
    (let v := (opA P o si.1 si.2).map (·.1)
     if p.2 < p.1 then
       (match touchA o si.1 with
        | some b => decide (sj.2.size ≤ b) || decide ((opA P o si.1 sj.2).map (·.1) = v)
        | none => true)
     else decide ((opA P o si.1 sk.2).map (·.1) = v))
  | _, _, _, _ => false
def regionA (call : CallA) (ops : Array Oper) (draw : Bool) (s : St) : Option St :=
  if draw = false then opsA P call ops ops.toList s.1 s.2
  else if drawOk ops then
    match pairsOf ops with
    | [] => opsA P call ops ops.toList s.1 s.2
    | ps => match statesA P call ops ops.toList s with
      | some sts => if ps.all (pairOk P ops sts) then sts.getLast? else none
      | none => none
  else none
def iterA (body : St → Option (Ex × St)) : Nat → St → Option (Ex × St)
  | 0, _ => none
  | n + 1, s => match body s with
    | some (.normal, s') => iterA body n s'
    | r => r
def execA (call : CallA) (n : Nat) : Code → St → Option (Ex × St)
  | .skip, s => some (.normal, s)
  | .label _, s => some (.normal, s)
  | .region _ ops draw, s => (regionA P call ops draw s).map fun r => (.normal, r)
  | .seq a b, s => match execA call n a s with
    | some (.normal, s') => execA call n b s'
    | r => r
  | .cond c a b, s => match evalA s.1 c with
    | some (.one (.bool true)) => execA call n a s
    | some (.one (.bool false)) => execA call n b s
    | _ => none
  | .block id b, s => match execA call n b s with
    | some (.exit id', s') => if id' = id then some (.normal, s') else some (.exit id', s')
    | r => r
  | .loop b, s => iterA (fun s => execA call n b s) n s
  | .exit id, s => some (.exit id, s)
  | .scope b, s => execA call n b s
  | .ret, s => some (.ret, s)
  | .rangeFunc f params assign body, s => match evalA s.1 f with
    | some (.one (.fn g first caps)) =>
      if P.funcs.size ≤ g then none else
      match call g (first.map (fun a => .one (.ptr (some a))) ++ [.one (.yield s.2.size)] ++ caps.map (fun a => .one (.ptr (some a)))) (s.2.push (.loop 0 .normal s.1 params assign body)) with
      | some (_, H) => match H.get s.2.size with
        | some (.loop st pend t ps a b) => if st = 1 then none else some (pend, (s.1, H.set s.2.size (.loop 3 pend t ps a b)))
        | _ => none
      | none => none
    | _ => none
  | _, _ => none
def setAll (t : List AV) : List (Tmp × AV) → List AV
  | [] => t
  | (p, a) :: r => setAll (t.set p a) r
def roundA (call : CallA) (n : Nat) (l : Nat) (args : List AV) (H : AHeap) : Option (AV × AHeap) :=
  match H.get l with
  | some (.loop _ _ tmps params assign body) =>
    if args.length = params.size then
      match execA P call n assign (setAll tmps (params.toList.zip args), H) with
      | some (.normal, s1) => match s1.2.get l with
        | some (.loop 0 p1 t1 ps1 a1 b1) => match execA P call n body (s1.1, s1.2.set l (.loop 1 p1 t1 ps1 a1 b1)) with
          | some (e, s3) => match s3.2.get l with
            | some (.loop _ _ t4 ps4 a4 b4) => some (.one (.bool (decide (e = .normal))), s3.2.set l (.loop (if e = .normal then 0 else 2) e t4 ps4 a4 b4))
            | _ => none
          | none => none
        | _ => none
      | _ => none
    else none
  | _ => none
def resultsA (tmps : List AV) (H : AHeap) : List ResultVar → Option (List (Bool × List AC))
  | [] => some []
  | .tmp t :: r => match (tmps[t]?.getD (.tup [])).part, resultsA tmps H r with
    | some p, some ps => some (p :: ps)
    | _, _ => none
  | .cell a t :: r =>
    match tmps[a]?.getD (.tup []), isAggT P t, sizeT P t, resultsA tmps H r with
    | .one (.ptr (some a)), some true, some n, some ps => (H.load a n).map fun cs => (true, cs) :: ps
    | .one (.ptr (some a)), some false, some _, some ps => (H.load a 1).map fun cs => (false, cs) :: ps
    | _, _, _, _ => none
def callA [BaseC P] : Nat → CallA
  | 0, _, _, _ => none
  | n + 1, f, args, H =>
    if BaseC.has P f then BaseC.call P f args H else
    match P.funcs[f]? with
    | some fn => match fn.body with
      | some c => match execA P (callA n) n c (args ++ List.replicate (fn.ntmps - args.length) (.tup []), H) with
        | some (.normal, s) | some (.ret, s) => match resultsA P s.1 s.2 fn.results.toList with
          | some [p] => some (unpart p, s.2)
          | some ps => some (.tup ps, s.2)
          | none => none
        | _ => none
      | none => none
    | none => if P.funcs.size ≤ f then roundA P (callA n) n (f - P.funcs.size) args H else none
end
end Go.AI
end
section
namespace Go.AI
namespace Trie
variable {α : Type}
theorem get_parts (t : Trie α) (n : Nat) : t.get n = if n = 0 then t.parts.1 else if n % 2 = 1 then t.parts.2.1.get (n / 2) else t.parts.2.2.get (n / 2 - 1) := by
  cases t with
  | nil => simp [get, parts]
  | node v l r => simp [get_node, parts]
theorem get_setN (k : Nat) : ∀ (t : Trie α) (n : Nat) (x : α) (m : Nat), n ≤ k → (setN k t n x).get m = if m = n then some x else t.get m := by
  induction k with
  | zero =>
    intro t n x m h
    obtain rfl : n = 0 := by omega
    rw [get_parts t m]
    simp only [setN, get_node]
    by_cases hm : m = 0 <;> simp [hm]
  | succ k ih =>
    intro t n x m h
    rw [get_parts t m]
    rw [setN_succ]
    by_cases hn : n = 0
    · subst hn
      simp only [if_true, get_node]
      by_cases hm : m = 0 <;> simp [hm]
    · rw [if_neg hn]
      by_cases hp : n % 2 = 1
      · rw [if_pos hp]
        simp only [get_node]
        by_cases hm : m = 0
        · subst hm; simp [show ¬ (0 = n) from by omega]
        · simp only [if_neg hm]
          by_cases hq : m % 2 = 1
          · simp only [if_pos hq, ih _ _ _ _ (show n / 2 ≤ k from by omega)]
            by_cases e : m = n
            · subst e; simp
            · rw [if_neg (show ¬ (m / 2 = n / 2) from by omega), if_neg e]
          · simp only [if_neg hq]
            rw [if_neg (show ¬ m = n from by intro e; subst e; exact hq hp)]
      · rw [if_neg hp]
        simp only [get_node]
        by_cases hm : m = 0
        · subst hm; simp [show ¬ (0 = n) from by omega]
        · simp only [if_neg hm]
          by_cases hq : m % 2 = 1
          · simp only [if_pos hq]
            rw [if_neg (show ¬ m = n from by intro e; subst e; exact hp hq)]
          · simp only [if_neg hq, ih _ _ _ _ (show n / 2 - 1 ≤ k from by omega)]
            by_cases e : m = n
            · subst e; simp
            · rw [if_neg (show ¬ (m / 2 - 1 = n / 2 - 1) from by omega), if_neg e]
theorem get_set (t : Trie α) (n : Nat) (x : α) (m : Nat) : (t.set n x).get m = if m = n then some x else t.get m := get_setN n t n x m (Nat.le_refl _)
end Trie
namespace AHeap
@[simp] theorem size_set (H : AHeap) (b : Nat) (o : AObj) : (H.set b o).size = H.size := rfl
@[simp] theorem size_push (H : AHeap) (o : AObj) : (H.push o).size = H.size + 1 := rfl
@[simp] theorem size_setExt (H : AHeap) (g : Nat) (e : Nat × Bool) : (H.setExt g e).size = H.size := rfl
@[simp] theorem size_newRow (H : AHeap) (t : TypeId) (cs : List (Option AC)) : (H.newRow t cs).size = H.size + 1 := rfl
@[simp] theorem get_setExt (H : AHeap) (g : Nat) (e : Nat × Bool) (b : Nat) : (H.setExt g e).get b = H.get b := rfl
theorem get_set (H : AHeap) (b : Nat) (o : AObj) (m : Nat) : (H.set b o).get m = if m = b ∧ b < H.size then some o else H.get m := by
  simp only [get, set, Trie.get_set]
  by_cases h : m = b
  · subst h; by_cases hs : m < H.size <;> simp [hs]
  · simp [h]
theorem get_push (H : AHeap) (o : AObj) (m : Nat) : (H.push o).get m = if m = H.size then some o else H.get m := by
  simp only [get, push, Trie.get_set]
  by_cases h : m = H.size
  · subst h; simp
  · simp only [if_neg h]
    by_cases hs : m < H.size
    · simp [hs, Nat.lt_succ_of_lt hs]
    · simp [hs, show ¬ m < H.size + 1 from by omega]
theorem get_newRow (H : AHeap) (t : TypeId) (cs : List (Option AC)) (m : Nat) : (H.newRow t cs).get m = if m = H.size then some (.row t H.size 0 false cs) else H.get m := get_push H _ m
theorem get_ge {H : AHeap} {b : Nat} (h : H.size ≤ b) : H.get b = none := by simp [get, show ¬ b < H.size from by omega]
theorem get_lt {H : AHeap} {b : Nat} {o : AObj} (h : H.get b = some o) : b < H.size := by
  by_cases hb : b < H.size
  · exact hb
  · simp [get, hb] at h
@[simp] theorem ext_set (H : AHeap) (b : Nat) (o : AObj) (g : Nat) : (H.set b o).ext g = H.ext g := rfl
@[simp] theorem ext_push (H : AHeap) (o : AObj) (g : Nat) : (H.push o).ext g = H.ext g := rfl
theorem ext_setExt (H : AHeap) (g : Nat) (e : Nat × Bool) (g' : Nat) : (H.setExt g e).ext g' = if g' = g then e else H.ext g' := by
  simp only [ext, setExt, Trie.get_set]
  by_cases h : g' = g <;> simp [h]
theorem ext_newRow (H : AHeap) (t : TypeId) (cs : List (Option AC)) (g : Nat) : (H.newRow t cs).ext g = if g = H.size then (cs.length, false) else H.ext g := ext_setExt _ _ _ _
theorem size_blotAll (H : AHeap) (g lo hi : Nat) : ∀ n, (H.blotAll g lo hi n).size = H.size
  | 0 => rfl
  | n + 1 => by
    simp only [blotAll]
    split <;> simp [size_blotAll H g lo hi n]
theorem ext_blotAll (H : AHeap) (g lo hi : Nat) (g' : Nat) : ∀ n, (H.blotAll g lo hi n).ext g' = H.ext g'
  | 0 => rfl
  | n + 1 => by
    simp only [blotAll]
    split <;> simp [ext_blotAll H g lo hi g' n]
theorem get_blotAll (H : AHeap) (g lo hi : Nat) (m : Nat) : ∀ n, (H.blotAll g lo hi n).get m = if m < n then (H.get m).map (blot g lo hi) else H.get m
  | 0 => by simp [blotAll]
  | n + 1 => by
    simp only [blotAll]
    cases hg : H.get n with
    | none =>
      simp only [get_blotAll H g lo hi m n]
      by_cases e : m = n
      · subst e; simp [hg]
      · by_cases h : m < n
        · simp [h, show m < n + 1 from by omega]
        · simp [h, show ¬ m < n + 1 from by omega]
    | some o =>
      simp only [get_set, size_blotAll, get_blotAll H g lo hi m n]
      have hn := get_lt hg
      by_cases e : m = n
      · subst e; simp [hn, hg]
      · by_cases h : m < n
        · simp [e, h, show m < n + 1 from by omega]
        · simp [e, h, show ¬ m < n + 1 from by omega]
theorem size_blotGroup (H : AHeap) (g lo hi : Nat) : (H.blotGroup g lo hi).size = H.size := by
  unfold blotGroup; split
  · rfl
  · exact size_blotAll _ _ _ _ _
theorem ext_blotGroup (H : AHeap) (g lo hi g' : Nat) : (H.blotGroup g lo hi).ext g' = H.ext g' := by
  unfold blotGroup; split
  · rfl
  · exact ext_blotAll _ _ _ _ _ _
end AHeap
structure WF (H : AHeap) : Prop where
  lt : ∀ b e g st ro cs, H.get b = some (.row e g st ro cs) → g < H.size
  reach : ∀ b e g st ro cs, H.get b = some (.row e g st ro cs) → st + cs.length ≤ (H.ext g).1
  many : ∀ b1 b2 e1 g st1 ro1 cs1 e2 st2 ro2 cs2, b1 ≠ b2 → H.get b1 = some (.row e1 g st1 ro1 cs1) → H.get b2 = some (.row e2 g st2 ro2 cs2) → (H.ext g).2 = true
theorem blot_none {g lo hi : Nat} {o : AObj} (h : ∀ e st ro cs, o = .row e g st ro cs → st + cs.length ≤ lo) : blot g lo hi o = o := by
  cases o with
  | map es => rfl
  | loop => rfl
  | row e g' st ro cs =>
    simp only [blot]
    by_cases hg : g' = g
    · subst hg
      rw [if_pos rfl]
      have hl := h e st ro cs rfl
      congr 1
      apply List.ext_getElem?
      intro i
      simp only [List.getElem?_mapIdx]
      cases hi' : cs[i]? with
      | none => rfl
      | some c =>
        have : i < cs.length := by
          rcases Nat.lt_or_ge i cs.length with h | h
          · exact h
          · rw [List.getElem?_eq_none h] at hi'; cases hi'
        simp only [Option.map_some]
        rw [if_neg (by omega)]
    · rw [if_neg hg]
theorem AHeap.get_blotGroup {H : AHeap} (wf : WF H) (g lo hi m : Nat) : (H.blotGroup g lo hi).get m = (H.get m).map (blot g lo hi) := by
  unfold AHeap.blotGroup
  split
  · rename_i hle
    cases hm : H.get m with
    | none => rfl
    | some o =>
      simp only [Option.map_some]
      rw [blot_none]
      intro e st ro cs he
      subst he
      exact Nat.le_trans (wf.reach _ _ _ _ _ _ hm) hle
  · rw [AHeap.get_blotAll]
    by_cases h : m < H.size
    · rw [if_pos h]
    · rw [if_neg h, AHeap.get_ge (by omega)]; rfl
theorem WF.empty : WF AHeap.empty := ⟨fun b e g st ro cs h => by simp [AHeap.empty, AHeap.get] at h, fun b e g st ro cs h => by simp [AHeap.empty, AHeap.get] at h, fun b1 b2 e1 g st1 ro1 cs1 e2 st2 ro2 cs2 _ h => by simp [AHeap.empty, AHeap.get] at h⟩
theorem WF.newRow {H : AHeap} (wf : WF H) (t : TypeId) (cs : List (Option AC)) : WF (H.newRow t cs) := by
  constructor
  · intro b e g st ro cs' h
    rw [AHeap.get_newRow] at h
    simp only [AHeap.size_newRow]
    split at h
    · simp only [Option.some.injEq, AObj.row.injEq] at h; omega
    · have := wf.lt _ _ _ _ _ _ h; omega
  · intro b e g st ro cs' h
    rw [AHeap.get_newRow] at h
    rw [AHeap.ext_newRow]
    split at h
    · simp only [Option.some.injEq, AObj.row.injEq] at h
      obtain ⟨_, rfl, rfl, _, rfl⟩ := h
      simp
    · have := wf.lt _ _ _ _ _ _ h
      rw [if_neg (by omega)]
      exact wf.reach _ _ _ _ _ _ h
  · intro b1 b2 e1 g st1 ro1 cs1 e2 st2 ro2 cs2 hne h1 h2
    rw [AHeap.get_newRow] at h1 h2
    rw [AHeap.ext_newRow]
    split at h1
    · split at h2
      · omega
      · simp only [Option.some.injEq, AObj.row.injEq] at h1
        have := wf.lt _ _ _ _ _ _ h2; omega
    · split at h2
      · simp only [Option.some.injEq, AObj.row.injEq] at h2
        have := wf.lt _ _ _ _ _ _ h1; omega
      · have := wf.lt _ _ _ _ _ _ h1
        rw [if_neg (by omega)]
        exact wf.many _ _ _ _ _ _ _ _ _ _ _ hne h1 h2
theorem WF.pushMap {H : AHeap} (wf : WF H) (es : List (Value × AV)) : WF (H.push (.map es)) := by
  constructor
  · intro b e g st ro cs' h
    rw [AHeap.get_push] at h
    simp only [AHeap.size_push]
    split at h
    · cases h
    · have := wf.lt _ _ _ _ _ _ h; omega
  · intro b e g st ro cs' h
    rw [AHeap.get_push] at h
    split at h
    · cases h
    · exact wf.reach _ _ _ _ _ _ h
  · intro b1 b2 e1 g st1 ro1 cs1 e2 st2 ro2 cs2 hne h1 h2
    rw [AHeap.get_push] at h1 h2
    split at h1
    · cases h1
    · split at h2
      · cases h2
      · exact wf.many _ _ _ _ _ _ _ _ _ _ _ hne h1 h2
theorem WF.pushLoop {H : AHeap} (wf : WF H) (k : Nat) (p : Ex) (t : List AV) (ps : Array Tmp) (x y : Code) : WF (H.push (.loop k p t ps x y)) := by
  constructor
  · intro b e g st ro cs' h
    rw [AHeap.get_push] at h
    simp only [AHeap.size_push]
    split at h
    · cases h
    · have := wf.lt _ _ _ _ _ _ h; omega
  · intro b e g st ro cs' h
    rw [AHeap.get_push] at h
    split at h
    · cases h
    · exact wf.reach _ _ _ _ _ _ h
  · intro b1 b2 e1 g st1 ro1 cs1 e2 st2 ro2 cs2 hne h1 h2
    rw [AHeap.get_push] at h1 h2
    split at h1
    · cases h1
    · split at h2
      · cases h2
      · exact wf.many _ _ _ _ _ _ _ _ _ _ _ hne h1 h2
def sameKind : AObj → AObj → Prop
  | .row e g st ro cs, .row e' g' st' ro' cs' => e' = e ∧ g' = g ∧ st' = st ∧ ro' = ro ∧ cs'.length = cs.length
  | .map _, .map _ => True
  | .loop .., .loop .. => True
  | _, _ => False
theorem sameKind.refl (o : AObj) : sameKind o o := by cases o <;> simp [sameKind]
theorem sameKind.trans {a b c : AObj} (h : sameKind a b) (k : sameKind b c) : sameKind a c := by
  cases a <;> cases b <;> cases c <;> simp_all [sameKind]
theorem sameKind.symm {a b : AObj} (h : sameKind a b) : sameKind b a := by
  cases a <;> cases b <;> simp_all [sameKind]
theorem sameKind_blot (g lo hi : Nat) (o : AObj) : sameKind o (blot g lo hi o) := by
  cases o with
  | map es => trivial
  | loop => trivial
  | row e g' st ro cs => simp only [blot]; split <;> simp [sameKind]
theorem WF.same {H H' : AHeap} (wf : WF H) (hs : H'.size = H.size) (he : ∀ g, H'.ext g = H.ext g) (hg : ∀ b o', H'.get b = some o' → ∃ o, H.get b = some o ∧ sameKind o o') : WF H' := by
  constructor
  · intro b e g st ro cs' h
    obtain ⟨o, ho, hk⟩ := hg _ _ h
    cases o with
    | map es => exact hk.elim
    | loop => exact hk.elim
    | row e1 g1 st1 ro1 cs1 => obtain ⟨rfl, rfl, rfl, rfl, hl⟩ := hk; rw [hs]; exact wf.lt _ _ _ _ _ _ ho
  · intro b e g st ro cs' h
    obtain ⟨o, ho, hk⟩ := hg _ _ h
    cases o with
    | map es => exact hk.elim
    | loop => exact hk.elim
    | row e1 g1 st1 ro1 cs1 => obtain ⟨rfl, rfl, rfl, rfl, hl⟩ := hk; rw [he, hl]; exact wf.reach _ _ _ _ _ _ ho
  · intro b1 b2 e1 g st1 ro1 cs1 e2 st2 ro2 cs2 hne h1 h2
    obtain ⟨o1, ho1, hk1⟩ := hg _ _ h1
    obtain ⟨o2, ho2, hk2⟩ := hg _ _ h2
    cases o1 with
    | map es => exact hk1.elim
    | loop => exact hk1.elim
    | row _ _ _ _ _ =>
      cases o2 with
      | map es => exact hk2.elim
      | loop => exact hk2.elim
      | row _ _ _ _ _ =>
        obtain ⟨rfl, rfl, rfl, rfl, _⟩ := hk1
        obtain ⟨rfl, hg2, rfl, rfl, _⟩ := hk2
        subst hg2
        rw [he]
        exact wf.many _ _ _ _ _ _ _ _ _ _ _ hne ho1 ho2
abbrev Mu := Nat → Option (Nat × Nat)
def All2 {α β : Type} (R : α → β → Prop) : List α → List β → Prop
  | [], [] => True
  | a :: asx, b :: bs => R a b ∧ All2 R asx bs
  | _, _ => False
theorem All2.length {α β : Type} {R : α → β → Prop} : ∀ {l : List α} {m : List β}, All2 R l m → l.length = m.length
  | [], [], _ => rfl
  | _ :: _, _ :: _, h => by simp [All2.length h.2]
  | [], _ :: _, h => h.elim
  | _ :: _, [], h => h.elim
theorem All2.mono {α β : Type} {R S : α → β → Prop} (hRS : ∀ a b, R a b → S a b) : ∀ {l : List α} {m : List β}, All2 R l m → All2 S l m
  | [], [], _ => trivial
  | _ :: _, _ :: _, h => ⟨hRS _ _ h.1, All2.mono hRS h.2⟩
  | [], _ :: _, h => h.elim
  | _ :: _, [], h => h.elim
theorem All2.get {α β : Type} {R : α → β → Prop} : ∀ {l : List α} {m : List β} {i : Nat} {a : α}, All2 R l m → l[i]? = some a → ∃ b, m[i]? = some b ∧ R a b
  | [], _, _, _, _, h => by simp at h
  | x :: l, y :: m, 0, a, h, e => by simp at e; subst e; exact ⟨y, rfl, h.1⟩
  | x :: l, y :: m, i + 1, a, h, e => by simp at e ⊢; exact All2.get h.2 e
  | _ :: _, [], _, _, h, _ => h.elim
theorem All2.get' {α β : Type} {R : α → β → Prop} : ∀ {l : List α} {m : List β} {i : Nat} {b : β}, All2 R l m → m[i]? = some b → ∃ a, l[i]? = some a ∧ R a b
  | _, [], _, _, _, h => by simp at h
  | x :: l, y :: m, 0, a, h, e => by simp at e; subst e; exact ⟨x, rfl, h.1⟩
  | x :: l, y :: m, i + 1, a, h, e => by simp at e ⊢; exact All2.get' h.2 e
  | [], _ :: _, _, _, h, _ => h.elim
theorem All2.append {α β : Type} {R : α → β → Prop} : ∀ {l l' : List α} {m m' : List β}, All2 R l m → All2 R l' m' → All2 R (l ++ l') (m ++ m')
  | [], _, [], _, _, h' => h'
  | _ :: _, _, _ :: _, _, h, h' => ⟨h.1, All2.append h.2 h'⟩
  | [], _, _ :: _, _, h, _ => h.elim
  | _ :: _, _, [], _, h, _ => h.elim
theorem All2.set {α β : Type} {R : α → β → Prop} {a : α} {b : β} (hab : R a b) : ∀ {l : List α} {m : List β} (i : Nat), All2 R l m → All2 R (l.set i a) (m.set i b)
  | [], [], _, _ => trivial
  | _ :: _, _ :: _, 0, h => ⟨hab, h.2⟩
  | _ :: _, _ :: _, i + 1, h => ⟨h.1, All2.set hab i h.2⟩
  | [], _ :: _, _, h => h.elim
  | _ :: _, [], _, h => h.elim
theorem All2.replicate {α β : Type} {R : α → β → Prop} {a : α} {b : β} (hab : R a b) : ∀ n, All2 R (List.replicate n a) (List.replicate n b)
  | 0 => trivial
  | n + 1 => ⟨hab, All2.replicate hab n⟩
theorem All2.take {α β : Type} {R : α → β → Prop} : ∀ {l : List α} {m : List β} (n : Nat), All2 R l m → All2 R (l.take n) (m.take n)
  | _, _, 0, _ => by simp [All2]
  | [], [], _ + 1, _ => trivial
  | _ :: _, _ :: _, n + 1, h => ⟨h.1, All2.take n h.2⟩
  | [], _ :: _, _, h => h.elim
  | _ :: _, [], _, h => h.elim
theorem All2.drop {α β : Type} {R : α → β → Prop} : ∀ {l : List α} {m : List β} (n : Nat), All2 R l m → All2 R (l.drop n) (m.drop n)
  | _, _, 0, h => by simpa using h
  | [], [], _ + 1, _ => trivial
  | _ :: _, _ :: _, n + 1, h => by simpa using All2.drop n h.2
  | [], _ :: _, _, h => h.elim
  | _ :: _, [], _, h => h.elim
theorem All2.of_get {α β : Type} {R : α → β → Prop} : ∀ {l : List α} {m : List β}, l.length = m.length → (∀ (i : Nat) (a : α) (b : β), l[i]? = some a → m[i]? = some b → R a b) → All2 R l m
  | [], [], _, _ => trivial
  | a :: l, b :: m, h, k => ⟨k 0 a b rfl rfl, All2.of_get (by simpa using h) fun i x y hx hy => k (i + 1) x y (by simpa using hx) (by simpa using hy)⟩
  | [], _ :: _, h, _ => by simp at h
  | _ :: _, [], h, _ => by simp at h
theorem All2.map {α β γ δ : Type} {R : α → β → Prop} {S : γ → δ → Prop} {f : α → γ} {g : β → δ} (h : ∀ a b, R a b → S (f a) (g b)) : ∀ {l : List α} {m : List β}, All2 R l m → All2 S (l.map f) (m.map g)
  | [], [], _ => trivial
  | _ :: _, _ :: _, k => ⟨h _ _ k.1, All2.map h k.2⟩
  | [], _ :: _, k => k.elim
  | _ :: _, [], k => k.elim
def PtrRel (μ : Mu) (a : APtr) (v : Value) : Prop := ∃ r s, μ a.1 = some (r, s) ∧ v = .pointer (some ⟨r, s + a.2, none⟩)
def CRel (μ : Mu) (w : World) : AC → Value → Prop
  | .bool b, v => v = .bool b
  | .int k n, v => v = .int k n
  | .str s, v => v = .string s
  | .ptr none, v => v = .pointer none
  | .ptr (some a), v => PtrRel μ a v
  | .sl none _ len cap, v => len = 0 ∧ cap = some 0 ∧ v = .slice none 0 0
  | .sl (some p) sz len cap, v => ∃ a cap' r s e n, v = .slice (some a) len cap' ∧ len ≤ cap' ∧ (∀ k, cap = some k → cap' = k) ∧ μ p.1 = some (r, s) ∧ (cap' = 0 ∨ a = ⟨r, s + p.2, none⟩) ∧ w.shape? r = some (e, n) ∧ s + p.2 + cap' * sz ≤ n
  | .map none, v => v = .map none
  | .map (some b), v => ∃ r s, μ b = some (r, s) ∧ v = .map (some r)
  | .fn f first caps, v => ∃ fs cs, v = .func (.func f) fs cs ∧ All2 (PtrRel μ) first fs.toList ∧ All2 (PtrRel μ) caps cs.toList
  | .nilFn, v => v = .nilFunc
  | .nilIface, v => v = .nilIface
  | .yield l, v => ∃ r s, μ l = some (r, s) ∧ v = .func (.yield r) #[] #[]
def VRel (μ : Mu) (w : World) : AV → Value → Prop
  | .one c, v => CRel μ w c v
  | .agg cs, v => ∃ vs, v = .agg vs ∧ All2 (CRel μ w) cs vs.toList
  | .tup ps, v => ∃ vs, v = .tuple vs ∧ All2 (fun (p : Bool × List AC) v => match p with
      | (false, cs) => ∃ c, cs = [c] ∧ CRel μ w c v
      | (true, cs) => ∃ us, v = .agg us ∧ All2 (CRel μ w) cs us.toList) ps vs.toList
def PRel (μ : Mu) (w : World) (p : Bool × List AC) (v : Value) : Prop := match p with
  | (false, cs) => ∃ c, cs = [c] ∧ CRel μ w c v
  | (true, cs) => ∃ us, v = .agg us ∧ All2 (CRel μ w) cs us.toList
theorem VRel_undef (μ : Mu) (w : World) : VRel μ w (.tup []) undef := ⟨#[], rfl, trivial⟩
def Mu.le (μ μ' : Mu) : Prop := ∀ b x, μ b = some x → μ' b = some x
def Shapes (w w' : World) : Prop := ∀ r x, w.shape? r = some x → w'.shape? r = some x
theorem PtrRel.mono {μ μ' : Mu} (h : μ.le μ') {a : APtr} {v : Value} (k : PtrRel μ a v) : PtrRel μ' a v := by
  obtain ⟨r, s, h1, h2⟩ := k
  exact ⟨r, s, h _ _ h1, h2⟩
theorem CRel.mono {μ μ' : Mu} {w w' : World} (h : μ.le μ') (hs : Shapes w w') : ∀ {c : AC} {v : Value}, CRel μ w c v → CRel μ' w' c v
  | .bool _, _, k => k
  | .int _ _, _, k => k
  | .str _, _, k => k
  | .ptr none, _, k => k
  | .ptr (some _), _, k => PtrRel.mono h k
  | .sl none _ _ _, _, k => k
  | .sl (some _) _ _ _, _, ⟨a, cap', r, s, e, n, h1, h2, h3, h4, h5, h6, h7⟩ => ⟨a, cap', r, s, e, n, h1, h2, h3, h _ _ h4, h5, hs _ _ h6, h7⟩
  | .map none, _, k => k
  | .map (some _), _, ⟨r, s, h1, h2⟩ => ⟨r, s, h _ _ h1, h2⟩
  | .fn _ _ _, _, ⟨fs, cs, h1, h2, h3⟩ => ⟨fs, cs, h1, h2.mono fun _ _ => PtrRel.mono h, h3.mono fun _ _ => PtrRel.mono h⟩
  | .nilFn, _, k => k
  | .nilIface, _, k => k
  | .yield _, _, ⟨r, s, h1, h2⟩ => ⟨r, s, h _ _ h1, h2⟩
theorem PRel.mono {μ μ' : Mu} {w w' : World} (h : μ.le μ') (hs : Shapes w w') {p : Bool × List AC} {v : Value} (k : PRel μ w p v) : PRel μ' w' p v := by
  obtain ⟨b, cs⟩ := p
  cases b with
  | false => obtain ⟨c, h1, h2⟩ := k; exact ⟨c, h1, h2.mono h hs⟩
  | true => obtain ⟨us, h1, h2⟩ := k; exact ⟨us, h1, h2.mono fun _ _ => CRel.mono h hs⟩
theorem VRel.mono {μ μ' : Mu} {w w' : World} (h : μ.le μ') (hs : Shapes w w') : ∀ {c : AV} {v : Value}, VRel μ w c v → VRel μ' w' c v
  | .one _, _, k => CRel.mono h hs k
  | .agg _, _, ⟨vs, h1, h2⟩ => ⟨vs, h1, h2.mono fun _ _ => CRel.mono h hs⟩
  | .tup _, _, ⟨vs, h1, h2⟩ => ⟨vs, h1, All2.mono (fun _ _ => PRel.mono h hs) h2⟩
def AObj.soft : AObj → Bool
  | .row _ _ _ ro _ => !ro
  | .map _ => true
  | .loop .. => true
def stOf : Nat → LoopState
  | 0 => .ready
  | 1 => .busy
  | 2 => .done
  | _ => .exhausted
def jumpOf : Ex → Option Code
  | .normal => none
  | .exit id => some (.exit id)
  | .ret => some .ret
def ORel (μ : Mu) (w : World) (s : Nat) : AObj → Option Obj → Prop
  | .row e _ _ ro cells, o => ∃ cs e' fz, o = some (.cells cs e' fz) ∧ s + cells.length ≤ cs.size ∧ (ro = false → fz = (0, 0)) ∧ ∀ i c, cells[i]? = some (some c) → ∃ v, cs[s + i]? = some v ∧ CRel μ w c v
  | .map es, o => ∃ ms clock, o = some (.map ms clock) ∧ All2 (fun (e : Value × AV) (m : MapEntry) => m.key = e.1 ∧ VRel μ w e.2 m.val) es ms.toList
  | .loop st pend t ps asg body, o => ∃ lp : Loop, o = some (.loop lp) ∧ lp.state = stOf st ∧ lp.pending = jumpOf pend ∧ lp.params = ps ∧ lp.assign = asg ∧ lp.body = body ∧ All2 (VRel μ w) t lp.tmps.toList
theorem ORel.mono {μ μ' : Mu} {w w' : World} (h : μ.le μ') (hs : Shapes w w') {s : Nat} {o : AObj} {x : Option Obj} (k : ORel μ w s o x) : ORel μ' w' s o x := by
  cases o with
  | row e g st ro cells =>
    obtain ⟨cs, e', fz, h1, h2, h3, h4⟩ := k
    exact ⟨cs, e', fz, h1, h2, h3, fun i c hc => let ⟨v, hv, hr⟩ := h4 i c hc; ⟨v, hv, hr.mono h hs⟩⟩
  | map es =>
    obtain ⟨ms, clock, h1, h2⟩ := k
    exact ⟨ms, clock, h1, h2.mono fun _ _ q => ⟨q.1, q.2.mono h hs⟩⟩
  | loop st pend t ps asg body =>
    obtain ⟨lp, h1, h2, h3, h4, h5, h6, h7⟩ := k
    exact ⟨lp, h1, h2, h3, h4, h5, h6, h7.mono fun _ _ => VRel.mono h hs⟩
def Together (o1 : AObj) (s1 : Nat) (o2 : AObj) (s2 : Nat) : Prop :=
  match o1, o2 with
  | .row _ g1 st1 ro1 _, .row _ g2 st2 ro2 _ => (ro1 = true ∧ ro2 = true) ∨ (ro1 = false ∧ ro2 = false ∧ g1 = g2 ∧ st1 + s2 = st2 + s1)
  | _, _ => False
def grpOf : AObj → Option Nat
  | .row _ g _ _ _ => some g
  | .map _ => none
  | .loop .. => none
structure Rel (μ : Mu) (g : Nat → Option AObj) (w : World) : Prop where
  dom : ∀ b r s, μ b = some (r, s) → r < w.heap.size
  obj : ∀ b r s o, μ b = some (r, s) → g b = some o → ORel μ w s o w.heap[r]?
  sep : ∀ b1 b2 r s1 s2 o1 o2, b1 ≠ b2 → μ b1 = some (r, s1) → μ b2 = some (r, s2) → g b1 = some o1 → g b2 = some o2 → Together o1 s1 o2 s2
  clos : ∀ b1 b2 o1 o2 k, g b1 = some o1 → g b2 = some o2 → grpOf o1 = some k → grpOf o2 = some k → (μ b1).isSome → (μ b2).isSome
structure Post (μ : Mu) (H : AHeap) (w : World) (μ' : Mu) (H' : AHeap) (w' : World) : Prop where
  wf : WF H'
  rel : Rel μ' H'.get w'
  size : H.size ≤ H'.size
  out : ∀ b, b < H.size ∨ H'.size ≤ b → μ' b = μ b
  fresh : ∀ b r s, H.size ≤ b → b < H'.size → μ' b = some (r, s) → w.heap.size ≤ r ∨ ∃ b0 s0 o, μ b0 = some (r, s0) ∧ H.get b0 = some o ∧ o.soft = true
  kind : ∀ b o, H.get b = some o → ∃ o', H'.get b = some o' ∧ sameKind o o'
  kind' : ∀ b o', b < H.size → H'.get b = some o' → ∃ o, H.get b = some o ∧ sameKind o o'
  hidden : ∀ b, b < H.size → μ b = none → H'.get b = H.get b
  mapped : ∀ b, H.size ≤ b → b < H'.size → (μ' b).isSome
  os : w'.os = w.os
  tape : w'.tape = w.tape
  output : w'.output = w.output
  wsize : w.heap.size ≤ w'.heap.size
  keep : ∀ k, k < w.heap.size → (∀ b s o, μ b = some (k, s) → H.get b = some o → o.soft = false) → w'.heap[k]? = w.heap[k]?
  shapes : Shapes w w'
def Free (μ : Mu) (m n : Nat) : Prop := ∀ b, m ≤ b → b < n → μ b = none
theorem Post.le {μ μ' : Mu} {H H' : AHeap} {w w' : World} (p : Post μ H w μ' H' w') (fr : Free μ H.size H'.size) : μ.le μ' := by
  intro b x hb
  by_cases h : b < H.size ∨ H'.size ≤ b
  · rw [p.out b h]; exact hb
  · rw [fr b (by omega) (by omega)] at hb; cases hb
theorem sameKind.soft {a b : AObj} (h : sameKind a b) : b.soft = a.soft := by
  cases a <;> cases b <;> simp_all [sameKind, AObj.soft]
theorem Shapes.refl (w : World) : Shapes w w := fun _ _ h => h
theorem Shapes.trans {a b c : World} (h : Shapes a b) (k : Shapes b c) : Shapes a c := fun r x hx => k r x (h r x hx)
theorem Post.refl {μ : Mu} {H : AHeap} {w : World} (wf : WF H) (rel : Rel μ H.get w) : Post μ H w μ H w :=
  ⟨wf, rel, Nat.le_refl _, fun _ _ => rfl, fun b _ _ h1 h2 _ => by omega, fun b o h => ⟨o, h, sameKind.refl o⟩, fun b o _ h => ⟨o, h, sameKind.refl o⟩, fun _ _ _ => rfl, fun b h1 h2 => by omega, rfl, rfl, rfl, Nat.le_refl _, fun _ _ _ => rfl, Shapes.refl w⟩
theorem Post.trans {μ μ1 μ2 : Mu} {H H1 H2 : AHeap} {w w1 w2 : World} (p : Post μ H w μ1 H1 w1) (q : Post μ1 H1 w1 μ2 H2 w2) : Post μ H w μ2 H2 w2 := by
  have hs := p.size
  have hs' := q.size
  refine ⟨q.wf, q.rel, by omega, ?_, ?_, ?_, ?_, ?_, ?_, q.os.trans p.os, q.tape.trans p.tape, q.output.trans p.output, Nat.le_trans p.wsize q.wsize, ?_, p.shapes.trans q.shapes⟩
  · intro b hb
    rw [q.out b (by omega), p.out b (by omega)]
  · intro b r s h1 h2 hb
    by_cases h : b < H1.size
    · rw [q.out b (.inl h)] at hb
      exact p.fresh b r s h1 h hb
    · rcases q.fresh b r s (by omega) h2 hb with h' | ⟨b0, s0, o, hb0, ho, hsoft⟩
      · left; have := p.wsize; omega
      · by_cases h0 : b0 < H.size
        · right
          rw [p.out b0 (.inl h0)] at hb0
          obtain ⟨o0, hg, hk⟩ := p.kind' b0 o h0 ho
          exact ⟨b0, s0, o0, hb0, hg, by rw [← hk.soft]; exact hsoft⟩
        · have hlt := AHeap.get_lt ho
          rcases p.fresh b0 r s0 (by omega) hlt hb0 with h' | ⟨b1, s1, o1, h3, h4, h5⟩
          · exact .inl h'
          · exact .inr ⟨b1, s1, o1, h3, h4, h5⟩
  · intro b o h
    obtain ⟨o1, h1, k1⟩ := p.kind b o h
    obtain ⟨o2, h2, k2⟩ := q.kind b o1 h1
    exact ⟨o2, h2, k1.trans k2⟩
  · intro b o hb h
    obtain ⟨o1, h1, k1⟩ := q.kind' b o (by omega) h
    obtain ⟨o2, h2, k2⟩ := p.kind' b o1 hb h1
    exact ⟨o2, h2, k2.trans k1⟩
  · intro b hb hn
    have h1 : μ1 b = none := by rw [p.out b (.inl hb)]; exact hn
    rw [q.hidden b (by omega) h1, p.hidden b hb hn]
  · intro b h1 h2
    by_cases h : b < H1.size
    · rw [q.out b (.inl h)]; exact p.mapped b h1 h
    · exact q.mapped b (by omega) h2
  · intro k hk hprot
    rw [q.keep k (Nat.lt_of_lt_of_le hk p.wsize) ?_, p.keep k hk hprot]
    intro b s o hb ho
    have hlt := AHeap.get_lt ho
    by_cases h0 : b < H.size
    · rw [p.out b (.inl h0)] at hb
      obtain ⟨o0, hg, hk'⟩ := p.kind' b o h0 ho
      rw [hk'.soft]
      exact hprot b s o0 hb hg
    · rcases p.fresh b k s (by omega) hlt hb with h' | ⟨b1, s1, o1, h3, h4, h5⟩
      · omega
      · have := hprot b1 s1 o1 h3 h4
        rw [h5] at this; cases this
end Go.AI
end
section
namespace Go.AI
theorem pureRun_run {α : Type} {P : Program} {s : Sem α} {x : α} (w : World) (h : pureRun P s = some x) : s.run P w = .ok x w := by
  induction s generalizing x with
  | pure y => simp only [pureRun, Option.some.injEq] at h; subst h; rfl
  | program k ih => exact ih P (by simpa [pureRun] using h)
  | _ => simp [pureRun] at h
theorem ofCell_rel {μ : Mu} {w : World} : ∀ {v : Value} {c : AC}, ofCell v = some c → CRel μ w c v := by
  intro v c h
  unfold ofCell at h
  split at h
  case h_7 f a b =>
    split at h
    · rename_i hab
      simp only [Option.some.injEq] at h; subst h
      obtain ⟨h1, h2⟩ := hab
      have e1 : a = #[] := Array.eq_empty_of_size_eq_zero h1
      have e2 : b = #[] := Array.eq_empty_of_size_eq_zero h2
      exact ⟨a, b, rfl, by simp [e1, All2], by simp [e2, All2]⟩
    · cases h
  all_goals simp only [Option.some.injEq, reduceCtorEq] at h
  all_goals subst h
  all_goals simp [CRel]
theorem ofCells_rel {μ : Mu} {w : World} : ∀ {vs : List Value} {cs : List AC}, ofCells vs = some cs → All2 (CRel μ w) cs vs
  | [], cs, h => by simp only [ofCells, Option.some.injEq] at h; subst h; trivial
  | v :: vs, cs, h => by
    simp only [ofCells] at h
    split at h
    · rename_i c cs' h1 h2
      simp only [Option.some.injEq] at h; subst h
      exact ⟨ofCell_rel h1, ofCells_rel h2⟩
    · cases h
theorem ofPart_rel {μ : Mu} {w : World} {v : Value} {p : Bool × List AC} (h : ofPart v = some p) : PRel μ w p v := by
  unfold ofPart at h
  split at h
  · rename_i cs
    simp only [Option.map_eq_some_iff] at h
    obtain ⟨l, h1, rfl⟩ := h
    exact ⟨cs, rfl, ofCells_rel h1⟩
  · simp only [Option.map_eq_some_iff] at h
    obtain ⟨c, h1, rfl⟩ := h
    exact ⟨c, rfl, ofCell_rel h1⟩
theorem ofParts_rel {μ : Mu} {w : World} : ∀ {vs : List Value} {ps : List (Bool × List AC)}, ofParts vs = some ps → All2 (PRel μ w) ps vs
  | [], ps, h => by simp only [ofParts, Option.some.injEq] at h; subst h; trivial
  | v :: vs, ps, h => by
    simp only [ofParts] at h
    split at h
    · rename_i c cs' h1 h2
      simp only [Option.some.injEq] at h; subst h
      exact ⟨ofPart_rel h1, ofParts_rel h2⟩
    · cases h
theorem ofVal_rel {μ : Mu} {w : World} {v : Value} {x : AV} (h : ofVal v = some x) : VRel μ w x v := by
  unfold ofVal at h
  split at h
  · rename_i cs
    simp only [Option.map_eq_some_iff] at h
    obtain ⟨l, h1, rfl⟩ := h
    exact ⟨cs, rfl, ofCells_rel h1⟩
  · rename_i vs
    simp only [Option.map_eq_some_iff] at h
    obtain ⟨l, h1, rfl⟩ := h
    exact ⟨vs, rfl, ofParts_rel h1⟩
  · simp only [Option.map_eq_some_iff] at h
    obtain ⟨c, h1, rfl⟩ := h
    exact ofCell_rel h1
theorem All2_nil {α β : Type} {R : α → β → Prop} {m : List β} (h : All2 R [] m) : m = [] := by cases m with | nil => rfl | cons _ _ => exact h.elim
theorem AC.val_rel {μ : Mu} {w : World} {c : AC} {v u : Value} (h : c.val = some v) (k : CRel μ w c u) : u = v := by
  unfold AC.val at h
  split at h <;> simp only [Option.some.injEq, reduceCtorEq] at h <;> subst h <;> simp only [CRel] at k
  all_goals first
    | exact k
    | exact k.2.2
    | (obtain ⟨fs, cs, rfl, h1, h2⟩ := k
       have h3 := All2_nil h1
       have h4 := All2_nil h2
       simp_all)
theorem cellsVal_rel {μ : Mu} {w : World} : ∀ {cs : List AC} {vs us : List Value}, cellsVal cs = some vs → All2 (CRel μ w) cs us → us = vs
  | [], vs, us, h, k => by simp only [cellsVal, Option.some.injEq] at h; subst h; exact All2_nil k
  | c :: cs, vs, us, h, k => by
    simp only [cellsVal] at h
    split at h
    · rename_i v vs' h1 h2
      simp only [Option.some.injEq] at h; subst h
      cases us with
      | nil => exact k.elim
      | cons u us => rw [AC.val_rel h1 k.1, cellsVal_rel h2 k.2]
    · cases h
theorem AV.val_rel {μ : Mu} {w : World} {x : AV} {v u : Value} (h : x.val = some v) (k : VRel μ w x u) : u = v := by
  cases x with
  | one c => exact AC.val_rel h k
  | agg cs =>
    simp only [AV.val, Option.map_eq_some_iff] at h
    obtain ⟨vs, h1, rfl⟩ := h
    obtain ⟨us, rfl, h2⟩ := k
    have := cellsVal_rel h1 h2
    subst this
    rfl
  | tup ps => simp [AV.val] at h
theorem CRel.oneCell {μ : Mu} {w : World} {c : AC} {v : Value} (k : CRel μ w c v) : v.oneCell' = true ∧ v.cells = #[v] := by
  cases c
  case ptr a => cases a <;> simp only [CRel] at k <;> first | (subst k; exact ⟨rfl, rfl⟩) | (obtain ⟨r, s, _, rfl⟩ := k; exact ⟨rfl, rfl⟩)
  case sl a sz len cap => cases a <;> simp only [CRel] at k <;> first | (obtain ⟨_, _, rfl⟩ := k; exact ⟨rfl, rfl⟩) | (obtain ⟨a, c', r, s, e, n, rfl, _⟩ := k; exact ⟨rfl, rfl⟩)
  case map a => cases a <;> simp only [CRel] at k <;> first | (subst k; exact ⟨rfl, rfl⟩) | (obtain ⟨r, s, _, rfl⟩ := k; exact ⟨rfl, rfl⟩)
  case fn f a b => obtain ⟨fs, cs, rfl, _⟩ := k; exact ⟨rfl, rfl⟩
  case yield l => obtain ⟨r, s, _, rfl⟩ := k; exact ⟨rfl, rfl⟩
  all_goals simp only [CRel] at k
  all_goals subst k; exact ⟨rfl, rfl⟩
theorem AV.cells_rel {μ : Mu} {w : World} {x : AV} {cs : List AC} {v : Value} (h : x.cells = some cs) (k : VRel μ w x v) : All2 (CRel μ w) cs v.cells.toList := by
  cases x with
  | one c =>
    simp only [AV.cells, Option.some.injEq] at h; subst h
    rw [(CRel.oneCell k).2]
    exact ⟨k, trivial⟩
  | agg l =>
    simp only [AV.cells, Option.some.injEq] at h; subst h
    obtain ⟨vs, rfl, h2⟩ := k
    exact h2
  | tup ps => simp [AV.cells] at h
theorem AV.part_rel {μ : Mu} {w : World} {x : AV} {p : Bool × List AC} {v : Value} (h : x.part = some p) (k : VRel μ w x v) : PRel μ w p v := by
  cases x with
  | one c => simp only [AV.part, Option.some.injEq] at h; subst h; exact ⟨c, rfl, k⟩
  | agg l => simp only [AV.part, Option.some.injEq] at h; subst h; exact k
  | tup ps => simp [AV.part] at h
theorem unpart_rel {μ : Mu} {w : World} {p : Bool × List AC} {v : Value} (k : PRel μ w p v) : VRel μ w (unpart p) v := by
  obtain ⟨b, cs⟩ := p
  cases b with
  | false => obtain ⟨c, rfl, h⟩ := k; exact h
  | true => exact k
abbrev TRel (μ : Mu) (w : World) (T : List AV) (t : Array Value) : Prop := All2 (VRel μ w) T t.toList
theorem TRel.getD {μ : Mu} {w : World} {T : List AV} {t : Array Value} (h : TRel μ w T t) (i : Nat) : VRel μ w (T[i]?.getD (.tup [])) (t.getD i undef) := by
  have e : t.getD i undef = (t.toList[i]?).getD undef := by
    rw [Array.getElem?_toList]
    by_cases hi : i < t.size
    · simp [Array.getD, hi]
    · simp [Array.getD, hi]
  rw [e]
  cases hT : T[i]? with
  | none =>
    have : t.toList[i]? = none := by
      have := h.length
      rw [List.getElem?_eq_none_iff] at hT ⊢
      omega
    rw [this]
    exact VRel_undef μ w
  | some x =>
    obtain ⟨v, hv, hr⟩ := All2.get h hT
    rw [hv]
    exact hr
theorem evalA_rel {μ : Mu} {w : World} {T : List AV} {a : Act} (hT : TRel μ w T a.tmps) {x : Operand} {v : AV} (h : evalA T x = some v) : VRel μ w v (a.eval x) := by
  cases x with
  | tmp t => simp only [evalA, Option.some.injEq] at h; subst h; exact hT.getD t
  | const u => exact ofVal_rel h
  | global g => simp [evalA] at h
  | func f => simp only [evalA, Option.some.injEq] at h; subst h; exact ⟨#[], #[], rfl, trivial, trivial⟩
theorem evalAll_rel {μ : Mu} {w : World} {T : List AV} {a : Act} (hT : TRel μ w T a.tmps) : ∀ {xs : List Operand} {vs : List AV}, evalAll T xs = some vs → All2 (VRel μ w) vs (xs.map a.eval)
  | [], vs, h => by simp only [evalAll, Option.some.injEq] at h; subst h; trivial
  | x :: xs, vs, h => by
    simp only [evalAll] at h
    split at h
    · rename_i v vs' h1 h2
      simp only [Option.some.injEq] at h; subst h
      exact ⟨evalA_rel hT h1, evalAll_rel hT h2⟩
    · cases h
theorem evalParts_rel {μ : Mu} {w : World} {T : List AV} {a : Act} (hT : TRel μ w T a.tmps) : ∀ {xs : List (Nat × Operand)} {vs : List (Nat × AV)}, evalParts T xs = some vs →
    All2 (fun (p : Nat × AV) (q : Nat × Value) => p.1 = q.1 ∧ VRel μ w p.2 q.2) vs (xs.map fun p => (p.1, a.eval p.2))
  | [], vs, h => by simp only [evalParts, Option.some.injEq] at h; subst h; trivial
  | (i, x) :: xs, vs, h => by
    simp only [evalParts] at h
    split at h
    · rename_i v vs' h1 h2
      simp only [Option.some.injEq] at h; subst h
      exact ⟨⟨rfl, evalA_rel hT h1⟩, evalParts_rel hT h2⟩
    · cases h
theorem ptrs_rel {μ : Mu} {w : World} : ∀ {xs : List AV} {ps : List APtr} {vs : List Value}, ptrs xs = some ps → All2 (VRel μ w) xs vs → All2 (PtrRel μ) ps vs
  | [], ps, vs, h, k => by simp only [ptrs, Option.some.injEq] at h; subst h; rw [All2_nil k]; trivial
  | x :: xs, ps, vs, h, k => by
    unfold ptrs at h
    split at h
    · rename_i e; cases e
    · rename_i b r e
      simp only [List.cons.injEq] at e
      obtain ⟨rfl, rfl⟩ := e
      simp only [Option.map_eq_some_iff] at h
      obtain ⟨ps', h1, rfl⟩ := h
      cases vs with
      | nil => exact k.elim
      | cons v vs => exact ⟨k.1, ptrs_rel h1 k.2⟩
    · cases h
section
variable {P : Program}
theorem isAggT_run {t : TypeId} {b : Bool} (w : World) (h : isAggT P t = some b) : (isAgg t).run P w = .ok b w := by
  unfold isAggT at h
  unfold isAgg
  cases hu : P.underlying t with
  | none => rw [hu] at h; cases h
  | some d =>
    rw [hu] at h
    cases d <;> simp only [Option.some.injEq] at h <;> subst h <;> simp [underlying, hu]
theorem underlying_run {t : TypeId} {d : TypeDesc} (w : World) (h : P.underlying t = some d) : (underlying t).run P w = .ok d w := by
  simp [underlying, h]
theorem typeInfo_run {t : TypeId} {i : TypeInfo} (w : World) (h : P.info? t = some i) : (typeInfo t).run P w = .ok i w := by
  simp [typeInfo, h]
theorem sizeT_run {t : TypeId} {n : Nat} (w : World) (h : sizeT P t = some n) : (sizeOf t).run P w = .ok n w := by
  simp only [sizeT, Option.map_eq_some_iff] at h
  obtain ⟨i, h1, rfl⟩ := h
  simp [sizeOf, typeInfo_run w h1]
theorem zeroA_run {μ : Mu} {t : TypeId} {x : AV} (w : World) (h : zeroA P t = some x) : ∃ v, (zeroValue t).run P w = .ok v w ∧ VRel μ w x v ∧ ∃ i, P.info? t = some i ∧ i.zero = some v := by
  simp only [zeroA, Option.bind_eq_some_iff] at h
  obtain ⟨i, h1, v, h2, h3⟩ := h
  exact ⟨v, by simp [zeroValue, typeInfo_run w h1, h2], ofVal_rel h3, i, h1, h2⟩
end
end Go.AI
end
section
namespace Go.AI
section
variable {P : Program} {μ : Mu} {w : World} {T : List AV} {a : Act}
theorem foldl_set_get (off : Nat) : ∀ (l : List Value) (k : Nat) (A : Array Value) (i : Nat), off + k + l.length ≤ A.size →
    ((l.zipIdx k).foldl (fun cs (c, j) => cs.setIfInBounds (off + j) c) A)[i]? = if off + k ≤ i ∧ i < off + k + l.length then l[i - (off + k)]? else A[i]? := by
  intro l
  induction l with
  | nil => intro k A i h; rw [if_neg (by simp only [List.length_nil]; omega)]; rfl
  | cons c l ih =>
    intro k A i h
    simp only [List.length_cons] at h
    simp only [List.zipIdx_cons, List.foldl_cons]
    rw [ih (k + 1) _ i (by simp; omega)]
    simp only [List.length_cons, Array.getElem?_setIfInBounds]
    by_cases h1 : off + (k + 1) ≤ i ∧ i < off + (k + 1) + l.length
    · rw [if_pos h1, if_pos (by omega)]
      obtain ⟨m, hm⟩ : ∃ m, i - (off + k) = m + 1 := ⟨i - (off + k) - 1, by omega⟩
      rw [hm, List.getElem?_cons_succ, show i - (off + (k + 1)) = m from by omega]
    · rw [if_neg h1]
      by_cases h2 : off + k = i
      · subst h2
        rw [if_pos rfl, if_pos (by omega), if_pos (by omega), Nat.sub_self]
        rfl
      · rw [if_neg h2, if_neg (by omega)]
theorem foldl_set (off : Nat) (l : List Value) (A : Array Value) (h : off + l.length ≤ A.size) :
    (l.zipIdx.foldl (fun cs (c, j) => cs.setIfInBounds (off + j) c) A).toList = A.toList.take off ++ l ++ A.toList.drop (off + l.length) := by
  apply List.ext_getElem?
  intro i
  rw [Array.getElem?_toList, foldl_set_get off l 0 A i (by omega)]
  simp only [Nat.add_zero, List.append_assoc, List.getElem?_append, List.length_take, Array.length_toList, List.getElem?_take, List.getElem?_drop]
  rw [show min off A.size = off from by omega]
  by_cases h1 : i < off
  · rw [if_neg (by omega), if_pos h1, if_pos h1, Array.getElem?_toList]
  · rw [if_neg h1]
    by_cases h2 : i - off < l.length
    · rw [if_pos (by omega), if_pos h2]
    · rw [if_neg (by omega), if_neg h2, Array.getElem?_toList, show off + l.length + (i - off - l.length) = i from by omega]
theorem fillA_rel (place : Nat → Option (Nat × Nat)) : ∀ {ps : List (Nat × AV)} {qs : List (Nat × Value)} {cells cs : List AC} {A : Array Value},
    All2 (fun (p : Nat × AV) (q : Nat × Value) => p.1 = q.1 ∧ VRel μ w p.2 q.2) ps qs → All2 (CRel μ w) cells A.toList → fillA place cells ps = some cs →
    ∃ B, Instr.fill place A qs = some B ∧ All2 (CRel μ w) cs B.toList := by
  intro ps
  induction ps with
  | nil =>
    intro qs cells cs A hp hc h
    simp only [fillA, Option.some.injEq] at h; subst h
    rw [All2_nil hp]
    exact ⟨A, rfl, hc⟩
  | cons p ps ih =>
    intro qs cells cs A hp hc h
    obtain ⟨i, x⟩ := p
    cases qs with
    | nil => exact hp.elim
    | cons q qs =>
      obtain ⟨j, y⟩ := q
      obtain ⟨⟨hij, hxy⟩, hps⟩ := hp
      simp only at hij hxy
      subst hij
      simp only [fillA] at h
      simp only [Instr.fill]
      split at h
      · rename_i off size l hpl hcl
        have hl := AV.cells_rel hcl hxy
        have hlen := hl.length
        have hAlen := hc.length
        simp only [Array.length_toList] at hlen hAlen
        rw [hpl]
        split at h
        · cases h
        · rename_i hno
          have e1 : (decide ¬y.cells.size = size || decide (off + y.cells.size > A.size)) = false := by
            simp only [Bool.or_eq_false_iff, decide_eq_false_iff_not, Decidable.not_not]
            omega
          simp only [ne_eq, e1, Bool.false_eq_true, if_false]
          refine ih hps ?_ h
          have := foldl_set off y.cells.toList A (by simp; omega)
          simp only [Array.length_toList] at this
          rw [← Array.foldl_toList, Array.toList_zipIdx, this, ← hlen]
          exact (All2.append (All2.take _ hc) hl).append (All2.drop _ hc)
      · cases h
theorem placesA_run : ∀ {fs : List Field} {ps : List (Nat × Nat)}, placesA P fs = some ps → ((fs.mapM fun f => do pure (f.offset, ← sizeOf f.type)) : Sem (List (Nat × Nat))).run P w = .ok ps w
  | [], ps, h => by simp only [placesA, Option.some.injEq] at h; subst h; rfl
  | f :: fs, ps, h => by
    simp only [placesA] at h
    split at h
    · rename_i n ps' h1 h2
      simp only [Option.some.injEq] at h; subst h
      simp only [List.mapM_cons, Sem.run_bind, sizeT_run w h1, Result.andThen_ok, Sem.run_pure, placesA_run h2]
    · cases h
theorem build_gives {t : TypeId} {parts : List (Nat × AV)} {qs : Array (Nat × Value)} {zero cs : List AC} {fs : Array Field} {places : List (Nat × Nat)}
    (hq : All2 (fun (p : Nat × AV) (q : Nat × Value) => p.1 = q.1 ∧ VRel μ w p.2 q.2) parts qs.toList) (hz : (zeroA P t).bind AV.cells = some zero)
    (hu : P.underlying t = some (.struct fs)) (hpl : placesA P fs.toList = some places) (h : fillA (places[·]?) zero parts = some cs) :
    ∃ B, (Instr.build t qs).run P w = .ok (.agg B) w ∧ All2 (CRel μ w) cs B.toList := by
  simp only [Option.bind_eq_some_iff] at hz
  obtain ⟨z, hz1, hz2⟩ := hz
  obtain ⟨zv, hz3, hz4, _⟩ := zeroA_run (P := P) (μ := μ) w hz1
  obtain ⟨B, hB, hr⟩ := fillA_rel (μ := μ) (w := w) (places[·]?) hq (AV.cells_rel hz2 hz4) h
  refine ⟨B, ?_, hr⟩
  unfold Instr.build
  simp only [Sem.run_bind, hz3, Result.andThen_ok, underlying_run w hu]
  have hm : (fs.mapM fun f => do pure (f.offset, ← sizeOf f.type) : Sem (Array (Nat × Nat))).run P w = .ok places.toArray w := by
    rw [Array.mapM_eq_mapM_toList]
    simp only [Sem.run_map, placesA_run (P := P) (w := w) hpl, Result.andThen_ok]
  rw [hm]
  simp only [Result.andThen_ok]
  have e : (fun x : Nat => places.toArray[x]?) = (fun x : Nat => places[x]?) := by funext x; simp
  rw [e, hB]
  rfl
theorem buildArr_gives {t e : TypeId} {len size : Nat} {parts : List (Nat × AV)} {qs : Array (Nat × Value)} {zero cs : List AC}
    (hq : All2 (fun (p : Nat × AV) (q : Nat × Value) => p.1 = q.1 ∧ VRel μ w p.2 q.2) parts qs.toList) (hz : (zeroA P t).bind AV.cells = some zero)
    (hu : P.underlying t = some (.array len e)) (hs : sizeT P e = some size) (h : fillA (fun i => some (i * size, size)) zero parts = some cs) :
    ∃ B, (Instr.build t qs).run P w = .ok (.agg B) w ∧ All2 (CRel μ w) cs B.toList := by
  simp only [Option.bind_eq_some_iff] at hz
  obtain ⟨z, hz1, hz2⟩ := hz
  obtain ⟨zv, hz3, hz4, _⟩ := zeroA_run (P := P) (μ := μ) w hz1
  obtain ⟨B, hB, hr⟩ := fillA_rel (μ := μ) (w := w) (fun i => some (i * size, size)) hq (AV.cells_rel hz2 hz4) h
  refine ⟨B, ?_, hr⟩
  unfold Instr.build
  simp only [Sem.run_bind, hz3, Result.andThen_ok, underlying_run w hu, sizeT_run w hs]
  rw [hB]
  rfl
theorem partA_gives {t : TypeId} {cs : List AC} {off : Nat} {v : AV} {A : Array Value} (hc : All2 (CRel μ w) cs A.toList) (h : partA P t cs off = some v) :
    ∃ v', (part t A off).run P w = .ok v' w ∧ VRel μ w v v' := by
  unfold partA at h
  split at h
  · rename_i n h1 h2
    simp only [Option.some.injEq] at h; subst h
    refine ⟨.agg (A.extract off (off + n)), ?_, A.extract off (off + n), rfl, ?_⟩
    · simp [part, isAggT_run w h1, sizeT_run w h2]
    · rw [Array.toList_extract]
      have := (hc.drop off).take n
      rw [List.extract_eq_take_drop]
      simpa using this
  · rename_i n h1 h2
    simp only [Option.map_eq_some_iff] at h
    obtain ⟨c, hc1, rfl⟩ := h
    obtain ⟨v', hv, hr⟩ := All2.get hc hc1
    refine ⟨v', ?_, hr⟩
    rw [Array.getElem?_toList] at hv
    simp [part, isAggT_run w h1, hv]
  · cases h
theorem binInt (op : BinOp) (t : TypeId) (k k' : IntKind) (m n : Int) (x y : Operand) {v : AV} (h : binA P op t x y (.one (.int k m)) (.one (.int k' n)) = some v) :
    ∃ v', (do eqGuard op t x y (.int k m) (.int k' n); binOp op t (.int k m) (.int k' n) : Sem Value).run P w = .ok v' w ∧ VRel μ w v v' := by
  have hg : (eqGuard op t x y (.int k m) (.int k' n)).run P w = .ok () w := by
    unfold eqGuard; cases op <;> rfl
  simp only [Sem.run_bind, hg, Result.andThen_ok]
  unfold binA at h
  by_cases hk : k = k'
  · subst hk
    cases op <;> simp only [if_true] at h <;> (try simp only [Option.some.injEq] at h)
    case add => subst h; exact ⟨_, by simp [binOp, Op.intArith], rfl⟩
    case sub => subst h; exact ⟨_, by simp [binOp, Op.intArith], rfl⟩
    case mul => subst h; exact ⟨_, by simp [binOp, Op.intArith], rfl⟩
    case quo => split at h
                · cases h
                · rename_i hn; simp only [Option.some.injEq] at h; subst h; exact ⟨_, by simp [binOp, Op.intDiv, hn], rfl⟩
    case rem => split at h
                · cases h
                · rename_i hn; simp only [Option.some.injEq] at h; subst h; exact ⟨_, by simp [binOp, Op.intDiv, hn], rfl⟩
    case and => subst h; exact ⟨_, by simp [binOp, Op.intBits], rfl⟩
    case or => subst h; exact ⟨_, by simp [binOp, Op.intBits], rfl⟩
    case xor => subst h; exact ⟨_, by simp [binOp, Op.intBits], rfl⟩
    case andNot => subst h; exact ⟨_, by simp [binOp, Op.intBits], rfl⟩
    case shl => split at h
                · rename_i hn; simp only [Option.some.injEq] at h; subst h; exact ⟨_, by simp [binOp, Op.shift, show ¬ n < 0 from by omega], rfl⟩
                · cases h
    case shr => split at h
                · rename_i hn; simp only [Option.some.injEq] at h; subst h; exact ⟨_, by simp [binOp, Op.shift, show ¬ n < 0 from by omega], rfl⟩
                · cases h
    case eql => subst h; exact ⟨_, by simp [binOp, Op.intCmp], rfl⟩
    case neq => subst h; exact ⟨_, by simp [binOp, Op.intCmp], rfl⟩
    case lss => subst h; exact ⟨_, by simp [binOp, Op.intCmp], rfl⟩
    case leq => subst h; exact ⟨_, by simp [binOp, Op.intCmp], rfl⟩
    case gtr => subst h; exact ⟨_, by simp [binOp, Op.intCmp], rfl⟩
    case geq => subst h; exact ⟨_, by simp [binOp, Op.intCmp], rfl⟩
  · cases op <;> simp only [if_neg hk, reduceCtorEq] at h
    case shl => split at h
                · rename_i hn; simp only [Option.some.injEq] at h; subst h; exact ⟨_, by simp [binOp, Op.shift, show ¬ n < 0 from by omega], rfl⟩
                · cases h
    case shr => split at h
                · rename_i hn; simp only [Option.some.injEq] at h; subst h; exact ⟨_, by simp [binOp, Op.shift, show ¬ n < 0 from by omega], rfl⟩
                · cases h
theorem nil_equal {t : TypeId} {desc : TypeDesc} {c d : AC} {u v : Value} {r : Bool} (hc : CRel μ w c u) (hd : CRel μ w d v) (hu : P.underlying t = some desc) (h : nilA desc c d = some r) :
    (Op.equal t u v).run P w = .ok r w ∧ (∀ op x y, (eqGuard op t x y u v).run P w = .ok () w) ∧ (∀ op, op = .eql ∨ op = .neq → binOp op t u v = if op = .eql then (do pure (.bool (← Op.equal t u v))) else (do pure (.bool (!(← Op.equal t u v))))) := by
  have hg : ∀ (u v : Value), ¬ (u = .nilIface ∧ v = .nilIface) → (∀ x y, u = .agg x → v = .agg y → False) → ∀ op x y, (eqGuard op t x y u v).run P w = .ok () w := by
    intro u v h1 h2 op x y
    unfold eqGuard
    cases op <;> first
      | rfl
      | (simp only [Bool.not_true, Bool.false_eq_true, if_false]
         split
         · exact absurd ⟨rfl, rfl⟩ h1
         · exact (h2 _ _ rfl rfl).elim
         · rfl)
  have step : ∀ (u v : Value), ∃ d, Op.equal t u v = Op.equalIn (d + 1) t u v := fun u v => ⟨9999, rfl⟩
  unfold nilA at h
  split at h
  case h_1 e a b =>
    cases a with
    | none =>
      simp only [CRel] at hc; subst hc
      simp only [Option.isNone_none, if_true, Option.some.injEq] at h; subst h
      cases b with
      | none => simp only [CRel] at hd; subst hd; exact ⟨by obtain ⟨d, hd'⟩ := step _ _; rw [hd', Op.equalIn.eq_2]; simp [underlying, hu], hg _ _ (by simp) (by simp), by intro op ho; rcases ho with rfl | rfl <;> rfl⟩
      | some b => obtain ⟨r', s, _, rfl⟩ := hd; exact ⟨by obtain ⟨d, hd'⟩ := step _ _; rw [hd', Op.equalIn.eq_2]; simp [underlying, hu], hg _ _ (by simp) (by simp), by intro op ho; rcases ho with rfl | rfl <;> rfl⟩
    | some a =>
      obtain ⟨r', s, _, rfl⟩ := hc
      simp only [Option.isNone_some, Bool.false_eq_true, if_false] at h
      cases b with
      | none => simp only [CRel] at hd; subst hd; simp only [Option.isNone_none, if_true, Option.some.injEq] at h; subst h; exact ⟨by obtain ⟨d, hd'⟩ := step _ _; rw [hd', Op.equalIn.eq_2]; simp [underlying, hu], hg _ _ (by simp) (by simp), by intro op ho; rcases ho with rfl | rfl <;> rfl⟩
      | some b => simp at h
  case h_2 e a _ _ _ b _ _ _ =>
    cases a with
    | none =>
      obtain ⟨_, _, rfl⟩ := hc
      simp only [Option.isNone_none, if_true, Option.some.injEq] at h; subst h
      cases b with
      | none => obtain ⟨_, _, rfl⟩ := hd; exact ⟨by obtain ⟨d, hd'⟩ := step _ _; rw [hd', Op.equalIn.eq_2]; simp [underlying, hu], hg _ _ (by simp) (by simp), by intro op ho; rcases ho with rfl | rfl <;> rfl⟩
      | some b => obtain ⟨a', c', r', s, e', n, rfl, _⟩ := hd; exact ⟨by obtain ⟨d, hd'⟩ := step _ _; rw [hd', Op.equalIn.eq_2]; simp [underlying, hu], hg _ _ (by simp) (by simp), by intro op ho; rcases ho with rfl | rfl <;> rfl⟩
    | some a =>
      obtain ⟨a', c', r', s, e', n, rfl, _⟩ := hc
      simp only [Option.isNone_some, Bool.false_eq_true, if_false] at h
      cases b with
      | none => obtain ⟨_, _, rfl⟩ := hd; simp only [Option.isNone_none, if_true, Option.some.injEq] at h; subst h; exact ⟨by obtain ⟨d, hd'⟩ := step _ _; rw [hd', Op.equalIn.eq_2]; simp [underlying, hu], hg _ _ (by simp) (by simp), by intro op ho; rcases ho with rfl | rfl <;> rfl⟩
      | some b => simp at h
  case h_3 _ _ a b =>
    cases a with
    | none =>
      simp only [CRel] at hc; subst hc
      simp only [Option.isNone_none, if_true, Option.some.injEq] at h; subst h
      cases b with
      | none => simp only [CRel] at hd; subst hd; exact ⟨by obtain ⟨d, hd'⟩ := step _ _; rw [hd', Op.equalIn.eq_2]; simp [underlying, hu], hg _ _ (by simp) (by simp), by intro op ho; rcases ho with rfl | rfl <;> rfl⟩
      | some b => obtain ⟨r', s, _, rfl⟩ := hd; exact ⟨by obtain ⟨d, hd'⟩ := step _ _; rw [hd', Op.equalIn.eq_2]; simp [underlying, hu], hg _ _ (by simp) (by simp), by intro op ho; rcases ho with rfl | rfl <;> rfl⟩
    | some a =>
      obtain ⟨r', s, _, rfl⟩ := hc
      simp only [Option.isNone_some, Bool.false_eq_true, if_false] at h
      cases b with
      | none => simp only [CRel] at hd; subst hd; simp only [Option.isNone_none, if_true, Option.some.injEq] at h; subst h; exact ⟨by obtain ⟨d, hd'⟩ := step _ _; rw [hd', Op.equalIn.eq_2]; simp [underlying, hu], hg _ _ (by simp) (by simp), by intro op ho; rcases ho with rfl | rfl <;> rfl⟩
      | some b => simp at h
  case h_4 => simp only [Option.some.injEq] at h; simp only [CRel] at hc hd; subst hc hd h; exact ⟨by obtain ⟨d, hd'⟩ := step _ _; rw [hd', Op.equalIn.eq_2]; simp [underlying, hu], hg _ _ (by simp) (by simp), by intro op ho; rcases ho with rfl | rfl <;> rfl⟩
  case h_5 => simp only [Option.some.injEq] at h; obtain ⟨fs, cs, rfl, _⟩ := hd; simp only [CRel] at hc; subst hc h; exact ⟨by obtain ⟨d, hd'⟩ := step _ _; rw [hd', Op.equalIn.eq_2]; simp [underlying, hu], hg _ _ (by simp) (by simp), by intro op ho; rcases ho with rfl | rfl <;> rfl⟩
  case h_6 => simp only [Option.some.injEq] at h; obtain ⟨fs, cs, rfl, _⟩ := hc; simp only [CRel] at hd; subst hd h; exact ⟨by obtain ⟨d, hd'⟩ := step _ _; rw [hd', Op.equalIn.eq_2]; simp [underlying, hu], hg _ _ (by simp) (by simp), by intro op ho; rcases ho with rfl | rfl <;> rfl⟩
  case h_7 => cases h
theorem binA_gives {op : BinOp} {t : TypeId} {x y : Operand} {b c v : AV} {u u' : Value} (hb : VRel μ w b u) (hc : VRel μ w c u') (h : binA P op t x y b c = some v) :
    ∃ v', (do eqGuard op t x y u u'; binOp op t u u' : Sem Value).run P w = .ok v' w ∧ VRel μ w v v' := by
  by_cases hint : ∃ k m k' n, b = .one (.int k m) ∧ c = .one (.int k' n)
  · obtain ⟨k, m, k', n, rfl, rfl⟩ := hint
    simp only [VRel, CRel] at hb hc
    subst hb hc
    exact binInt op t k k' m n x y h
  · unfold binA at h
    split at h
    · rename_i k m k' n; exact absurd ⟨k, m, k', n, rfl, rfl⟩ hint
    · split at h
      · rename_i v1 v2 h1 h2
        have e1 := AV.val_rel h1 hb
        have e2 := AV.val_rel h2 hc
        subst e1 e2
        simp only [pureBin, Option.bind_eq_some_iff] at h
        obtain ⟨r, hr, hv⟩ := h
        exact ⟨r, pureRun_run w hr, ofVal_rel hv⟩
      · split at h
        · rename_i c1 d1
          simp only [Option.bind_eq_some_iff, Option.map_eq_some_iff] at h
          obtain ⟨k, hk, r, hr, rfl⟩ := h
          obtain ⟨h1, h2, h3⟩ := nil_equal (P := P) (t := t) hb hc hk hr
          refine ⟨.bool r, ?_, rfl⟩
          rw [h3 .eql (.inl rfl)]
          simp only [Sem.run_bind, h2, Result.andThen_ok, if_true, h1, Sem.run_pure]
        · rename_i c1 d1
          simp only [Option.bind_eq_some_iff, Option.map_eq_some_iff] at h
          obtain ⟨k, hk, r, hr, rfl⟩ := h
          obtain ⟨h1, h2, h3⟩ := nil_equal (P := P) (t := t) hb hc hk hr
          refine ⟨.bool !r, ?_, rfl⟩
          rw [h3 .neq (.inr rfl)]
          simp only [Sem.run_bind, h2, Result.andThen_ok, reduceCtorEq, if_false, h1, Sem.run_pure]
        · cases h
end
end Go.AI
end
section
namespace Go.AI
section
variable {P : Program} {μ : Mu} {w : World} {T : List AV} {a : Act} {g : Nat → Option AObj}
theorem takeAll_spec : ∀ {n : Nat} {cells : List (Option AC)} {o : Nat} {cs : List AC}, takeAll cells o n = some cs → cs.length = n ∧ ∀ (i : Nat) (c : AC), cs[i]? = some c → cells[o + i]? = some (some c)
  | 0, cells, o, cs, h => by simp only [takeAll, Option.some.injEq] at h; subst h; simp
  | n + 1, cells, o, cs, h => by
    simp only [takeAll] at h
    split at h
    · rename_i c hc
      simp only [Option.map_eq_some_iff] at h
      obtain ⟨l, hl, rfl⟩ := h
      obtain ⟨h1, h2⟩ := takeAll_spec hl
      refine ⟨by simp [h1], ?_⟩
      intro i d hd
      cases i with
      | zero => simp at hd; subst hd; simpa using hc
      | succ i =>
        simp at hd
        have := h2 i d hd
        rwa [show o + 1 + i = o + (i + 1) from by omega] at this
    · cases h
theorem cell_row {w : World} {r off : Nat} {cs : Array Value} {t : TypeId} {fz : Nat × Nat} (h : w.heap[r]? = some (.cells cs t fz)) : w.cell? ⟨r, off, none⟩ = cs[off]? := by
  simp [World.cell?, h]
theorem load_rel {H : AHeap} {b : APtr} {n : Nat} {cs : List AC} {v : Value} (rel : Rel μ g w) (hg : g b.1 = H.get b.1) (hl : H.load b n = some cs) (hp : PtrRel μ b v) :
    ∃ ad vs, v = .pointer (some ad) ∧ vs.length = n ∧ All2 (CRel μ w) cs vs ∧ ∀ (j : Nat) (u : Value), vs[j]? = some u → w.cell? (ad.add j) = some u := by
  obtain ⟨r, s, hm, rfl⟩ := hp
  unfold AHeap.load at hl
  split at hl
  · rename_i e gr st ro cells hget
    have ho := rel.obj b.1 r s _ hm (hg.trans hget)
    obtain ⟨A, e', fz, h1, h2, _, h4⟩ := ho
    obtain ⟨hlen, hcs⟩ := takeAll_spec hl
    have hex : ∀ i c, cs[i]? = some c → ∃ u, A[s + b.2 + i]? = some u ∧ CRel μ w c u := by
      intro i c hc
      obtain ⟨u, hu, hr⟩ := h4 _ _ (hcs i c hc)
      exact ⟨u, by rw [show s + b.2 + i = s + (b.2 + i) from by omega]; exact hu, hr⟩
    have hin : ∀ i, i < n → s + b.2 + i < A.size := by
      intro i hi
      obtain ⟨u, hu, _⟩ := hex i cs[i] (List.getElem?_eq_getElem (by omega))
      rcases Nat.lt_or_ge (s + b.2 + i) A.size with h | h
      · exact h
      · rw [Array.getElem?_eq_none h] at hu; cases hu
    refine ⟨⟨r, s + b.2, none⟩, (A.toList.drop (s + b.2)).take n, rfl, ?_, ?_, ?_⟩
    · simp only [List.length_take, List.length_drop, Array.length_toList]
      cases n with
      | zero => simp
      | succ n => have := hin n (by omega); omega
    · refine All2.of_get ?_ ?_
      · simp only [List.length_take, List.length_drop, Array.length_toList]
        cases n with
        | zero => simp [hlen]
        | succ n => have := hin n (by omega); omega
      · intro i c u hc hu
        obtain ⟨u', hu', hr⟩ := hex i c hc
        rw [List.getElem?_take, List.getElem?_drop, Array.getElem?_toList] at hu
        split at hu
        · rw [hu] at hu'; cases hu'; exact hr
        · cases hu
    · intro j u hu
      rw [List.getElem?_take, List.getElem?_drop, Array.getElem?_toList] at hu
      split at hu
      · have : (⟨r, s + b.2, none⟩ : Addr).add j = ⟨r, s + b.2 + j, none⟩ := by unfold Addr.add; split <;> simp_all
        rw [this, cell_row h1]
        exact hu
      · cases hu
  · cases hl
theorem loadVar_agg {t : TypeId} {n : Nat} {ad : Addr} {vs : List Value} (h1 : isAggT P t = some true) (h2 : sizeT P t = some n) (hl : vs.length = n) (h : ∀ (j : Nat) (u : Value), vs[j]? = some u → w.cell? (ad.add j) = some u) :
    (loadVar t ad).run P w = .ok (.agg vs.toArray) w := by
  subst hl
  simp only [loadVar, Sem.run_bind, isAggT_run w h1, Result.andThen_ok, if_true, sizeT_run w h2, run_loadCells_list w ad vs h, Sem.run_pure]
theorem loadVar_one {t : TypeId} {ad : Addr} {u : Value} (h1 : isAggT P t = some false) (h : w.cell? ad = some u) :
    (loadVar t ad).run P w = .ok u w := by
  simp only [loadVar, Sem.run_bind, isAggT_run w h1, Result.andThen_ok, Bool.false_eq_true, if_false, run_load, h]
theorem intA_rel {x : AV} {i : Int} {v : Value} (h : intA x = some i) (k : VRel μ w x v) : ∃ kd, v = .int kd i := by
  unfold intA at h
  split at h
  · rename_i kd n
    simp only [Option.some.injEq] at h; subst h
    exact ⟨kd, k⟩
  · cases h
theorem optInt_rel (hT : TRel μ w T a.tmps) {x : Option Operand} {i : Option Int} (h : optInt T x = some i) :
    (x = none ∧ i = none) ∨ ∃ o n kd, x = some o ∧ i = some n ∧ a.eval o = .int kd n := by
  cases x with
  | none => simp only [optInt, Option.some.injEq] at h; exact .inl ⟨rfl, h.symm⟩
  | some o =>
    simp only [optInt, Option.bind_eq_some_iff, Option.map_eq_some_iff] at h
    obtain ⟨v, hv, n, hn, rfl⟩ := h
    obtain ⟨kd, hk⟩ := intA_rel hn (evalA_rel hT hv)
    exact .inr ⟨o, n, kd, rfl, rfl, hk⟩
theorem CRel_sliced {p : Option APtr} {sz len : Nat} {cap : Option Nat} {v : Value} (h : CRel μ w (.sl p sz len cap) v) {l hh : Nat} (h1 : l ≤ hh) (h2 : hh ≤ len) (m : Option Nat) (hm : ∀ k, m = some k → hh ≤ k ∧ k ≤ len) :
    ∃ ad rlen rcap, v = .slice ad rlen rcap ∧ rlen = len ∧ len ≤ rcap ∧
      CRel μ w (.sl (p.map fun p => (p.1, p.2 + l * sz)) sz (hh - l) ((m.or cap).map (· - l))) (.slice (if m.getD rcap = l then ad else ad.map (·.add (l * sz))) (hh - l) (m.getD rcap - l)) := by
  cases p with
  | none =>
    obtain ⟨rfl, rfl, rfl⟩ := h
    refine ⟨none, 0, 0, rfl, rfl, Nat.le_refl _, ?_⟩
    have hl : l = 0 := by omega
    have hh0 : hh = 0 := by omega
    subst hl hh0
    cases m with
    | none => simp [CRel]
    | some k =>
      have := hm k rfl
      have hk : k = 0 := by omega
      subst hk
      simp [CRel]
  | some p =>
    obtain ⟨ad, cap', r, s, e, n, rfl, hlen, hcap, hμ, had, hsh, hsz⟩ := h
    refine ⟨some ad, len, cap', rfl, rfl, hlen, ?_⟩
    have hmc : m.getD cap' ≤ cap' := by
      cases m with
      | none => exact Nat.le_refl _
      | some k => have := hm k rfl; simp; omega
    have hhm : hh ≤ m.getD cap' := by
      cases m with
      | none => simp; omega
      | some k => exact (hm k rfl).1
    have hbnd : s + (p.2 + l * sz) + (m.getD cap' - l) * sz ≤ n := by
      have h3 : l * sz + (m.getD cap' - l) * sz = m.getD cap' * sz := by rw [← Nat.add_mul]; congr 1; omega
      have h4 : m.getD cap' * sz ≤ cap' * sz := Nat.mul_le_mul_right _ hmc
      omega
    have hcap' : ∀ k, ((m.or cap).map (· - l)) = some k → m.getD cap' - l = k := by
      intro k hk
      cases m with
      | none =>
        simp only [Option.none_or, Option.map_eq_some_iff] at hk
        obtain ⟨c, hc, rfl⟩ := hk
        rw [hcap c hc]; rfl
      | some k' => simp at hk; simpa using hk
    by_cases he : m.getD cap' = l
    · rw [if_pos he]
      exact ⟨ad, m.getD cap' - l, r, s, e, n, rfl, by omega, hcap', hμ, .inl (by omega), hsh, hbnd⟩
    · rw [if_neg he]
      refine ⟨ad.add (l * sz), m.getD cap' - l, r, s, e, n, rfl, by omega, hcap', hμ, .inr ?_, hsh, hbnd⟩
      rcases had with h0 | rfl
      · omega
      · unfold Addr.add; split
        · rename_i hz; simp [hz]
        · simp [Nat.add_assoc]
theorem sliceAt_gives {t e : TypeId} {s r : AC} {v : Value} {lo hi mx : Option Operand} {l h : Option Int} {sz : Nat} (hT : TRel μ w T a.tmps) (hu : P.underlying t = some (.slice e)) (hs : sizeT P e = some sz)
    (hv : CRel μ w s v) (hl : optInt T lo = some l) (hh : optInt T hi = some h) (hm : mx = none) (hr : sliceA sz s l h = some r) :
    ∃ v', (Instr.sliceAt t v (lo.map a.eval) (hi.map a.eval) (mx.map a.eval)).run P w = .ok v' w ∧ CRel μ w r v' := by
  subst hm
  unfold sliceA at hr
  split at hr
  · rename_i p z len cap
    split at hr
    · rename_i hb
      simp only [Option.some.injEq] at hr
      obtain ⟨hz, hb1, hb2, hb3⟩ := hb
      obtain ⟨ad, rlen, rcap, rfl, rfl, hcap, hc⟩ := CRel_sliced hv (l := (l.getD 0).toNat) (hh := (h.getD len).toNat) (by omega) (by omega) none (by simp)
      refine ⟨.slice (if rcap = (l.getD 0).toNat then ad else ad.map (·.add ((l.getD 0).toNat * sz))) ((h.getD rlen).toNat - (l.getD 0).toNat) (rcap - (l.getD 0).toNat), ?_, ?_⟩
      · unfold Instr.sliceAt
        simp only [Sem.run_bind, underlying_run w hu, Result.andThen_ok]
        unfold Instr.slice
        simp only [Sem.run_bind, underlying_run w hu, Result.andThen_ok]
        have hbd : (Instr.sliceBounds true rlen rcap (lo.map a.eval) (hi.map a.eval) (Option.map a.eval none)).run P w = .ok ((l.getD 0).toNat, (h.getD rlen).toNat, rcap) w := by
          rcases optInt_rel hT hl with ⟨rfl, rfl⟩ | ⟨o1, n1, k1, rfl, rfl, e1⟩ <;> rcases optInt_rel hT hh with ⟨rfl, rfl⟩ | ⟨o2, n2, k2, rfl, rfl, e2⟩ <;> simp only [Option.getD_none, Option.getD_some] at hb1 hb2 hb3
          · simp [Instr.sliceBounds]
          · simp [Instr.sliceBounds, e2, run_sliceBound _ _ _ _ _ (show 0 ≤ n2 by omega) (show n2 ≤ (rcap : Int) by omega)]
          · simp [Instr.sliceBounds, e1, run_sliceBound _ _ _ _ _ (show 0 ≤ n1 by omega) (show n1 ≤ (rlen : Int) by omega)]
          · simp [Instr.sliceBounds, e1, e2, run_sliceBound _ _ _ _ _ (show 0 ≤ n2 by omega) (show n2 ≤ (rcap : Int) by omega), run_sliceBound _ _ _ _ _ (show 0 ≤ n1 by omega) (show n1 ≤ (n2.toNat : Int) by omega)]
        rw [hbd]
        simp only [Result.andThen_ok, sizeT_run w hs, Sem.run_pure]
      · subst hr
        rcases hz with rfl | rfl
        · cases ad with
          | none => simpa using hc
          | some _ => simp [CRel] at hv
        · simpa using hc
    · cases hr
  · cases hr
theorem slice3At_gives {t e : TypeId} {s r : AC} {v : Value} {lo hi mx : Option Operand} {l : Option Int} {h m : Int} {sz : Nat} (hT : TRel μ w T a.tmps) (hu : P.underlying t = some (.slice e)) (hs : sizeT P e = some sz)
    (hv : CRel μ w s v) (hl : optInt T lo = some l) (hh : optInt T hi = some (some h)) (hm : optInt T mx = some (some m)) (hr : slice3A sz s l h m = some r) :
    ∃ v', (Instr.sliceAt t v (lo.map a.eval) (hi.map a.eval) (mx.map a.eval)).run P w = .ok v' w ∧ CRel μ w r v' := by
  unfold slice3A at hr
  split at hr
  · rename_i p z len cap
    split at hr
    · rename_i hb
      simp only [Option.some.injEq] at hr
      obtain ⟨hz, hb1, hb2, hb3, hb4⟩ := hb
      obtain ⟨ad, rlen, rcap, rfl, rfl, hcap, hc⟩ := CRel_sliced hv (l := (l.getD 0).toNat) (hh := h.toNat) (by omega) (by omega) (some m.toNat) (by simp; omega)
      refine ⟨.slice (if m.toNat = (l.getD 0).toNat then ad else ad.map (·.add ((l.getD 0).toNat * sz))) (h.toNat - (l.getD 0).toNat) (m.toNat - (l.getD 0).toNat), ?_, ?_⟩
      · unfold Instr.sliceAt
        simp only [Sem.run_bind, underlying_run w hu, Result.andThen_ok]
        unfold Instr.slice
        simp only [Sem.run_bind, underlying_run w hu, Result.andThen_ok]
        have hbd : (Instr.sliceBounds true rlen rcap (lo.map a.eval) (hi.map a.eval) (mx.map a.eval)).run P w = .ok ((l.getD 0).toNat, h.toNat, m.toNat) w := by
          rcases optInt_rel hT hh with ⟨_, h0⟩ | ⟨o2, n2, k2, rfl, h2, e2⟩
          · cases h0
          · simp only [Option.some.injEq] at h2; subst h2
            rcases optInt_rel hT hm with ⟨_, h0⟩ | ⟨o3, n3, k3, rfl, h3, e3⟩
            · cases h0
            · simp only [Option.some.injEq] at h3; subst h3
              rcases optInt_rel hT hl with ⟨rfl, rfl⟩ | ⟨o1, n1, k1, rfl, rfl, e1⟩ <;> simp only [Option.getD_none, Option.getD_some] at hb1 hb2 hb3
              · simp [Instr.sliceBounds, e2, e3, run_sliceBound _ _ _ _ _ (show 0 ≤ m by omega) (show m ≤ (rcap : Int) by omega), run_sliceBound _ _ _ _ _ (show 0 ≤ h by omega) (show h ≤ (m.toNat : Int) by omega)]
              · simp [Instr.sliceBounds, e1, e2, e3, run_sliceBound _ _ _ _ _ (show 0 ≤ m by omega) (show m ≤ (rcap : Int) by omega), run_sliceBound _ _ _ _ _ (show 0 ≤ h by omega) (show h ≤ (m.toNat : Int) by omega), run_sliceBound _ _ _ _ _ (show 0 ≤ n1 by omega) (show n1 ≤ (h.toNat : Int) by omega)]
        rw [hbd]
        simp only [Result.andThen_ok, sizeT_run w hs, Sem.run_pure]
      · subst hr
        rcases hz with rfl | rfl
        · cases ad with
          | none => simpa using hc
          | some _ => simp [CRel] at hv
        · simpa using hc
    · cases hr
  · cases hr
end
end Go.AI
end
section
namespace Go.AI
section
variable {P : Program} {μ : Mu} {w : World} {T : List AV} {a : Act} {g : Nat → Option AObj} {H H' : AHeap} {v : AV}
def Calm (P : Program) (μ : Mu) (w : World) (a : Act) (o : Oper) (H H' : AHeap) (v : AV) : Prop :=
  H' = H ∧ ∃ v', (execOp a.eval o).run P w = .ok (.value v') w ∧ VRel μ w v v'
theorem calm_of {o : Oper} {s : Sem Value} (he : execOp a.eval o = (do pure (.value (← s)))) (hH : H' = H) (h : ∃ v', s.run P w = .ok v' w ∧ VRel μ w v v') : Calm P μ w a o H H' v := by
  obtain ⟨v', h1, h2⟩ := h
  refine ⟨hH, v', ?_, h2⟩
  rw [he]
  simp only [Sem.run_bind, h1, Result.andThen_ok, Sem.run_pure]
def FRel (μ : Mu) (w : World) : Option (Nat × AV) → Option (Nat × Value) → Prop
  | none, none => True
  | some p, some q => p.1 = q.1 ∧ VRel μ w p.2 q.2
  | _, _ => False
theorem findNowA_rel {kind : TypeDesc} {k : Value} : ∀ {es : List (Value × AV)} {ms : List MapEntry} {i : Nat} {r : Option (Nat × AV)},
    All2 (fun (e : Value × AV) (m : MapEntry) => m.key = e.1 ∧ VRel μ w e.2 m.val) es ms → findNowA kind k es i = some r →
    ∃ r', Instr.findNow kind k ms i = some r' ∧ FRel μ w r r'
  | [], ms, i, r, hm, h => by
    rw [All2_nil hm]
    simp only [findNowA, Option.some.injEq] at h; subst h
    exact ⟨none, rfl, trivial⟩
  | e :: es, [], _, _, hm, _ => hm.elim
  | e :: es, m :: ms, i, r, hm, h => by
    obtain ⟨⟨hk, hv⟩, hms⟩ := hm
    simp only [findNowA] at h
    simp only [Instr.findNow, hk]
    split at h
    · rename_i hs
      simp only [Option.some.injEq] at h; subst h
      rw [hs]
      exact ⟨_, rfl, rfl, hv⟩
    · rename_i hs
      rw [hs]
      exact findNowA_rel hms h
    · cases h
theorem findNowA_none {kind : TypeDesc} {k : Value} : ∀ {es : List (Value × AV)} {ms : List MapEntry} {i : Nat},
    All2 (fun (e : Value × AV) (m : MapEntry) => m.key = e.1 ∧ VRel μ w e.2 m.val) es ms → findNowA kind k es i = none → Instr.findNow kind k ms i = none
  | [], ms, i, hm, h => by simp [findNowA] at h
  | e :: es, [], _, hm, _ => hm.elim
  | e :: es, m :: ms, i, hm, h => by
    obtain ⟨⟨hk, hv⟩, hms⟩ := hm
    simp only [findNowA] at h
    simp only [Instr.findNow, hk]
    split at h
    · cases h
    · rename_i hs
      rw [hs]
      exact findNowA_none hms h
    · rename_i hs
      rw [hs]
theorem findAskingA_rel {kt : TypeId} {k : Value} : ∀ {es : List (Value × AV)} {ms : List MapEntry} {i : Nat} {r : Option (Nat × AV)},
    All2 (fun (e : Value × AV) (m : MapEntry) => m.key = e.1 ∧ VRel μ w e.2 m.val) es ms → findAskingA P kt k es i = some r →
    ∃ r', (Instr.findAsking kt k ms i).run P w = .ok r' w ∧ FRel μ w r r'
  | [], ms, i, r, hm, h => by
    rw [All2_nil hm]
    simp only [findAskingA, Option.some.injEq] at h; subst h
    exact ⟨none, rfl, trivial⟩
  | e :: es, [], _, _, hm, _ => hm.elim
  | e :: es, m :: ms, i, r, hm, h => by
    obtain ⟨⟨hk, hv⟩, hms⟩ := hm
    simp only [findAskingA] at h
    simp only [Instr.findAsking, hk, Sem.run_bind]
    split at h
    · rename_i hs
      simp only [Option.some.injEq] at h; subst h
      simp only [pureRun_run w hs, Result.andThen_ok, if_true, Sem.run_pure]
      exact ⟨_, rfl, rfl, hv⟩
    · rename_i hs
      simp only [pureRun_run w hs, Result.andThen_ok, Bool.false_eq_true, if_false]
      exact findAskingA_rel hms h
    · cases h
theorem findA_rel {kt : TypeId} {k : Value} {es : List (Value × AV)} {ms : List MapEntry} {r : Option (Nat × AV)}
    (hm : All2 (fun (e : Value × AV) (m : MapEntry) => m.key = e.1 ∧ VRel μ w e.2 m.val) es ms) (h : findA P kt k es = some r) :
    ∃ r', (Instr.findKey kt k ms).run P w = .ok r' w ∧ FRel μ w r r' := by
  unfold findA at h
  split at h
  · rename_i d hd
    unfold Instr.findKey
    simp only [Sem.run_bind, underlying_run w hd, Result.andThen_ok]
    split at h
    · rename_i r1 h1
      simp only [Option.some.injEq] at h; subst h
      obtain ⟨r', h2, h3⟩ := findNowA_rel hm h1
      rw [h2]
      exact ⟨r', rfl, h3⟩
    · rename_i h1
      rw [findNowA_none hm h1]
      exact findAskingA_rel hm h
  · cases h
theorem keyOk_run {kt : TypeId} {e : Bool} {k : Value} (w : World) (h : keyOkA P kt e k = true) : (Instr.checkKey e 10000 kt k).run P w = .ok () w := by
  unfold keyOkA at h
  cases hp : pureRun P (Instr.checkKey e 10000 kt k) with
  | none => rw [hp] at h; cases h
  | some u => exact pureRun_run w hp
theorem map_rel {b r s : Nat} {es : List (Value × AV)} (rel : Rel μ g w) (hg : g b = some (.map es)) (hm : μ b = some (r, s)) :
    ∃ ms clock, w.heap[r]? = some (.map ms clock) ∧ All2 (fun (e : Value × AV) (m : MapEntry) => m.key = e.1 ∧ VRel μ w e.2 m.val) es ms.toList :=
  rel.obj b r s _ hm hg
theorem run_getObj {r : Nat} {o : Obj} (h : w.heap[r]? = some o) (hc : ∀ c t f, o ≠ .cells c t f) : (getObj r).run P w = .ok o w := by
  unfold getObj
  simp only [Sem.run, h]
def mapOf (g : Nat → Option AObj) : Option Nat → Option (List (Value × AV))
  | none => some []
  | some b => match g b with
    | some (.map es) => some es
    | _ => none
theorem lookup_gives {t kt et : TypeId} {r : Option Nat} {k x u : Value} {ok : Bool} {es : List (Value × AV)} {z : AV} {f : Option (Nat × AV)} {v : AV} (rel : Rel μ g w)
    (hu : P.underlying t = some (.map kt et)) (hr : CRel μ w (.map r) x) (hes : mapOf g r = some es) (hz : zeroA P et = some z)
    (hk : keyOkA P kt es.isEmpty k = true) (hf : findA P kt k es = some f)
    (hv : (if ok then (((f.map (·.2)).getD z).part.bind fun p => some (.tup [p, (false, [.bool f.isSome])])) else some ((f.map (·.2)).getD z)) = some v) (hu' : u = k) :
    ∃ v', (Instr.lookup t x u ok).run P w = .ok v' w ∧ VRel μ w v v' := by
  subst hu'
  obtain ⟨zv, hz1, hz2, _⟩ := zeroA_run (P := P) (μ := μ) w hz
  have rest : ∀ ms : List MapEntry, All2 (fun (e : Value × AV) (m : MapEntry) => m.key = e.1 ∧ VRel μ w e.2 m.val) es ms →
      ∃ f', (Instr.checkKey ms.toArray.isEmpty 10000 kt u).run P w = .ok () w ∧ (Instr.findKey kt u ms).run P w = .ok f' w ∧
        VRel μ w v (if ok = true then Value.tuple #[(f'.map (·.2)).getD zv, Value.bool f'.isSome] else (f'.map (·.2)).getD zv) := by
    intro ms hrel
    obtain ⟨f', hf1, hf2⟩ := findA_rel (P := P) hrel hf
    have hemp : ms.toArray.isEmpty = es.isEmpty := by
      have := hrel.length
      cases es <;> cases ms <;> simp_all
    refine ⟨f', by rw [hemp]; exact keyOk_run w hk, hf1, ?_⟩
    have hval : VRel μ w ((f.map (·.2)).getD z) ((f'.map (·.2)).getD zv) ∧ f.isSome = f'.isSome := by
      cases f with
      | none => cases f' with
        | none => exact ⟨hz2, rfl⟩
        | some q => exact hf2.elim
      | some p => cases f' with
        | none => exact hf2.elim
        | some q => exact ⟨hf2.2, rfl⟩
    cases ok with
    | true =>
      simp only [if_true, Option.bind_eq_some_iff] at hv
      obtain ⟨p, hp, hv⟩ := hv
      simp only [Option.some.injEq] at hv; subst hv
      exact ⟨_, rfl, AV.part_rel hp hval.1, ⟨_, rfl, by rw [hval.2]; rfl⟩, trivial⟩
    | false =>
      simp only [Bool.false_eq_true, if_false, Option.some.injEq] at hv; subst hv
      exact hval.1
  cases r with
  | none =>
    simp only [CRel] at hr; subst hr
    simp only [mapOf, Option.some.injEq] at hes; subst hes
    obtain ⟨f', h1, h2, h3⟩ := rest [] trivial
    refine ⟨_, ?_, h3⟩
    unfold Instr.lookup
    simp only [Sem.run_bind, underlying_run w hu, Result.andThen_ok, Sem.run_pure]
    simp only [h1, Result.andThen_ok, h2]
    cases f' with
    | none => simp only [Sem.run_bind, hz1, Result.andThen_ok, Sem.run_pure]; rfl
    | some q => rfl
  | some b =>
    obtain ⟨rr, s, hm, rfl⟩ := hr
    unfold mapOf at hes
    split at hes
    · rename_i h; cases h
    · rename_i b' hb'
      simp only [Option.some.injEq] at hb'; subst hb'
      split at hes
      · rename_i es' hgb
        simp only [Option.some.injEq] at hes; subst hes
        obtain ⟨ms, clock, h1, h2⟩ := map_rel rel hgb hm
        obtain ⟨f', h4, h5, h6⟩ := rest ms.toList h2
        refine ⟨_, ?_, h6⟩
        unfold Instr.lookup
        simp only [Sem.run_bind, underlying_run w hu, Result.andThen_ok, run_getObj h1 (by simp), Sem.run_pure]
        simp only [Array.toArray_toList] at h4
        simp only [h4, Result.andThen_ok, h5]
        cases f' with
        | none => simp only [Sem.run_bind, hz1, Result.andThen_ok, Sem.run_pure]; rfl
        | some q => rfl
      · cases hes
theorem all2_cons {α β : Type} {R : α → β → Prop} {x : α} {xs : List α} {m : List β} (h : All2 R (x :: xs) m) : ∃ y ys, m = y :: ys ∧ R x y ∧ All2 R xs ys := by
  cases m with
  | nil => exact h.elim
  | cons y ys => exact ⟨y, ys, rfl, h.1, h.2⟩
theorem all2_one {α β : Type} {R : α → β → Prop} {x : α} {m : List β} (h : All2 R [x] m) : ∃ y, m = [y] ∧ R x y := by
  obtain ⟨y, ys, rfl, h1, h2⟩ := all2_cons h
  exact ⟨y, by rw [All2_nil h2], h1⟩
theorem bind_some' {α β : Type} {x : Option α} {f : α → Option β} {y : β} (h : x.bind f = some y) : ∃ z, x = some z ∧ f z = some y := Option.bind_eq_some_iff.1 h
theorem opA_calm {o : Oper} (hT : TRel μ w T a.tmps) (rel : Rel μ g w) (hg : ∀ b, touchA o T = some b → g b = H.get b) (hn : isEff o.op = false) (ha : isAlloc o.op = false)
    (h : opA P o T H = some (v, H')) : Calm P μ w a o H H' v := by
  obtain ⟨dst, op, type, pos, after, guard⟩ := o
  cases op
  case move x =>
    simp only [opA] at h
    obtain ⟨z, hz, h⟩ := bind_some' h
    simp only [Option.some.injEq, Prod.mk.injEq] at h; obtain ⟨rfl, rfl⟩ := h
    exact ⟨rfl, _, rfl, evalA_rel hT hz⟩
  case assign x =>
    simp only [opA] at h
    obtain ⟨z, hz, h⟩ := bind_some' h
    simp only [Option.some.injEq, Prod.mk.injEq] at h; obtain ⟨rfl, rfl⟩ := h
    exact ⟨rfl, _, rfl, evalA_rel hT hz⟩
  case pick c x y =>
    simp only [opA] at h
    split at h
    · rename_i t u z h1 h2 h3
      simp only [Option.some.injEq, Prod.mk.injEq] at h; obtain ⟨rfl, rfl⟩ := h
      have hc : a.eval c = .bool t := evalA_rel hT h1
      refine ⟨rfl, (if t then a.eval x else a.eval y), ?_, ?_⟩
      · simp only [execOp, hc]
        cases t <;> rfl
      · cases t
        · exact evalA_rel hT h3
        · exact evalA_rel hT h2
    · cases h
  case build t ps =>
    simp only [opA] at h
    split at h
    · rename_i zero parts fs h1 h2 h3
      split at h
      · rename_i places hpl
        obtain ⟨cs, hcs, h⟩ := bind_some' h
        simp only [Option.some.injEq, Prod.mk.injEq] at h; obtain ⟨rfl, rfl⟩ := h
        have hq := evalParts_rel hT h2
        refine calm_of (s := Instr.build t (ps.map fun (i, x) => (i, a.eval x))) rfl rfl ?_
        obtain ⟨B, hB, hr⟩ := build_gives (P := P) (μ := μ) (w := w) (qs := ps.map fun (i, x) => (i, a.eval x)) (by simpa using hq) h1 h3 hpl hcs
        exact ⟨_, hB, B, rfl, hr⟩
      · cases h
    · rename_i zero parts len e h1 h2 h3
      split at h
      · rename_i size hs
        obtain ⟨cs, hcs, h⟩ := bind_some' h
        simp only [Option.some.injEq, Prod.mk.injEq] at h; obtain ⟨rfl, rfl⟩ := h
        have hq := evalParts_rel hT h2
        refine calm_of (s := Instr.build t (ps.map fun (i, x) => (i, a.eval x))) rfl rfl ?_
        obtain ⟨B, hB, hr⟩ := buildArr_gives (P := P) (μ := μ) (w := w) (qs := ps.map fun (i, x) => (i, a.eval x)) (by simpa using hq) h1 h3 hs hcs
        exact ⟨_, hB, B, rfl, hr⟩
      · cases h
    · cases h
  case load t x =>
    simp only [opA] at h
    split at h
    · rename_i b n h1 h2 h3
      obtain ⟨cs, hcs, h⟩ := bind_some' h
      simp only [Option.some.injEq, Prod.mk.injEq] at h; obtain ⟨rfl, rfl⟩ := h
      have hgb : g b.1 = H.get b.1 := hg b.1 (by simp [touchA, h1])
      obtain ⟨ad, vs, hv, hl, hr, hc⟩ := load_rel rel hgb hcs (evalA_rel hT h1)
      refine calm_of (s := Instr.loadAt t (a.eval x)) rfl rfl ⟨.agg vs.toArray, ?_, vs.toArray, rfl, by simpa using hr⟩
      simp only [Instr.loadAt, hv, Instr.sureAddr, Sem.run_bind, Sem.run_pure, Result.andThen_ok]
      exact loadVar_agg h2 h3 hl hc
    · rename_i b n h1 h2 h3
      split at h
      · rename_i c hcs
        simp only [Option.some.injEq, Prod.mk.injEq] at h; obtain ⟨rfl, rfl⟩ := h
        have hgb : g b.1 = H.get b.1 := hg b.1 (by simp [touchA, h1])
        obtain ⟨ad, vs, hv, hl, hr, hc⟩ := load_rel rel hgb hcs (evalA_rel hT h1)
        cases vs with
        | nil => simp at hl
        | cons u vs =>
          refine calm_of (s := Instr.loadAt t (a.eval x)) rfl rfl ⟨u, ?_, hr.1⟩
          simp only [Instr.loadAt, hv, Instr.sureAddr, Sem.run_bind, Sem.run_pure, Result.andThen_ok]
          exact loadVar_one h2 (by simpa [Addr.add] using hc 0 u rfl)
      · cases h
    · cases h
  case nilCheck x =>
    simp only [opA] at h
    split at h
    · cases h
    · cases h
    · cases h
    · rename_i z h0 h1 h2 hz
      simp only [Option.some.injEq, Prod.mk.injEq] at h; obtain ⟨rfl, rfl⟩ := h
      have hr := evalA_rel hT hz
      refine ⟨rfl, a.eval x, ?_, hr⟩
      simp only [execOp]
      cases z with
      | one c =>
        cases c
        case ptr p =>
          cases p with
          | none => exact (h0 rfl).elim
          | some p => obtain ⟨r, s, _, e⟩ := hr; rw [e]; rfl
        case sl p _ _ _ => cases p with
          | none => obtain ⟨_, _, e⟩ := hr; rw [e]; rfl
          | some p => obtain ⟨_, _, _, _, _, _, e, _⟩ := hr; rw [e]; rfl
        case map p => cases p with
          | none => simp only [VRel, CRel] at hr; rw [hr]; rfl
          | some p => obtain ⟨_, _, _, e⟩ := hr; rw [e]; rfl
        case fn f _ _ => obtain ⟨_, _, e, _⟩ := hr; rw [e]; rfl
        case yield l => obtain ⟨_, _, _, e⟩ := hr; rw [e]; rfl
        case nilFn => exact (h2 rfl).elim
        case nilIface => exact (h1 rfl).elim
        all_goals simp only [VRel, CRel] at hr
        all_goals rw [hr]; rfl
      | agg cs => obtain ⟨vs, e, _⟩ := hr; rw [e]; rfl
      | tup ps => obtain ⟨vs, e, _⟩ := hr; rw [e]; rfl
    · cases h
  case binOp op t x y yt =>
    simp only [opA] at h
    split at h
    · rename_i b c h1 h2
      obtain ⟨z, hz, h⟩ := bind_some' h
      simp only [Option.some.injEq, Prod.mk.injEq] at h; obtain ⟨rfl, rfl⟩ := h
      exact calm_of (s := do eqGuard op t x y (a.eval x) (a.eval y); binOp op t (a.eval x) (a.eval y)) rfl rfl (binA_gives (evalA_rel hT h1) (evalA_rel hT h2) hz)
    · cases h
  case unOp op t x =>
    simp only [opA] at h
    split at h
    · rename_i b h1
      simp only [Option.some.injEq, Prod.mk.injEq] at h; obtain ⟨rfl, rfl⟩ := h
      have hr : a.eval x = .bool b := evalA_rel hT h1
      refine calm_of (s := Op.unary .not (a.eval x)) rfl rfl ⟨.bool !b, ?_, rfl⟩
      rw [hr]; rfl
    · rename_i u _ h1
      obtain ⟨z, hz, h⟩ := bind_some' h
      obtain ⟨y, hy, hz⟩ := bind_some' hz
      obtain ⟨q, hq, hz⟩ := bind_some' hz
      simp only [Option.some.injEq, Prod.mk.injEq] at h; obtain ⟨rfl, rfl⟩ := h
      have hr := AV.val_rel hy (evalA_rel hT h1)
      refine calm_of (s := Op.unary _ (a.eval x)) rfl rfl ⟨q, ?_, ofVal_rel hz⟩
      rw [hr]; exact pureRun_run w hq
    · cases h
  case convert s d x =>
    simp only [opA] at h
    obtain ⟨u, hu, h⟩ := bind_some' h
    obtain ⟨z, hz, h⟩ := bind_some' h
    obtain ⟨y, hy, hz⟩ := bind_some' hz
    obtain ⟨q, hq, hz⟩ := bind_some' hz
    simp only [Option.some.injEq, Prod.mk.injEq] at h; obtain ⟨rfl, rfl⟩ := h
    have hr := AV.val_rel hy (evalA_rel hT hu)
    refine calm_of (s := convert s d (a.eval x)) rfl rfl ⟨q, ?_, ofVal_rel hz⟩
    rw [hr]; exact pureRun_run w hq
  case makeFunc fn first caps =>
    cases fn
    case func f =>
      simp only [opA] at h
      split at h
      · rename_i p q h1 h2
        simp only [Option.some.injEq, Prod.mk.injEq] at h; obtain ⟨rfl, rfl⟩ := h
        obtain ⟨l1, hl1, hp1⟩ := bind_some' h1
        obtain ⟨l2, hl2, hp2⟩ := bind_some' h2
        refine calm_of (s := Instr.makeFunc (.func f) (first.map a.eval) (caps.map a.eval)) rfl rfl ⟨_, rfl, _, _, rfl, ?_, ?_⟩
        · simpa using ptrs_rel hp1 (evalAll_rel hT hl1)
        · simpa using ptrs_rel hp2 (evalAll_rel hT hl2)
      · cases h
    all_goals simp [opA] at h
  case slice t x lo hi mx =>
    simp only [opA] at h
    split at h
    · rename_i e hu
      split at h
      · rename_i s l hh sz h1 h2 h3 h4 h5
        split at h
        · rename_i hm
          obtain ⟨r, hr, h⟩ := bind_some' h
          simp only [Option.some.injEq, Prod.mk.injEq] at h; obtain ⟨rfl, rfl⟩ := h
          exact calm_of (s := Instr.sliceAt t (a.eval x) (lo.map a.eval) (hi.map a.eval) (mx.map a.eval)) rfl rfl (sliceAt_gives hT hu h5 (evalA_rel hT h1) h2 h3 (by simpa using hm) hr)
        · cases h
      · rename_i s l hh m sz h1 h2 h3 h4 h5
        obtain ⟨r, hr, h⟩ := bind_some' h
        simp only [Option.some.injEq, Prod.mk.injEq] at h; obtain ⟨rfl, rfl⟩ := h
        exact calm_of (s := Instr.sliceAt t (a.eval x) (lo.map a.eval) (hi.map a.eval) (mx.map a.eval)) rfl rfl (slice3At_gives hT hu h5 (evalA_rel hT h1) h2 h3 h4 hr)
      · cases h
    · rename_i hu
      split at h
      · rename_i s l hh h1 h2 h3 
        split at h
        · rename_i hb
          simp only [Option.some.injEq, Prod.mk.injEq] at h; obtain ⟨rfl, rfl⟩ := h
          obtain ⟨hb1, hb2, hb3⟩ := hb
          have hr : a.eval x = .string s := evalA_rel hT h1
          refine calm_of (s := Instr.sliceAt t (a.eval x) (lo.map a.eval) (hi.map a.eval) (Option.map a.eval none)) rfl rfl ⟨.string (s.extract (l.getD 0).toNat (hh.getD s.size).toNat), ?_, rfl⟩
          rw [hr]
          unfold Instr.sliceAt
          simp only [Sem.run_bind, underlying_run w hu, Result.andThen_ok]
          unfold Instr.slice
          simp only [Sem.run_bind, underlying_run w hu, Result.andThen_ok, Option.map_none, Option.isSome_none, Bool.false_eq_true, if_false]
          have hbd : (Instr.sliceBounds false s.size s.size (lo.map a.eval) (hi.map a.eval) none).run P w = .ok ((l.getD 0).toNat, (hh.getD s.size).toNat, s.size) w := by
            rcases optInt_rel hT h2 with ⟨rfl, rfl⟩ | ⟨o1, n1, k1, rfl, rfl, e1⟩ <;> rcases optInt_rel hT h3 with ⟨rfl, rfl⟩ | ⟨o2, n2, k2, rfl, rfl, e2⟩ <;> simp only [Option.getD_none, Option.getD_some] at hb1 hb2 hb3
            · simp [Instr.sliceBounds]
            · simp [Instr.sliceBounds, e2, run_sliceBound _ _ _ _ _ (show 0 ≤ n2 by omega) (show n2 ≤ (s.size : Int) by omega)]
            · simp [Instr.sliceBounds, e1, run_sliceBound _ _ _ _ _ (show 0 ≤ n1 by omega) (show n1 ≤ (s.size : Int) by omega)]
            · simp [Instr.sliceBounds, e1, e2, run_sliceBound _ _ _ _ _ (show 0 ≤ n2 by omega) (show n2 ≤ (s.size : Int) by omega), run_sliceBound _ _ _ _ _ (show 0 ≤ n1 by omega) (show n1 ≤ (n2.toNat : Int) by omega)]
          rw [hbd]
          rfl
        · cases h
      · cases h
    · cases h
  case fieldAddr t x f =>
    simp only [opA] at h
    split at h
    · rename_i b fs h1 h2
      split at h
      · rename_i fd hfd
        split at h
        · rename_i n hs
          simp only [Option.some.injEq, Prod.mk.injEq] at h; obtain ⟨rfl, rfl⟩ := h
          obtain ⟨r, s, hm, hr⟩ := evalA_rel hT h1
          have hu : ∃ F, P.underlying t = some (.struct F) ∧ F.toList = fs := by
            unfold fieldsA at h2
            split at h2
            · rename_i F hF
              simp only [Option.some.injEq] at h2
              exact ⟨F, hF, h2⟩
            · cases h2
          obtain ⟨F, hF, rfl⟩ := hu
          refine calm_of (s := Instr.fieldAt t (a.eval x) f) rfl rfl ⟨.pointer (some ((⟨r, s + b.2, none⟩ : Addr).add fd.offset)), ?_, r, s, hm, ?_⟩
          · rw [hr]
            have hfd' : F[f]? = some fd := by rw [← Array.getElem?_toList]; exact hfd
            simp only [Instr.fieldAt, Sem.run_bind, underlying_run w hF, Result.andThen_ok, hfd', Instr.sureAddr, Sem.run_pure, fieldPlace, sizeT_run w hs]
            simp
          · unfold Addr.add; split
            · rename_i hz; simp [hz]
            · simp [Nat.add_assoc]
        · cases h
      · cases h
    · cases h
  case field t x f =>
    simp only [opA] at h
    split at h
    · rename_i cs fs h1 h2
      obtain ⟨fd, hfd, h⟩ := bind_some' h
      obtain ⟨z, hz, h⟩ := bind_some' h
      simp only [Option.some.injEq, Prod.mk.injEq] at h; obtain ⟨rfl, rfl⟩ := h
      obtain ⟨A, hA, hr⟩ := evalA_rel hT h1
      unfold fieldsA at h2
      split at h2
      · rename_i F hF
        simp only [Option.some.injEq] at h2; subst h2
        obtain ⟨v', hv, hrv⟩ := partA_gives (P := P) hr hz
        refine calm_of (s := Instr.field t (a.eval x) f) rfl rfl ⟨v', ?_, hrv⟩
        have hfd' : F[f]? = some fd := by rw [← Array.getElem?_toList]; exact hfd
        simp only [Instr.field, Sem.run_bind, underlying_run w hF, Result.andThen_ok, hfd', hA, asAgg, Sem.run_pure, hv]
      · cases h2
    · cases h
  case indexAddr t x ix =>
    simp only [opA] at h
    split at h
    · rename_i b sz len cap i e h1 h2 h3
      split at h
      · rename_i hb
        simp only [Option.some.injEq, Prod.mk.injEq] at h; obtain ⟨rfl, rfl⟩ := h
        obtain ⟨hb1, hb2, hb3, hb4⟩ := hb
        obtain ⟨ad, cap', r, s, el, n, hx, hlen, hcap, hm, had, hsh, hsz⟩ := evalA_rel hT h1
        obtain ⟨y, hy, hi⟩ := bind_some' h2
        obtain ⟨kd, hk⟩ := intA_rel hi (evalA_rel hT hy)
        have had' : ad = ⟨r, s + b.2, none⟩ := by
          rcases had with h0 | h0
          · omega
          · exact h0
        subst had'
        refine calm_of (s := Instr.indexAt t (a.eval x) (a.eval ix)) rfl rfl ⟨.pointer (some ((⟨r, s + b.2, none⟩ : Addr).add (i.toNat * sz))), ?_, r, s, hm, ?_⟩
        · rw [hx, hk]
          simp only [Instr.indexAt, asIntOf, Sem.run_bind, Sem.run_pure, Result.andThen_ok, underlying_run w h3, hb1, hb2, and_self, if_true, sizeT_run w hb3]
        · unfold Addr.add; split
          · rename_i hz; simp [hz]
          · simp [Nat.add_assoc]
      · cases h
    · rename_i b i len e h1 h2 h3
      split at h
      · rename_i hb
        obtain ⟨sz, hs, h⟩ := bind_some' h
        split at h
        · cases h
        · simp only [Option.some.injEq, Prod.mk.injEq] at h; obtain ⟨rfl, rfl⟩ := h
          obtain ⟨r, s, hm, hx⟩ := evalA_rel hT h1
          obtain ⟨y, hy, hi⟩ := bind_some' h2
          obtain ⟨kd, hk⟩ := intA_rel hi (evalA_rel hT hy)
          refine calm_of (s := Instr.indexAt t (a.eval x) (a.eval ix)) rfl rfl ⟨.pointer (some ((⟨r, s + b.2, none⟩ : Addr).add (i.toNat * sz))), ?_, r, s, hm, ?_⟩
          · rw [hx, hk]
            simp only [Instr.indexAt, asIntOf, Sem.run_bind, Sem.run_pure, Result.andThen_ok, underlying_run w h3, hb.1, hb.2, and_self, if_true, sizeT_run w hs, Instr.sureAddr]
          · unfold Addr.add; split
            · rename_i hz; simp [hz]
            · simp [Nat.add_assoc]
      · cases h
    · cases h
  case index t x ix =>
    simp only [opA] at h
    split at h
    · rename_i cs i len e h1 h2 h3
      split at h
      · rename_i hb
        obtain ⟨sz, hs, h⟩ := bind_some' h
        obtain ⟨z, hz, h⟩ := bind_some' h
        simp only [Option.some.injEq, Prod.mk.injEq] at h; obtain ⟨rfl, rfl⟩ := h
        obtain ⟨A, hA, hr⟩ := evalA_rel hT h1
        obtain ⟨y, hy, hi⟩ := bind_some' h2
        obtain ⟨kd, hk⟩ := intA_rel hi (evalA_rel hT hy)
        obtain ⟨v', hv, hrv⟩ := partA_gives (P := P) hr hz
        refine calm_of (s := Instr.index t (a.eval x) (a.eval ix)) rfl rfl ⟨v', ?_, hrv⟩
        rw [hA, hk]
        simp only [Instr.index, asIntOf, Sem.run_bind, Sem.run_pure, Result.andThen_ok, underlying_run w h3, hb.1, hb.2, and_self, if_true, sizeT_run w hs, hv]
      · cases h
    · rename_i s i h1 h2 h3
      split at h
      · rename_i hb
        obtain ⟨c, hc, h⟩ := bind_some' h
        simp only [Option.some.injEq, Prod.mk.injEq] at h; obtain ⟨rfl, rfl⟩ := h
        have hx : a.eval x = .string s := evalA_rel hT h1
        obtain ⟨y, hy, hi⟩ := bind_some' h2
        obtain ⟨kd, hk⟩ := intA_rel hi (evalA_rel hT hy)
        refine calm_of (s := Instr.index t (a.eval x) (a.eval ix)) rfl rfl ⟨.int .u8 c.toNat, ?_, rfl⟩
        rw [hx, hk]
        simp only [Instr.index, asIntOf, Sem.run_bind, Sem.run_pure, Result.andThen_ok, underlying_run w h3, hb, if_true, hc]
      · cases h
    · cases h
  case lookup t x ix ok =>
    simp only [opA] at h
    split at h
    · rename_i kt et r k hu h1 h2
      split at h
      · rename_i es z hes hz
        split at h
        · rename_i hk
          split at h
          · rename_i f hf
            obtain ⟨y, hy, hky⟩ := bind_some' h2
            have hix := AV.val_rel hky (evalA_rel hT hy)
            have hmap : mapOf g r = some es := by
              unfold mapOf
              cases r with
              | none => exact hes
              | some b =>
                simp only at hes ⊢
                rw [hg b (by simp [touchA, h1])]
                exact hes
            have hv : (if ok then (((f.map (·.2)).getD z).part.bind fun p => some (.tup [p, (false, [.bool f.isSome])])) else some ((f.map (·.2)).getD z)) = some v ∧ H' = H := by
              cases ok with
              | true =>
                simp only [if_true] at h ⊢
                obtain ⟨p, hp, h⟩ := bind_some' h
                simp only [Option.some.injEq, Prod.mk.injEq] at h
                rw [hp]; simp only [Option.bind_some, Option.some.injEq]
                exact ⟨h.1, h.2.symm⟩
              | false =>
                simp only [Bool.false_eq_true, if_false, Option.some.injEq, Prod.mk.injEq] at h ⊢
                exact ⟨h.1, h.2.symm⟩
            exact calm_of (s := Instr.lookup t (a.eval x) (a.eval ix) ok) rfl hv.2 (lookup_gives rel hu (evalA_rel hT h1) hmap hz hk hf hv.1 hix)
          · cases h
        · cases h
      · cases h
    · cases h
  case extract x ix =>
    simp only [opA] at h
    split at h
    · rename_i vs h1
      obtain ⟨p, hp, h⟩ := bind_some' h
      simp only [Option.some.injEq, Prod.mk.injEq] at h; obtain ⟨rfl, rfl⟩ := h
      obtain ⟨A, hA, hr⟩ := evalA_rel hT h1
      obtain ⟨u, hu, hr⟩ := All2.get hr hp
      refine calm_of (s := Instr.extract (a.eval x) ix) rfl rfl ⟨u, ?_, unpart_rel hr⟩
      rw [hA]
      rw [Array.getElem?_toList] at hu
      simp only [Instr.extract, hu, Sem.run_pure]
    · cases h
  case call c =>
    obtain ⟨callee, args, argTypes⟩ := c
    cases callee
    case builtin b =>
      have hargs : ∀ vs, evalAll T args.toList = some vs → All2 (VRel μ w) vs (args.map a.eval).toList := by
        intro vs hvs
        simpa using evalAll_rel hT hvs
      have hex : ∀ (x : Value) (vs : Array Value), args.map a.eval = vs → (builtin b argTypes type (args.map fun | .const _ => true | _ => false) vs).run P w = .ok (.value x) w →
          (execOp a.eval ⟨dst, .call ⟨.builtin b, args, argTypes⟩, type, pos, after, guard⟩).run P w = .ok (.value x) w := by
        intro x vs hvs hx
        subst hvs
        simp only [execOp, resolve, Sem.run_bind, Sem.run_pure, Result.andThen_ok, invoke]
        exact hx
      simp only [opA] at h
      obtain ⟨vs, hvs, h⟩ := bind_some' h
      have hr := hargs vs hvs
      generalize hA : args.map a.eval = A at hr hex
      obtain ⟨A⟩ := A
      cases b
      case len =>
        simp only [builtinA, lenA] at h
        have ht : ∀ d, (argTypes[0]?).bind P.underlying = some d → ∃ t, argTypes[0]? = some t ∧ P.underlying t = some d := fun d hd => by
          simpa [Option.bind_eq_some_iff] using hd
        split at h
        · rename_i s hd
          simp only [Option.some.injEq, Prod.mk.injEq] at h; obtain ⟨rfl, rfl⟩ := h
          obtain ⟨t, ht, hus⟩ := ht _ hd
          obtain ⟨u, rfl, hu⟩ := all2_one hr
          have hu' : u = .string s := hu
          subst hu'
          exact ⟨rfl, _, hex (goInt s.size) _ rfl (by simp [builtin, Builtin.len_, ht, underlying_run w hus]), rfl⟩
        · rename_i p sz n cap e hd
          simp only [Option.some.injEq, Prod.mk.injEq] at h; obtain ⟨rfl, rfl⟩ := h
          obtain ⟨t, ht, hus⟩ := ht _ hd
          obtain ⟨u, rfl, hu⟩ := all2_one hr
          have hu' : ∃ ad c', u = .slice ad n c' := by
            cases p with
            | none => obtain ⟨rfl, _, e⟩ := hu; exact ⟨_, _, e⟩
            | some p => obtain ⟨_, _, _, _, _, _, e, _⟩ := hu; exact ⟨_, _, e⟩
          obtain ⟨ad, c', rfl⟩ := hu'
          exact ⟨rfl, _, hex (goInt n) _ rfl (by simp [builtin, Builtin.len_, ht, underlying_run w hus]), rfl⟩
        · rename_i z n e hd
          simp only [Option.some.injEq, Prod.mk.injEq] at h; obtain ⟨rfl, rfl⟩ := h
          obtain ⟨t, ht, hus⟩ := ht _ hd
          obtain ⟨u, rfl, hu⟩ := all2_one hr
          exact ⟨rfl, _, hex (goInt n) _ rfl (by simp [builtin, Builtin.len_, ht, underlying_run w hus]), rfl⟩
        · rename_i kt e hd
          simp only [Option.some.injEq, Prod.mk.injEq] at h; obtain ⟨rfl, rfl⟩ := h
          obtain ⟨t, ht, hus⟩ := ht _ hd
          obtain ⟨u, rfl, hu⟩ := all2_one hr
          have hu' : u = .map none := hu
          subst hu'
          exact ⟨rfl, _, hex (goInt 0) _ rfl (by simp [builtin, Builtin.len_, ht, underlying_run w hus]), rfl⟩
        · rename_i b kt e hd
          split at h
          · rename_i es hes
            simp only [Option.some.injEq, Prod.mk.injEq] at h; obtain ⟨rfl, rfl⟩ := h
            obtain ⟨t, ht, hus⟩ := ht _ hd
            obtain ⟨u, rfl, hu⟩ := all2_one hr
            obtain ⟨r, s, hm, rfl⟩ := hu
            obtain ⟨ms, clock, h1, h2⟩ := map_rel rel ((hg b (by simp [touchA, hvs])).trans hes) hm
            refine ⟨rfl, _, hex (goInt ms.size) _ rfl (by simp [builtin, Builtin.len_, ht, underlying_run w hus, run_getObj h1 (by simp)]), ?_⟩
            have := h2.length
            simp only [Array.length_toList] at this
            show _ = _
            rw [this]; rfl
          · cases h
        · cases h
      case min =>
        simp only [builtinA] at h
        unfold minA at h
        split at h
        · rename_i k m k' n
          split at h
          · rename_i hk
            subst hk
            simp only [Option.some.injEq, Prod.mk.injEq] at h; obtain ⟨rfl, rfl⟩ := h
            obtain ⟨u1, r1, rfl, hu1, hr1⟩ := all2_cons hr
            obtain ⟨u2, rfl, hu2⟩ := all2_one hr1
            have e1 : u1 = .int k m := hu1
            have e2 : u2 = .int k n := hu2
            subst e1 e2
            exact ⟨rfl, _, hex (.int k (if n < m then n else m)) _ rfl (by simp [builtin, Builtin.min_, Builtin.min2]), rfl⟩
          · cases h
        · rename_i k m k' n k'' p
          split at h
          · rename_i hk
            obtain ⟨hk1, hk2⟩ := hk
            subst hk1 hk2
            simp only [Option.some.injEq, Prod.mk.injEq] at h; obtain ⟨rfl, rfl⟩ := h
            obtain ⟨u1, r1, rfl, hu1, hr1⟩ := all2_cons hr
            obtain ⟨u2, r2, rfl, hu2, hr2⟩ := all2_cons hr1
            obtain ⟨u3, rfl, hu3⟩ := all2_one hr2
            have e1 : u1 = .int k m := hu1
            have e2 : u2 = .int k n := hu2
            have e3 : u3 = .int k p := hu3
            subst e1 e2 e3
            exact ⟨rfl, _, hex (.int k (if p < (if n < m then n else m) then p else (if n < m then n else m))) _ rfl (by simp [builtin, Builtin.min_, Builtin.min2]), rfl⟩
          · cases h
        · cases h
      case max =>
        simp only [builtinA] at h
        unfold maxA at h
        split at h
        · rename_i k m k' n
          split at h
          · rename_i hk
            subst hk
            simp only [Option.some.injEq, Prod.mk.injEq] at h; obtain ⟨rfl, rfl⟩ := h
            obtain ⟨u1, r1, rfl, hu1, hr1⟩ := all2_cons hr
            obtain ⟨u2, rfl, hu2⟩ := all2_one hr1
            have e1 : u1 = .int k m := hu1
            have e2 : u2 = .int k n := hu2
            subst e1 e2
            exact ⟨rfl, _, hex (.int k (if n > m then n else m)) _ rfl (by simp [builtin, Builtin.max_, Builtin.max2]), rfl⟩
          · cases h
        · cases h
      all_goals simp [isEff] at hn
    all_goals simp [isEff] at hn
  all_goals first
    | (simp [isEff] at hn; done)
    | (simp [isAlloc] at ha; done)
end
end Go.AI
end
section
namespace Go.AI
section
variable {P : Program} {μ : Mu} {w : World} {T : List AV} {a : Act} {H H' : AHeap} {v : AV}
def AHeap.plus (H : AHeap) : AObj → AHeap
  | .row e _ _ _ cells => H.newRow e cells
  | .map es => H.push (.map es)
  | .loop k p t ps x y => H.push (.loop k p t ps x y)
def IsNew (H : AHeap) : AObj → Prop
  | .row _ g st ro _ => g = H.size ∧ st = 0 ∧ ro = false
  | .map _ => True
  | .loop .. => True
theorem AHeap.get_plus {H : AHeap} {o : AObj} (h : IsNew H o) (m : Nat) : (H.plus o).get m = if m = H.size then some o else H.get m := by
  cases o with
  | row e g st ro cells => obtain ⟨rfl, rfl, rfl⟩ := h; exact AHeap.get_newRow _ _ _ _
  | map es => exact AHeap.get_push _ _ _
  | loop => exact AHeap.get_push _ _ _
theorem AHeap.size_plus (H : AHeap) (o : AObj) : (H.plus o).size = H.size + 1 := by cases o <;> rfl
theorem WF.plus {H : AHeap} (wf : WF H) (o : AObj) : WF (H.plus o) := by
  cases o with
  | row e g st ro cells => exact wf.newRow e cells
  | map es => exact wf.pushMap es
  | loop => exact wf.pushLoop _ _ _ _ _ _
def Mu.ins (μ : Mu) (b : Nat) (x : Nat × Nat) : Mu := fun m => if m = b then some x else μ m
theorem Mu.ins_self (μ : Mu) (b : Nat) (x : Nat × Nat) : μ.ins b x b = some x := by simp [Mu.ins]
theorem Mu.le_ins {μ : Mu} {b : Nat} {x : Nat × Nat} (h : μ b = none) : μ.le (μ.ins b x) := by
  intro m y hm
  unfold Mu.ins
  split
  · rename_i e; subst e; rw [h] at hm; cases hm
  · exact hm
theorem shape_alloc (w : World) (o : Obj) : Shapes w (w.alloc o) := by
  intro r x h
  unfold World.shape? at h ⊢
  have hr : r < w.heap.size := by
    rcases Nat.lt_or_ge r w.heap.size with h' | h'
    · exact h'
    · rw [Array.getElem?_eq_none h'] at h; cases h
  have : (w.alloc o).heap[r]? = w.heap[r]? := by
    show (w.heap.push o)[r]? = _
    rw [Array.getElem?_push, if_neg (by omega)]
  rw [this]; exact h
theorem flatten_get {α : Type} (z : List α) : ∀ (n i : Nat), (List.flatten (List.replicate n z))[i]? = if i < n * z.length then z[i % z.length]? else none
  | 0, i => by simp
  | n + 1, i => by
    simp only [List.replicate_succ, List.flatten_cons, List.getElem?_append]
    by_cases h : i < z.length
    · rw [if_pos h, if_pos (by rw [Nat.add_mul]; omega), Nat.mod_eq_of_lt h]
    · rw [if_neg h, flatten_get z n]
      have e : (i - z.length) % z.length = i % z.length := by
        conv => rhs; rw [show i = (i - z.length) + z.length from by omega, Nat.add_mod_right]
      rw [e, Nat.add_mul]
      by_cases h2 : i - z.length < n * z.length
      · rw [if_pos h2, if_pos (by omega)]
      · rw [if_neg h2, if_neg (by omega)]
theorem length_flatten_replicate {α : Type} (z : List α) (n : Nat) : (List.flatten (List.replicate n z)).length = n * z.length := by
  simp [List.length_flatten, List.map_replicate]
theorem zeros_rel {z : List AC} {A : Array Value} (n : Nat) (h : All2 (CRel μ w) z A.toList) (hz : 0 < z.length) :
    All2 (CRel μ w) (List.flatten (List.replicate n z)) ((Array.range (n * A.size)).map (A[· % A.size]!)).toList := by
  have hl := h.length
  simp only [Array.length_toList] at hl
  refine All2.of_get (by rw [length_flatten_replicate, hl]; simp) ?_
  intro i c u hc hu
  rw [flatten_get] at hc
  split at hc
  · rename_i hi
    rw [hl] at hc hi
    rw [Array.getElem?_toList] at hu
    simp only [Array.getElem?_map, Array.getElem?_range, hi, if_true, Option.map_some, Option.some.injEq] at hu
    obtain ⟨y, hy, hr⟩ := All2.get h hc
    have hm : i % A.size < A.size := Nat.mod_lt _ (by omega)
    rw [Array.getElem?_toList, Array.getElem?_eq_getElem hm] at hy
    simp only [Option.some.injEq] at hy
    rw [getElem!_pos A (i % A.size) hm] at hu
    rw [← hu, hy]
    exact hr
  · cases hc
structure Made (P : Program) (μ : Mu) (w : World) (a : Act) (o : Oper) (H H' : AHeap) (v : AV) (obj : AObj) (robj : Obj) (v' : Value) : Prop where
  heap : H' = H.plus obj
  new : IsNew H obj
  run : (execOp a.eval o).run P w = .ok (.value v') (w.alloc robj)
  obj : ORel μ w 0 obj (some robj)
  val : ∀ μ' : Mu, μ' H.size = some (w.heap.size, 0) → VRel μ' (w.alloc robj) v v'
theorem orel_new {e : TypeId} {g : Nat} {cs : List AC} {A : Array Value} (h : All2 (CRel μ w) cs A.toList) : ORel μ w 0 (.row e g 0 false (cs.map some)) (some (.cells A e)) := by
  have hl := h.length
  simp only [Array.length_toList] at hl
  refine ⟨A, e, (0, 0), rfl, by simp [hl], fun _ => rfl, ?_⟩
  intro i c hc
  rw [List.getElem?_map, Option.map_eq_some_iff] at hc
  obtain ⟨d, hd, e⟩ := hc
  simp only [Option.some.injEq] at e; subst e
  obtain ⟨u, hu, hr⟩ := All2.get h hd
  exact ⟨u, by rw [Nat.zero_add, ← Array.getElem?_toList]; exact hu, hr⟩
theorem shape_new (w : World) (A : Array Value) (e : TypeId) : (w.alloc (.cells A e)).shape? w.heap.size = some (e, A.size) := by
  unfold World.shape?
  have : (w.alloc (.cells A e)).heap[w.heap.size]? = some (.cells A e) := by
    show (w.heap.push _)[w.heap.size]? = _
    simp
  rw [this]
theorem opA_alloc {o : Oper} (hT : TRel μ w T a.tmps) (ha : isAlloc o.op = true) (h : opA P o T H = some (v, H')) : ∃ obj robj v', Made P μ w a o H H' v obj robj v' := by
  obtain ⟨dst, op, type, pos, after, guard⟩ := o
  cases op
  case alloc t =>
    simp only [opA] at h
    split at h
    · rename_i cs hz
      simp only [Option.some.injEq, Prod.mk.injEq] at h; obtain ⟨rfl, rfl⟩ := h
      obtain ⟨z, hz1, hz2⟩ := bind_some' hz
      obtain ⟨zv, hz3, hz4, _⟩ := zeroA_run (P := P) (μ := μ) w hz1
      refine ⟨.row t H.size 0 false (cs.map some), .cells zv.cells t, .pointer (some ⟨w.heap.size, 0, none⟩), rfl, ⟨rfl, rfl, rfl⟩, ?_, orel_new (AV.cells_rel hz2 hz4), ?_⟩
      · simp [execOp, Instr.alloc, hz3, newVar, newRow]
      · intro μ' h1
        exact ⟨_, _, h1, by simp⟩
    · cases h
  case box t x =>
    simp only [opA] at h
    split at h
    · rename_i cs hz
      simp only [Option.some.injEq, Prod.mk.injEq] at h; obtain ⟨rfl, rfl⟩ := h
      obtain ⟨z, hz1, hz2⟩ := bind_some' hz
      refine ⟨.row t H.size 0 false (cs.map some), .cells (a.eval x).cells t, .pointer (some ⟨w.heap.size, 0, none⟩), rfl, ⟨rfl, rfl, rfl⟩, ?_, orel_new (AV.cells_rel hz2 (evalA_rel hT hz1)), ?_⟩
      · simp [execOp, Instr.box, newVar, newRow]
      · intro μ' h1
        exact ⟨_, _, h1, by simp⟩
    · cases h
  case buildSlice t len ps =>
    simp only [opA] at h
    split at h
    · rename_i e hu
      split at h
      · rename_i size zero parts hs hz hp
        split at h
        · cases h
        · rename_i hno
          obtain ⟨cs, hcs, h⟩ := bind_some' h
          simp only [Option.some.injEq, Prod.mk.injEq] at h; obtain ⟨rfl, rfl⟩ := h
          obtain ⟨z, hz1, hz2⟩ := bind_some' hz
          obtain ⟨zv, hz3, hz4, _⟩ := zeroA_run (P := P) (μ := μ) w hz1
          have hzr := AV.cells_rel hz2 hz4
          have hzl := hzr.length
          simp only [Array.length_toList] at hzl
          simp only [not_or] at hno
          obtain ⟨hn1, hn2, hn3⟩ := hno
          have hzs : zero.length = size := by simpa using hn3
          have hq := evalParts_rel (μ := μ) (w := w) hT hp
          obtain ⟨B, hB, hr⟩ := fillA_rel (μ := μ) (w := w) (fun i => some (i * size, size)) (qs := (ps.map fun x => (x.1, a.eval x.2)).toList) (by simpa using hq) (zeros_rel len hzr (by omega)) hcs
          have hBl := hr.length
          simp only [Array.length_toList] at hBl
          refine ⟨.row e H.size 0 false (cs.map some), .cells B e, .slice (some ⟨w.heap.size, 0, none⟩) len len, rfl, ⟨rfl, rfl, rfl⟩, ?_, orel_new hr, ?_⟩
          · simp only [execOp, Instr.buildSlice, Sem.run_bind, underlying_run w hu, Result.andThen_ok, sizeT_run w hs]
            rw [if_neg (by simpa using hn2)]
            have e1 : zv.cells.size = size := by omega
            rw [e1] at hB
            by_cases h0 : len * size = 0
            · have hB' : Instr.fill (fun i => some (i * size, size)) ((Array.range (len * size)).map fun x => (#[] : Array Value)[x % (#[] : Array Value).size]!) (ps.map fun x => (x.1, a.eval x.2)).toList = some B := by
                have e2 : ∀ f : Nat → Value, (Array.range (len * size)).map f = #[] := fun f => by rw [h0]; simp
                rw [e2] at hB ⊢
                exact hB
              simp only [if_pos h0, Sem.run_bind, Sem.run_pure, Result.andThen_ok]
              rw [hB']
              simp [newRow]
            · simp only [if_neg h0, Sem.run_bind, hz3, Sem.run_pure, Result.andThen_ok]
              rw [e1, hB]
              simp [newRow]
          · intro μ' h1
            refine ⟨_, _, _, _, _, _, rfl, Nat.le_refl _, by simp, h1, .inr (by simp), shape_new w B e, ?_⟩
            have hfl : cs.length = len * size := by
              have hle : ∀ (ps : List (Nat × AV)) (cells cs : List AC), fillA (fun i => some (i * size, size)) cells ps = some cs → cs.length = cells.length := by
                intro ps
                induction ps with
                | nil => intro cells cs h; simp only [fillA, Option.some.injEq] at h; rw [h]
                | cons p ps ih =>
                  intro cells cs h
                  obtain ⟨i, x⟩ := p
                  simp only [fillA] at h
                  split at h
                  · split at h
                    · cases h
                    · rename_i hno'
                      rw [ih _ _ h]
                      simp only [List.length_append, List.length_take, List.length_drop]
                      omega
                  · cases h
              rw [hle _ _ _ hcs, length_flatten_replicate, hzs]
            omega
      · cases h
    · cases h
  case makeMap t r =>
    simp only [opA] at h
    split at h
    · rename_i kt et hu
      split at h
      · simp only [Option.some.injEq, Prod.mk.injEq] at h; obtain ⟨rfl, rfl⟩ := h
        refine ⟨.map [], .map #[] 0, .map (some w.heap.size), rfl, trivial, ?_, ⟨#[], 0, rfl, trivial⟩, ?_⟩
        · simp [execOp, Instr.makeMap]
        · intro μ' h1
          exact ⟨_, _, h1, rfl⟩
      · rename_i x
        split at h
        · rename_i n hn
          simp only [Option.some.injEq, Prod.mk.injEq] at h; obtain ⟨rfl, rfl⟩ := h
          obtain ⟨y, hy, hi⟩ := bind_some' hn
          obtain ⟨kd, hk⟩ := intA_rel hi (evalA_rel hT hy)
          refine ⟨.map [], .map #[] 0, .map (some w.heap.size), rfl, trivial, ?_, ⟨#[], 0, rfl, trivial⟩, ?_⟩
          · simp [execOp, Instr.makeMap, underlying_run w hu, hk, asInt, asIntOf]
          · intro μ' h1
            exact ⟨_, _, h1, rfl⟩
        · cases h
    · cases h
  case makeSlice t l c =>
    simp only [opA] at h
    split at h
    · rename_i e hu
      split at h
      · rename_i i zero len cap hi hz hl hc
        split at h
        · rename_i hb
          simp only [Option.some.injEq, Prod.mk.injEq] at h; obtain ⟨rfl, rfl⟩ := h
          obtain ⟨hb1, hb2, hb3, hb4, hb5, hb6⟩ := hb
          obtain ⟨z, hz1, hz2⟩ := bind_some' hz
          obtain ⟨zv, hz3, hz4, i', hi', hzi⟩ := zeroA_run (P := P) (μ := μ) w hz1
          rw [hi] at hi'
          simp only [Option.some.injEq] at hi'; subst hi'
          have hzr := AV.cells_rel hz2 hz4
          have hzl := hzr.length
          simp only [Array.length_toList] at hzl
          obtain ⟨y1, hy1, hi1⟩ := bind_some' hl
          obtain ⟨kd1, hk1⟩ := intA_rel hi1 (evalA_rel hT hy1)
          obtain ⟨y2, hy2, hi2⟩ := bind_some' hc
          obtain ⟨kd2, hk2⟩ := intA_rel hi2 (evalA_rel hT hy2)
          have hr := zeros_rel (μ := μ) (w := w) cap.toNat hzr (by omega)
          have hsz : ((Array.range (cap.toNat * zv.cells.size)).map (zv.cells[· % zv.cells.size]!)).size = cap.toNat * i.size := by simp [← hzl, hb6]
          refine ⟨.row e H.size 0 false ((List.flatten (List.replicate cap.toNat zero)).map some), .cells ((Array.range (cap.toNat * zv.cells.size)).map (zv.cells[· % zv.cells.size]!)) e, .slice (some ⟨w.heap.size, 0, none⟩) len.toNat cap.toNat, rfl, ⟨rfl, rfl, rfl⟩, ?_, orel_new hr, ?_⟩
          · have hmb : cap * (i.bytes : Int) ≤ 140737488355328 := by simpa [maxBytes] using hb3
            have hrun := run_make (P := P) w t e i zv hu hi hzi kd1 kd2 len cap hb1 hb2 (by rw [Int.mul_comm]; omega) (by omega)
            rw [← hk1, ← hk2] at hrun
            simp only [execOp, Sem.run_bind, hrun, Result.andThen_ok, Sem.run_pure]
            unfold madeCells
            rw [← hzl, hb6]
          · intro μ' h1
            refine ⟨_, _, _, _, _, _, rfl, by omega, ?_, h1, .inr (by simp), shape_new w _ e, ?_⟩
            · intro k hk; simpa using hk
            · rw [hsz]; omega
        · cases h
      · cases h
    · cases h
  all_goals simp [isAlloc] at ha
theorem heap_old (w : World) (o : Obj) {r : Nat} (h : r < w.heap.size) : (w.alloc o).heap[r]? = w.heap[r]? := by
  show (w.heap.push o)[r]? = _
  rw [Array.getElem?_push, if_neg (by omega)]
theorem heap_new (w : World) (o : Obj) : (w.alloc o).heap[w.heap.size]? = some o := by
  show (w.heap.push o)[w.heap.size]? = _
  simp
theorem Rel.plus {g : Nat → Option AObj} {b : Nat} {obj : AObj} {robj : Obj} (rel : Rel μ g w) (hb : μ b = none) (ho : ORel μ w 0 obj (some robj))
    (hg : ∀ k, grpOf obj = some k → ∀ b1 o1, b1 ≠ b → g b1 = some o1 → grpOf o1 = some k → (μ b1).isSome) :
    Rel (μ.ins b (w.heap.size, 0)) (fun m => if m = b then some obj else g m) (w.alloc robj) := by
  have hle : μ.le (μ.ins b (w.heap.size, 0)) := Mu.le_ins hb
  have hsh := shape_alloc w robj
  have hold : ∀ m x, m ≠ b → (μ.ins b (w.heap.size, 0)) m = some x → μ m = some x := by
    intro m x hm h
    simpa [Mu.ins, hm] using h
  have hnew : ∀ x, (μ.ins b (w.heap.size, 0)) b = some x → x = (w.heap.size, 0) := by
    intro x h
    rw [Mu.ins_self] at h
    exact (Option.some.inj h).symm
  constructor
  · intro m r s h
    by_cases hm : m = b
    · subst hm
      have := hnew _ h
      simp only [Prod.mk.injEq] at this
      rw [this.1]; simp
    · have := rel.dom m r s (hold m _ hm h)
      simp; omega
  · intro m r s o h hgo
    by_cases hm : m = b
    · subst hm
      have := hnew _ h
      simp only [Prod.mk.injEq] at this
      obtain ⟨rfl, rfl⟩ := this
      simp only [if_true, Option.some.injEq] at hgo; subst hgo
      rw [heap_new]
      exact ho.mono hle hsh
    · simp only [if_neg hm] at hgo
      have h' := hold m _ hm h
      rw [heap_old w robj (rel.dom m r s h')]
      exact (rel.obj m r s o h' hgo).mono hle hsh
  · intro b1 b2 r s1 s2 o1 o2 hne h1 h2 g1 g2
    by_cases e1 : b1 = b
    · subst e1
      have := hnew _ h1
      simp only [Prod.mk.injEq] at this
      have h2' := rel.dom _ _ _ (hold b2 _ (Ne.symm hne) h2)
      omega
    · by_cases e2 : b2 = b
      · subst e2
        have := hnew _ h2
        simp only [Prod.mk.injEq] at this
        have h1' := rel.dom _ _ _ (hold b1 _ e1 h1)
        omega
      · simp only [if_neg e1] at g1
        simp only [if_neg e2] at g2
        exact rel.sep b1 b2 r s1 s2 o1 o2 hne (hold _ _ e1 h1) (hold _ _ e2 h2) g1 g2
  · intro b1 b2 o1 o2 k g1 g2 k1 k2 h
    by_cases e2 : b2 = b
    · subst e2; rw [Mu.ins_self]; rfl
    · simp only [if_neg e2] at g2
      by_cases e1 : b1 = b
      · subst e1
        simp only [if_true, Option.some.injEq] at g1; subst g1
        have := hg k k1 b2 o2 e2 g2 k2
        simpa [Mu.ins, e2] using this
      · simp only [if_neg e1] at g1
        have h' : (μ b1).isSome := by
          rw [Option.isSome_iff_exists] at h ⊢
          obtain ⟨x, hx⟩ := h
          exact ⟨x, hold _ _ e1 hx⟩
        have := rel.clos b1 b2 o1 o2 k g1 g2 k1 k2 h'
        simpa [Mu.ins, e2] using this
theorem grpOf_new {obj : AObj} (h : IsNew H obj) {k : Nat} (hk : grpOf obj = some k) : k = H.size := by
  cases obj with
  | row e g st ro cells => simp only [grpOf, Option.some.injEq] at hk; rw [← hk]; exact h.1
  | map es => cases hk
  | loop => cases hk
theorem WF.grp_lt {H : AHeap} (wf : WF H) {b : Nat} {o : AObj} (h : H.get b = some o) {k : Nat} (hk : grpOf o = some k) : k < H.size := by
  cases o with
  | row e g st ro cells => simp only [grpOf, Option.some.injEq] at hk; subst hk; exact wf.lt _ _ _ _ _ _ h
  | map es => cases hk
  | loop => cases hk
theorem post_plus {obj : AObj} {robj : Obj} (wf : WF H) (rel : Rel μ H.get w) (hb : μ H.size = none) (new : IsNew H obj) (ho : ORel μ w 0 obj (some robj)) :
    Post μ H w (μ.ins H.size (w.heap.size, 0)) (H.plus obj) (w.alloc robj) := by
  have hsz : (H.plus obj).size = H.size + 1 := AHeap.size_plus _ _
  have hget : (H.plus obj).get = fun k => if k = H.size then some obj else H.get k := by
    funext k; rw [AHeap.get_plus new]
  refine ⟨wf.plus obj, ?_, by omega, ?_, ?_, ?_, ?_, ?_, ?_, rfl, rfl, rfl, by simp, ?_, shape_alloc w robj⟩
  · rw [hget]
    refine rel.plus hb ho ?_
    intro k hk b1 o1 hne ho1 hk1
    have := grpOf_new new hk
    have := wf.grp_lt ho1 hk1
    omega
  · intro b hb'
    rw [hsz] at hb'
    unfold Mu.ins
    rw [if_neg (by omega)]
  · intro b r s h1 h2 h3
    obtain rfl : b = H.size := by omega
    rw [Mu.ins_self] at h3
    simp only [Option.some.injEq, Prod.mk.injEq] at h3
    left; omega
  · intro b o' ho'
    have := AHeap.get_lt ho'
    exact ⟨o', by rw [hget]; simp only; rw [if_neg (by omega)]; exact ho', sameKind.refl _⟩
  · intro b o' hlt ho'
    rw [hget] at ho'
    simp only at ho'
    rw [if_neg (by omega)] at ho'
    exact ⟨o', ho', sameKind.refl _⟩
  · intro b hlt _
    rw [hget]; simp only; rw [if_neg (by omega)]
  · intro b h1 h2
    obtain rfl : b = H.size := by omega
    rw [Mu.ins_self]; rfl
  · intro k hk _
    exact heap_old w robj hk
theorem Made.post {o : Oper} {obj : AObj} {robj : Obj} {v' : Value} (m : Made P μ w a o H H' v obj robj v') (wf : WF H) (rel : Rel μ H.get w) (fr : Free μ H.size H'.size) :
    Post μ H w (μ.ins H.size (w.heap.size, 0)) H' (w.alloc robj) ∧ VRel (μ.ins H.size (w.heap.size, 0)) (w.alloc robj) v v' := by
  refine ⟨?_, m.val _ (Mu.ins_self _ _ _)⟩
  have hH := m.heap
  subst hH
  exact post_plus wf rel (fr H.size (Nat.le_refl _) (by rw [AHeap.size_plus]; omega)) m.new m.obj
end
end Go.AI
end
section
namespace Go.AI
section
variable {P : Program} {μ : Mu} {w : World} {T : List AV} {a : Act} {H H' : AHeap} {v : AV} {g : Nat → Option AObj}
theorem setRow_get {w : World} {r : Nat} {A : Array Value} {e : TypeId} {fz : Nat × Nat} (h : w.heap[r]? = some (.cells A e fz)) (A' : Array Value) (k : Nat) :
    (w.setRow r A').heap[k]? = if k = r then some (.cells A' e fz) else w.heap[k]? := by
  by_cases hk : k = r
  · subst hk; rw [if_pos rfl]; exact setRow_heap w k A A' e fz h
  · rw [if_neg hk]; unfold World.setRow; simp only [Array.getElem?_modify]; rw [if_neg (Ne.symm hk)]
theorem shape_setRow {w : World} {r : Nat} {A : Array Value} {e : TypeId} {fz : Nat × Nat} (h : w.heap[r]? = some (.cells A e fz)) {A' : Array Value} (hs : A'.size = A.size) : Shapes w (w.setRow r A') := by
  intro k x hx
  unfold World.shape? at hx ⊢
  rw [setRow_get h]
  by_cases hk : k = r
  · subst hk
    rw [h] at hx
    simp only [if_true, hs]
    exact hx
  · rw [if_neg hk]; exact hx
def putAt (A : Array Value) (p : Nat) (vs : List Value) : Array Value := (A.toList.take p ++ vs ++ A.toList.drop (p + vs.length)).toArray
theorem putAt_size {A : Array Value} {p : Nat} {vs : List Value} (h : p + vs.length ≤ A.size) : (putAt A p vs).size = A.size := by
  simp only [putAt, List.size_toArray, List.length_append, List.length_take, List.length_drop, Array.length_toList]; omega
theorem putAt_out {A : Array Value} {p : Nat} {vs : List Value} (h : p + vs.length ≤ A.size) {i : Nat} (hi : i < p ∨ p + vs.length ≤ i) : (putAt A p vs)[i]? = A[i]? := by
  simp only [putAt, List.getElem?_toArray, List.append_assoc, List.getElem?_append, List.length_take, Array.length_toList, List.getElem?_take, List.getElem?_drop]
  rw [show min p A.size = p from by omega]
  by_cases h1 : i < p
  · rw [if_pos h1, if_pos h1, Array.getElem?_toList]
  · rw [if_neg h1, if_neg (by omega), Array.getElem?_toList, show p + vs.length + (i - p - vs.length) = i from by omega]
theorem putAt_in {A : Array Value} {p : Nat} {vs : List Value} (h : p + vs.length ≤ A.size) {i : Nat} (hi : i < vs.length) : (putAt A p vs)[p + i]? = vs[i]? := by
  simp only [putAt, List.getElem?_toArray, List.append_assoc, List.getElem?_append, List.length_take, Array.length_toList]
  rw [show min p A.size = p from by omega, if_neg (by omega), show p + i - p = i from by omega, if_pos hi]
theorem Rel.blotted {b r s k e st : Nat} {cells : List (Option AC)} {A : Array Value} {e' : TypeId} {fz : Nat × Nat} {p lo : Nat} {vs : List Value} (rel : Rel μ g w)
    (hb : g b = some (.row e k st false cells)) (hm : μ b = some (r, s)) (hA : w.heap[r]? = some (.cells A e' fz)) (hp : p + st = lo + s) (hfit : p + vs.length ≤ A.size) :
    Rel μ (fun m => (g m).map (blot k lo (lo + vs.length))) (w.setRow r (putAt A p vs)) := by
  have hsh := shape_setRow hA (putAt_size hfit)
  have hle : μ.le μ := fun _ _ h => h
  have hsame : ∀ o, grpOf (blot k lo (lo + vs.length) o) = grpOf o := by
    intro o; cases o with
    | row e1 g1 st1 ro1 cs1 => simp only [blot]; split <;> rfl
    | map es => rfl
    | loop => rfl
  constructor
  · intro m r' s' h
    have := rel.dom m r' s' h
    simpa [World.setRow] using this
  · intro m r' s' o h ho
    simp only [Option.map_eq_some_iff] at ho
    obtain ⟨o0, ho0, rfl⟩ := ho
    have hold := (rel.obj m r' s' o0 h ho0)
    by_cases hr : r' = r
    · subst hr
      rw [setRow_get hA, if_pos rfl]
      rw [hA] at hold
      cases o0 with
      | map es => obtain ⟨ms, clock, h1, _⟩ := hold; cases h1
      | loop => obtain ⟨lp, h1, _⟩ := hold; cases h1
      | row e1 g1 st1 ro1 cs1 =>
        obtain ⟨cs, e2, fz2, h1, h2, h3, h4⟩ := hold
        simp only [Option.some.injEq, Obj.cells.injEq] at h1
        obtain ⟨rfl, rfl, rfl⟩ := h1
        have hgrp : g1 = k ∧ st1 + s = st + s' ∧ ro1 = false := by
          by_cases hmb : m = b
          · subst hmb
            rw [hb] at ho0
            simp only [Option.some.injEq, AObj.row.injEq] at ho0
            rw [hm] at h
            simp only [Option.some.injEq, Prod.mk.injEq] at h
            obtain ⟨_, rfl, rfl, rfl, _⟩ := ho0
            exact ⟨rfl, by omega, rfl⟩
          · have := rel.sep m b r' s' s _ _ hmb h hm ho0 hb
            simp only [Together] at this
            rcases this with ⟨_, h0⟩ | ⟨h5, _, h6, h7⟩
            · cases h0
            · exact ⟨h6, by omega, h5⟩
        obtain ⟨rfl, hst, rfl⟩ := hgrp
        simp only [blot, if_true]
        refine ⟨putAt A p vs, _, _, rfl, by rw [putAt_size hfit]; simpa using h2, h3, ?_⟩
        intro i c hc
        simp only [List.getElem?_mapIdx, Option.map_eq_some_iff] at hc
        obtain ⟨d, hd, hdc⟩ := hc
        split at hdc
        · cases hdc
        · rename_i hout
          subst hdc
          obtain ⟨u, hu, hru⟩ := h4 i c hd
          refine ⟨u, ?_, hru.mono hle hsh⟩
          rw [putAt_out hfit (by omega)]
          exact hu
    · rw [setRow_get hA, if_neg hr]
      have := hold.mono hle hsh
      cases o0 with
      | map es => exact this
      | loop => exact this
      | row e1 g1 st1 ro1 cs1 =>
        obtain ⟨cs, e2, fz2, h1, h2, h3, h4⟩ := this
        simp only [blot]
        split
        · refine ⟨cs, e2, fz2, h1, by simpa using h2, h3, ?_⟩
          intro i c hc
          simp only [List.getElem?_mapIdx, Option.map_eq_some_iff] at hc
          obtain ⟨d, hd, hdc⟩ := hc
          split at hdc
          · cases hdc
          · subst hdc; exact h4 i c hd
        · exact ⟨cs, e2, fz2, h1, h2, h3, h4⟩
  · intro b1 b2 r' s1 s2 o1 o2 hne h1 h2 g1 g2
    simp only [Option.map_eq_some_iff] at g1 g2
    obtain ⟨p1, hp1, rfl⟩ := g1
    obtain ⟨p2, hp2, rfl⟩ := g2
    have := rel.sep b1 b2 r' s1 s2 p1 p2 hne h1 h2 hp1 hp2
    cases p1 with
    | map es => exact this.elim
    | loop => exact this.elim
    | row _ _ _ _ _ =>
      cases p2 with
      | map es => exact this.elim
      | loop => exact this.elim
      | row _ _ _ _ _ =>
        simp only [blot]
        split <;> split <;> exact this
  · intro b1 b2 o1 o2 k' g1 g2 k1 k2 h
    simp only [Option.map_eq_some_iff] at g1 g2
    obtain ⟨p1, hp1, rfl⟩ := g1
    obtain ⟨p2, hp2, rfl⟩ := g2
    rw [hsame] at k1 k2
    exact rel.clos b1 b2 p1 p2 k' hp1 hp2 k1 k2 h
theorem Rel.recell {b e k st : Nat} {ro : Bool} {cells cells' : List (Option AC)} (rel : Rel μ g w) (hb : g b = some (.row e k st ro cells)) (hl : cells'.length = cells.length)
    (hc : ∀ r s cs e' fz, μ b = some (r, s) → w.heap[r]? = some (.cells cs e' fz) → ∀ (i : Nat) (c : AC), cells'[i]? = some (some c) → ∃ v, cs[s + i]? = some v ∧ CRel μ w c v) :
    Rel μ (fun m => if m = b then some (.row e k st ro cells') else g m) w := by
  constructor
  · exact rel.dom
  · intro m r s o h ho
    by_cases hm : m = b
    · subst hm
      simp only [if_true, Option.some.injEq] at ho; subst ho
      obtain ⟨cs, e', fz, h1, h2, h3, _⟩ := rel.obj m r s _ h hb
      exact ⟨cs, e', fz, h1, by omega, h3, hc r s cs e' fz h h1⟩
    · simp only [if_neg hm] at ho
      exact rel.obj m r s o h ho
  · intro b1 b2 r s1 s2 o1 o2 hne h1 h2 g1 g2
    have key : ∀ m o, (if m = b then some (.row e k st ro cells') else g m) = some o → ∃ o', g m = some o' ∧ ∀ q s s', (Together o' s q s' → Together o s q s') ∧ (Together q s' o' s → Together q s' o s) := by
      intro m o ho
      by_cases hm : m = b
      · subst hm
        simp only [if_true, Option.some.injEq] at ho; subst ho
        refine ⟨_, hb, fun q s s' => ?_⟩
        cases q <;> simp [Together]
      · simp only [if_neg hm] at ho
        exact ⟨o, ho, fun _ _ _ => ⟨id, id⟩⟩
    obtain ⟨p1, hp1, k1⟩ := key b1 o1 g1
    obtain ⟨p2, hp2, k2⟩ := key b2 o2 g2
    exact (k1 o2 s1 s2).1 ((k2 p1 s2 s1).2 (rel.sep b1 b2 r s1 s2 p1 p2 hne h1 h2 hp1 hp2))
  · intro b1 b2 o1 o2 k' g1 g2 k1 k2 h
    have key : ∀ m o, (if m = b then some (.row e k st ro cells') else g m) = some o → ∃ o', g m = some o' ∧ grpOf o = grpOf o' := by
      intro m o ho
      by_cases hm : m = b
      · subst hm
        simp only [if_true, Option.some.injEq] at ho; subst ho
        exact ⟨_, hb, rfl⟩
      · simp only [if_neg hm] at ho
        exact ⟨o, ho, rfl⟩
    obtain ⟨p1, hp1, e1⟩ := key b1 o1 g1
    obtain ⟨p2, hp2, e2⟩ := key b2 o2 g2
    rw [e1] at k1
    rw [e2] at k2
    exact rel.clos b1 b2 p1 p2 k' hp1 hp2 k1 k2 h
theorem length_splice : ∀ (xs : List (Option AC)) (cells : List (Option AC)) (o : Nat), (splice cells o xs).length = cells.length
  | [], cells, o => rfl
  | x :: xs, cells, o => by simp [splice, length_splice xs]
theorem splice_get : ∀ (xs : List (Option AC)) (cells : List (Option AC)) (o i : Nat), o + xs.length ≤ cells.length →
    (splice cells o xs)[i]? = if o ≤ i ∧ i < o + xs.length then xs[i - o]? else cells[i]?
  | [], cells, o, i, h => by rw [if_neg (by simp only [List.length_nil]; omega)]; rfl
  | x :: xs, cells, o, i, h => by
    simp only [List.length_cons] at h
    simp only [splice, List.length_cons]
    rw [splice_get xs _ _ _ (by simp; omega), List.getElem?_set]
    by_cases h1 : o + 1 ≤ i ∧ i < o + 1 + xs.length
    · rw [if_pos h1, if_pos (by omega)]
      obtain ⟨m, hm⟩ : ∃ m, i - o = m + 1 := ⟨i - o - 1, by omega⟩
      rw [hm, List.getElem?_cons_succ, show i - (o + 1) = m from by omega]
    · rw [if_neg h1]
      by_cases h2 : o = i
      · subst h2
        rw [if_pos rfl, if_pos (by omega), if_pos (by omega), Nat.sub_self]
        rfl
      · rw [if_neg h2, if_neg (by omega)]
def stored (g : Nat → Option AObj) (b e k st lo hi : Nat) (cells' : List (Option AC)) : Nat → Option AObj :=
  fun m => if m = b then some (.row e k st false cells') else (g m).map (blot k lo hi)
theorem Rel.store {b r s k e st off : Nat} {cells : List (Option AC)} {A : Array Value} {e' : TypeId} {fz : Nat × Nat} {xs : List (Option AC)} {vs : List Value} (rel : Rel μ g w)
    (hb : g b = some (.row e k st false cells)) (hm : μ b = some (r, s)) (hA : w.heap[r]? = some (.cells A e' fz)) (hfit : off + xs.length ≤ cells.length)
    (hl : xs.length = vs.length) (hx : ∀ (i : Nat) (c : AC) (u : Value), xs[i]? = some (some c) → vs[i]? = some u → CRel μ w c u) :
    Rel μ (stored g b e k st (st + off) (st + off + xs.length) (splice cells off xs)) (w.setRow r (putAt A (s + off) vs)) := by
  obtain ⟨A', e2, fz2, h1, h2, h3, h4⟩ := rel.obj b r s _ hm hb
  rw [hA] at h1
  simp only [Option.some.injEq, Obj.cells.injEq] at h1
  obtain ⟨rfl, rfl, rfl⟩ := h1
  have hfit' : s + off + vs.length ≤ A.size := by omega
  have hbl := rel.blotted (p := s + off) (lo := st + off) (vs := vs) hb hm hA (by omega) hfit'
  have hsh := shape_setRow hA (putAt_size hfit')
  have hb' : (fun m => (g m).map (blot k (st + off) (st + off + vs.length))) b = some (.row e k st false (cells.mapIdx fun i c => if st + off ≤ st + i ∧ st + i < st + off + vs.length then none else c)) := by
    simp only [hb, Option.map_some, blot, if_true]
  have := hbl.recell (cells' := splice cells off xs) hb' (by simp [length_splice]) (by
    intro r' s' cs e3 fz3 hm' hcs i c hc
    rw [hm] at hm'
    simp only [Option.some.injEq, Prod.mk.injEq] at hm'
    obtain ⟨rfl, rfl⟩ := hm'
    rw [setRow_get hA, if_pos rfl] at hcs
    simp only [Option.some.injEq, Obj.cells.injEq] at hcs
    obtain ⟨rfl, _, _⟩ := hcs
    rw [splice_get xs cells off i hfit] at hc
    split at hc
    · rename_i hi
      obtain ⟨u, hu⟩ : ∃ u, vs[i - off]? = some u := ⟨vs[i - off]'(by omega), List.getElem?_eq_getElem (by omega)⟩
      refine ⟨u, ?_, (hx _ _ _ hc hu).mono (fun _ _ h => h) hsh⟩
      rw [show s + i = s + off + (i - off) from by omega, putAt_in hfit' (by omega)]
      exact hu
    · rename_i hi
      obtain ⟨u, hu, hr⟩ := h4 i c hc
      refine ⟨u, ?_, hr.mono (fun _ _ h => h) hsh⟩
      rw [putAt_out hfit' (by omega)]
      exact hu)
  have heq : stored g b e k st (st + off) (st + off + xs.length) (splice cells off xs) = fun m => if m = b then some (.row e k st false (splice cells off xs)) else (fun m => (g m).map (blot k (st + off) (st + off + vs.length))) m := by
    funext m; simp only [stored, hl]
  rw [heq]
  exact this
theorem AHeap.get_stores {H : AHeap} (wf : WF H) {b e k st off : Nat} {cells xs : List (Option AC)} (hb : H.get b = some (.row e k st false cells)) :
    (H.stores b e k st off cells xs).get = stored H.get b e k st (st + off) (st + off + xs.length) (splice cells off xs) := by
  funext m
  have hlt := AHeap.get_lt hb
  unfold AHeap.stores stored
  rw [AHeap.get_set]
  by_cases hm : m = b
  · subst hm
    rw [if_pos ⟨rfl, by split <;> simp [AHeap.size_blotGroup, hlt]⟩, if_pos rfl]
  · rw [if_neg (by simp [hm]), if_neg hm]
    split
    · exact AHeap.get_blotGroup wf _ _ _ _
    · rename_i hmany
      cases hg : H.get m with
      | none => rfl
      | some o =>
        simp only [Option.map_some]
        cases o with
        | map es => rfl
        | loop => rfl
        | row e1 g1 st1 ro1 cs1 =>
          simp only [blot]
          rw [if_neg]
          rintro rfl
          exact hmany (wf.many m b _ _ _ _ _ _ _ _ _ hm hg hb)
theorem AHeap.size_stores (H : AHeap) (b e k st off : Nat) (cells xs : List (Option AC)) : (H.stores b e k st off cells xs).size = H.size := by
  unfold AHeap.stores; split <;> simp [AHeap.size_blotGroup]
theorem AHeap.ext_stores (H : AHeap) (b e k st off : Nat) (cells xs : List (Option AC)) (k' : Nat) : (H.stores b e k st off cells xs).ext k' = H.ext k' := by
  unfold AHeap.stores; split <;> simp [AHeap.ext_blotGroup]
theorem stored_kind {b e k st lo hi : Nat} {cells cells' : List (Option AC)} (hb : g b = some (.row e k st false cells)) (hl : cells'.length = cells.length) (m : Nat) (o : AObj) :
    (g m = some o → ∃ o', stored g b e k st lo hi cells' m = some o' ∧ sameKind o o') ∧ (stored g b e k st lo hi cells' m = some o → ∃ o', g m = some o' ∧ sameKind o' o) := by
  unfold stored
  by_cases hm : m = b
  · subst hm
    simp only [if_true, hb, Option.some.injEq]
    constructor
    · rintro rfl; exact ⟨_, rfl, by simp [sameKind, hl]⟩
    · rintro rfl; exact ⟨_, rfl, by simp [sameKind, hl]⟩
  · simp only [if_neg hm]
    constructor
    · intro h; exact ⟨_, by rw [h]; rfl, sameKind_blot _ _ _ _⟩
    · intro h
      simp only [Option.map_eq_some_iff] at h
      obtain ⟨o', h1, rfl⟩ := h
      exact ⟨o', h1, sameKind_blot _ _ _ _⟩
theorem post_stores {b r s k e st off : Nat} {cells : List (Option AC)} {A : Array Value} {e' : TypeId} {fz : Nat × Nat} {xs : List (Option AC)} {vs : List Value} (wf : WF H) (rel : Rel μ H.get w)
    (hb : H.get b = some (.row e k st false cells)) (hm : μ b = some (r, s)) (hA : w.heap[r]? = some (.cells A e' fz)) (hfit : off + xs.length ≤ cells.length)
    (hl : xs.length = vs.length) (hx : ∀ (i : Nat) (c : AC) (u : Value), xs[i]? = some (some c) → vs[i]? = some u → CRel μ w c u) :
    Post μ H w μ (H.stores b e k st off cells xs) (w.setRow r (putAt A (s + off) vs)) := by
  have hget := AHeap.get_stores (off := off) (xs := xs) wf hb
  have hk := fun m o => stored_kind (lo := st + off) (hi := st + off + xs.length) (cells' := splice cells off xs) hb (length_splice xs cells off) m o
  obtain ⟨A', e2, fz2, h1, h2, h3, h4⟩ := rel.obj b r s _ hm hb
  rw [hA] at h1
  simp only [Option.some.injEq, Obj.cells.injEq] at h1
  obtain ⟨rfl, rfl, rfl⟩ := h1
  have hfit' : s + off + vs.length ≤ A.size := by omega
  refine ⟨?_, ?_, by rw [AHeap.size_stores]; exact Nat.le_refl _, fun _ _ => rfl, ?_, ?_, ?_, ?_, ?_, rfl, rfl, rfl, by simp [World.setRow], ?_, shape_setRow hA (putAt_size hfit')⟩
  · refine WF.same wf (AHeap.size_stores _ _ _ _ _ _ _ _) (AHeap.ext_stores _ _ _ _ _ _ _ _) ?_
    intro m o' h
    rw [hget] at h
    exact (hk m o').2 h
  · rw [hget]; exact rel.store hb hm hA hfit hl hx
  · intro m r' s' h1 h2; rw [AHeap.size_stores] at h2; omega
  · intro m o h; rw [hget]; exact (hk m o).1 h
  · intro m o _ h; rw [hget] at h; exact (hk m o).2 h
  · intro m _ hn
    rw [hget]
    unfold stored
    have hne : m ≠ b := by rintro rfl; rw [hm] at hn; cases hn
    rw [if_neg hne]
    cases hg : H.get m with
    | none => rfl
    | some o =>
      simp only [Option.map_some]
      cases o with
      | map es => rfl
      | loop => rfl
      | row e1 g1 st1 ro1 cs1 =>
        simp only [blot]
        rw [if_neg]
        rintro rfl
        have := rel.clos b m _ _ g1 hb hg rfl rfl (by rw [hm]; rfl)
        rw [hn] at this; cases this
  · intro m h1 h2; rw [AHeap.size_stores] at h2; omega
  · intro k' _ hprot
    rw [setRow_get hA, if_neg]
    rintro rfl
    have := hprot b s _ hm hb
    cases this
theorem store_eq {b : APtr} {cs : List AC} (h : H.store b cs = some H') : ∃ e k st cells, H.get b.1 = some (.row e k st false cells) ∧ b.2 + cs.length ≤ cells.length ∧ H' = H.stores b.1 e k st b.2 cells (cs.map some) := by
  unfold AHeap.store at h
  split at h
  · rename_i e k st cells hb
    split at h
    · rename_i hfit
      simp only [Option.some.injEq] at h
      refine ⟨e, k, st, cells, hb, hfit, ?_⟩
      exact h.symm
    · cases h
  · cases h
theorem store_post {b : APtr} {cs : List AC} {vs : List Value} {p : Value} (wf : WF H) (rel : Rel μ H.get w) (hs : H.store b cs = some H') (hp : PtrRel μ b p) (hr : All2 (CRel μ w) cs vs) :
    ∃ ad w', p = .pointer (some ad) ∧ (storeCells ad vs).run P w = .ok () w' ∧ Post μ H w μ H' w' := by
  obtain ⟨e, k, st, cells, hb, hfit, rfl⟩ := store_eq hs
  obtain ⟨r, s, hm, rfl⟩ := hp
  obtain ⟨A, e2, fz2, h1, h2, h3, h4⟩ := rel.obj b.1 r s _ hm hb
  obtain rfl := h3 rfl
  have hl := hr.length
  refine ⟨⟨r, s + b.2, none⟩, w.setRow r (putAt A (s + b.2) vs), rfl, ?_, ?_⟩
  · have := run_storeCells_at P r (s + b.2) e2 vs 0 A w h1 (by omega) ?_
    · simpa [putAt] using this
    · intro u hu
      obtain ⟨i, hi⟩ := List.mem_iff_getElem?.1 hu
      obtain ⟨c, _, hc⟩ := All2.get' hr hi
      exact hc.oneCell.1
  · refine post_stores wf rel hb hm h1 (by simpa using hfit) (by simpa using hl) ?_
    intro i c u hc hu
    rw [List.getElem?_map, Option.map_eq_some_iff] at hc
    obtain ⟨c', hc', e⟩ := hc
    simp only [Option.some.injEq] at e; subst e
    obtain ⟨u', hu', hr'⟩ := All2.get hr hc'
    rw [hu] at hu'; cases hu'; exact hr'
end
end Go.AI
end
section
namespace Go.AI
section
variable {P : Program} {μ : Mu} {w : World} {T : List AV} {a : Act} {H H' : AHeap} {v : AV} {g : Nat → Option AObj}
theorem Rel.drew (rel : Rel μ g w) : Rel μ g w.drew :=
  ⟨rel.dom, fun b r s o h ho => (rel.obj b r s o h ho).mono (fun _ _ h => h) (Shapes.refl w), rel.sep, rel.clos⟩
theorem post_drew (wf : WF H) (rel : Rel μ H.get w) : Post μ H w μ H w.drew := by
  have := Post.refl wf rel
  exact ⟨wf, rel.drew, Nat.le_refl _, this.out, this.fresh, this.kind, this.kind', this.hidden, this.mapped, rfl, rfl, rfl, Nat.le_refl _, fun _ _ _ => rfl, Shapes.refl w⟩
theorem Rel.blotOnly (rel : Rel μ g w) (k lo hi : Nat) : Rel μ (fun m => (g m).map (blot k lo hi)) w := by
  have hsame : ∀ o, grpOf (blot k lo hi o) = grpOf o := by
    intro o; cases o with
    | row e1 g1 st1 ro1 cs1 => simp only [blot]; split <;> rfl
    | map es => rfl
    | loop => rfl
  constructor
  · exact rel.dom
  · intro m r' s' o h ho
    simp only [Option.map_eq_some_iff] at ho
    obtain ⟨o0, ho0, rfl⟩ := ho
    have := rel.obj m r' s' o0 h ho0
    cases o0 with
    | map es => exact this
    | loop => exact this
    | row e1 g1 st1 ro1 cs1 =>
      obtain ⟨cs, e2, fz2, h1, h2, h3, h4⟩ := this
      simp only [blot]
      split
      · refine ⟨cs, e2, fz2, h1, by simpa using h2, h3, ?_⟩
        intro i c hc
        simp only [List.getElem?_mapIdx, Option.map_eq_some_iff] at hc
        obtain ⟨d, hd, hdc⟩ := hc
        split at hdc
        · cases hdc
        · subst hdc; exact h4 i c hd
      · exact ⟨cs, e2, fz2, h1, h2, h3, h4⟩
  · intro b1 b2 r' s1 s2 o1 o2 hne h1 h2 g1 g2
    simp only [Option.map_eq_some_iff] at g1 g2
    obtain ⟨p1, hp1, rfl⟩ := g1
    obtain ⟨p2, hp2, rfl⟩ := g2
    have := rel.sep b1 b2 r' s1 s2 p1 p2 hne h1 h2 hp1 hp2
    cases p1 with
    | map es => exact this.elim
    | loop => exact this.elim
    | row _ _ _ _ _ =>
      cases p2 with
      | map es => exact this.elim
      | loop => exact this.elim
      | row _ _ _ _ _ =>
        simp only [blot]
        split <;> split <;> exact this
  · intro b1 b2 o1 o2 k' g1 g2 k1 k2 h
    simp only [Option.map_eq_some_iff] at g1 g2
    obtain ⟨p1, hp1, rfl⟩ := g1
    obtain ⟨p2, hp2, rfl⟩ := g2
    rw [hsame] at k1 k2
    exact rel.clos b1 b2 p1 p2 k' hp1 hp2 k1 k2 h
theorem Rel.alias {b b' r s k e st o e2 : Nat} {cells cells' : List (Option AC)} (rel : Rel μ g w) (hb : g b = some (.row e k st false cells)) (hm : μ b = some (r, s)) (hb' : μ b' = none)
    (ho : ORel μ w (s + o) (.row e2 k (st + o) false cells') w.heap[r]?) :
    Rel (μ.ins b' (r, s + o)) (fun m => if m = b' then some (.row e2 k (st + o) false cells') else g m) w := by
  have hle : μ.le (μ.ins b' (r, s + o)) := Mu.le_ins hb'
  have hold : ∀ m x, m ≠ b' → (μ.ins b' (r, s + o)) m = some x → μ m = some x := by
    intro m x hm h
    simpa [Mu.ins, hm] using h
  have hnew : ∀ x, (μ.ins b' (r, s + o)) b' = some x → x = (r, s + o) := by
    intro x h
    rw [Mu.ins_self] at h
    exact (Option.some.inj h).symm
  have hne : b ≠ b' := by rintro rfl; rw [hm] at hb'; cases hb'
  have tog : ∀ m s1 o1, m ≠ b' → μ m = some (r, s1) → g m = some o1 → Together o1 s1 (.row e2 k (st + o) false cells') (s + o) ∧ Together (.row e2 k (st + o) false cells') (s + o) o1 s1 := by
    intro m s1 o1 hm' h1 g1
    by_cases e : m = b
    · subst e
      rw [hm] at h1; rw [hb] at g1
      simp only [Option.some.injEq, Prod.mk.injEq] at h1 g1
      obtain ⟨_, rfl⟩ := h1
      subst g1
      simp only [Together, true_and]
      exact ⟨.inr (by omega), .inr (by omega)⟩
    · have := rel.sep m b r s1 s o1 _ e h1 hm g1 hb
      cases o1 with
      | map es => exact this.elim
      | loop => exact this.elim
      | row e1 g1 st1 ro1 cs1 =>
        simp only [Together] at this ⊢
        rcases this with ⟨_, h0⟩ | ⟨h5, _, h6, h7⟩
        · cases h0
        · exact ⟨.inr ⟨h5, trivial, h6, by omega⟩, .inr ⟨trivial, h5, h6.symm, by omega⟩⟩
  constructor
  · intro m r' s' h
    by_cases e : m = b'
    · subst e
      have := hnew _ h
      simp only [Prod.mk.injEq] at this
      rw [this.1]
      exact rel.dom b r s hm
    · exact rel.dom m r' s' (hold m _ e h)
  · intro m r' s' o' h ho'
    by_cases e : m = b'
    · subst e
      have := hnew _ h
      simp only [Prod.mk.injEq] at this
      obtain ⟨rfl, rfl⟩ := this
      simp only [if_true, Option.some.injEq] at ho'; subst ho'
      exact ho.mono hle (Shapes.refl w)
    · simp only [if_neg e] at ho'
      exact (rel.obj m r' s' o' (hold m _ e h) ho').mono hle (Shapes.refl w)
  · intro b1 b2 r' s1 s2 o1 o2 hne' h1 h2 g1 g2
    by_cases e1 : b1 = b'
    · subst e1
      have e2 := Ne.symm hne'
      have := hnew _ h1
      simp only [Prod.mk.injEq] at this
      obtain ⟨rfl, rfl⟩ := this
      simp only [if_true, Option.some.injEq] at g1; subst g1
      simp only [if_neg e2] at g2
      exact (tog b2 s2 o2 e2 (hold _ _ e2 h2) g2).2
    · simp only [if_neg e1] at g1
      by_cases e2 : b2 = b'
      · subst e2
        have := hnew _ h2
        simp only [Prod.mk.injEq] at this
        obtain ⟨rfl, rfl⟩ := this
        simp only [if_true, Option.some.injEq] at g2; subst g2
        exact (tog b1 s1 o1 e1 (hold _ _ e1 h1) g1).1
      · simp only [if_neg e2] at g2
        exact rel.sep b1 b2 r' s1 s2 o1 o2 hne' (hold _ _ e1 h1) (hold _ _ e2 h2) g1 g2
  · intro b1 b2 o1 o2 k' g1 g2 k1 k2 h
    by_cases e2 : b2 = b'
    · subst e2; rw [Mu.ins_self]; rfl
    · simp only [if_neg e2] at g2
      by_cases e1 : b1 = b'
      · subst e1
        simp only [if_true, Option.some.injEq] at g1; subst g1
        simp only [grpOf, Option.some.injEq] at k1; subst k1
        have := rel.clos b b2 _ o2 k hb g2 rfl k2 (by rw [hm]; rfl)
        simpa [Mu.ins, e2] using this
      · simp only [if_neg e1] at g1
        have h' : (μ b1).isSome := by
          rw [Option.isSome_iff_exists] at h ⊢
          obtain ⟨x, hx⟩ := h
          exact ⟨x, hold _ _ e1 hx⟩
        have := rel.clos b1 b2 o1 o2 k' g1 g2 k1 k2 h'
        simpa [Mu.ins, e2] using this
theorem srcA_rel {sz : Nat} {x : AC} {n : Nat} {xs : List AC} {xv : Value} (rel : Rel μ H.get w) (h : srcA H sz x = some (n, xs)) (hx : CRel μ w x xv) :
    ∃ vs : List Value, (Builtin.lenOf xv).run P w = .ok n w ∧ All2 (CRel μ w) xs vs ∧ vs.length = n * sz ∧
      (∀ m, m ≤ n → (Builtin.firstCells sz m xv).run P w = .ok (vs.take (m * sz)).toArray w ∧ (Builtin.firstCells sz m xv).run P w.drew = .ok (vs.take (m * sz)).toArray w.drew) := by
  cases x <;> simp only [srcA, reduceCtorEq] at h
  case str s =>
    split at h
    · rename_i hs
      subst hs
      simp only [Option.some.injEq, Prod.mk.injEq] at h
      obtain ⟨rfl, rfl⟩ := h
      simp only [CRel] at hx; subst hx
      refine ⟨s.data.toList.map fun b => .int .u8 b.toNat, rfl, ?_, by simp, ?_⟩
      · exact All2.map (R := fun x y => x = y) (fun a b hab => by subst hab; rfl) (All2.of_get rfl fun i x y h1 h2 => by rw [h1] at h2; exact Option.some.inj h2)
      · intro m hm
        have : ((s.extract 0 m).data.map fun b => Value.int .u8 b.toNat) = ((s.data.toList.map fun b => Value.int .u8 b.toNat).take (m * 1)).toArray := by
          apply Array.toList_inj.1
          simp [List.extract_eq_take_drop]
        constructor <;> simp only [Builtin.firstCells, Sem.run_pure, this]
    · cases h
  case sl p sz' len cap =>
    cases p with
    | none =>
      simp only [Option.some.injEq, Prod.mk.injEq] at h
      obtain ⟨rfl, rfl⟩ := h
      obtain ⟨_, _, rfl⟩ := hx
      refine ⟨[], rfl, trivial, by simp, ?_⟩
      intro m hm
      constructor <;> simp [Builtin.firstCells]
    | some b =>
      simp only at h
      obtain ⟨ad, cap', r, s, e, k, rfl, hlen, hcap, hm, had, hsh, hsz⟩ := hx
      split at h
      · rename_i h0
        simp only [Option.some.injEq, Prod.mk.injEq] at h
        obtain ⟨rfl, rfl⟩ := h
        subst h0
        refine ⟨[], rfl, trivial, by simp, ?_⟩
        intro m hm
        obtain rfl : m = 0 := by omega
        constructor <;> simp [Builtin.firstCells, loadCells, loadCellsFrom]
      · rename_i h0
        split at h
        · rename_i hz
          subst hz
          simp only [Option.map_eq_some_iff, Prod.mk.injEq] at h
          obtain ⟨cs, hcs, rfl, rfl⟩ := h
          have had' : ad = ⟨r, s + b.2, none⟩ := by
            rcases had with h1 | h1
            · omega
            · exact h1
          subst had'
          obtain ⟨ad2, vs, e1, hl, hr, hc⟩ := load_rel (g := H.get) (v := .pointer (some ⟨r, s + b.2, none⟩)) rel rfl hcs ⟨r, s, hm, rfl⟩
          simp only [Value.pointer.injEq, Option.some.injEq] at e1; subst e1
          refine ⟨vs, rfl, hr, hl, ?_⟩
          intro m hmn
          have hml : (vs.take (m * sz')).length = m * sz' := by
            rw [List.length_take, hl]
            exact Nat.min_eq_left (Nat.mul_le_mul_right _ hmn)
          have hc' : ∀ (j : Nat) (u : Value), (vs.take (m * sz'))[j]? = some u → w.cell? ((⟨r, s + b.2, none⟩ : Addr).add j) = some u := by
            intro j u hu
            rw [List.getElem?_take] at hu
            split at hu
            · exact hc j u hu
            · cases hu
          have h1 := run_loadCells_list (P := P) w ⟨r, s + b.2, none⟩ (vs.take (m * sz')) hc'
          have h2 := run_loadCells_list (P := P) w.drew ⟨r, s + b.2, none⟩ (vs.take (m * sz')) (by simpa using hc')
          rw [hml] at h1 h2
          exact ⟨h1, h2⟩
        · cases h
theorem append_run_in {argTypes : Array TypeId} {ty t xt e : TypeId} {xd : TypeDesc} {i : TypeInfo} {base : Option Addr} {sLen sCap n : Nat} {x : Value} {vs : Array Value} {w' : World}
    (h0 : argTypes[0]? = some t) (hu : P.underlying t = some (.slice e)) (h1 : argTypes[1]? = some xt) (hxu : P.underlying xt = some xd) (hni : isSrcT xd = true) (hi : P.info? e = some i)
    (hlen : (Builtin.lenOf x).run P w = .ok n w) (hfc : (Builtin.firstCells i.size n x).run P w = .ok vs w) (hroom : sLen + n ≤ sCap)
    (hst : (match base with | none => pure () | some a => storeCells (a.add (sLen * i.size)) vs.toList : Sem Unit).run P w = .ok () w') :
    (Builtin.append_ argTypes ty #[.slice base sLen sCap, x]).run P w = .ok (.slice base (sLen + n) sCap) w' := by
  unfold Builtin.append_
  simp only [h0, List.getElem?_toArray, List.getElem?_cons_zero, List.getElem?_cons_succ, Sem.run_bind, underlying_run w hu, Result.andThen_ok, h1]
  simp only [sizeOf, Sem.run_bind, typeInfo_run w hi, Result.andThen_ok, Sem.run_pure, underlying_run w hxu]
  cases xd <;> simp only [isSrcT, Bool.false_eq_true] at hni
  all_goals
    simp only [Bool.false_eq_true, if_false, Sem.run_bind, hlen, Result.andThen_ok, Bool.not_false, if_true, hroom, hfc]
    cases base with
    | none =>
      simp only [Sem.run_pure, Result.ok.injEq, true_and] at hst
      subst hst
      rfl
    | some ad =>
      simp only at hst
      simp only [Sem.run_bind, hst, Result.andThen_ok, Sem.run_pure]
theorem append_run_grow {argTypes : Array TypeId} {ty t xt e : TypeId} {xd : TypeDesc} {i : TypeInfo} {z : Value} {base : Option Addr} {sLen sCap n : Nat} {x : Value} {vs olds : Array Value}
    (h0 : argTypes[0]? = some t) (hu : P.underlying t = some (.slice e)) (h1 : argTypes[1]? = some xt) (hxu : P.underlying xt = some xd) (hni : isSrcT xd = true) (hi : P.info? e = some i) (hz0 : i.zero = some z)
    (hb : i.bytes ≠ 0) (hlen : (Builtin.lenOf x).run P w = .ok n w) (hfc : (Builtin.firstCells i.size n x).run P w.drew = .ok vs w.drew) (hold : (Builtin.firstCells i.size sLen (.slice base sLen sCap)).run P w.drew = .ok olds w.drew)
    (hroom : ¬ sLen + n ≤ sCap) (hbytes : (sLen + n) * i.bytes ≤ 140737488355328) :
    ∃ nc rest, sLen + n ≤ nc ∧ rest.size = (nc - (sLen + n)) * z.cells.size ∧
      (Builtin.append_ argTypes ty #[.slice base sLen sCap, x]).run P w = .ok (.slice (some ⟨w.heap.size, 0, none⟩) (sLen + n) nc) (w.drew.alloc (.cells (olds ++ vs ++ rest) e)) := by
  refine ⟨grownCap w (sLen + n) sCap e, Builtin.zeroCells z.cells (grownCap w (sLen + n) sCap e - (sLen + n)), grownCap_ge w _ _ e, size_zeroCells _ _, ?_⟩
  have hfit := growslice_fits (need := sLen + n) (old := sCap) (by omega) hbytes
  unfold Builtin.append_
  simp only [h0, List.getElem?_toArray, List.getElem?_cons_zero, List.getElem?_cons_succ, Sem.run_bind, underlying_run w hu, Result.andThen_ok, h1]
  simp only [sizeOf, Sem.run_bind, typeInfo_run w hi, Result.andThen_ok, Sem.run_pure, underlying_run w hxu]
  have hno : ¬ (((sLen + n : Nat) : Int) > IntKind.i64.max ∧ (False ∨ i.bytes = 0)) := by simp [hb]
  have hno2 : ¬ (Builtin.nextslicecap (sLen + n) sCap * i.bytes > 2 ^ 48) := by omega
  cases xd <;> simp only [isSrcT, Bool.false_eq_true] at hni
  all_goals
    simp only [Bool.false_eq_true, if_false, Sem.run_bind, hlen, Result.andThen_ok, hroom, typeInfo_run w hi]
    simp only [hno, hno2, typeInfo_run w hi, if_false, Sem.run_bind, run_choose, Question.forced, Bool.false_eq_true, Result.andThen_ok, run_askRoom, World.drew_eq, typeInfo_run w.drew hi, hold, Bool.not_false, if_true, hfc, zeroValue, hz0, Sem.run_pure, newRow, run_newObj, World.alloc_eq, World.size_drew]
    rfl
theorem old_cells {b r s o len sz e k st : Nat} {ro : Bool} {cells : List (Option AC)} {A : Array Value} {e' : TypeId} {fz : Nat × Nat} {cap' : Nat} (rel : Rel μ g w) (hb : g b = some (.row e k st ro cells)) (hm : μ b = some (r, s))
    (hA : w.heap[r]? = some (.cells A e' fz)) (hfit : o + len * sz ≤ cells.length) :
    ∃ olds : List Value, olds.length = len * sz ∧ (Builtin.firstCells sz len (.slice (some ⟨r, s + o, none⟩) len cap')).run P w.drew = .ok olds.toArray w.drew ∧
      (∀ (j : Nat) (u : Value), olds[j]? = some u → A[s + o + j]? = some u) ∧
      ∀ (j : Nat) (c : AC), ((cells.drop o).take (len * sz))[j]? = some (some c) → ∃ u, olds[j]? = some u ∧ CRel μ w c u := by
  obtain ⟨A', e2, fz2, h1, h2, h3, h4⟩ := rel.obj b r s _ hm hb
  rw [hA] at h1
  simp only [Option.some.injEq, Obj.cells.injEq] at h1
  obtain ⟨rfl, rfl, rfl⟩ := h1
  have hlen : ((A.toList.drop (s + o)).take (len * sz)).length = len * sz := by
    simp only [List.length_take, List.length_drop, Array.length_toList]; omega
  have hget : ∀ (j : Nat) (u : Value), ((A.toList.drop (s + o)).take (len * sz))[j]? = some u → A[s + o + j]? = some u := by
    intro j u hu
    rw [List.getElem?_take] at hu
    split at hu
    · rw [List.getElem?_drop, Array.getElem?_toList] at hu; exact hu
    · cases hu
  refine ⟨(A.toList.drop (s + o)).take (len * sz), hlen, ?_, hget, ?_⟩
  · have := run_loadCells_list (P := P) w.drew ⟨r, s + o, none⟩ ((A.toList.drop (s + o)).take (len * sz)) ?_
    · rw [hlen] at this; exact this
    · intro j u hu
      have he : (⟨r, s + o, none⟩ : Addr).add j = ⟨r, s + o + j, none⟩ := by unfold Addr.add; split <;> simp_all
      rw [he, World.cell?_drew, cell_row hA]
      exact hget j u hu
  · intro j c hc
    rw [List.getElem?_take] at hc
    split at hc
    · rename_i hj
      rw [List.getElem?_drop] at hc
      obtain ⟨u, hu, hr⟩ := h4 _ _ hc
      refine ⟨u, ?_, hr⟩
      rw [List.getElem?_take, if_pos hj, List.getElem?_drop, Array.getElem?_toList, Nat.add_assoc]
      exact hu
    · cases hc
theorem orel_grown {e e2 k st : Nat} {ocells : List (Option AC)} {xs : List AC} {olds vs rest : List Value} (ho : olds.length = ocells.length) (hor : ∀ (j : Nat) (c : AC), ocells[j]? = some (some c) → ∃ u, olds[j]? = some u ∧ CRel μ w c u)
    (hx : All2 (CRel μ w) xs vs) : ORel μ w 0 (.row e k st false (ocells ++ xs.map some)) (some (.cells (olds.toArray ++ vs.toArray ++ rest.toArray) e2)) := by
  have hxl := hx.length
  refine ⟨_, e2, (0, 0), rfl, by simp; omega, fun _ => rfl, ?_⟩
  intro i c hc
  rw [List.getElem?_append] at hc
  rw [← Array.getElem?_toList]
  simp only [Array.toList_append, List.append_assoc, List.getElem?_append, Nat.zero_add]
  split at hc
  · rename_i hi
    obtain ⟨u, hu, hr⟩ := hor i c hc
    rw [if_pos (by omega)]
    exact ⟨u, hu, hr⟩
  · rename_i hi
    rw [List.getElem?_map, Option.map_eq_some_iff] at hc
    obtain ⟨c', hc', e⟩ := hc
    simp only [Option.some.injEq] at e; subst e
    obtain ⟨u, hu, hr⟩ := All2.get hx hc'
    have hlt : i - olds.length < vs.length := by
      rw [ho]
      rcases Nat.lt_or_ge (i - ocells.length) vs.length with h | h
      · exact h
      · rw [List.getElem?_eq_none h] at hu; cases hu
    rw [if_neg (by omega), if_pos hlt, ho]
    exact ⟨u, hu, hr⟩
theorem crel_grown {b n nc sz e : Nat} {A : Array Value} (w : World) (h1 : μ b = some (w.heap.size, 0)) (hn : n ≤ nc) (hs : nc * sz ≤ A.size) :
    CRel μ (w.drew.alloc (.cells A e)) (.sl (some (b, 0)) sz n none) (.slice (some ⟨w.heap.size, 0, none⟩) n nc) :=
  ⟨_, _, _, _, _, _, rfl, hn, by simp, h1, .inr (by simp), shape_new w.drew A e, by simpa using hs⟩
theorem AHeap.get_alias {H : AHeap} (wf : WF H) (e k st lo : Nat) (cells : List (Option AC)) (m : Nat) :
    (H.alias e k st lo cells).get m = if m = H.size then some (.row e k st false cells) else (H.get m).map (blot k lo (st + cells.length)) := by
  unfold AHeap.alias
  rw [AHeap.get_setExt, AHeap.get_push, AHeap.size_blotGroup, AHeap.get_blotGroup wf]
theorem AHeap.size_alias (H : AHeap) (e k st lo : Nat) (cells : List (Option AC)) : (H.alias e k st lo cells).size = H.size + 1 := by
  unfold AHeap.alias
  simp [AHeap.size_blotGroup]
theorem AHeap.ext_alias (H : AHeap) (e k st lo : Nat) (cells : List (Option AC)) (k' : Nat) : (H.alias e k st lo cells).ext k' = if k' = k then (max (H.ext k).1 (st + cells.length), true) else H.ext k' := by
  unfold AHeap.alias
  rw [AHeap.ext_setExt]
  split
  · rfl
  · simp [AHeap.ext_blotGroup]
theorem WF.alias {H : AHeap} (wf : WF H) {e k st lo b e0 st0 : Nat} {ro0 : Bool} {cells0 cells : List (Option AC)} (hb : H.get b = some (.row e0 k st0 ro0 cells0)) : WF (H.alias e k st lo cells) := by
  have hk := wf.lt _ _ _ _ _ _ hb
  have old : ∀ m e1 g1 st1 ro1 cs1, m ≠ H.size → (H.alias e k st lo cells).get m = some (.row e1 g1 st1 ro1 cs1) → ∃ cs2, H.get m = some (.row e1 g1 st1 ro1 cs2) ∧ cs2.length = cs1.length := by
    intro m e1 g1 st1 ro1 cs1 hm h
    rw [AHeap.get_alias wf, if_neg hm, Option.map_eq_some_iff] at h
    obtain ⟨o, ho, hbl⟩ := h
    cases o with
    | map es => cases hbl
    | loop => cases hbl
    | row e2 g2 st2 ro2 cs2 =>
      simp only [blot] at hbl
      split at hbl <;> simp only [AObj.row.injEq] at hbl <;> obtain ⟨rfl, rfl, rfl, rfl, rfl⟩ := hbl
      · exact ⟨cs2, ho, by simp⟩
      · exact ⟨cs2, ho, rfl⟩
  constructor
  · intro m e1 g1 st1 ro1 cs1 h
    rw [AHeap.size_alias]
    by_cases hm : m = H.size
    · rw [AHeap.get_alias wf, if_pos hm] at h
      simp only [Option.some.injEq, AObj.row.injEq] at h; omega
    · obtain ⟨cs2, h2, _⟩ := old m _ _ _ _ _ hm h
      have := wf.lt _ _ _ _ _ _ h2; omega
  · intro m e1 g1 st1 ro1 cs1 h
    rw [AHeap.ext_alias]
    by_cases hm : m = H.size
    · rw [AHeap.get_alias wf, if_pos hm] at h
      simp only [Option.some.injEq, AObj.row.injEq] at h
      obtain ⟨_, rfl, rfl, _, rfl⟩ := h
      rw [if_pos rfl]; simp only; omega
    · obtain ⟨cs2, h2, hl⟩ := old m _ _ _ _ _ hm h
      have := wf.reach _ _ _ _ _ _ h2
      by_cases hg : g1 = k
      · subst hg; rw [if_pos rfl]; simp only; omega
      · rw [if_neg hg]; omega
  · intro b1 b2 e1 g1 st1 ro1 cs1 e2 st2 ro2 cs2 hne h1 h2
    rw [AHeap.ext_alias]
    by_cases hg : g1 = k
    · subst hg; rw [if_pos rfl]
    · rw [if_neg hg]
      have hm1 : b1 ≠ H.size := by
        rintro rfl
        rw [AHeap.get_alias wf, if_pos rfl] at h1
        simp only [Option.some.injEq, AObj.row.injEq] at h1
        exact hg h1.2.1.symm
      have hm2 : b2 ≠ H.size := by
        rintro rfl
        rw [AHeap.get_alias wf, if_pos rfl] at h2
        simp only [Option.some.injEq, AObj.row.injEq] at h2
        exact hg h2.2.1.symm
      obtain ⟨c1, g1', _⟩ := old b1 _ _ _ _ _ hm1 h1
      obtain ⟨c2, g2', _⟩ := old b2 _ _ _ _ _ hm2 h2
      exact wf.many _ _ _ _ _ _ _ _ _ _ _ hne g1' g2'
theorem post_alias {b r s o lo e k st : Nat} {cells cells' : List (Option AC)} {x : Nat × Nat} {w' : World} (wf : WF H) (rel : Rel μ H.get w) (hb : H.get b = some (.row e k st false cells)) (hm : μ b = some (r, s))
    (rel' : Rel (μ.ins H.size x) (fun m => if m = H.size then some (.row e k (st + o) false cells') else (H.get m).map (blot k lo (st + o + cells'.length))) w')
    (hx : w.heap.size ≤ x.1 ∨ x.1 = r) (hos : w'.os = w.os) (htape : w'.tape = w.tape) (hout : w'.output = w.output) (hsz : w.heap.size ≤ w'.heap.size) (hkeep : ∀ k', k' < w.heap.size → k' ≠ r → w'.heap[k']? = w.heap[k']?) (hsh : Shapes w w') :
    Post μ H w (μ.ins H.size x) (H.alias e k (st + o) lo cells') w' := by
  have hget : (H.alias e k (st + o) lo cells').get = fun m => if m = H.size then some (.row e k (st + o) false cells') else (H.get m).map (blot k lo (st + o + cells'.length)) := by
    funext m; exact AHeap.get_alias wf _ _ _ _ _ _
  have hsize := AHeap.size_alias H e k (st + o) lo cells'
  refine ⟨wf.alias hb, by rw [hget]; exact rel', by omega, ?_, ?_, ?_, ?_, ?_, ?_, hos, htape, hout, hsz, ?_, hsh⟩
  · intro m hm'
    unfold Mu.ins
    rw [if_neg (by omega)]
  · intro m r' s' h1 h2 h3
    obtain rfl : m = H.size := by omega
    rw [Mu.ins_self] at h3
    simp only [Option.some.injEq] at h3; subst h3
    rcases hx with h | h
    · exact .inl h
    · exact .inr ⟨b, s, _, by rw [hm]; simp only at h; rw [h], hb, rfl⟩
  · intro m o' ho'
    have := AHeap.get_lt ho'
    rw [hget]; simp only; rw [if_neg (by omega), ho']
    exact ⟨_, rfl, sameKind_blot _ _ _ _⟩
  · intro m o' hlt ho'
    rw [hget] at ho'
    simp only at ho'
    rw [if_neg (by omega), Option.map_eq_some_iff] at ho'
    obtain ⟨o1, h1, rfl⟩ := ho'
    exact ⟨o1, h1, sameKind_blot _ _ _ _⟩
  · intro m hlt hn
    rw [hget]; simp only; rw [if_neg (by omega)]
    cases hg : H.get m with
    | none => rfl
    | some o1 =>
      simp only [Option.map_some]
      cases o1 with
      | map es => rfl
      | loop => rfl
      | row e1 g1 st1 ro1 cs1 =>
        simp only [blot]
        rw [if_neg]
        rintro rfl
        have := rel.clos b m _ _ g1 hb hg rfl rfl (by rw [hm]; rfl)
        rw [hn] at this; cases this
  · intro m h1 h2
    obtain rfl : m = H.size := by omega
    rw [Mu.ins_self]; rfl
  · intro k' hk' hprot
    refine hkeep k' hk' ?_
    rintro rfl
    have := hprot b s _ hm hb
    cases this
theorem append_sound {argTypes : Array TypeId} {ty t xt e n : Nat} {xd : TypeDesc} {i : TypeInfo} {zero : List AC} {s x r : AC} {sv xv : Value} {xs : List AC} (wf : WF H) (rel : Rel μ H.get w)
    (h0 : argTypes[0]? = some t) (hu : P.underlying t = some (.slice e)) (h1 : argTypes[1]? = some xt) (hxu : P.underlying xt = some xd) (hni : isSrcT xd = true) (hi : P.info? e = some i)
    (hz0 : (zeroA P e).bind AV.cells = some zero) (hzl : zero.length = i.size) (hsz0 : i.size ≠ 0) (hb0 : i.bytes ≠ 0)
    (hs : CRel μ w s sv) (hx : CRel μ w x xv) (hsrc : srcA H i.size x = some (n, xs)) (happ : appendA H i.size i.bytes e s n xs = some (r, H')) (fr : Free μ H.size H'.size) :
    ∃ v' w' μ', (Builtin.append_ argTypes ty #[sv, xv]).run P w = .ok v' w' ∧ CRel μ' w' r v' ∧ Post μ H w μ' H' w' := by
  obtain ⟨vs, hlen, hxr, hvl, hfc⟩ := srcA_rel (P := P) rel hsrc hx
  obtain ⟨hfc1, hfc2⟩ := hfc n (Nat.le_refl _)
  have htake : vs.take (n * i.size) = vs := List.take_of_length_le (by omega)
  rw [htake] at hfc1 hfc2
  obtain ⟨z, hz1, hz2⟩ := bind_some' hz0
  obtain ⟨zv, hz3, hz4, i', hi', hzi⟩ := zeroA_run (P := P) (μ := μ) w hz1
  rw [hi] at hi'
  simp only [Option.some.injEq] at hi'; subst hi'
  have hzs : zv.cells.size = i.size := by
    have := (AV.cells_rel hz2 hz4).length
    simp only [Array.length_toList] at this
    omega
  have hxl := hxr.length
  cases s <;> simp only [appendA, reduceCtorEq] at happ
  rename_i p sz' len cap
  split at happ
  · cases happ
  · rename_i hbd
    simp only [not_or, Nat.not_lt, gt_iff_lt] at hbd
    obtain ⟨hbd1, hbd2⟩ := hbd
    have hbd3 : (len + n) * i.bytes ≤ 140737488355328 := hbd1
    split at happ
    · rename_i hn0
      simp only [Option.some.injEq, Prod.mk.injEq] at happ
      obtain ⟨rfl, rfl⟩ := happ
      subst hn0
      have hv0 : vs = [] := List.eq_nil_of_length_eq_zero (by omega)
      subst hv0
      obtain ⟨base, cap', rfl, hlc⟩ : ∃ base cap', sv = .slice base len cap' ∧ len ≤ cap' := by
        cases p with
        | none => obtain ⟨rfl, _, rfl⟩ := hs; exact ⟨_, _, rfl, Nat.le_refl _⟩
        | some p => obtain ⟨ad, cap', _, _, _, _, rfl, h, _⟩ := hs; exact ⟨_, _, rfl, h⟩
      refine ⟨.slice base len cap', w, μ, ?_, hs, Post.refl wf rel⟩
      refine append_run_in (w' := w) h0 hu h1 hxu hni hi hlen hfc1 (by omega) ?_
      cases base <;> rfl
    · rename_i hn0
      split at happ
      · simp only [Option.some.injEq, Prod.mk.injEq] at happ
        obtain ⟨rfl, rfl⟩ := happ
        obtain ⟨rfl, rfl, rfl⟩ := hs
        obtain ⟨nc, rest, hnc, hrest, hrun⟩ := append_run_grow (P := P) (ty := ty) (w := w) (base := none) (sLen := 0) (sCap := 0) (olds := #[]) h0 hu h1 hxu hni hi hzi hb0 hlen hfc2 (by simp [Builtin.firstCells]) (by omega) hbd3
        have hor := orel_grown (μ := μ) (w := w.drew) (e := e) (e2 := e) (k := H.size) (st := 0) (ocells := []) (olds := []) (rest := rest.toList) rfl (by simp) (hxr.mono fun _ _ h => h.mono (fun _ _ h => h) (Shapes.refl w))
        have hp := post_plus (robj := .cells (#[] ++ vs.toArray ++ rest) e) (obj := .row e H.size 0 false (xs.map some)) wf rel.drew (fr H.size (Nat.le_refl _) (by simp [AHeap.newRow])) ⟨rfl, rfl, rfl⟩ (by simpa using hor)
        refine ⟨_, _, _, hrun, ?_, (post_drew wf rel).trans hp⟩
        rw [Nat.zero_add]
        refine crel_grown w (Mu.ins_self _ _ _) (by omega) ?_
        simp only [Array.size_append, List.size_toArray, List.length_nil, hrest, hvl, hzs, Nat.zero_add]
        rw [← Nat.add_mul]
        exact Nat.mul_le_mul_right _ (by omega)
      · rename_i b o
        split at happ
        · cases happ
        · rename_i hzz
          have hzz' : sz' = i.size := by simpa using hzz
          subst hzz'
          split at happ
          · rename_i _ el k st ro cells hb
            split at happ
            · cases happ
            · rename_i hfit
              have hfit' : o + len * i.size ≤ cells.length := by omega
              obtain ⟨ad, cap', rr, ss, ee, nn, rfl, hlc, hcap, hm, had, hsh, hszz⟩ := hs
              obtain ⟨A, e2, fz2, hA, hA2, hA3, _⟩ := rel.obj b rr ss _ hm hb
              have hshA : ee = e2 ∧ nn = A.size := by
                unfold World.shape? at hsh
                rw [hA] at hsh
                simp only [Option.some.injEq, Prod.mk.injEq] at hsh
                exact ⟨hsh.1.symm, hsh.2.symm⟩
              obtain ⟨rfl, rfl⟩ := hshA
              obtain ⟨olds, hol, holdrun, hold1, hold2⟩ := old_cells (P := P) (cap' := cap') rel hb hm hA hfit'
              have haddr : cap' ≠ 0 → ad = ⟨rr, ss + o, none⟩ := fun h => had.resolve_left h
              have holdrun' : (Builtin.firstCells i.size len (.slice (some ad) len cap')).run P w.drew = .ok olds.toArray w.drew := by
                by_cases hc0 : cap' = 0
                · have hl0 : len = 0 := by omega
                  subst hl0
                  have : olds = [] := List.eq_nil_of_length_eq_zero (by omega)
                  subst this
                  simp [Builtin.firstCells, loadCells, loadCellsFrom]
                · rw [haddr hc0]; exact holdrun
              -- the whole array is made anew
              have grow : ¬ len + n ≤ cap' → ∃ nc rest, len + n ≤ nc ∧ rest.size = (nc - (len + n)) * i.size ∧
                  (Builtin.append_ argTypes ty #[.slice (some ad) len cap', xv]).run P w = .ok (.slice (some ⟨w.heap.size, 0, none⟩) (len + n) nc) (w.drew.alloc (.cells (olds.toArray ++ vs.toArray ++ rest) e)) ∧
                  nc * i.size ≤ (olds.toArray ++ vs.toArray ++ rest).size := by
                intro hroom
                obtain ⟨nc, rest, hnc, hrest, hrun⟩ := append_run_grow (P := P) (ty := ty) (w := w) h0 hu h1 hxu hni hi hzi hb0 hlen hfc2 holdrun' hroom hbd3
                rw [hzs] at hrest
                refine ⟨nc, rest, hnc, hrest, hrun, ?_⟩
                simp only [Array.size_append, List.size_toArray, hrest, hvl, hol]
                rw [← Nat.add_mul, ← Nat.add_mul]
                exact Nat.mul_le_mul_right _ (by omega)
              -- where there is room
              have room : len + n ≤ cap' → ro = false → (Builtin.append_ argTypes ty #[.slice (some ad) len cap', xv]).run P w = .ok (.slice (some ad) (len + n) cap') (w.setRow rr (putAt A (ss + (o + len * i.size)) vs)) ∧ ad = ⟨rr, ss + o, none⟩ ∧ ss + (o + len * i.size) + vs.length ≤ A.size := by
                intro hroom hro
                obtain rfl := hA3 hro
                have hc0 : cap' ≠ 0 := by omega
                have hadr := haddr hc0
                have hmul : len * i.size + n * i.size ≤ cap' * i.size := by rw [← Nat.add_mul]; exact Nat.mul_le_mul_right _ hroom
                have hfitA : ss + (o + len * i.size) + vs.length ≤ A.size := by omega
                refine ⟨?_, hadr, hfitA⟩
                refine append_run_in h0 hu h1 hxu hni hi hlen hfc1 hroom ?_
                subst hadr
                have he : (⟨rr, ss + o, none⟩ : Addr).add (len * i.size) = ⟨rr, ss + (o + len * i.size), none⟩ := by
                  unfold Addr.add; split
                  · rename_i hz; simp [hz]
                  · simp [Nat.add_assoc]
                simp only [he]
                have := run_storeCells_at P rr (ss + (o + len * i.size)) ee vs 0 A w hA (by omega) (by
                  intro u hu
                  obtain ⟨j, hj⟩ := List.mem_iff_getElem?.1 hu
                  obtain ⟨c, _, hc⟩ := All2.get' hxr hj
                  exact hc.oneCell.1)
                simpa [putAt] using this
              split at happ
              · rename_i c
                have hcc : cap' = c := hcap c rfl
                subst hcc
                split at happ
                · rename_i hroom
                  split at happ
                  · cases happ
                  · rename_i hno
                    simp only [not_or, Nat.not_lt, gt_iff_lt, Bool.not_eq_true] at hno
                    obtain ⟨hro, hfit2⟩ := hno
                    subst hro
                    simp only [Option.some.injEq, Prod.mk.injEq] at happ
                    obtain ⟨rfl, rfl⟩ := happ
                    obtain ⟨hrun, hadr, hfitA⟩ := room hroom rfl
                    obtain rfl := hA3 rfl
                    have hpost := post_stores (off := o + len * i.size) (xs := xs.map some) (vs := vs) wf rel hb hm hA (by simp; omega) (by simpa using hxl) (by
                      intro j c u hc hu
                      rw [List.getElem?_map, Option.map_eq_some_iff] at hc
                      obtain ⟨c', hc', e⟩ := hc
                      simp only [Option.some.injEq] at e; subst e
                      obtain ⟨u', hu', hr'⟩ := All2.get hxr hc'
                      rw [hu] at hu'; cases hu'; exact hr')
                    refine ⟨_, _, μ, hrun, ?_, hpost⟩
                    exact ⟨ad, _, rr, ss, _, _, rfl, hroom, by simp, hm, .inr hadr, hpost.shapes _ _ hsh, hszz⟩
                · rename_i hroom
                  simp only [Option.some.injEq, Prod.mk.injEq] at happ
                  obtain ⟨rfl, rfl⟩ := happ
                  obtain ⟨nc, rest, hnc, hrest, hrun, hbig⟩ := grow hroom
                  have hocl : ((cells.drop o).take (len * i.size)).length = len * i.size := by simp; omega
                  have hor := orel_grown (μ := μ) (w := w.drew) (e := e) (e2 := e) (k := H.size) (st := 0) (ocells := (cells.drop o).take (len * i.size)) (olds := olds) (rest := rest.toList) (by omega) (fun j c hc => let ⟨u, hu, hr⟩ := hold2 j c hc; ⟨u, hu, hr.mono (fun _ _ h => h) (Shapes.refl w)⟩) (hxr.mono fun _ _ h => h.mono (fun _ _ h => h) (Shapes.refl w))
                  have hp := post_plus (robj := .cells (olds.toArray ++ vs.toArray ++ rest) e) (obj := .row e H.size 0 false ((cells.drop o).take (len * i.size) ++ xs.map some)) wf rel.drew (fr H.size (Nat.le_refl _) (by simp [AHeap.newRow])) ⟨rfl, rfl, rfl⟩ (by simpa using hor)
                  exact ⟨_, _, _, hrun, crel_grown w (Mu.ins_self _ _ _) hnc hbig, (post_drew wf rel).trans hp⟩
              · split at happ
                · cases happ
                · rename_i hro
                  have hro' : ro = false := by simpa using hro
                  subst hro'
                  simp only [Option.some.injEq, Prod.mk.injEq] at happ
                  obtain ⟨rfl, rfl⟩ := happ
                  have hf : μ H.size = none := fr H.size (Nat.le_refl _) (by rw [AHeap.size_alias]; omega)
                  obtain rfl := hA3 rfl
                  have hocl : ((cells.drop o).take (len * i.size)).length = len * i.size := by simp; omega
                  have hcl : ((cells.drop o).take (len * i.size) ++ xs.map some).length = len * i.size + vs.length := by rw [List.length_append, hocl, List.length_map, hxl]
                  by_cases hroom : len + n ≤ cap'
                  · obtain ⟨hrun, hadr, hfitA⟩ := room hroom rfl
                    have hbl := rel.blotted (p := ss + (o + len * i.size)) (lo := st + (o + len * i.size)) (vs := vs) hb hm hA (by omega) hfitA
                    have hshp := shape_setRow hA (putAt_size hfitA)
                    have hbb : (fun m => (H.get m).map (blot k (st + (o + len * i.size)) (st + (o + len * i.size) + vs.length))) b = some (.row el k st false (cells.mapIdx fun j c => if st + (o + len * i.size) ≤ st + j ∧ st + j < st + (o + len * i.size) + vs.length then none else c)) := by
                      simp only [hb, Option.map_some, blot, if_true]
                    have hal := hbl.alias (b' := H.size) (o := o) (e2 := el) (cells' := (cells.drop o).take (len * i.size) ++ xs.map some) hbb hm hf (by
                      rw [setRow_get hA, if_pos rfl]
                      refine ⟨_, _, _, rfl, by rw [putAt_size hfitA, hcl]; omega, fun _ => rfl, ?_⟩
                      intro j c hc
                      rw [List.getElem?_append] at hc
                      split at hc
                      · rename_i hj
                        obtain ⟨u, hu, hr⟩ := hold2 j c hc
                        refine ⟨u, ?_, hr.mono (fun _ _ h => h) hshp⟩
                        rw [putAt_out hfitA (by omega)]
                        exact hold1 j u hu
                      · rename_i hj
                        rw [List.getElem?_map, Option.map_eq_some_iff] at hc
                        obtain ⟨c', hc', e'⟩ := hc
                        simp only [Option.some.injEq] at e'; subst e'
                        obtain ⟨u, hu, hr⟩ := All2.get hxr hc'
                        have hlt : j - ((cells.drop o).take (len * i.size)).length < vs.length := by
                          rcases Nat.lt_or_ge (j - ((cells.drop o).take (len * i.size)).length) vs.length with h | h
                          · exact h
                          · rw [List.getElem?_eq_none h] at hu; cases hu
                        refine ⟨u, ?_, hr.mono (fun _ _ h => h) hshp⟩
                        rw [hocl] at hlt hu
                        rw [show ss + o + j = ss + (o + len * i.size) + (j - len * i.size) from by omega, putAt_in hfitA hlt]
                        exact hu)
                    have hpost := post_alias (o := o) (lo := st + (o + len * i.size)) (cells' := (cells.drop o).take (len * i.size) ++ xs.map some) (x := (rr, ss + o)) (w' := w.setRow rr (putAt A (ss + (o + len * i.size)) vs)) wf rel hb hm (by
                        have e1 : st + o + ((cells.drop o).take (len * i.size) ++ xs.map some).length = st + (o + len * i.size) + vs.length := by rw [hcl]; omega
                        rw [e1]
                        exact hal) (.inr rfl) rfl rfl rfl (by simp [World.setRow]) (fun k' _ hk' => by rw [setRow_get hA, if_neg hk']) hshp
                    refine ⟨_, _, _, hrun, ?_, hpost⟩
                    exact ⟨ad, cap', rr, ss + o, _, _, rfl, hroom, by simp, Mu.ins_self _ _ _, .inr (by simpa using hadr), hshp _ _ hsh, by simpa [Nat.add_assoc] using hszz⟩
                  · obtain ⟨nc, rest, hnc, hrest, hrun, hbig⟩ := grow hroom
                    have hor := orel_grown (μ := μ) (w := w.drew) (e := el) (e2 := e) (k := k) (st := st + o) (ocells := (cells.drop o).take (len * i.size)) (olds := olds) (rest := rest.toList) (by omega) (fun j c hc => let ⟨u, hu, hr⟩ := hold2 j c hc; ⟨u, hu, hr.mono (fun _ _ h => h) (Shapes.refl w)⟩) (hxr.mono fun _ _ h => h.mono (fun _ _ h => h) (Shapes.refl w))
                    have hbo := (rel.drew).blotOnly k (st + (o + len * i.size)) (st + (o + len * i.size) + vs.length)
                    have hal := hbo.plus (b := H.size) (obj := .row el k (st + o) false ((cells.drop o).take (len * i.size) ++ xs.map some)) (robj := .cells (olds.toArray ++ vs.toArray ++ rest) e) hf (by simpa using hor) (by
                      intro k' hk' b1 o1 _ hb1 hk1
                      simp only [grpOf, Option.some.injEq] at hk'; subst hk'
                      simp only [Option.map_eq_some_iff] at hb1
                      obtain ⟨o0, ho0, rfl⟩ := hb1
                      refine rel.clos b b1 _ o0 k hb ho0 rfl ?_ (by rw [hm]; rfl)
                      cases o0 with
                      | map es => cases hk1
                      | loop => cases hk1
                      | row e1 g1 st1 ro1 cs1 => simp only [blot] at hk1; split at hk1 <;> exact hk1)
                    have hpost := post_alias (o := o) (lo := st + (o + len * i.size)) (cells' := (cells.drop o).take (len * i.size) ++ xs.map some) (x := (w.heap.size, 0)) (w' := w.drew.alloc (.cells (olds.toArray ++ vs.toArray ++ rest) e)) wf rel hb hm (by
                        have e1 : st + o + ((cells.drop o).take (len * i.size) ++ xs.map some).length = st + (o + len * i.size) + vs.length := by rw [hcl]; omega
                        rw [e1]
                        exact hal) (.inl (Nat.le_refl _)) rfl rfl rfl (by simp) (fun k' hk' _ => heap_old w.drew _ hk') (shape_alloc w.drew _)
                    exact ⟨_, _, _, hrun, crel_grown w (Mu.ins_self _ _ _) hnc hbig, hpost⟩
          · cases happ
end
end Go.AI
end
section
namespace Go.AI
section
variable {P : Program} {μ : Mu} {w : World} {T : List AV} {a : Act} {H H' : AHeap} {v : AV} {g : Nat → Option AObj}
def putObj (w : World) (r : Nat) (o : Obj) : World := { w with heap := w.heap.setIfInBounds r o }
theorem run_setObj {r : Nat} {o o' : Obj} (h : w.heap[r]? = some o) (hc : ∀ c t f, o ≠ .cells c t f) : (setObj r o').run P w = .ok () (putObj w r o') := by
  unfold setObj
  simp only [Sem.run, h]
  rfl
theorem putObj_get {r : Nat} {o o' : Obj} (h : w.heap[r]? = some o) (k : Nat) : (putObj w r o').heap[k]? = if k = r then some o' else w.heap[k]? := by
  have hr : r < w.heap.size := by
    rcases Nat.lt_or_ge r w.heap.size with h' | h'
    · exact h'
    · rw [Array.getElem?_eq_none h'] at h; cases h
  unfold putObj
  simp only [Array.getElem?_setIfInBounds]
  by_cases hk : r = k
  · subst hk; rw [if_pos rfl, if_pos hr, if_pos rfl]
  · rw [if_neg hk, if_neg (Ne.symm hk)]
theorem shape_putObj {r : Nat} {o o' : Obj} (h : w.heap[r]? = some o) (hc : ∀ c t f, o ≠ .cells c t f) : Shapes w (putObj w r o') := by
  intro k x hx
  unfold World.shape? at hx ⊢
  rw [putObj_get h]
  by_cases hk : k = r
  · subst hk
    rw [h] at hx
    cases o <;> first | (exact absurd rfl (hc _ _ _)) | cases hx
  · rw [if_neg hk]; exact hx
theorem post_map {b r s : Nat} {es es' : List (Value × AV)} {ms ms' : Array MapEntry} {clock clock' : Nat} (wf : WF H) (rel : Rel μ H.get w) (hb : H.get b = some (.map es)) (hm : μ b = some (r, s))
    (hA : w.heap[r]? = some (.map ms clock)) (hr : All2 (fun (e : Value × AV) (m : MapEntry) => m.key = e.1 ∧ VRel μ w e.2 m.val) es' ms'.toList) :
    Post μ H w μ (H.set b (.map es')) (putObj w r (.map ms' clock')) := by
  have hlt := AHeap.get_lt hb
  have hget : ∀ m, (H.set b (.map es')).get m = if m = b then some (.map es') else H.get m := by
    intro m
    rw [AHeap.get_set]
    by_cases h : m = b
    · simp [h, hlt]
    · simp [h]
  have hsh := shape_putObj (o' := .map ms' clock') hA (by simp)
  have hle : μ.le μ := fun _ _ h => h
  have hkind : ∀ m o, (H.set b (.map es')).get m = some o → ∃ o', H.get m = some o' ∧ sameKind o' o := by
    intro m o h
    rw [hget] at h
    by_cases e : m = b
    · subst e; rw [if_pos rfl] at h; cases h; exact ⟨_, hb, trivial⟩
    · rw [if_neg e] at h; exact ⟨o, h, sameKind.refl o⟩
  have hsep : ∀ b2 s2 o2, b2 ≠ b → μ b2 = some (r, s2) → H.get b2 = some o2 → False := by
    intro b2 s2 o2 hne h2 g2
    have := rel.sep b2 b r s2 s o2 _ hne h2 hm g2 hb
    cases o2 <;> exact this.elim
  refine ⟨WF.same wf rfl (fun _ => rfl) hkind, ⟨?_, ?_, ?_, ?_⟩, Nat.le_refl _, fun _ _ => rfl, fun m _ _ h1 h2 _ => ?_, ?_, fun m o _ h => hkind m o h, ?_, fun m h1 h2 => ?_, rfl, rfl, rfl, by simp [putObj], ?_, hsh⟩
  · intro m r' s' h
    have := rel.dom m r' s' h
    simpa [putObj] using this
  · intro m r' s' o h ho
    rw [hget] at ho
    rw [putObj_get hA]
    by_cases e : m = b
    · subst e
      rw [if_pos rfl] at ho; cases ho
      rw [hm] at h; cases h
      rw [if_pos rfl]
      exact ⟨ms', clock', rfl, hr.mono fun _ _ q => ⟨q.1, q.2.mono hle hsh⟩⟩
    · rw [if_neg e] at ho
      have hne : r' ≠ r := by rintro rfl; exact hsep m s' o e h ho
      rw [if_neg hne]
      exact (rel.obj m r' s' o h ho).mono hle hsh
  · intro b1 b2 r' s1 s2 o1 o2 hne h1 h2 g1 g2
    rw [hget] at g1 g2
    by_cases e1 : b1 = b
    · subst e1
      have e2 := Ne.symm hne
      rw [if_neg e2] at g2
      rw [hm] at h1; cases h1
      exact (hsep b2 s2 o2 e2 h2 g2).elim
    · rw [if_neg e1] at g1
      by_cases e2 : b2 = b
      · subst e2
        rw [hm] at h2; cases h2
        exact (hsep b1 s1 o1 e1 h1 g1).elim
      · rw [if_neg e2] at g2
        exact rel.sep b1 b2 r' s1 s2 o1 o2 hne h1 h2 g1 g2
  · intro b1 b2 o1 o2 k g1 g2 k1 k2 h
    rw [hget] at g1 g2
    by_cases e1 : b1 = b
    · subst e1; rw [if_pos rfl] at g1; cases g1; cases k1
    · rw [if_neg e1] at g1
      by_cases e2 : b2 = b
      · subst e2; rw [if_pos rfl] at g2; cases g2; cases k2
      · rw [if_neg e2] at g2
        exact rel.clos b1 b2 o1 o2 k g1 g2 k1 k2 h
  · rw [AHeap.size_set] at h2; omega
  · intro m o h
    rw [hget]
    by_cases e : m = b
    · subst e; rw [hb] at h; cases h; exact ⟨.map es', by rw [if_pos rfl], trivial⟩
    · rw [if_neg e]; exact ⟨o, h, sameKind.refl o⟩
  · intro m _ hn
    rw [hget, if_neg]
    rintro rfl
    rw [hm] at hn; cases hn
  · rw [AHeap.size_set] at h2; omega
  · intro k _ hprot
    rw [putObj_get hA, if_neg]
    rintro rfl
    have := hprot b s _ hm hb
    cases this
def Done (P : Program) (μ : Mu) (w : World) (a : Act) (o : Oper) (H H' : AHeap) (v : AV) : Prop :=
  ∃ nx v' w' μ', (execOp a.eval o).run P w = .ok nx w' ∧ (nx = .value v' ∨ nx = .skip ∧ v' = undef) ∧ VRel μ' w' v v' ∧ Post μ H w μ' H' w'
theorem mapUpdate_gives {t kt et : TypeId} {b : Nat} {x k kv u : Value} {v : AV} {es : List (Value × AV)} {f : Option (Nat × AV)} (wf : WF H) (rel : Rel μ H.get w) (hu : P.underlying t = some (.map kt et)) (hx : CRel μ w (.map (some b)) x)
    (hb : H.get b = some (.map es)) (hk : keyOkA P kt false k = true) (hf : findA P kt k es = some f) (hkv : kv = k) (hv : VRel μ w v u)
    (hsame : ∀ p, f = some p → (es[p.1]?).any (fun e => decide (Instr.sameBits 10000 e.1 k = true)) = true) :
    ∃ w', (Instr.mapUpdate t x kv u).run P w = .ok () w' ∧ Post μ H w μ (H.set b (.map (match f with | some p => es.modify p.1 fun _ => (k, v) | none => es ++ [(k, v)]))) w' := by
  subst hkv
  obtain ⟨r, s, hm, rfl⟩ := hx
  obtain ⟨ms, clock, h1, h2⟩ := map_rel rel hb hm
  obtain ⟨f', hf1, hf2⟩ := findA_rel (P := P) h2 hf
  unfold Instr.mapUpdate
  simp only [Sem.run_bind, underlying_run w hu, Result.andThen_ok, run_getObj h1 (by simp), keyOk_run w hk, hf1]
  cases f with
  | none =>
    cases f' with
    | some q => exact hf2.elim
    | none =>
      refine ⟨_, run_setObj h1 (by simp), post_map wf rel hb hm h1 ?_⟩
      rw [Array.toList_push]
      exact h2.append ⟨⟨rfl, hv⟩, trivial⟩
  | some p =>
    cases f' with
    | none => exact hf2.elim
    | some q =>
      obtain ⟨qi, qv⟩ := q
      obtain ⟨pi, pv⟩ := p
      obtain ⟨hpq, _⟩ := hf2
      simp only at hpq
      subst hpq
      have hs := hsame _ rfl
      simp only at hs
      cases hes : es[pi]? with
      | none => rw [hes] at hs; cases hs
      | some e =>
        rw [hes] at hs
        simp only [Option.any_some, decide_eq_true_eq] at hs
        obtain ⟨m, hme, hmk, _⟩ := All2.get h2 hes
        rw [Array.getElem?_toList] at hme
        have hkeep : (Instr.keyThatStays (((ms[pi]?).map (·.key)).getD kv) kv).run P w = .ok kv w := by
          rw [hme]
          simp only [Option.map_some, Option.getD_some, hmk]
          unfold Instr.keyThatStays
          rw [if_pos hs]
          rfl
        simp only [Sem.run_bind, hkeep, Result.andThen_ok]
        refine ⟨_, run_setObj h1 (by simp), post_map wf rel hb hm h1 ?_⟩
        rw [Array.toList_modify]
        refine All2.of_get (by simp [h2.length]) ?_
        intro i x y hx hy
        rw [List.getElem?_modify] at hx hy
        by_cases hi : pi = i
        · subst hi
          rw [hes] at hx
          rw [Array.getElem?_toList, hme] at hy
          simp only [if_true, Option.map_eq_map, Option.map_some, Option.some.injEq] at hx hy
          subst hx hy
          exact ⟨rfl, hv⟩
        · simp only [if_neg hi, Option.map_eq_map, Option.map_id_fun', id_eq] at hx hy
          obtain ⟨y', hy', hr⟩ := All2.get h2 hx
          rw [hy] at hy'; cases hy'
          exact hr
theorem opA_eff {o : Oper} (hT : TRel μ w T a.tmps) (wf : WF H) (rel : Rel μ H.get w) (fr : Free μ H.size H'.size) (he : isEff o.op = true) (h : opA P o T H = some (v, H')) : Done P μ w a o H H' v := by
  obtain ⟨dst, op, type, pos, after, guard⟩ := o
  cases op
  case store t x y =>
    simp only [opA] at h
    split at h
    · rename_i b cs n h1 h2 h3
      split at h
      · rename_i hl
        obtain ⟨H1, hH1, h⟩ := bind_some' h
        simp only [Option.some.injEq, Prod.mk.injEq] at h; obtain ⟨rfl, rfl⟩ := h
        obtain ⟨y', hy, hc⟩ := bind_some' h2
        have hr := AV.cells_rel hc (evalA_rel hT hy)
        obtain ⟨ad, w', hp, hst, hpost⟩ := store_post (P := P) wf rel hH1 (evalA_rel hT h1) hr
        refine ⟨.skip, undef, w', μ, ?_, .inr ⟨rfl, rfl⟩, VRel_undef _ _, hpost⟩
        have hsz : (a.eval y).cells.size = n := by
          have := hr.length
          simp only [Array.length_toList] at this
          omega
        simp only [execOp, Instr.storeAt, hp, Instr.sureAddr, Sem.run_bind, Sem.run_pure, Result.andThen_ok, storeVar, sizeT_run w h3]
        rw [if_neg (by simpa using hsz)]
        simp only [hst, Result.andThen_ok]
      · cases h
    · cases h
  case insert t m k x =>
    simp only [opA] at h
    split at h
    · rename_i kt et b k' z hu h1 h2 h3
      split at h
      · rename_i es hes
        split at h
        · rename_i hc
          obtain ⟨hc1, hc2, hc3⟩ := hc
          obtain ⟨y, hy, hky⟩ := bind_some' h2
          have hkv := AV.val_rel hky (evalA_rel hT hy)
          split at h
          · rename_i i pv hf
            split at h
            · rename_i hs
              simp only [Option.some.injEq, Prod.mk.injEq] at h; obtain ⟨rfl, rfl⟩ := h
              obtain ⟨w', hrun, hpost⟩ := mapUpdate_gives (P := P) wf rel hu (evalA_rel hT h1) hes hc1 hf hkv (evalA_rel hT h3) (by rintro p hp; cases hp; exact hs)
              refine ⟨.skip, undef, w', μ, ?_, .inr ⟨rfl, rfl⟩, VRel_undef _ _, hpost⟩
              simp only [execOp, Sem.run_bind, hrun, Result.andThen_ok, Sem.run_pure]
            · cases h
          · rename_i hf
            simp only [Option.some.injEq, Prod.mk.injEq] at h; obtain ⟨rfl, rfl⟩ := h
            obtain ⟨w', hrun, hpost⟩ := mapUpdate_gives (P := P) wf rel hu (evalA_rel hT h1) hes hc1 hf hkv (evalA_rel hT h3) (by rintro p hp; cases hp)
            refine ⟨.skip, undef, w', μ, ?_, .inr ⟨rfl, rfl⟩, VRel_undef _ _, hpost⟩
            simp only [execOp, Sem.run_bind, hrun, Result.andThen_ok, Sem.run_pure]
          · cases h
        · cases h
      · cases h
    · cases h
  case mapUpdate t m k x =>
    simp only [opA] at h
    split at h
    · rename_i kt et b k' z hu h1 h2 h3
      split at h
      · rename_i es hes
        split at h
        · rename_i hc
          obtain ⟨hc1, hc2, hc3⟩ := hc
          obtain ⟨y, hy, hky⟩ := bind_some' h2
          have hkv := AV.val_rel hky (evalA_rel hT hy)
          split at h
          · rename_i i pv hf
            split at h
            · rename_i hs
              simp only [Option.some.injEq, Prod.mk.injEq] at h; obtain ⟨rfl, rfl⟩ := h
              obtain ⟨w', hrun, hpost⟩ := mapUpdate_gives (P := P) wf rel hu (evalA_rel hT h1) hes hc1 hf hkv (evalA_rel hT h3) (by rintro p hp; cases hp; exact hs)
              refine ⟨.skip, undef, w', μ, ?_, .inr ⟨rfl, rfl⟩, VRel_undef _ _, hpost⟩
              simp only [execOp, Sem.run_bind, hrun, Result.andThen_ok, Sem.run_pure]
            · cases h
          · rename_i hf
            simp only [Option.some.injEq, Prod.mk.injEq] at h; obtain ⟨rfl, rfl⟩ := h
            obtain ⟨w', hrun, hpost⟩ := mapUpdate_gives (P := P) wf rel hu (evalA_rel hT h1) hes hc1 hf hkv (evalA_rel hT h3) (by rintro p hp; cases hp)
            refine ⟨.skip, undef, w', μ, ?_, .inr ⟨rfl, rfl⟩, VRel_undef _ _, hpost⟩
            simp only [execOp, Sem.run_bind, hrun, Result.andThen_ok, Sem.run_pure]
          · cases h
        · cases h
      · cases h
    · cases h
  case call c =>
    obtain ⟨callee, args, argTypes⟩ := c
    cases callee
    case builtin b =>
      have hargs : ∀ vs, evalAll T args.toList = some vs → All2 (VRel μ w) vs (args.map a.eval).toList := by
        intro vs hvs
        simpa using evalAll_rel hT hvs
      have hex : ∀ (x : Value) (w' : World) (vs : Array Value), args.map a.eval = vs → (builtin b argTypes type (args.map fun | .const _ => true | _ => false) vs).run P w = .ok (.value x) w' →
          (execOp a.eval ⟨dst, .call ⟨.builtin b, args, argTypes⟩, type, pos, after, guard⟩).run P w = .ok (.value x) w' := by
        intro x w' vs hvs hx
        subst hvs
        simp only [execOp, resolve, Sem.run_bind, Sem.run_pure, Result.andThen_ok, invoke]
        exact hx
      simp only [opA] at h
      obtain ⟨vs, hvs, h⟩ := bind_some' h
      have hr := hargs vs hvs
      generalize hA : args.map a.eval = A at hr hex
      obtain ⟨A⟩ := A
      have ht : ∀ (j : Nat) d, (argTypes[j]?).bind P.underlying = some d → ∃ t, argTypes[j]? = some t ∧ P.underlying t = some d := fun j d hd => by
        simpa [Option.bind_eq_some_iff] using hd
      cases b
      case append =>
        simp only [builtinA, appA] at h
        split at h
        · rename_i s x e xt h1 h2
          split at h
          · rename_i i hi
            split at h
            · cases h
            · rename_i hno
              simp only [not_or, ne_eq, Decidable.not_not, Bool.not_eq_false] at hno
              obtain ⟨hn1, hn2, hn3, hn4⟩ := hno
              obtain ⟨⟨n, xs⟩, hsrc, h⟩ := bind_some' h
              obtain ⟨⟨r, H1⟩, happ, h⟩ := bind_some' h
              simp only [Option.some.injEq, Prod.mk.injEq] at h; obtain ⟨rfl, rfl⟩ := h
              obtain ⟨t, ht1, hu⟩ := ht 0 _ h1
              obtain ⟨tx, ht2, hxu⟩ := ht 1 _ h2
              rw [Option.map_eq_some_iff] at hn4
              obtain ⟨zero, hz, hzl⟩ := hn4
              obtain ⟨u1, r1, rfl, hu1, hr1⟩ := all2_cons hr
              obtain ⟨u2, rfl, hu2⟩ := all2_one hr1
              obtain ⟨v', w', μ', hrun, hcr, hpost⟩ := append_sound (P := P) (ty := type) wf rel ht1 hu ht2 hxu hn1 hi hz hzl hn2 hn3 hu1 hu2 hsrc happ fr
              refine ⟨.value v', v', w', μ', hex v' w' _ rfl ?_, .inl rfl, hcr, hpost⟩
              simp only [builtin, Sem.run_bind, hrun, Result.andThen_ok, Sem.run_pure]
          · cases h
        · cases h
      case copy =>
        simp only [builtinA, copyA] at h
        split at h
        · rename_i p sz len cap x e h1
          obtain ⟨size, hsize, h⟩ := bind_some' h
          obtain ⟨⟨n, xs⟩, hsrc, h⟩ := bind_some' h
          obtain ⟨t, ht1, hu⟩ := ht 0 _ h1
          obtain ⟨u1, r1, rfl, hu1, hr1⟩ := all2_cons hr
          obtain ⟨u2, rfl, hu2⟩ := all2_one hr1
          obtain ⟨vs, hlen, hxr, hvl, hfc⟩ := srcA_rel (P := P) rel hsrc hu2
          obtain ⟨hfc1, _⟩ := hfc (min n len) (Nat.min_le_left _ _)
          obtain ⟨base, cap', rfl⟩ : ∃ base cap', u1 = .slice base len cap' := by
            cases p with
            | none => obtain ⟨rfl, _, rfl⟩ := hu1; exact ⟨_, _, rfl⟩
            | some p => obtain ⟨ad, cap', _, _, _, _, rfl, _, _⟩ := hu1; exact ⟨_, _, rfl⟩
          simp only at h
          have hrun : ∀ w', (match base with | some a => storeCells a (vs.take (min n len * size)) | none => pure () : Sem Unit).run P w = .ok () w' →
              (Builtin.copy_ argTypes type #[.slice base len cap', u2]).run P w = .ok (goInt (min n len : Nat)) w' := by
            intro w' hst
            unfold Builtin.copy_
            simp only [ht1, List.getElem?_toArray, List.getElem?_cons_zero, List.getElem?_cons_succ, Sem.run_bind, underlying_run w hu, Result.andThen_ok, hlen, sizeT_run w hsize]
            have hmin : Nat.min n len = min n len := rfl
            rw [hmin, hfc1]
            cases base with
            | none =>
              simp only [Sem.run_pure, Result.ok.injEq, true_and] at hst
              subst hst
              rfl
            | some ad =>
              simp only at hst
              simp only [Result.andThen_ok, Sem.run_bind, hst, Sem.run_pure]
          split at h
          · rename_i h0
            simp only [Option.some.injEq, Prod.mk.injEq] at h; obtain ⟨rfl, rfl⟩ := h
            refine ⟨.value (goInt 0), goInt 0, w, μ, hex _ w _ rfl ?_, .inl rfl, rfl, Post.refl wf rel⟩
            have := hrun w (by rw [h0]; cases base <;> simp [storeCells])
            rw [h0] at this
            simp only [builtin, Sem.run_bind, this, Result.andThen_ok, Sem.run_pure]
            rfl
          · rename_i h0
            split at h
            · rename_i b _ _
              split at h
              · rename_i hss
                obtain ⟨rfl, hss2⟩ := hss
                obtain ⟨H1, hH1, h⟩ := bind_some' h
                simp only [Option.some.injEq, Prod.mk.injEq] at h; obtain ⟨rfl, rfl⟩ := h
                obtain ⟨ad, cap2, r, s, e2, k2, he, hlc, hcap, hm, had, hsh, hsz⟩ := hu1
                simp only [Value.slice.injEq] at he
                obtain ⟨rfl, _, rfl⟩ := he
                have had' : ad = ⟨r, s + b.2, none⟩ := by
                  rcases had with h1 | h1
                  · omega
                  · exact h1
                subst had'
                obtain ⟨ad2, w', he2, hst, hpost⟩ := store_post (P := P) (p := .pointer (some ⟨r, s + b.2, none⟩)) wf rel hH1 ⟨r, s, hm, rfl⟩ (hxr.take (min n len * sz))
                simp only [Value.pointer.injEq, Option.some.injEq] at he2; subst he2
                refine ⟨.value (goInt (min n len : Nat)), goInt (min n len : Nat), w', μ, hex _ w' _ rfl ?_, .inl rfl, rfl, hpost⟩
                have := hrun w' hst
                simp only [builtin, Sem.run_bind, this, Result.andThen_ok, Sem.run_pure]
              · cases h
            · cases h
        · cases h
      case clear =>
        simp only [builtinA, clearA] at h
        split at h
        · rename_i p sz len cap e h1
          obtain ⟨t, ht1, hu⟩ := ht 0 _ h1
          obtain ⟨u1, rfl, hu1⟩ := all2_one hr
          obtain ⟨base, cap', rfl⟩ : ∃ base cap', u1 = .slice base len cap' := by
            cases p with
            | none => obtain ⟨rfl, _, rfl⟩ := hu1; exact ⟨_, _, rfl⟩
            | some p => obtain ⟨ad, cap', _, _, _, _, rfl, _, _⟩ := hu1; exact ⟨_, _, rfl⟩
          split at h
          · rename_i h0
            subst h0
            simp only [Option.some.injEq, Prod.mk.injEq] at h; obtain ⟨rfl, rfl⟩ := h
            refine ⟨.value (.tuple #[]), .tuple #[], w, μ, hex _ w _ rfl ?_, .inl rfl, ⟨#[], rfl, trivial⟩, Post.refl wf rel⟩
            have : (Builtin.clear_ argTypes type #[.slice base 0 cap']).run P w = .ok (.tuple #[]) w := by
              unfold Builtin.clear_
              simp only [ht1, List.getElem?_toArray, List.getElem?_cons_zero, Sem.run_bind, underlying_run w hu, Result.andThen_ok]
              cases base <;> rfl
            simp only [builtin, Sem.run_bind, this, Result.andThen_ok, Sem.run_pure]
          · rename_i h0
            obtain ⟨zero, hz, h⟩ := bind_some' h
            split at h
            · rename_i b _
              split at h
              · rename_i hzz
                obtain ⟨hz1, hz2⟩ := hzz
                obtain ⟨H1, hH1, h⟩ := bind_some' h
                simp only [Option.some.injEq, Prod.mk.injEq] at h; obtain ⟨rfl, rfl⟩ := h
                obtain ⟨ad, cap2, r, s, e2, k2, he, hlc, hcap, hm, had, hsh, hsz⟩ := hu1
                simp only [Value.slice.injEq] at he
                obtain ⟨rfl, _, rfl⟩ := he
                have had' : ad = ⟨r, s + b.2, none⟩ := by
                  rcases had with h1 | h1
                  · omega
                  · exact h1
                subst had'
                obtain ⟨z, hza, hzb⟩ := bind_some' hz
                obtain ⟨zv, hz3, hz4, _⟩ := zeroA_run (P := P) (μ := μ) w hza
                have hzr := zeros_rel (μ := μ) (w := w) len (AV.cells_rel hzb hz4) (by omega)
                obtain ⟨ad2, w', he2, hst, hpost⟩ := store_post (P := P) (p := .pointer (some ⟨r, s + b.2, none⟩)) wf rel hH1 ⟨r, s, hm, rfl⟩ hzr
                simp only [Value.pointer.injEq, Option.some.injEq] at he2; subst he2
                refine ⟨.value (.tuple #[]), .tuple #[], w', μ, hex _ w' _ rfl ?_, .inl rfl, ⟨#[], rfl, trivial⟩, hpost⟩
                have : (Builtin.clear_ argTypes type #[.slice (some ⟨r, s + b.2, none⟩) len cap']).run P w = .ok (.tuple #[]) w' := by
                  unfold Builtin.clear_
                  simp only [ht1, List.getElem?_toArray, List.getElem?_cons_zero, Sem.run_bind, underlying_run w hu, Result.andThen_ok]
                  obtain ⟨m, rfl⟩ : ∃ m, len = m + 1 := ⟨len - 1, by omega⟩
                  simp only [hz3, Result.andThen_ok, Builtin.zeroCells]
                  rw [hst]
                  rfl
                simp only [builtin, Sem.run_bind, this, Result.andThen_ok, Sem.run_pure]
              · cases h
            · cases h
        · cases h
      case delete =>
        simp only [builtinA, deleteA] at h
        split at h
        · rename_i k kt et h1
          obtain ⟨kv, hkv, h⟩ := bind_some' h
          split at h
          · rename_i hk
            simp only [Option.some.injEq, Prod.mk.injEq] at h; obtain ⟨rfl, rfl⟩ := h
            obtain ⟨t, ht1, hu⟩ := ht 0 _ h1
            obtain ⟨u1, r1, rfl, hu1, hr1⟩ := all2_cons hr
            obtain ⟨u2, rfl, hu2⟩ := all2_one hr1
            have e1 : u1 = .map none := hu1
            have e2 := AV.val_rel hkv hu2
            subst e1 e2
            refine ⟨.value (.tuple #[]), .tuple #[], w, μ, hex _ w _ rfl ?_, .inl rfl, ⟨#[], rfl, trivial⟩, Post.refl wf rel⟩
            simp [builtin, Builtin.delete_, ht1, underlying_run w hu, keyOk_run w hk]
          · cases h
        · rename_i b k kt et h1
          obtain ⟨kv, hkv, h⟩ := bind_some' h
          split at h
          · rename_i es hes
            split at h
            · rename_i hk
              obtain ⟨f, hf, h⟩ := bind_some' h
              obtain ⟨t, ht1, hu⟩ := ht 0 _ h1
              obtain ⟨u1, r1, rfl, hu1, hr1⟩ := all2_cons hr
              obtain ⟨u2, rfl, hu2⟩ := all2_one hr1
              have e2 := AV.val_rel hkv hu2
              subst e2
              obtain ⟨r, s, hm, rfl⟩ := hu1
              obtain ⟨ms, clock, hA1, hA2⟩ := map_rel rel hes hm
              obtain ⟨f', hf1, hf2⟩ := findA_rel (P := P) hA2 hf
              have hemp : ms.isEmpty = es.isEmpty := by
                have := hA2.length
                simp only [Array.length_toList] at this
                show (ms.size == 0) = es.isEmpty
                rw [← this]
                cases es <;> rfl
              have hrun : ∀ w', (match f' with | some (i, _) => setObj r (.map (ms.eraseIdxIfInBounds i) clock) | none => setObj r (.map ms clock) : Sem Unit).run P w = .ok () w' →
                  (Builtin.delete_ argTypes type #[.map (some r), u2]).run P w = .ok (.tuple #[]) w' := by
                intro w' hst
                unfold Builtin.delete_
                simp only [ht1, List.getElem?_toArray, List.getElem?_cons_zero, List.getElem?_cons_succ, Sem.run_bind, underlying_run w hu, Result.andThen_ok, run_getObj hA1 (by simp), hemp, keyOk_run w hk, hf1]
                cases f' with
                | none => simp only at hst; simp only [Sem.run_bind, hst, Result.andThen_ok, Sem.run_pure]
                | some q => simp only at hst; simp only [Sem.run_bind, hst, Result.andThen_ok, Sem.run_pure]
              cases f with
              | none =>
                cases f' with
                | some q => exact hf2.elim
                | none =>
                  simp only [Option.some.injEq, Prod.mk.injEq] at h; obtain ⟨rfl, rfl⟩ := h
                  have hst := run_setObj (P := P) (o' := .map ms clock) hA1 (by simp)
                  have hw : putObj w r (.map ms clock) = w := by
                    have : (putObj w r (.map ms clock)).heap = w.heap := by
                      apply Array.ext_getElem?
                      intro i
                      rw [putObj_get hA1]
                      split
                      · rename_i e; subst e; exact hA1.symm
                      · rfl
                    cases w; simp only [putObj] at this ⊢; rw [this]
                  rw [hw] at hst
                  have := hrun w hst
                  refine ⟨.value (.tuple #[]), .tuple #[], w, μ, hex _ w _ rfl ?_, .inl rfl, ⟨#[], rfl, trivial⟩, Post.refl wf rel⟩
                  simp only [builtin, Sem.run_bind, this, Result.andThen_ok, Sem.run_pure]
              | some p =>
                cases f' with
                | none => exact hf2.elim
                | some q =>
                  obtain ⟨qi, qv⟩ := q
                  obtain ⟨pi, pv⟩ := p
                  obtain ⟨hpq, _⟩ := hf2
                  simp only at hpq
                  subst hpq
                  simp only [Option.some.injEq, Prod.mk.injEq] at h; obtain ⟨rfl, rfl⟩ := h
                  have hst := run_setObj (P := P) (o' := .map (ms.eraseIdxIfInBounds pi) clock) hA1 (by simp)
                  have := hrun _ hst
                  refine ⟨.value (.tuple #[]), .tuple #[], putObj w r (.map (ms.eraseIdxIfInBounds pi) clock), μ, hex _ _ _ rfl ?_, .inl rfl, ⟨#[], rfl, trivial⟩, post_map wf rel hes hm hA1 ?_⟩
                  · simp only [builtin, Sem.run_bind, this, Result.andThen_ok, Sem.run_pure]
                  · have he : (ms.eraseIdxIfInBounds pi).toList = ms.toList.eraseIdx pi := by
                      rw [Array.eraseIdxIfInBounds]
                      split
                      · simp
                      · rename_i hlt
                        rw [List.eraseIdx_of_length_le (by simpa using hlt)]
                    rw [he]
                    refine All2.of_get (by have := hA2.length; simp only [List.length_eraseIdx]; rw [this]) ?_
                    intro i x y hx hy
                    rw [List.getElem?_eraseIdx] at hx hy
                    split at hx
                    · rename_i hi
                      rw [if_pos hi] at hy
                      obtain ⟨y', hy', hr'⟩ := All2.get hA2 hx
                      rw [hy] at hy'; cases hy'; exact hr'
                    · rename_i hi
                      rw [if_neg hi] at hy
                      obtain ⟨y', hy', hr'⟩ := All2.get hA2 hx
                      rw [hy] at hy'; cases hy'; exact hr'
            · cases h
          · cases h
        · cases h
      all_goals first
        | (simp [isEff] at he; done)
        | (simp [builtinA] at h; done)
    all_goals simp [opA] at h
  all_goals first
    | (simp [isEff] at he; done)
    | (simp [opA] at h; done)
end
end Go.AI
end
