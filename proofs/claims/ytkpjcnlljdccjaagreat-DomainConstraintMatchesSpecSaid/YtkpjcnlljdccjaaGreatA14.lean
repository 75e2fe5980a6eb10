/- Joined by a program: what the proof of the law leans on, part 14. -/
import Derived.Test.YtkpjcnlljdccjaaGreatA13
import Derived.Shelf.Slices.CompactI
import Derived.Lib.RowBridge
import Derived.Shelf.SlSortCmp.WholeK
import Derived.Shelf.Slices.Turned
import Derived.WalkKit
import Derived.ProofKit
import Derived.OpenShut
import Derived.JoinedCond
import Derived.Below
import Derived.ChangeSame
import Derived.Test.YtkpjcnlljdccjaaGreatRows
set_option linter.unusedVariables false
set_option linter.unusedSimpArgs false
section
namespace Go.AI
open Go.Sort Go.Lib
theorem load_len {H : AHeap} {p : APtr} {n : Nat} {cs : List AC} (h : H.load p n = some cs) : cs.length = n := by
  unfold AHeap.load at h
  split at h
  · exact (takeAll_spec h).1
  · cases h
theorem store_size {H H' : AHeap} {p : APtr} {cs : List AC} (h : H.store p cs = some H') : H'.size = H.size := by
  obtain ⟨e, k, st, cells, _, _, rfl⟩ := store_eq h
  exact AHeap.size_stores _ _ _ _ _ _ _ _
def compactB (H : AHeap) : List AV → Option (AV × AHeap)
  | [.one (.sl a sz len cap)] =>
    if len = 0 then some (.one (.sl a sz len cap), H)
    else if len ≥ 4611686018427387904 then none
    else match a with
      | none => none
      | some p => (H.load p len).bind fun cs => (intsOf cs).bind fun zs => (H.store p ((compact zs ++ List.replicate (zs.length - (compact zs).length) 0).map (AC.int .i64))).map fun H' => (.one (.sl (some p) sz (compact zs).length cap), H')
  | _ => none
theorem compactB_sound {P : Program} {f : FuncId} (h0 : ∀ (p : Option Addr) (cap : Nat) (w : World), Calls P f #[.slice p 0 cap] w fun e w' => e = .returned (.slice p 0 cap) ∧ w' = w)
    (h1 : ∀ (blk off cap : Nat) (zs : List Int) (w : World), Holds (Value.int .i64) w blk off zs.toArray → zs.length ≤ 9223372036854775807 → zs.length ≤ cap →
      Calls P f #[.slice (some ⟨blk, off, none⟩) zs.length cap] w fun e w' => e = .returned (.slice (some ⟨blk, off, none⟩) (compact zs).length cap) ∧ ∃ n, w' = putRow (Value.int .i64) (Sort.ahead w n) blk off (compact zs ++ List.replicate (zs.length - (compact zs).length) 0).toArray)
    {args : List AV} {H : AHeap} {v : AV} {H' : AHeap} (h : compactB H args = some (v, H')) :
    H.size ≤ H'.size ∧ ∀ μ w (rargs : Array Value), All2 (VRel μ w) args rargs.toList → WF H → Rel μ H.get w → Free μ H.size H'.size → Calls P f rargs w (CallPost μ H w H' v) := by
  unfold compactB at h
  split at h
  · next a sz len cap =>
    have rarg : ∀ {μ : Mu} {w : World} {rargs : Array Value}, All2 (VRel μ w) [.one (.sl a sz len cap)] rargs.toList → ∃ u, rargs = #[u] ∧ CRel μ w (.sl a sz len cap) u := by
      intro μ w rargs hr
      obtain ⟨l⟩ := rargs
      cases l with
      | nil => exact hr.elim
      | cons u l => cases l with
        | nil => exact ⟨u, rfl, hr.1⟩
        | cons _ _ => exact hr.2.elim
    split at h
    · next hz =>
      subst hz
      cases h
      refine ⟨Nat.le_refl _, fun μ w rargs hr wf rel fr => ?_⟩
      obtain ⟨u, rfl, hu⟩ := rarg hr
      have hu' : ∃ q c, u = .slice q 0 c := by
        cases a with
        | none => exact ⟨none, 0, hu.2.2⟩
        | some p => obtain ⟨a', cap', _, _, _, _, e, _⟩ := hu; exact ⟨_, _, e⟩
      obtain ⟨q, c, rfl⟩ := hu'
      refine (h0 q c w).mono ?_
      rintro e w' ⟨rfl, rfl⟩
      exact ⟨_, μ, rfl, hu, Post.refl wf rel⟩
    · next hz =>
      split at h
      · cases h
      next hbig =>
      split at h
      · cases h
      next p =>
      obtain ⟨cs, hcs, h⟩ := Option.bind_eq_some_iff.1 h
      obtain ⟨zs, hzs, h⟩ := Option.bind_eq_some_iff.1 h
      obtain ⟨H2, hst, h⟩ := Option.map_eq_some_iff.1 h
      simp only [Prod.mk.injEq] at h
      obtain ⟨rfl, rfl⟩ := h
      obtain rfl := intsOf_eq hzs
      have hlen : zs.length = len := by
        have := load_len hcs
        rwa [List.length_map] at this
      subst hlen
      have hcl := compact_length_le zs
      refine ⟨by rw [store_size hst]; exact Nat.le_refl _, fun μ w rargs hr wf rel fr => ?_⟩
      obtain ⟨u, rfl, a', cap', r, s, e, n, rfl, hle, hcp, hm, ha, hsp, hn⟩ := rarg hr
      have ha' : a' = ⟨r, s + p.2, none⟩ := ha.resolve_left (by omega)
      subst ha'
      obtain ⟨g1, g2, g3⟩ := inplace wf rel hcs hst (by rw [List.length_append, List.length_replicate]; omega) hm
      refine (h1 r (s + p.2) cap' zs w g1 (by omega) hle).mono ?_
      rintro e w' ⟨rfl, n, rfl⟩
      have g := g3 n #[]
      rw [grow_empty] at g
      exact ⟨_, μ, rfl, ⟨_, cap', r, s, _, _, rfl, by omega, hcp, hm, .inr rfl, g.shapes _ _ hsp, hn⟩, g⟩
  · cases h
end Go.AI
end
section
namespace Go.AI
open Go.Sort Go.Proofs
theorem flat_get {β : Type} {k : Nat} : ∀ {rows : List (List β)} {i j : Nat} {r : List β}, (∀ r ∈ rows, r.length = k) → rows[i]? = some r → j < k → rows.flatten[i * k + j]? = r[j]?
  | [], i, j, r, _, h, _ => by simp at h
  | a :: rows, 0, j, r, hl, h, hj => by
    simp only [List.getElem?_cons_zero, Option.some.injEq] at h
    subst h
    have ha := hl a (List.mem_cons_self ..)
    rw [Nat.zero_mul, Nat.zero_add, List.flatten_cons, List.getElem?_append_left (by omega)]
  | a :: rows, i + 1, j, r, hl, h, hj => by
    simp only [List.getElem?_cons_succ] at h
    have ha := hl a (List.mem_cons_self ..)
    have hm : (i + 1) * k = i * k + k := by rw [Nat.add_mul, Nat.one_mul]
    rw [List.flatten_cons, List.getElem?_append_right (by omega), ← flat_get (fun r hr => hl r (List.mem_cons_of_mem _ hr)) h hj]
    congr 1
    omega
theorem flat_len {β : Type} {k : Nat} : ∀ {rows : List (List β)}, (∀ r ∈ rows, r.length = k) → rows.flatten.length = rows.length * k
  | [], _ => by simp
  | r :: rows, h => by
    rw [List.flatten_cons, List.length_append, flat_len fun r hr => h r (List.mem_cons_of_mem _ hr), h r (List.mem_cons_self ..), List.length_cons, Nat.add_mul, Nat.one_mul, Nat.add_comm]
section
def flatI {α : Type} (ie : α → List Int) (l : List α) : List Int := (l.map ie).flatten
def encInts {α : Type} (ie : α → List Int) (x : α) : List Value := (ie x).map (Value.int .i64)
theorem flatI_len {α : Type} {ie : α → List Int} {k : Nat} (hk : ∀ x, (ie x).length = k) (l : List α) : (flatI ie l).length = l.length * k := by
  unfold flatI
  rw [flat_len (k := k) (fun r hr => by obtain ⟨x, _, rfl⟩ := List.mem_map.1 hr; exact hk x), List.length_map]
theorem flatK_ints {α : Type} [Inhabited α] {ie : α → List Int} {k : Nat} (hk : ∀ x, (ie x).length = k) (d : Array α) : flatK (encInts ie) k d = ((flatI ie d.toList).map (Value.int .i64)).toArray := by
  have hl : (flatI ie d.toList).length = d.size * k := by
    rw [flatI_len hk d.toList]
    rfl
  refine ext_get! (by rw [size_flatK, ← hl]; simp) fun t ht => ?_
  rw [size_flatK] at ht
  have k0 : 0 < k := by
    rcases Nat.eq_zero_or_pos k with h | h
    · subst h; simp at ht
    · exact h
  have hq : t / k < d.size := Nat.div_lt_of_lt_mul (by rw [Nat.mul_comm]; exact ht)
  have hr := Nat.mod_lt t k0
  rw [get_flatK _ _ _ t ht]
  have hrow : (d.toList.map ie)[t / k]? = some (ie d[t / k]!) := by
    rw [List.getElem?_map, Array.getElem?_toList, Array.getElem?_eq_getElem hq, getElem!_pos d _ hq]
    rfl
  have hg := flat_get (k := k) (j := t % k) (fun r hr => by obtain ⟨x, _, rfl⟩ := List.mem_map.1 hr; exact hk x) hrow hr
  rw [Nat.mul_comm, Nat.div_add_mod] at hg
  have hle : t < (flatI ie d.toList).length := by omega
  have h1 : (ie d[t / k]!)[t % k]? = some ((flatI ie d.toList)[t]) := by rw [← hg]; exact List.getElem?_eq_getElem hle
  rw [getElem!_pos (encInts ie d[t / k]!) (t % k) (by rw [encInts, List.length_map, hk]; exact hr), getElem!_pos ((flatI ie d.toList).map (Value.int .i64)).toArray t (by simp only [List.size_toArray, List.length_map]; exact hle)]
  have h2 := List.getElem?_eq_some_iff.1 h1
  obtain ⟨h3, h4⟩ := h2
  simp only [encInts, List.getElem_map, List.getElem_toArray, h4]
theorem holds_id {w : World} {r off : Nat} {zs : List Int} (h : Holds (Value.int .i64) w r off zs.toArray) : Holds id w r off (zs.map (Value.int .i64)).toArray := by
  intro j hj
  rw [List.size_toArray, List.length_map] at hj
  obtain ⟨h1, h2⟩ := h j (by rw [List.size_toArray]; exact hj)
  refine ⟨?_, h2⟩
  rw [h1, getElem!_pos _ _ (by rw [List.size_toArray]; exact hj), getElem!_pos _ _ (by rw [List.size_toArray, List.length_map]; exact hj)]
  simp
theorem putRow_id (w : World) (r off : Nat) (zs : List Int) : putRow id w r off (zs.map (Value.int .i64)).toArray = putRow (Value.int .i64) w r off zs.toArray := by
  unfold putRow
  congr 1
  funext A
  unfold putCells
  apply Array.ext
  · simp
  · intro i h1 h2
    simp only [Array.getElem_mapIdx, List.size_toArray, List.length_map]
    split
    · next hi =>
      rw [getElem!_pos _ _ (by rw [List.size_toArray, List.length_map]; omega), getElem!_pos _ _ (by rw [List.size_toArray]; omega)]
      simp
    · rfl
def pdqB {α : Type} [Inhabited α] (ie : α → List Int) (k : Nat) (dec : List Int → Option (List α)) (lt : α → α → Bool) (g : Nat) (H : AHeap) : List AV → Option (AV × AHeap)
  | [.one (.sl (some p) _ len _), .one (.int .i64 a), .one (.int .i64 n), .one (.int .i64 lim), .one (.fn g' [] [])] =>
    if a = 0 ∧ g' = g ∧ n = len ∧ 0 < len ∧ len < 4611686018427387904 ∧ 0 ≤ lim ∧ lim < 4611686018427387904 then
      (H.load p (len * k)).bind fun cs => (intsOf cs).bind fun zs => (dec zs).bind fun l => (H.store p ((flatI ie (pdq lt l.toArray 0 len lim.toNat true true).toList).map (AC.int .i64))).map fun H' => (.tup [], H')
    else none
  | _ => none
end
theorem a2_nil {α β : Type} {R : α → β → Prop} {l : List β} (h : All2 R [] l) : l = [] := by
  cases l with
  | nil => rfl
  | cons _ _ => exact h.elim
theorem a2_cons {α β : Type} {R : α → β → Prop} {a : α} {as' : List α} {l : List β} (h : All2 R (a :: as') l) : ∃ b bs, l = b :: bs ∧ R a b ∧ All2 R as' bs := by
  cases l with
  | nil => exact h.elim
  | cons b bs => exact ⟨b, bs, rfl, h.1, h.2⟩
theorem pdqB_sound {α : Type} [Inhabited α] {P : Program} {f : FuncId} {ie : α → List Int} {k : Nat} {dec : List Int → Option (List α)} {lt : α → α → Bool} {g : Nat} (hk : ∀ x, (ie x).length = k) (k0 : 0 < k) (hO : SWO lt)
    (hdec : ∀ zs l, dec zs = some l → zs = flatI ie l)
    (h1 : ∀ (blk off cap lim : Nat) (d : Array α) (w : World), HoldsK (encInts ie) k w blk off d → blk < w.heap.size → d.size < 4611686018427387904 → lim < 4611686018427387904 →
      Calls P f #[.slice (some ⟨blk, off, none⟩) d.size cap, .int .i64 (0 : Nat), .int .i64 d.size, .int .i64 lim, .func (.func g) #[] #[]] w fun e w' => e = .returned (.tuple #[]) ∧ SWK (encInts ie) k w blk off (pdq lt d 0 d.size lim true true) w')
    {args : List AV} {H : AHeap} {v : AV} {H' : AHeap} (h : pdqB ie k dec lt g H args = some (v, H')) :
    H.size ≤ H'.size ∧ ∀ μ w (rargs : Array Value), All2 (VRel μ w) args rargs.toList → WF H → Rel μ H.get w → Free μ H.size H'.size → Calls P f rargs w (CallPost μ H w H' v) := by
  unfold pdqB at h
  split at h
  · next p sz len cap a n lim g' =>
    split at h
    · next hc =>
      obtain ⟨rfl, rfl, rfl, hl0, hl1, hm0, hm1⟩ := hc
      obtain ⟨cs, hcs, h⟩ := Option.bind_eq_some_iff.1 h
      obtain ⟨zs, hzs, h⟩ := Option.bind_eq_some_iff.1 h
      obtain ⟨l, hd, h⟩ := Option.bind_eq_some_iff.1 h
      obtain ⟨H2, hst, h⟩ := Option.map_eq_some_iff.1 h
      simp only [Prod.mk.injEq] at h
      obtain ⟨rfl, rfl⟩ := h
      obtain rfl := intsOf_eq hzs
      obtain rfl := hdec _ _ hd
      have hlen : (flatI ie l).length = len * k := by
        have hcs' := hcs
        unfold AHeap.load at hcs'
        split at hcs'
        · have := (takeAll_spec hcs').1
          rwa [List.length_map] at this
        · cases hcs'
      have hll : l.length = len := by
        have := flatI_len hk l
        rw [hlen] at this
        exact (Nat.eq_of_mul_eq_mul_right k0 this).symm
      subst hll
      obtain ⟨L, hL⟩ : ∃ L : Nat, lim = L := ⟨lim.toNat, by omega⟩
      subst hL
      rw [Int.toNat_natCast] at hst
      obtain ⟨d', hd'⟩ : ∃ d', d' = pdq lt l.toArray 0 l.length L true true := ⟨_, rfl⟩
      have hsz : d'.size = l.length := by
        have := (pdq_sorts lt hO l.toArray 0 l.length L true true (Nat.zero_le _) (by simp) (Or.inl rfl)).1.1
        rw [← hd'] at this
        simpa using this
      rw [← hd'] at hst
      have hlen' : (flatI ie d'.toList).length = (flatI ie l).length := by rw [flatI_len hk, flatI_len hk, Array.length_toList, hsz]
      refine ⟨?_, fun μ w rargs hr wf rel fr => ?_⟩
      · obtain ⟨e, k2, st, cells, _, _, rfl⟩ := store_eq hst
        rw [AHeap.size_stores]
        exact Nat.le_refl _
      obtain ⟨rl⟩ := rargs
      change All2 (VRel μ w) _ rl at hr
      obtain ⟨u1, rl, rfl, hu1, hr⟩ := a2_cons hr
      obtain ⟨u2, rl, rfl, hu2, hr⟩ := a2_cons hr
      obtain ⟨u3, rl, rfl, hu3, hr⟩ := a2_cons hr
      obtain ⟨u4, rl, rfl, hu4, hr⟩ := a2_cons hr
      obtain ⟨u5, rl, rfl, hu5, hr⟩ := a2_cons hr
      obtain rfl := a2_nil hr
      obtain ⟨a', cap', r, s, e, n, rfl, hle, _, hm, ha, _, _⟩ := hu1
      have ha' : a' = ⟨r, s + p.2, none⟩ := ha.resolve_left (by omega)
      subst ha'
      obtain rfl : u2 = .int .i64 0 := hu2
      obtain rfl : u3 = .int .i64 l.length := hu3
      obtain rfl : u4 = .int .i64 L := hu4
      obtain ⟨fs, cs', rfl, hf1, hf2⟩ := hu5
      have e1 : fs = #[] := by
        obtain ⟨fs⟩ := fs
        have := a2_nil hf1
        simp at this
        rw [this]
      have e2 : cs' = #[] := by
        obtain ⟨cs'⟩ := cs'
        have := a2_nil hf2
        simp at this
        rw [this]
      subst e1 e2
      rw [← hlen] at hcs
      obtain ⟨g1, g2, g3⟩ := inplace wf rel hcs hst hlen' hm
      have hH : HoldsK (encInts ie) k w r (s + p.2) l.toArray := by
        unfold HoldsK
        rw [flatK_ints hk]
        exact holds_id g1
      have := h1 r (s + p.2) cap' L l.toArray w hH g2 (by simpa using hl1) (by omega)
      rw [List.size_toArray] at this
      refine this.mono ?_
      rintro e w' ⟨rfl, n, os, rfl⟩
      refine ⟨_, μ, rfl, ⟨#[], rfl, trivial⟩, ?_⟩
      unfold sortWorldK putRowK
      rw [← hd', flatK_ints hk, putRow_id]
      exact g3 n os
    · cases h
  · cases h
end Go.AI
end
section
namespace Go.AI
abbrev Env := Nat → AV
def upd (t : Env) (d : Nat) (v : AV) : Env := fun n => cond (Nat.beq n d) v (t n)
theorem upd_at (t : Env) (d : Nat) (v : AV) : upd t d v d = v := by
  unfold upd; rw [Nat.beq_refl]; rfl
theorem upd_ne (t : Env) {d n : Nat} (v : AV) (h : n ≠ d) : upd t d v n = t n := by
  unfold upd
  have : Nat.beq n d = false := by
    cases hb : Nat.beq n d with
    | false => rfl
    | true => exact absurd (Nat.eq_of_beq_eq_true hb) h
  rw [this]; rfl
theorem upd_self {t : Env} {d : Nat} {v : AV} (h : t d = v) : upd t d v = t := by
  funext n
  by_cases hn : n = d
  · subst hn; rw [upd_at, h]
  · rw [upd_ne t v hn]
inductive CT where
  | int (k : IntKind)
  | bool
  | str
  | ac
  deriving DecidableEq
def CT.T : CT → Type
  | .int _ => Int
  | .bool => Bool
  | .str => ByteArray
  | .ac => AC
def CT.cell : (c : CT) → c.T → AC
  | .int k, n => .int k n
  | .bool, x => .bool x
  | .str, x => .str x
  | .ac, x => x
def Cur : List CT → Type
  | [] => Prop
  | c :: cs => c.T → Cur cs
def Tup : List CT → Type
  | [] => Unit
  | c :: cs => c.T × Tup cs
def cellsOf : (tys : List CT) → Tup tys → List AC
  | [], _ => []
  | c :: cs, x => c.cell x.1 :: cellsOf cs x.2
def app : (tys : List CT) → Cur tys → Tup tys → Prop
  | [], k, _ => k
  | _ :: cs, k, x => app cs (k x.1) x.2
def lam : (tys : List CT) → (List AC → Prop) → Cur tys
  | [], f => f []
  | c :: cs, f => fun x => lam cs fun l => f (c.cell x :: l)
def Imp : (tys : List CT) → Cur tys → Cur tys → Prop
  | [], a, b => a → b
  | c :: cs, a, b => ∀ x : c.T, Imp cs (a x) (b x)
theorem app_lam : ∀ {tys : List CT} {f : List AC → Prop} {xs : Tup tys}, app tys (lam tys f) xs ↔ f (cellsOf tys xs)
  | [], _, _ => Iff.rfl
  | c :: cs, f, xs => by
    simp only [app, lam, cellsOf]
    exact app_lam
theorem app_imp : ∀ {tys : List CT} {a b : Cur tys} {xs : Tup tys}, Imp tys a b → app tys a xs → app tys b xs
  | [], _, _, _, h, k => h k
  | _ :: cs, _, _, xs, h, k => app_imp (tys := cs) (h xs.1) k
theorem length_cellsOf : ∀ {tys : List CT} {xs : Tup tys}, (cellsOf tys xs).length = tys.length
  | [], _ => rfl
  | _ :: cs, xs => by simp [cellsOf, length_cellsOf (tys := cs)]
def Ld (tys : List CT) (H : AHeap) (p : AC) (K : Cur tys) : Prop := ∃ a xs, p = .ptr (some a) ∧ H.load a tys.length = some (cellsOf tys xs) ∧ app tys K xs
def Sto (H : AHeap) (p : AC) (cs : List AC) (K : AHeap → Prop) : Prop := ∃ a H', p = .ptr (some a) ∧ H.store a cs = some H' ∧ K H'
def New (e : Nat) (cs : List AC) (H : AHeap) (K : AC → AHeap → Prop) : Prop := K (.ptr (some (H.size, 0))) (H.newRow e (cs.map some))
def NewS (e sz len : Nat) (cs : List AC) (H : AHeap) (K : AC → AHeap → Prop) : Prop := K (.sl (some (H.size, 0)) sz len (some len)) (H.newRow e (cs.map some))
def NewM (H : AHeap) (K : AC → AHeap → Prop) : Prop := K (.map (some H.size)) (H.push (.map []))
def CondB : Bool → Prop → Prop → Prop
  | true, A, _ => A
  | false, _, B => B
def nonNil : AC → Bool
  | .ptr none => false
  | .nilIface => false
  | .nilFn => false
  | _ => true
def NN (c : AC) (K : Prop) : Prop := nonNil c = true ∧ K
def NZ (n : Int) (K : Prop) : Prop := n ≠ 0 ∧ K
def GE0 (n : Int) (K : Prop) : Prop := 0 ≤ n ∧ K
def FA (off : Nat) (p : AC) (K : AC → Prop) : Prop := ∃ a : APtr, p = .ptr (some a) ∧ K (.ptr (some (a.1, a.2 + off)))
def IA (sz : Nat) (c : AC) (i : Int) (K : AC → Prop) : Prop := ∃ a : APtr, ∃ n cap, c = .sl (some a) sz n cap ∧ 0 ≤ i ∧ i < (n : Int) ∧ K (.ptr (some (a.1, a.2 + i.toNat * sz)))
def IAP (sz len : Nat) (p : AC) (i : Int) (K : AC → Prop) : Prop := ∃ a : APtr, p = .ptr (some a) ∧ 0 ≤ i ∧ i < (len : Int) ∧ K (.ptr (some (a.1, a.2 + i.toNat * sz)))
def IxA (c : List AC) (i : Int) (K : AC → Prop) : Prop := 0 ≤ i ∧ ∃ x, c[i.toNat]? = some x ∧ K x
def LenS (c : AC) (K : Int → Prop) : Prop := ∃ a sz n cap, c = .sl a sz n cap ∧ K (n : Int)
def Slc (sz : Nat) (c : AC) (lo hi : Option Int) (K : AC → Prop) : Prop := ∃ r, sliceA sz c lo hi = some r ∧ K r
def App (e sz bytes : Nat) (s x : AC) (H : AHeap) (K : AC → AHeap → Prop) : Prop := ∃ n cs s' H', srcA H sz x = some (n, cs) ∧ appendA H sz bytes e s n cs = some (s', H') ∧ K s' H'
def Cpy (sz : Nat) (d x : AC) (H : AHeap) (K : Int → AHeap → Prop) : Prop := ∃ n cs a dsz len cap, srcA H sz x = some (n, cs) ∧ d = .sl a dsz len cap ∧
  ((min n len = 0 ∧ K 0 H) ∨ (min n len ≠ 0 ∧ ∃ p H', a = some p ∧ dsz = sz ∧ sz ≠ 0 ∧ H.store p (cs.take (min n len * sz)) = some H' ∧ K ((min n len : Nat) : Int) H'))
def Clr (zero : List AC) (d : AC) (H : AHeap) (K : AHeap → Prop) : Prop := ∃ a dsz len cap, d = .sl a dsz len cap ∧
  ((len = 0 ∧ K H) ∨ (len ≠ 0 ∧ ∃ p H', a = some p ∧ zero.length = dsz ∧ dsz ≠ 0 ∧ H.store p (List.flatten (List.replicate len zero)) = some H' ∧ K H'))
def MkS (e sz bytes : Nat) (zero : List AC) (len cap : Int) (H : AHeap) (K : AC → AHeap → Prop) : Prop :=
  (0 ≤ len ∧ len ≤ cap ∧ cap * bytes ≤ maxBytes ∧ cap ≤ 4611686018427387904) ∧
  K (.sl (some (H.size, 0)) sz len.toNat (some cap.toNat)) (H.newRow e ((List.flatten (List.replicate cap.toNat zero)).map some))
def ptrsC : List AC → Option (List APtr)
  | [] => some []
  | .ptr (some a) :: r => (ptrsC r).map (a :: ·)
  | _ => none
def Fnc (f : Nat) (first caps : List AC) (K : AC → Prop) : Prop := ∃ asx bs, ptrsC first = some asx ∧ ptrsC caps = some bs ∧ K (.fn f asx bs)
def NilQ (c : AC) (K : Bool → Prop) : Prop :=
  match c with
  | .sl (some _) _ _ _ => K false
  | .sl none _ 0 (some 0) => K true
  | _ => False
def IxS (s : ByteArray) (i : Int) (K : Int → Prop) : Prop := 0 ≤ i ∧ ∃ b, s[i.toNat]? = some b ∧ K b.toNat
def intVal (n : Int) : Value := .int .i64 n
def keyV : Option Nat → List Int → Option Value
  | none, [n] => some (intVal n)
  | some k, ns => if ns.length = k then some (.agg (ns.map intVal).toArray) else none
  | none, _ => none
def entE (kk : Option Nat) : List (List Int × AV) → List (Value × AV)
  | [] => []
  | (n, v) :: r => ((keyV kk n).getD (.bool true), v) :: entE kk r
def lenOk (kk : Option Nat) (n : List Int) : Bool := n.length == (match kk with | none => 1 | some k => k)
def findE (n : List Int) : List (List Int × AV) → Option AV
  | [] => none
  | (m, v) :: r => if m = n then some v else findE n r
def setE (n : List Int) (x : AV) : List (List Int × AV) → List (List Int × AV)
  | [] => [(n, x)]
  | (m, v) :: r => if m = n then (n, x) :: r else (m, v) :: setE n x r
def MapAt (kk : Option Nat) (H : AHeap) (c : AC) (es : List (List Int × AV)) : Prop :=
  (∃ b, c = .map (some b) ∧ H.get b = some (.map (entE kk es)) ∧ es.all (fun e => lenOk kk e.1) = true) ∨ (c = .map none ∧ es = [])
def partOf (agg : Bool) (cs : List AC) : AV := match agg, cs with
  | false, [c] => .one c
  | _, cs => .agg cs
def Look (kk : Option Nat) (agg : Bool) (tys : List CT) (zero : List AC) (H : AHeap) (c : AC) (key : List Int) (K : Bool → Cur tys) : Prop :=
  ∃ es xs, MapAt kk H c es ∧ lenOk kk key = true ∧
    ((findE key es = some (partOf agg (cellsOf tys xs)) ∧ app tys (K true) xs) ∨ (findE key es = none ∧ cellsOf tys xs = zero ∧ app tys (K false) xs))
def MSet (kk : Option Nat) (H : AHeap) (c : AC) (key : List Int) (v : AV) (K : AHeap → Prop) : Prop :=
  ∃ b es, c = .map (some b) ∧ H.get b = some (.map (entE kk es)) ∧ es.all (fun e => lenOk kk e.1) = true ∧ lenOk kk key = true ∧ K (H.set b (.map (entE kk (setE key v es))))
def Run (P : Program) [BaseC P] (g : FuncId) (args : List AV) (H : AHeap) (K : AV → AHeap → Prop) : Prop := ∃ v H', callE P g args H = some (v, H') ∧ K v H'
def CV (P : Program) [BaseC P] (c : AC) (args : List AV) (H : AHeap) (K : AV → AHeap → Prop) : Prop :=
  (∃ g first caps, c = .fn g first caps ∧ g < P.funcs.size ∧ Run P g (first.map (fun a => .one (.ptr (some a))) ++ args ++ caps.map (fun a => .one (.ptr (some a)))) H K) ∨ ∃ l, c = .yield l ∧ Run P (P.funcs.size + l) args H K
inductive RV where
  | tm (n : Nat)
  | ct (v : AV)
def evR (t : Env) : RV → AV
  | .tm n => t n
  | .ct v => v
def evRs (t : Env) : List RV → List AV
  | [] => []
  | x :: r => evR t x :: evRs t r
inductive AOp where | add | sub | mul | quo | rem | and | or | xor | andn
inductive COp where | eq | ne | lt | le | gt | ge
inductive ROp where
  | mov (x : RV)
  | pick (c a b : RV)
  | new (e : Nat) (cs : List AC)
  | box (e : Nat) (x : RV)
  | bld (cs : List AC) (ps : List (Nat × Nat × RV))
  | blds (e sz len : Nat) (cs : List AC) (ps : List (Nat × Nat × RV))
  | ld (agg : Bool) (tys : List CT) (x : RV)
  | st (n : Nat) (x v : RV)
  | nn (x : RV)
  | ar (o : AOp) (x y : RV)
  | sh (left : Bool) (x y : RV)
  | cm (o : COp) (x y : RV)
  | eqb (neg : Bool) (x y : RV)
  | eqa (neg : Bool) (n : Nat) (x y : RV)
  | isnil (neg : Bool) (x : RV)
  | not (x : RV)
  | conv (k : IntKind) (x : RV)
  | neg (x : RV)
  | fn (f : Nat) (first caps : List RV)
  | mkm
  | mks (e sz bytes : Nat) (zero : List AC) (l c : RV)
  | slc (sz : Nat) (x : RV) (lo hi : Option RV)
  | fa (off : Nat) (x : RV)
  | fld (agg : Bool) (off n : Nat) (x : RV)
  | ia (sz : Nat) (x i : RV)
  | iap (sz len : Nat) (x i : RV)
  | ixa (x i : RV)
  | ixs (x i : RV)
  | look (kk : Option Nat) (agg : Bool) (tys : List CT) (zero : List AC) (ok : Bool) (x i : RV)
  | mset (kk : Option Nat) (m k x : RV)
  | ex (x : RV) (i : Nat)
  | lens (x : RV)
  | lena (n : Nat) (x : RV)
  | lenstr (x : RV)
  | min2 (x y : RV)
  | min3 (x y z : RV)
  | max2 (x y : RV)
  | app (e sz bytes : Nat) (s x : RV)
  | cpy (sz : Nat) (d x : RV)
  | clr (zero : List AC) (d : RV)
  | call (f : Nat) (args : List RV)
  | callv (f : RV) (args : List RV)
def kCode : IntKind → Nat
  | .i8 => 0 | .i16 => 1 | .i32 => 2 | .i64 => 3 | .u8 => 4 | .u16 => 5 | .u32 => 6 | .u64 => 7
def kEq (a b : IntKind) : Bool := Nat.beq (kCode a) (kCode b)
theorem kEq_eq {a b : IntKind} (h : kEq a b = true) : a = b := by
  cases a <;> cases b <;> first | rfl | cases h
def cellsR : AV → Option (List AC)
  | .one c => some [c]
  | .agg cs => some cs
  | .tup _ => none
def fillR (t : Env) : List AC → List (Nat × Nat × RV) → Option (List AC)
  | cells, [] => some cells
  | cells, (off, size, x) :: r =>
    match cellsR (evR t x) with
    | some cs => cond (Nat.beq cs.length size) (cond (Nat.ble (off + size) cells.length) (fillR t (cells.take off ++ cs ++ cells.drop (off + size)) r) none) none
    | none => none
def arith (o : AOp) (k : IntKind) (m n : Int) : Int :=
  match o with
  | .add => k.wrap (m + n)
  | .sub => k.wrap (m - n)
  | .mul => k.wrap (m * n)
  | .quo => k.wrap (m.tdiv n)
  | .rem => m.tmod n
  | .and => k.wrap ((BitVec.ofInt k.bits m &&& BitVec.ofInt k.bits n).toNat : Int)
  | .or => k.wrap ((BitVec.ofInt k.bits m ||| BitVec.ofInt k.bits n).toNat : Int)
  | .xor => k.wrap ((BitVec.ofInt k.bits m ^^^ BitVec.ofInt k.bits n).toNat : Int)
  | .andn => k.wrap ((BitVec.ofInt k.bits m &&& ~~~ BitVec.ofInt k.bits n).toNat : Int)
def ArK (o : AOp) (n : Int) (K : Prop) : Prop := match o with
  | .quo => NZ n K
  | .rem => NZ n K
  | _ => K
def cmp (o : COp) (m n : Int) : Bool :=
  match o with
  | .eq => m == n
  | .ne => m != n
  | .lt => decide (m < n)
  | .le => decide (m ≤ n)
  | .gt => decide (m > n)
  | .ge => decide (m ≥ n)
def shl (k : IntKind) (m n : Int) : Int := k.wrap (m * 2 ^ (min n.toNat k.bits))
def shr (k : IntKind) (m n : Int) : Int := m.fdiv (2 ^ (min n.toNat k.bits))
def intsC : List AC → Option (List Int)
  | [] => some []
  | .int .i64 n :: r => match intsC r with
    | some l => some (n :: l)
    | none => none
  | _ => none
def keyR : Option Nat → AV → Option (List Int)
  | none, .one (.int .i64 n) => some [n]
  | some _, .agg cs => intsC cs
  | _, _ => none
def onesC (t : Env) : List RV → Option (List AC)
  | [] => some []
  | x :: r => match evR t x, onesC t r with
    | .one c, some l => some (c :: l)
    | _, _ => none
def optI (t : Env) : Option RV → Option (Option Int)
  | none => some none
  | some x => match evR t x with
    | .one (.int _ n) => some (some n)
    | _ => none
def negB (neg b : Bool) : Bool := cond neg (!b) b
variable (P : Program) [BaseC P]
def wpOp : ROp → Env → AHeap → (AV → AHeap → Prop) → Prop
  | .mov x, t, H, K => K (evR t x) H
  | .pick c a b, t, H, K => match evR t c with
    | .one (.bool c) => CondB c (K (evR t a) H) (K (evR t b) H)
    | _ => False
  | .new e cs, _, H, K => New e cs H fun p H' => K (.one p) H'
  | .box e x, t, H, K => match cellsR (evR t x) with
    | some cs => New e cs H fun p H' => K (.one p) H'
    | none => False
  | .bld cs ps, t, H, K => match fillR t cs ps with
    | some cs => K (.agg cs) H
    | none => False
  | .blds e sz len cs ps, t, H, K => match fillR t cs ps with
    | some cs => NewS e sz len cs H fun p H' => K (.one p) H'
    | none => False
  | .ld agg tys x, t, H, K => match evR t x with
    | .one p => Ld tys H p (lam tys fun cs => K (partOf agg cs) H)
    | _ => False
  | .st n x v, t, H, K => match evR t x, cellsR (evR t v) with
    | .one p, some cs => cond (Nat.beq cs.length n) (Sto H p cs fun H' => K (.tup []) H') False
    | _, _ => False
  | .nn x, t, H, K => match evR t x with
    | .one c => NN c (K (.one c) H)
    | v => K v H
  | .ar o x y, t, H, K => match evR t x, evR t y with
    | .one (.int k m), .one (.int k' n) => cond (kEq k k') (ArK o n (K (.one (.int k (arith o k m n))) H)) False
    | _, _ => False
  | .sh l x y, t, H, K => match evR t x, evR t y with
    | .one (.int k m), .one (.int _ n) => GE0 n (K (.one (.int k (cond l (shl k m n) (shr k m n)))) H)
    | _, _ => False
  | .cm o x y, t, H, K => match evR t x, evR t y with
    | .one (.int k m), .one (.int k' n) => cond (kEq k k') (K (.one (.bool (cmp o m n))) H) False
    | _, _ => False
  | .eqb neg x y, t, H, K => match evR t x, evR t y with
    | .one (.bool a), .one (.bool b) => K (.one (.bool (negB neg (a == b)))) H
    | _, _ => False
  | .eqa neg n x y, t, H, K => match evR t x, evR t y with
    | .agg cs, .agg ds => match intsC cs, intsC ds with
      | some a, some b => cond (Nat.beq a.length n && Nat.beq b.length n) (K (.one (.bool (negB neg (decide (a = b))))) H) False
      | _, _ => False
    | _, _ => False
  | .isnil neg x, t, H, K => match evR t x with
    | .one c => NilQ c fun b => K (.one (.bool (negB neg b))) H
    | _ => False
  | .not x, t, H, K => match evR t x with
    | .one (.bool b) => K (.one (.bool !b)) H
    | _ => False
  | .conv k x, t, H, K => match evR t x with
    | .one (.int _ n) => K (.one (.int k (k.wrap n))) H
    | _ => False
  | .neg x, t, H, K => match evR t x with
    | .one (.int k n) => K (.one (.int k (k.wrap (-n)))) H
    | _ => False
  | .fn f first caps, t, H, K => match onesC t first, onesC t caps with
    | some a, some b => Fnc f a b fun c => K (.one c) H
    | _, _ => False
  | .mkm, _, H, K => NewM H fun c H' => K (.one c) H'
  | .mks e sz bytes zero l c, t, H, K => match evR t l, evR t c with
    | .one (.int _ l), .one (.int _ c) => MkS e sz bytes zero l c H fun s H' => K (.one s) H'
    | _, _ => False
  | .slc sz x lo hi, t, H, K => match evR t x, optI t lo, optI t hi with
    | .one s, some l, some h => Slc sz s l h fun r => K (.one r) H
    | _, _, _ => False
  | .fa off x, t, H, K => match evR t x with
    | .one p => FA off p fun q => K (.one q) H
    | _ => False
  | .fld agg off n x, t, H, K => match evR t x with
    | .agg cs => cond agg (K (.agg ((cs.drop off).take n)) H) (match cs[off]? with
      | some c => K (.one c) H
      | none => False)
    | _ => False
  | .ia sz x i, t, H, K => match evR t x, evR t i with
    | .one c, .one (.int _ n) => IA sz c n fun q => K (.one q) H
    | _, _ => False
  | .iap sz len x i, t, H, K => match evR t x, evR t i with
    | .one c, .one (.int _ n) => IAP sz len c n fun q => K (.one q) H
    | _, _ => False
  | .ixa x i, t, H, K => match evR t x, evR t i with
    | .agg cs, .one (.int _ n) => IxA cs n fun c => K (.one c) H
    | _, _ => False
  | .ixs x i, t, H, K => match evR t x, evR t i with
    | .one (.str s), .one (.int _ n) => IxS s n fun b => K (.one (.int .u8 b)) H
    | _, _ => False
  | .look kk agg tys zero ok x i, t, H, K => match evR t x, keyR kk (evR t i) with
    | .one c, some key => Look kk agg tys zero H c key fun b => lam tys fun cs => K (cond ok (.tup [(agg, cs), (false, [.bool b])]) (partOf agg cs)) H
    | _, _ => False
  | .mset kk m k x, t, H, K => match evR t m, keyR kk (evR t k), cellsR (evR t x) with
    | .one c, some key, some _ => MSet kk H c key (evR t x) fun H' => K (.tup []) H'
    | _, _, _ => False
  | .ex x i, t, H, K => match evR t x with
    | .tup vs => match vs[i]? with
      | some p => K (unpart p) H
      | none => False
    | _ => False
  | .lens x, t, H, K => match evR t x with
    | .one c => LenS c fun n => K (.one (.int .i64 n)) H
    | _ => False
  | .lena n x, t, H, K => match evR t x with
    | .agg _ => K (.one (.int .i64 n)) H
    | _ => False
  | .lenstr x, t, H, K => match evR t x with
    | .one (.str s) => K (.one (.int .i64 s.size)) H
    | _ => False
  | .min2 x y, t, H, K => match evR t x, evR t y with
    | .one (.int k m), .one (.int k' n) => cond (kEq k k') (K (.one (.int k (if n < m then n else m))) H) False
    | _, _ => False
  | .min3 x y z, t, H, K => match evR t x, evR t y, evR t z with
    | .one (.int k m), .one (.int k' n), .one (.int k'' p) => cond (kEq k k' && kEq k k'') (K (.one (.int k (if p < (if n < m then n else m) then p else (if n < m then n else m)))) H) False
    | _, _, _ => False
  | .max2 x y, t, H, K => match evR t x, evR t y with
    | .one (.int k m), .one (.int k' n) => cond (kEq k k') (K (.one (.int k (if n > m then n else m))) H) False
    | _, _ => False
  | .app e sz bytes s x, t, H, K => match evR t s, evR t x with
    | .one s, .one x => App e sz bytes s x H fun s' H' => K (.one s') H'
    | _, _ => False
  | .cpy sz d x, t, H, K => match evR t d, evR t x with
    | .one d, .one x => Cpy sz d x H fun n H' => K (.one (.int .i64 n)) H'
    | _, _ => False
  | .clr zero d, t, H, K => match evR t d with
    | .one d => Clr zero d H fun H' => K (.tup []) H'
    | _ => False
  | .call f args, t, H, K => Run P f (evRs t args) H K
  | .callv f args, t, H, K => match evR t f with
    | .one c => CV P c (evRs t args) H K
    | _ => False
inductive RO where
  | put (d : Nat) (op : ROp)
  | run (op : ROp)
  | gput (d c : Nat) (w : Bool) (op : ROp)
  | grun (c : Nat) (w : Bool) (op : ROp)
def wpG (c : Nat) (w : Bool) (t : Env) (A B : Env → Prop) : Prop :=
  match t c with
  | .one (.bool b) => CondB b (cond w (A (upd t c (.one (.bool true)))) (B (upd t c (.one (.bool true))))) (cond w (B (upd t c (.one (.bool false)))) (A (upd t c (.one (.bool false)))))
  | _ => B t
def wpO : RO → Env → AHeap → (Env → Env → AHeap → Prop) → Prop
  | .put d op, t, H, K => wpOp P op t H fun v H' => K t (upd t d v) H'
  | .run op, t, H, K => wpOp P op t H fun _ H' => K t t H'
  | .gput d c w op, t, H, K => wpG c w t (fun t => wpOp P op t H fun v H' => K t (upd t d v) H') (fun t => K t (upd t d (.tup [])) H)
  | .grun c w op, t, H, K => wpG c w t (fun t => wpOp P op t H fun _ H' => K t t H') (fun t => K t t H)
def wpOs : List RO → Env → AHeap → (Env → AHeap → Prop) → Prop
  | [], t, H, K => K t H
  | o :: r, t, H, K => wpO P o t H fun _ t' H' => wpOs r t' H' K
def Same1 (H H' : AHeap) (p : AC) (n : Nat) : Prop := ∃ a, p = .ptr (some a) ∧ H'.load a n = H.load a n
def Same2 (H H' : AHeap) (p : AC) (n : Nat) : Prop := ∃ a : APtr, p = .ptr (some a) ∧ (H'.size ≤ a.1 ∨ H'.load a n = H.load a n)
def RO.op : RO → ROp
  | .put _ op => op
  | .run op => op
  | .gput _ _ _ op => op
  | .grun _ _ op => op
def RO.on (t : Env) : RO → Bool
  | .put _ _ => true
  | .run _ => true
  | .gput _ c w _ | .grun c w _ => match t c with
    | .one (.bool b) => b == w
    | _ => false
def pairR (ops : List RO) (sts : List (Env × AHeap)) (p : Nat × Nat) : Prop :=
  match ops[p.1]?, sts[p.1]?, sts[p.2]?, sts[p.2 + 1]? with
  | some o, some si, some sj, some sk =>
    cond (o.on si.1) (match o.op with
      | .ld _ tys x => match evR si.1 x with
        | .one c => cond (Nat.blt p.2 p.1) (Same2 si.2 sj.2 c tys.length) (Same1 si.2 sk.2 c tys.length)
        | _ => False
      | .lens _ => True
      | .lena _ _ => True
      | .lenstr _ => True
      | _ => False) True
  | _, _, _, _ => False
def pairsR (ops : List RO) (sts : List (Env × AHeap)) (K : Prop) : List (Nat × Nat) → Prop
  | [] => K
  | p :: ps => pairR ops sts p ∧ pairsR ops sts K ps
def wpT : List RO → Env → AHeap → List (Env × AHeap) → (List (Env × AHeap) → Env → AHeap → Prop) → Prop
  | [], t, H, acc, K => K ((t, H) :: acc).reverse t H
  | o :: r, t, H, acc, K => wpO P o t H fun t0 t' H' => wpT r t' H' ((t0, H) :: acc) K
inductive RC where
  | skip
  | ops (l : List RO)
  | held (l : List RO) (ps : List (Nat × Nat))
  | seq (a b : RC)
  | cond (c : Nat) (a b : RC)
  | block (id : Nat) (b : RC)
  | loop (b : RC)
  | exit (id : Nat)
  | ret
  | rangeF (f : RV) (N : Nat) (ps : Array Tmp) (a b : Code)
def kSeq (J : Env → AHeap → Prop) (K : Ex → Env → AHeap → Prop) : Ex → Env → AHeap → Prop := fun e t H => match e with
  | .normal => J t H
  | .exit i => K (.exit i) t H
  | .ret => K .ret t H
def kBlk (id : Nat) (K : Ex → Env → AHeap → Prop) : Ex → Env → AHeap → Prop := fun e t H => match e with
  | .normal => K .normal t H
  | .exit i => cond (Nat.beq i id) (K .normal t H) (K (.exit i) t H)
  | .ret => K .ret t H
def RangeF (P : Program) [BaseC P] (c : AC) (t : Env) (N : Nat) (ps : Array Tmp) (a b : Code) (H : AHeap) (K : Ex → Env → AHeap → Prop) : Prop :=
  ∃ g first caps, c = .fn g first caps ∧ g < P.funcs.size ∧ ∀ T : List AV, T.length = N → (∀ n, T[n]?.getD (.tup []) = t n) →
    Run P g (first.map (fun a => .one (.ptr (some a))) ++ [.one (.yield H.size)] ++ caps.map (fun a => .one (.ptr (some a)))) (H.push (.loop 0 .normal T ps a b)) fun _ H' =>
      ∃ st pend T' ps' a' b', H'.get H.size = some (.loop st pend T' ps' a' b') ∧ st ≠ 1 ∧ K pend t (H'.set H.size (.loop 3 pend T' ps' a' b'))
def wpC : RC → Env → AHeap → (Ex → Env → AHeap → Prop) → Prop
  | .skip, t, H, K => K .normal t H
  | .ops l, t, H, K => wpOs P l t H (K .normal)
  | .held l ps, t, H, K => wpT P l t H [] fun sts t' H' => pairsR l sts (K .normal t' H') ps
  | .seq a b, t, H, K => wpC a t H (kSeq (fun t' H' => wpC b t' H' K) K)
  | .cond c a b, t, H, K => match t c with
    | .one (.bool v) => CondB v (wpC a (upd t c (.one (.bool true))) H K) (wpC b (upd t c (.one (.bool false))) H K)
    | _ => False
  | .block id b, t, H, K => wpC b t H (kBlk id K)
  | .loop b, t, H, K => ∀ X : Env → AHeap → Prop, (∀ t H, wpC b t H (kSeq X K) → X t H) → X t H
  | .exit id, t, H, K => K (.exit id) t H
  | .ret, t, H, K => K .ret t H
  | .rangeF f N ps a b, t, H, K => match evR t f with
    | .one c => RangeF P c t N ps a b H K
    | _ => False
end Go.AI
end
section
namespace Go.AI
variable (P : Program)
def resV : Operand → Option RV
  | .tmp t => some (.tm t)
  | .const v => (ofVal v).map .ct
  | .func f => some (.ct (.one (.fn f [] [])))
  | .global _ => none
def resVs : List Operand → Option (List RV)
  | [] => some []
  | x :: r => match resV x, resVs r with
    | some v, some vs => some (v :: vs)
    | _, _ => none
def resParts (place : Nat → Option (Nat × Nat)) : List (Nat × Operand) → Option (List (Nat × Nat × RV))
  | [] => some []
  | (i, x) :: r => match place i, resV x, resParts place r with
    | some (off, size), some v, some vs => some ((off, size, v) :: vs)
    | _, _, _ => none
def ctOf : AC → CT
  | .int k _ => .int k
  | .bool _ => .bool
  | .str _ => .str
  | _ => .ac
def cellsT (t : TypeId) : Option (List AC) := (zeroA P t).bind AV.cells
def tysT (t : TypeId) : Option (List CT) := (cellsT P t).map (·.map ctOf)
def kkT (eqs : List (TypeId × Nat)) (kt : TypeId) : Option (Option Nat) :=
  match eqs.find? (fun e => e.1 == kt) with
  | some e => some (some e.2)
  | none => match P.underlying kt with
    | some (.int .i64) => some none
    | _ => none
def cOp : BinOp → Option COp
  | .eql => some .eq | .neq => some .ne | .lss => some .lt | .leq => some .le | .gtr => some .gt | .geq => some .ge
  | _ => none
def aOp : BinOp → Option AOp
  | .add => some .add | .sub => some .sub | .mul => some .mul | .quo => some .quo | .rem => some .rem | .and => some .and | .or => some .or | .xor => some .xor | .andNot => some .andn
  | _ => none
def isNilV : Operand → Bool
  | .const v => match ofVal v with
    | some (.one (.sl none _ _ _)) => true
    | _ => false
  | _ => false
def resBin (eqs : List (TypeId × Nat)) (op : BinOp) (t : TypeId) (x y : Operand) : Option ROp :=
  match resV x, resV y with
  | some a, some b => match P.underlying t with
    | some (.int _) => match op with
      | .shl => some (.sh true a b)
      | .shr => some (.sh false a b)
      | op => match cOp op with
        | some c => some (.cm c a b)
        | none => (aOp op).map fun o => .ar o a b
    | some .bool => match op with
      | .eql => some (.eqb false a b)
      | .neq => some (.eqb true a b)
      | _ => none
    | some (.slice _) => if isNilV y then match op with
      | .eql => some (.isnil false a)
      | .neq => some (.isnil true a)
      | _ => none else none
    | some _ => match eqs.find? (fun e => e.1 == t), op with
      | some e, .eql => some (.eqa false e.2 a b)
      | some e, .neq => some (.eqa true e.2 a b)
      | _, _ => none
    | none => none
  | _, _ => none
def resOptV : Option Operand → Option (Option RV)
  | none => some none
  | some x => (resV x).map some
def resBuiltin (b : Builtin) (args : List Operand) (argTypes : Array TypeId) : Option ROp :=
  match b, resVs args with
  | .len, some [x] => match (argTypes[0]?).bind P.underlying with
    | some (.slice _) => some (.lens x)
    | some (.array n _) => some (.lena n x)
    | some .string => some (.lenstr x)
    | _ => none
  | .min, some [x, y] => some (.min2 x y)
  | .min, some [x, y, z] => some (.min3 x y z)
  | .max, some [x, y] => some (.max2 x y)
  | .append, some [s, x] => match (argTypes[0]?).bind P.underlying, (argTypes[1]?).bind P.underlying with
    | some (.slice e), some xt => match P.info? e with
      | some i => if isSrcT xt = false ∨ i.size = 0 ∨ i.bytes = 0 ∨ (cellsT P e).map List.length ≠ some i.size then none else some (.app e i.size i.bytes s x)
      | none => none
    | _, _ => none
  | .copy, some [d, x] => match (argTypes[0]?).bind P.underlying with
    | some (.slice e) => (sizeT P e).map fun size => .cpy size d x
    | _ => none
  | .clear, some [d] => match (argTypes[0]?).bind P.underlying with
    | some (.slice e) => (cellsT P e).map fun zero => .clr zero d
    | _ => none
  | _, _ => none
def resOp (eqs : List (TypeId × Nat)) : Op → Option ROp
  | .move x => (resV x).map .mov
  | .assign x => (resV x).map .mov
  | .pick c a b => match resV c, resV a, resV b with
    | some c, some a, some b => some (.pick c a b)
    | _, _, _ => none
  | .alloc t => (cellsT P t).map fun cs => .new t cs
  | .box t x => (resV x).map fun x => .box t x
  | .build t ps => match cellsT P t, P.underlying t with
    | some zero, some (.struct fs) => match placesA P fs.toList with
      | some places => (resParts (places[·]?) ps.toList).map fun ps => .bld zero ps
      | none => none
    | some zero, some (.array _ e) => match sizeT P e with
      | some size => (resParts (fun i => some (i * size, size)) ps.toList).map fun ps => .bld zero ps
      | none => none
    | _, _ => none
  | .buildSlice t len ps => match P.underlying t with
    | some (.slice e) => match sizeT P e, cellsT P e with
      | some size, some zero =>
        if size = 0 ∨ len * size > 16777216 ∨ zero.length ≠ size then none else
        (resParts (fun i => some (i * size, size)) ps.toList).map fun ps => .blds e size len (List.flatten (List.replicate len zero)) ps
      | _, _ => none
    | _ => none
  | .load t x => match resV x, isAggT P t, sizeT P t, tysT P t with
    | some x, some true, some n, some tys => if tys.length = n then some (.ld true tys x) else none
    | some x, some false, some _, some tys => if tys.length = 1 then some (.ld false tys x) else none
    | _, _, _, _ => none
  | .store t x v => match resV x, resV v, sizeT P t with
    | some x, some v, some n => some (.st n x v)
    | _, _, _ => none
  | .nilCheck x => (resV x).map .nn
  | .binOp op t x y _ => resBin P eqs op t x y
  | .unOp .not _ x => (resV x).map .not
  | .unOp .neg _ x => (resV x).map .neg
  | .convert s d x => match P.underlying s, P.underlying d with
    | some (.int _), some (.int k) => (resV x).map fun x => .conv k x
    | _, _ => none
  | .makeFunc (.func f) first caps => match resVs first.toList, resVs caps.toList with
    | some a, some b => some (.fn f a b)
    | _, _ => none
  | .makeMap t none => match P.underlying t with
    | some (.map _ _) => some .mkm
    | _ => none
  | .makeSlice t l c => match P.underlying t with
    | some (.slice e) => match P.info? e, cellsT P e, resV l, resV c with
      | some i, some zero, some l, some c => if i.size ≠ 0 ∧ zero.length = i.size then some (.mks e i.size i.bytes zero l c) else none
      | _, _, _, _ => none
    | _ => none
  | .slice t x lo hi none => match P.underlying t with
    | some (.slice e) => match resV x, resOptV lo, resOptV hi, sizeT P e with
      | some x, some lo, some hi, some sz => some (.slc sz x lo hi)
      | _, _, _, _ => none
    | _ => none
  | .fieldAddr t x f => match resV x, fieldsA P t with
    | some x, some fs => match fs[f]? with
      | some fd => match sizeT P fd.type with
        | some (_ + 1) => some (.fa fd.offset x)
        | _ => none
      | none => none
    | _, _ => none
  | .field t x f => match resV x, fieldsA P t with
    | some x, some fs => match fs[f]? with
      | some fd => match isAggT P fd.type, sizeT P fd.type with
        | some g, some n => some (.fld g fd.offset n x)
        | _, _ => none
      | none => none
    | _, _ => none
  | .indexAddr t x i => match resV x, resV i, P.underlying t with
    | some x, some i, some (.slice e) => match sizeT P e with
      | some sz => if sz = 0 then none else some (.ia sz x i)
      | none => none
    | some x, some i, some (.array len e) => match sizeT P e with
      | some sz => if sz = 0 then none else some (.iap sz len x i)
      | none => none
    | _, _, _ => none
  | .index t x i => match resV x, resV i, P.underlying t with
    | some x, some i, some .string => some (.ixs x i)
    | _, _, _ => none
  | .lookup t x i ok => match P.underlying t with
    | some (.map kt et) => match kkT P eqs kt, resV x, resV i, cellsT P et, isAggT P et with
      | some kk, some x, some i, some zero, some g => if zeroA P et = some (partOf g zero) ∧ (g = true ∨ zero.length = 1) then some (.look kk g (zero.map ctOf) zero ok x i) else none
      | _, _, _, _, _ => none
    | _ => none
  | .mapUpdate t m k x => match P.underlying t with
    | some (.map kt _) => match kkT P eqs kt, resV m, resV k, resV x with
      | some kk, some m, some k, some x => some (.mset kk m k x)
      | _, _, _, _ => none
    | _ => none
  | .extract x i => (resV x).map fun x => .ex x i
  | .call { callee := .value (.func f), args, .. } => if f < P.funcs.size then (resVs args.toList).map fun asx => .call f asx else none
  | .call { callee := .value x, args, .. } => match resV x, resVs args.toList with
    | some x, some asx => some (.callv x asx)
    | _, _ => none
  | .call { callee := .builtin b, args, argTypes } => resBuiltin P b args.toList argTypes
  | _ => none
def resO (eqs : List (TypeId × Nat)) (N : Nat) (o : SOp) : Option RO :=
  match resOp P eqs o.op, o.dst, o.guard with
  | some op, some d, none => if d < N then some (.put d op) else none
  | some op, none, none => some (.run op)
  | some op, some d, some (some c, w) => if d < N then some (.gput d c w op) else none
  | some op, none, some (some c, w) => some (.grun c w op)
  | _, _, _ => none
def resOs (eqs : List (TypeId × Nat)) (N : Nat) : List SOp → Option (List RO)
  | [] => some []
  | o :: r => match resO P eqs N o, resOs eqs N r with
    | some o, some l => some (o :: l)
    | _, _ => none
def isLoad : Op → Bool
  | .load _ _ => true
  | .call { callee := .builtin .len, .. } => true
  | _ => false
def resC (eqs : List (TypeId × Nat)) (N : Nat) : SC → Option RC
  | .skip => some .skip
  | .region l => (resOs P eqs N l).map .ops
  | .held l ps => if ps.all (fun p => (l[p.1]?).any fun o => isLoad o.op) then (resOs P eqs N l).map fun l => .held l ps else none
  | .seq a b => match resC eqs N a, resC eqs N b with
    | some a, some b => some (.seq a b)
    | _, _ => none
  | .cond (.tmp c) a b => match resC eqs N a, resC eqs N b with
    | some a, some b => some (.cond c a b)
    | _, _ => none
  | .cond _ _ _ => none
  | .block id b => (resC eqs N b).map (.block id)
  | .loop b => (resC eqs N b).map .loop
  | .exit id => some (.exit id)
  | .ret => some .ret
  | .rangeF f ps a b => (resV f).map fun f => .rangeF f N ps a b
  | .bad => none
def AggFact (t : TypeId) (n : Nat) : Prop :=
  (∀ e (xs : List Int), xs.length = n → keyOkA P t e (.agg (xs.map intVal).toArray) = true) ∧
  (∀ xs ys : List Int, xs.length = n → ys.length = n → pureRun P (Op.equal t (.agg (xs.map intVal).toArray) (.agg (ys.map intVal).toArray)) = some (decide (xs = ys))) ∧
  (∀ (op : BinOp) (x y : Operand) (xs ys : List Int), xs.length = n → ys.length = n → pureRun P (eqGuard op t x y (.agg (xs.map intVal).toArray) (.agg (ys.map intVal).toArray)) = some ()) ∧
  (P.underlying t).isSome = true
def Facts (eqs : List (TypeId × Nat)) : Prop := ∀ e ∈ eqs, AggFact P e.1 e.2
end Go.AI
end
section
namespace Go.AI
variable {P : Program}
theorem pureRun_bind {α β : Type} {s : Sem α} {f : α → Sem β} {a : α} (h : pureRun P s = some a) : pureRun P (s >>= f) = pureRun P (f a) := by
  induction s with
  | pure y => simp only [pureRun, Option.some.injEq] at h; subst h; rfl
  | program k ih => exact ih P (by simpa [pureRun] using h)
  | _ => simp [pureRun] at h
def TR (tl : List AV) (t : Env) : Prop := ∀ n, tl[n]?.getD (.tup []) = t n
theorem TR.set {tl : List AV} {t : Env} (h : TR tl t) {d : Nat} (hd : d < tl.length) (v : AV) : TR (tl.set d v) (upd t d v) := by
  intro n
  by_cases hn : n = d
  · subst hn; rw [upd_at, List.getElem?_set_self hd]; rfl
  · rw [upd_ne t v hn, List.getElem?_set_ne (Ne.symm hn)]; exact h n
theorem resV_ok {tl : List AV} {t : Env} (ht : TR tl t) {x : Operand} {r : RV} (h : resV x = some r) : evalA tl x = some (evR t r) := by
  cases x with
  | tmp n => simp only [resV, Option.some.injEq] at h; subst h; simp only [evalA, evR, ht n]
  | const v =>
    simp only [resV, Option.map_eq_some_iff] at h
    obtain ⟨a, h1, rfl⟩ := h
    simp only [evalA, evR, h1]
  | global g => simp [resV] at h
  | func f => simp only [resV, Option.some.injEq] at h; subst h; rfl
theorem resVs_ok {tl : List AV} {t : Env} (ht : TR tl t) : ∀ {l : List Operand} {r : List RV}, resVs l = some r → evalAll tl l = some (evRs t r)
  | [], r, h => by simp only [resVs, Option.some.injEq] at h; subst h; rfl
  | x :: l, r, h => by
    simp only [resVs] at h
    split at h
    · next v vs h1 h2 =>
      simp only [Option.some.injEq] at h; subst h
      simp only [evalAll, resV_ok ht h1, resVs_ok ht h2, evRs]
    · cases h
theorem cellsR_eq (v : AV) : cellsR v = v.cells := by cases v <;> rfl
theorem fill_ok {tl : List AV} {t : Env} (ht : TR tl t) {place : Nat → Option (Nat × Nat)} : ∀ {ps : List (Nat × Operand)} {rs : List (Nat × Nat × RV)} {cells cs : List AC},
    resParts place ps = some rs → fillR t cells rs = some cs → ∃ vs, evalParts tl ps = some vs ∧ fillA place cells vs = some cs
  | [], rs, cells, cs, h, k => by
    simp only [resParts, Option.some.injEq] at h; subst h
    simp only [fillR, Option.some.injEq] at k; subst k
    exact ⟨[], rfl, rfl⟩
  | (i, x) :: ps, rs, cells, cs, h, k => by
    simp only [resParts] at h
    split at h
    · next off size v vs h1 h2 h3 =>
      simp only [Option.some.injEq] at h; subst h
      simp only [fillR] at k
      split at k
      · next ds hd =>
        cases hb : Nat.beq ds.length size with
        | false => rw [hb] at k; cases k
        | true =>
          rw [hb] at k
          simp only [cond_true] at k
          have hl := Nat.eq_of_beq_eq_true hb
          cases hb2 : Nat.ble (off + size) cells.length with
          | false => rw [hb2] at k; cases k
          | true =>
            rw [hb2] at k
            simp only [cond_true] at k
            have hl2 := Nat.le_of_ble_eq_true hb2
            obtain ⟨ws, e1, e2⟩ := fill_ok ht h3 k
            refine ⟨(i, evR t v) :: ws, ?_, ?_⟩
            · simp only [evalParts, resV_ok ht h2, e1]
            · rw [cellsR_eq] at hd
              simp only [fillA, h1, hd]
              rw [if_neg (by rintro (h | h) <;> omega), hl]
              exact e2
      · cases k
    · cases h
theorem CondB_elim {b : Bool} {A B : Prop} (h : CondB b A B) : (b = true ∧ A) ∨ (b = false ∧ B) := by
  cases b with
  | true => exact .inl ⟨rfl, h⟩
  | false => exact .inr ⟨rfl, h⟩
theorem cond_elim {b : Bool} {A : Prop} (h : cond b A False) : b = true ∧ A := by
  cases b with
  | true => exact ⟨rfl, h⟩
  | false => exact h.elim
theorem onesC_ok {t : Env} : ∀ {l : List RV} {cs : List AC}, onesC t l = some cs → evRs t l = cs.map .one
  | [], cs, h => by simp only [onesC, Option.some.injEq] at h; subst h; rfl
  | x :: l, cs, h => by
    simp only [onesC] at h
    split at h
    · next c l' h1 h2 =>
      simp only [Option.some.injEq] at h; subst h
      simp only [evRs, h1, onesC_ok h2, List.map_cons]
    · cases h
theorem ptrs_ok : ∀ {cs : List AC} {asx : List APtr}, ptrsC cs = some asx → ptrs (cs.map .one) = some asx
  | [], asx, h => by simp only [ptrsC, Option.some.injEq] at h; subst h; rfl
  | c :: cs, asx, h => by
    unfold ptrsC at h
    split at h
    · next e => cases e
    · next a r e =>
      injection e with e1 e2
      subst e1 e2
      rw [Option.map_eq_some_iff] at h
      obtain ⟨as', h1, rfl⟩ := h
      simp only [List.map_cons, ptrs, ptrs_ok h1, Option.map_some]
    · cases h
theorem intsC_val : ∀ {cs : List AC} {ns : List Int}, intsC cs = some ns → cs = ns.map (AC.int .i64) ∧ cellsVal cs = some (ns.map intVal)
  | [], ns, h => by simp only [intsC, Option.some.injEq] at h; subst h; exact ⟨rfl, rfl⟩
  | c :: cs, ns, h => by
    unfold intsC at h
    split at h
    · next e => cases e
    · next n r e =>
      injection e with e1 e2
      subst e1 e2
      split at h
      · next l hl =>
        simp only [Option.some.injEq] at h; subst h
        obtain ⟨h1, h2⟩ := intsC_val hl
        refine ⟨by rw [h1]; rfl, ?_⟩
        simp only [cellsVal, AC.val, h2, List.map_cons]; rfl
      · cases h
    · cases h
theorem key_val {kk : Option Nat} {v : AV} {key : List Int} (hk : keyR kk v = some key) (hl : lenOk kk key = true) : ∃ k, v.val = some k ∧ keyV kk key = some k := by
  unfold keyR at hk
  split at hk
  · simp only [Option.some.injEq] at hk; subst hk; exact ⟨_, rfl, rfl⟩
  · next k cs =>
    obtain ⟨h1, h2⟩ := intsC_val hk
    have : key.length = k := by simpa [lenOk] using hl
    exact ⟨.agg (key.map intVal).toArray, by simp only [AV.val, h2, Option.map_some], by simp only [keyV, if_pos this]⟩
  · cases hk
theorem find_rel {eqs : List (TypeId × Nat)} (hf : Facts P eqs) {kt : TypeId} {kk : Option Nat} (hkk : kkT P eqs kt = some kk) {key : List Int} (hl : lenOk kk key = true) {k : Value} (hk : keyV kk key = some k)
    {es : List (List Int × AV)} (he : es.all (fun e => lenOk kk e.1) = true) (v : AV) :
    ∃ r, findA P kt k (entE kk es) = some r ∧ r.map (·.2) = findE key es ∧ (∀ i x, r = some (i, x) → ((entE kk es)[i]?).map (·.1) = some k ∧ entE kk (setE key v es) = (entE kk es).modify i fun _ => (k, v)) ∧
      (r = none → entE kk (setE key v es) = entE kk es ++ [(k, v)]) := by
  unfold kkT at hkk
  split at hkk
  · next e hfind =>
    simp only [Option.some.injEq] at hkk; subst hkk
    have hm := List.mem_of_find?_eq_some hfind
    have hkt : e.1 = kt := by simpa using List.find?_some hfind
    obtain ⟨_, h2, _, h4⟩ := hf e hm
    rw [hkt] at h2 h4
    have hn : key.length = e.2 := by simpa [lenOk] using hl
    have hkv : k = .agg (key.map intVal).toArray := by simpa [keyV, hn] using hk.symm
    have step : ∀ (es : List (List Int × AV)) (i : Nat), es.all (fun e' => lenOk (some e.2) e'.1) = true → ∃ r, findAskingA P kt k (entE (some e.2) es) i = some r ∧ r.map (·.2) = findE key es ∧
        (∀ j x, r = some (j, x) → i ≤ j ∧ ((entE (some e.2) es)[j - i]?).map (·.1) = some k ∧ entE (some e.2) (setE key v es) = (entE (some e.2) es).modify (j - i) fun _ => (k, v)) ∧
        (r = none → entE (some e.2) (setE key v es) = entE (some e.2) es ++ [(k, v)]) := by
      intro es
      induction es with
      | nil => intro i _; exact ⟨none, rfl, rfl, fun _ _ h => (by cases h), fun _ => by simp only [setE, entE, List.nil_append, hk, Option.getD_some]⟩
      | cons a es ih =>
        intro i hall
        obtain ⟨m, x⟩ := a
        simp only [List.all_cons, Bool.and_eq_true] at hall
        have hmn : m.length = e.2 := by simpa [lenOk] using hall.1
        have hmv : (keyV (some e.2) m).getD (.bool true) = .agg (m.map intVal).toArray := by simp [keyV, hmn]
        simp only [entE, findAskingA, hmv]
        rw [hkv, h2 key m hn hmn, ← hkv]
        by_cases hmk : key = m
        · subst hmk
          refine ⟨some (i, x), by simp, by simp [findE], ?_, fun h => by cases h⟩
          intro j y hj
          cases hj
          refine ⟨Nat.le_refl _, by simp [hkv], ?_⟩
          simp [setE, entE, hmv, hkv]
        · obtain ⟨r, e1, e2, e3, e4⟩ := ih (i + 1) hall.2
          have hmk' : ¬ m = key := fun h => hmk h.symm
          refine ⟨r, by simp [hmk, e1], by simp [findE, hmk', e2], ?_, ?_⟩
          · intro j y hj
            obtain ⟨g1, g2, g3⟩ := e3 j y hj
            have : j - i = (j - (i + 1)) + 1 := by omega
            refine ⟨by omega, by rw [this]; simpa using g2, ?_⟩
            rw [this]
            simp only [setE, if_neg hmk', entE, hmv, List.modify_succ_cons, g3]
          · intro hr
            simp only [setE, if_neg hmk', entE, hmv, e4 hr, List.cons_append]
    cases es with
    | nil =>
      cases hu : P.underlying kt with
      | none => rw [hu] at h4; cases h4
      | some d => exact ⟨none, by simp only [findA, hu, entE, findNowA], rfl, fun _ _ h => (by cases h), fun _ => by simp only [setE, entE, List.nil_append, hk, Option.getD_some]⟩
    | cons a es =>
      obtain ⟨r, e1, e2, e3, e4⟩ := step (a :: es) 0 he
      refine ⟨r, ?_, e2, fun i x hi => ?_, e4⟩
      · cases hu : P.underlying kt with
        | none => rw [hu] at h4; cases h4
        | some d =>
          obtain ⟨m, x⟩ := a
          simp only [List.all_cons, Bool.and_eq_true] at he
          have hmn : m.length = e.2 := by simpa [lenOk] using he.1
          have hmv : (keyV (some e.2) m).getD (.bool true) = .agg (m.map intVal).toArray := by simp [keyV, hmn]
          have hnow : findNowA d k (entE (some e.2) ((m, x) :: es)) 0 = none := by
            simp only [entE, findNowA, hmv, hkv]
            cases d <;> rfl
          simp only [findA, hu, hnow, e1]
      · obtain ⟨_, g2, g3⟩ := e3 i x hi
        exact ⟨by simpa using g2, by simpa using g3⟩
  · split at hkk
    · next hu =>
      simp only [Option.some.injEq] at hkk; subst hkk
      obtain ⟨n, rfl⟩ : ∃ n, key = [n] := by
        cases key with
        | nil => simp [lenOk] at hl
        | cons n r => cases r with
          | nil => exact ⟨n, rfl⟩
          | cons _ _ => simp [lenOk] at hl
      simp only [keyV, Option.some.injEq] at hk
      subst hk
      have step : ∀ (es : List (List Int × AV)) (i : Nat), es.all (fun e' => lenOk none e'.1) = true → ∃ r, findNowA (.int .i64) (intVal n) (entE none es) i = some r ∧ r.map (·.2) = findE [n] es ∧
        (∀ j x, r = some (j, x) → i ≤ j ∧ ((entE none es)[j - i]?).map (·.1) = some (intVal n) ∧ entE none (setE [n] v es) = (entE none es).modify (j - i) fun _ => (intVal n, v)) ∧
        (r = none → entE none (setE [n] v es) = entE none es ++ [(intVal n, v)]) := by
        intro es
        induction es with
        | nil => intro i _; exact ⟨none, rfl, rfl, fun _ _ h => (by cases h), fun _ => by simp only [setE, entE, List.nil_append, keyV, Option.getD_some]⟩
        | cons a es ih =>
          intro i hall
          obtain ⟨m, x⟩ := a
          simp only [List.all_cons, Bool.and_eq_true] at hall
          obtain ⟨m, rfl⟩ : ∃ n, m = [n] := by
            cases m with
            | nil => simp [lenOk] at hall
            | cons n r => cases r with
              | nil => exact ⟨n, rfl⟩
              | cons _ _ => simp [lenOk] at hall
          simp only [entE, findNowA, keyV, Option.getD_some, intVal, Instr.sameNow, if_true]
          by_cases hmk : n = m
          · subst hmk
            refine ⟨some (i, x), by simp, by simp [findE], ?_, fun h => by cases h⟩
            intro j y hj
            cases hj
            refine ⟨Nat.le_refl _, by simp, ?_⟩
            simp [setE, entE, keyV, intVal]
          · obtain ⟨r, e1, e2, e3, e4⟩ := ih (i + 1) hall.2
            have hmk' : ¬ m = n := fun h => hmk h.symm
            refine ⟨r, ?_, by simp [findE, hmk', e2], ?_, ?_⟩
            · have hb : (n == m) = false := by simpa using hmk
              simp only [hb]; exact e1
            · intro j y hj
              obtain ⟨g1, g2, g3⟩ := e3 j y hj
              have : j - i = (j - (i + 1)) + 1 := by omega
              refine ⟨by omega, by rw [this]; simpa [intVal] using g2, ?_⟩
              rw [this]
              simp only [setE, List.cons.injEq, hmk', false_and, if_false, entE, keyV, Option.getD_some, intVal, List.modify_succ_cons] at g3 ⊢
              rw [g3]; exact ⟨trivial, rfl⟩
            · intro hr
              have g := e4 hr
              simp only [setE, List.cons.injEq, hmk', false_and, if_false, entE, keyV, Option.getD_some, intVal, List.cons_append] at g ⊢
              rw [g]; exact ⟨trivial, rfl⟩
      obtain ⟨r, e1, e2, e3, e4⟩ := step es 0 he
      refine ⟨r, by simp only [findA, hu, e1], e2, fun i x hi => ?_, e4⟩
      obtain ⟨_, g2, g3⟩ := e3 i x hi
      exact ⟨by simpa using g2, by simpa using g3⟩
    · cases hkk
end Go.AI
end
section
namespace Go.AI
variable {P : Program} {tl : List AV} {t : Env} {H : AHeap} {K : AV → AHeap → Prop}
def Ans (P : Program) [BaseC P] (op : Op) (tl : List AV) (H : AHeap) (K : AV → AHeap → Prop) : Prop := ∃ v H', stepS P (callE P) op tl H = some (v, H') ∧ K v H'
theorem stepS_op [BaseC P] {op : Op} (h : ∀ c, op ≠ .call c) : stepS P (callE P) op tl H = opA P (plainOper op) tl H := by
  unfold stepS stepA plainOper
  split
  · next c hc => exact absurd hc (h c)
  · rfl
theorem ans_of [BaseC P] {op : Op} {v : AV} {H' : AHeap} (h : ∀ c, op ≠ .call c) (e : opA P (plainOper op) tl H = some (v, H')) (k : K v H') : Ans P op tl H K :=
  ⟨v, H', by rw [stepS_op h, e], k⟩
theorem zero_cells {e : TypeId} {cs : List AC} (h : cellsT P e = some cs) : (zeroA P e).bind AV.cells = some cs := h
theorem ans_build [BaseC P] {e : TypeId} {ps : Array (Nat × Operand)} {r : ROp} (ht : TR tl t) {eqs : List (TypeId × Nat)} (h : resOp P eqs (.build e ps) = some r) (k : wpOp P r t H K) : Ans P (.build e ps) tl H K := by
  simp only [resOp] at h
  split at h
  · next zero fs h1 h2 =>
    split at h
    · next places h3 =>
      rw [Option.map_eq_some_iff] at h
      obtain ⟨rs, h4, rfl⟩ := h
      simp only [wpOp] at k
      split at k
      · next cs h5 =>
        obtain ⟨vs, e1, e2⟩ := fill_ok ht h4 h5
        refine ans_of (by simp) ?_ k
        simp only [plainOper, opA, zero_cells h1, h2, e1, h3, e2, Option.bind_some]
      · exact k.elim
    · cases h
  · next zero n el h1 h2 =>
    split at h
    · next size h3 =>
      rw [Option.map_eq_some_iff] at h
      obtain ⟨rs, h4, rfl⟩ := h
      simp only [wpOp] at k
      split at k
      · next cs h5 =>
        obtain ⟨vs, e1, e2⟩ := fill_ok ht h4 h5
        refine ans_of (by simp) ?_ k
        simp only [plainOper, opA, zero_cells h1, h2, e1, h3, e2, Option.bind_some]
      · exact k.elim
    · cases h
  · cases h
theorem ans_buildSlice [BaseC P] {e : TypeId} {len : Nat} {ps : Array (Nat × Operand)} {r : ROp} (ht : TR tl t) {eqs : List (TypeId × Nat)} (h : resOp P eqs (.buildSlice e len ps) = some r) (k : wpOp P r t H K) : Ans P (.buildSlice e len ps) tl H K := by
  simp only [resOp] at h
  split at h
  · next el h1 =>
    split at h
    · next size zero h2 h3 =>
      split at h
      · cases h
      · next hc =>
        rw [Option.map_eq_some_iff] at h
        obtain ⟨rs, h4, rfl⟩ := h
        simp only [wpOp] at k
        split at k
        · next cs h5 =>
          obtain ⟨vs, e1, e2⟩ := fill_ok ht h4 h5
          refine ans_of (by simp) ?_ k
          simp only [plainOper, opA, h1, h2, zero_cells h3, e1]
          rw [if_neg hc]
          simp only [e2, Option.bind_some]
        · exact k.elim
    · cases h
  · cases h
theorem ans_load [BaseC P] {ty : TypeId} {x : Operand} {r : ROp} (ht : TR tl t) {eqs : List (TypeId × Nat)} (h : resOp P eqs (.load ty x) = some r) (k : wpOp P r t H K) : Ans P (.load ty x) tl H K := by
  simp only [resOp] at h
  split at h
  · next rx n tys h1 h2 h3 h4 =>
    split at h
    · next hl =>
      simp only [Option.some.injEq] at h; subst h
      simp only [wpOp] at k
      split at k
      · next p hp =>
        obtain ⟨a, xs, rfl, hld, hk⟩ := k
        rw [app_lam] at hk
        refine ans_of (by simp) ?_ hk
        rw [hl] at hld
        simp only [plainOper, opA, resV_ok ht h1, hp, h2, h3, hld, Option.bind_some]
        unfold partOf
        split
        · next e _ => cases e
        · rfl
      · exact k.elim
    · cases h
  · next rx n tys h1 h2 h3 h4 =>
    split at h
    · next hl =>
      simp only [Option.some.injEq] at h; subst h
      simp only [wpOp] at k
      split at k
      · next p hp =>
        obtain ⟨a, xs, rfl, hld, hk⟩ := k
        rw [app_lam] at hk
        refine ans_of (by simp) ?_ hk
        rw [hl] at hld
        have hlen := length_cellsOf (tys := tys) (xs := xs)
        rw [hl] at hlen
        obtain ⟨c, hc⟩ : ∃ c, cellsOf tys xs = [c] := by
          cases hx : cellsOf tys xs with
          | nil => rw [hx] at hlen; cases hlen
          | cons c r => cases r with
            | nil => exact ⟨c, rfl⟩
            | cons _ _ => rw [hx] at hlen; simp at hlen
        simp only [plainOper, opA, resV_ok ht h1, hp, h2, h3, hld, hc, partOf]
      · exact k.elim
    · cases h
  · cases h
theorem ans_store [BaseC P] {ty : TypeId} {x v : Operand} {r : ROp} (ht : TR tl t) {eqs : List (TypeId × Nat)} (h : resOp P eqs (.store ty x v) = some r) (k : wpOp P r t H K) : Ans P (.store ty x v) tl H K := by
  simp only [resOp] at h
  split at h
  · next rx rv n h1 h2 h3 =>
    simp only [Option.some.injEq] at h; subst h
    simp only [wpOp] at k
    split at k
    · next p cs hp hc =>
      obtain ⟨hb, k⟩ := cond_elim k
      obtain ⟨a, H', rfl, hs, hk⟩ := k
      refine ans_of (by simp) ?_ hk
      rw [cellsR_eq] at hc
      simp only [plainOper, opA, resV_ok ht h1, hp, resV_ok ht h2, Option.bind_some, hc, h3, Nat.eq_of_beq_eq_true hb, if_true, hs]
    · exact k.elim
  · cases h
theorem pure_under {ty : TypeId} {d : TypeDesc} (hu : P.underlying ty = some d) : pureRun P (underlying ty) = some d := by
  simp only [underlying, program, bind, Sem.bind, pureRun, hu]
  rfl
theorem pure_bool [BaseC P] {ty : TypeId} (hu : P.underlying ty = some .bool) (x y : Operand) (a b : Bool) : pureBin P .eql ty x y (.bool a) (.bool b) = some (.one (.bool (a == b))) ∧ pureBin P .neq ty x y (.bool a) (.bool b) = some (.one (.bool !(a == b))) := by
  have he : pureRun P (Op.equal ty (.bool a) (.bool b)) = some (a == b) := by
    show pureRun P (Op.equalIn (9999 + 1) ty _ _) = _
    rw [Op.equalIn, pureRun_bind (pure_under hu)]
    rfl
  constructor
  · unfold pureBin
    rw [pureRun_bind (show pureRun P (eqGuard .eql ty x y (.bool a) (.bool b)) = some () from rfl)]
    simp only [binOp]
    rw [pureRun_bind he]; rfl
  · unfold pureBin
    rw [pureRun_bind (show pureRun P (eqGuard .neq ty x y (.bool a) (.bool b)) = some () from rfl)]
    simp only [binOp]
    rw [pureRun_bind he]; rfl
theorem pure_nil [BaseC P] {ty e : TypeId} (hu : P.underlying ty = some (.slice e)) (x y : Operand) : pureBin P .eql ty x y (.slice none 0 0) (.slice none 0 0) = some (.one (.bool true)) ∧ pureBin P .neq ty x y (.slice none 0 0) (.slice none 0 0) = some (.one (.bool false)) := by
  have he : pureRun P (Op.equal ty (.slice none 0 0) (.slice none 0 0)) = some true := by
    show pureRun P (Op.equalIn (9999 + 1) ty _ _) = _
    rw [Op.equalIn, pureRun_bind (pure_under hu)]
    rfl
  constructor
  · unfold pureBin
    rw [pureRun_bind (show pureRun P (eqGuard .eql ty x y (.slice none 0 0) (.slice none 0 0)) = some () from rfl)]
    simp only [binOp]
    rw [pureRun_bind he]; rfl
  · unfold pureBin
    rw [pureRun_bind (show pureRun P (eqGuard .neq ty x y (.slice none 0 0) (.slice none 0 0)) = some () from rfl)]
    simp only [binOp]
    rw [pureRun_bind he]; rfl
theorem pure_agg {ty n : Nat} (hf : AggFact P ty n) (x y : Operand) (xs ys : List Int) (hx : xs.length = n) (hy : ys.length = n) :
    pureBin P .eql ty x y (.agg (xs.map intVal).toArray) (.agg (ys.map intVal).toArray) = some (.one (.bool (decide (xs = ys)))) ∧
    pureBin P .neq ty x y (.agg (xs.map intVal).toArray) (.agg (ys.map intVal).toArray) = some (.one (.bool !(decide (xs = ys)))) := by
  obtain ⟨_, h2, h3, _⟩ := hf
  constructor
  · unfold pureBin
    rw [pureRun_bind (h3 .eql x y xs ys hx hy)]
    simp only [binOp]
    rw [pureRun_bind (h2 xs ys hx hy)]
    simp only [pure, pureRun, Option.bind_some, ofVal, ofCell, Option.map_some]
  · unfold pureBin
    rw [pureRun_bind (h3 .neq x y xs ys hx hy)]
    simp only [binOp]
    rw [pureRun_bind (h2 xs ys hx hy)]
    simp only [pure, pureRun, Option.bind_some, ofVal, ofCell, Option.map_some]
theorem aOp_ok {op : BinOp} {o : AOp} (h : aOp op = some o) {ty : TypeId} {x y : Operand} {k : IntKind} {m n : Int} {Q : Prop} (q : ArK o n Q) : binA P op ty x y (.one (.int k m)) (.one (.int k n)) = some (.one (.int k (arith o k m n))) ∧ Q := by
  cases op <;> simp only [aOp, Option.some.injEq, reduceCtorEq] at h <;> subst h <;> first
    | exact ⟨by simp [binA, arith], q⟩
    | exact ⟨by simp [binA, arith, q.1], q.2⟩
theorem cOp_ok {op : BinOp} {o : COp} (h : cOp op = some o) {ty : TypeId} {x y : Operand} {k : IntKind} {m n : Int} : binA P op ty x y (.one (.int k m)) (.one (.int k n)) = some (.one (.bool (cmp o m n))) := by
  cases op <;> simp only [cOp, Option.some.injEq, reduceCtorEq] at h <;> subst h <;> simp [binA, cmp]
theorem aggVal {cs : List AC} {ns : List Int} (h : intsC cs = some ns) : AV.val (.agg cs) = some (.agg (ns.map intVal).toArray) := by
  simp only [AV.val, (intsC_val h).2, Option.map_some]
theorem ans_bin [BaseC P] {op : BinOp} {ty ty' : TypeId} {x y : Operand} {r : ROp} (ht : TR tl t) {eqs : List (TypeId × Nat)} (hf : Facts P eqs) (h : resOp P eqs (.binOp op ty x y ty') = some r) (k : wpOp P r t H K) : Ans P (.binOp op ty x y ty') tl H K := by
  simp only [resOp, resBin] at h
  have fin : ∀ {a b : RV} {v : AV}, resV x = some a → resV y = some b → binA P op ty x y (evR t a) (evR t b) = some v → K v H → Ans P (.binOp op ty x y ty') tl H K := by
    intro a b v h1 h2 hb hk
    refine ans_of (by simp) ?_ hk
    simp only [plainOper, opA, resV_ok ht h1, resV_ok ht h2, hb, Option.bind_some]
  split at h
  case h_2 => cases h
  next a b h1 h2 =>
  split at h
  · split at h
    · simp only [Option.some.injEq] at h; subst h
      simp only [wpOp] at k
      split at k
      · next kk m k' n e1 e2 =>
        obtain ⟨k0, k⟩ := k
        refine fin h1 h2 ?_ k
        simp only [e1, e2, binA, if_pos k0, cond_true, shl]
      · exact k.elim
    · simp only [Option.some.injEq] at h; subst h
      simp only [wpOp] at k
      split at k
      · next kk m k' n e1 e2 =>
        obtain ⟨k0, k⟩ := k
        refine fin h1 h2 ?_ k
        simp only [e1, e2, binA, if_pos k0, cond_false, shr]
      · exact k.elim
    · split at h
      · next c hc =>
        simp only [Option.some.injEq] at h; subst h
        simp only [wpOp] at k
        split at k
        · next kk m k' n e1 e2 =>
          obtain ⟨k0, q⟩ := cond_elim k
          clear k
          obtain rfl := kEq_eq k0
          refine fin h1 h2 ?_ q
          rw [e1, e2]; exact cOp_ok hc
        · exact k.elim
      · rw [Option.map_eq_some_iff] at h
        obtain ⟨o, ho, rfl⟩ := h
        simp only [wpOp] at k
        split at k
        · next kk m k' n e1 e2 =>
          obtain ⟨k0, q⟩ := cond_elim k
          clear k
          obtain rfl := kEq_eq k0
          obtain ⟨g1, g2⟩ := aOp_ok (P := P) (ty := ty) (x := x) (y := y) ho q
          refine fin h1 h2 ?_ g2
          rw [e1, e2]; exact g1
        · exact k.elim
  · next hu =>
    split at h
    · simp only [Option.some.injEq] at h; subst h
      simp only [wpOp] at k
      split at k
      · next p q e1 e2 =>
        refine fin h1 h2 ?_ k
        rw [e1, e2]
        simp only [binA, AV.val, AC.val, (pure_bool hu x y p q).1, negB, cond_false]
      · exact k.elim
    · simp only [Option.some.injEq] at h; subst h
      simp only [wpOp] at k
      split at k
      · next p q e1 e2 =>
        refine fin h1 h2 ?_ k
        rw [e1, e2]
        simp only [binA, AV.val, AC.val, (pure_bool hu x y p q).2, negB, cond_true]
      · exact k.elim
    · cases h
  · next e hu =>
    split at h
    case isFalse => cases h
    next hy =>
    have hnil : ∃ sz len cap, evR t b = .one (.sl none sz len cap) := by
      unfold isNilV at hy
      split at hy
      · next v =>
        split at hy
        · next hv =>
          simp only [resV, hv, Option.map_some, Option.some.injEq] at h2
          subst h2
          exact ⟨_, _, _, rfl⟩
        · cases hy
      · cases hy
    obtain ⟨sz, len, cap, hb⟩ := hnil
    have hb' : evR t b = .one (.sl none 0 0 (some 0)) := by
      unfold isNilV at hy
      split at hy
      · next v =>
        simp only [resV, Option.map_eq_some_iff] at h2
        obtain ⟨a', ha', rfl⟩ := h2
        simp only [evR] at hb ⊢
        subst hb
        unfold ofVal at ha'
        split at ha'
        · rw [Option.map_eq_some_iff] at ha'; obtain ⟨_, _, h⟩ := ha'; cases h
        · rw [Option.map_eq_some_iff] at ha'; obtain ⟨_, _, h⟩ := ha'; cases h
        · rw [Option.map_eq_some_iff] at ha'
          obtain ⟨c, hc, h⟩ := ha'
          cases h
          unfold ofCell at hc
          split at hc <;> first | (cases hc; rfl) | (cases hc; done) | (split at hc <;> cases hc)
      · cases hy
    have key : ∀ (neg : Bool) (c : AC) (q : Bool → Prop), NilQ c q → evR t a = .one c → ∃ r, (q r ∧ binA P (cond neg .neq .eql) ty x y (evR t a) (evR t b) = some (.one (.bool (negB neg r)))) ∨ False := by
      intro neg c q hq ha
      unfold NilQ at hq
      rw [ha, hb']
      split at hq
      · refine ⟨false, .inl ⟨hq, ?_⟩⟩
        cases neg <;> simp [binA, AV.val, AC.val, hu, nilA, negB]
      · refine ⟨true, .inl ⟨hq, ?_⟩⟩
        cases neg
        · simp only [binA, AV.val, AC.val, cond_false, (pure_nil hu x y).1, negB]
        · simp only [binA, AV.val, AC.val, cond_true, (pure_nil hu x y).2, negB, Bool.not_true]
      · exact hq.elim
    split at h
    · simp only [Option.some.injEq] at h; subst h
      simp only [wpOp] at k
      split at k
      · next c e1 =>
        obtain ⟨r, ⟨hr, hbin⟩ | hx⟩ := key false c _ k e1
        · exact fin h1 h2 hbin hr
        · exact hx.elim
      · exact k.elim
    · simp only [Option.some.injEq] at h; subst h
      simp only [wpOp] at k
      split at k
      · next c e1 =>
        obtain ⟨r, ⟨hr, hbin⟩ | hx⟩ := key true c _ k e1
        · exact fin h1 h2 hbin hr
        · exact hx.elim
      · exact k.elim
    · cases h
  · next d hd1 hd2 hd3 hu =>
    have hagg : ∀ {e : TypeId × Nat}, eqs.find? (fun e => e.1 == ty) = some e → AggFact P ty e.2 := by
      intro e he
      have := hf e (List.mem_of_find?_eq_some he)
      have h0 : e.1 = ty := by simpa using List.find?_some he
      rw [h0] at this; exact this
    split at h
    · next e he =>
      simp only [Option.some.injEq] at h; subst h
      simp only [wpOp] at k
      split at k
      · next cs ds e1 e2 =>
        split at k
        · next xs ys g1 g2 =>
          obtain ⟨hb, k⟩ := cond_elim k
          simp only [Bool.and_eq_true] at hb
          refine fin h1 h2 ?_ k
          rw [e1, e2]
          simp only [binA, aggVal g1, aggVal g2, (pure_agg (hagg he) x y xs ys (Nat.eq_of_beq_eq_true hb.1) (Nat.eq_of_beq_eq_true hb.2)).1, negB, cond_false]
        · exact k.elim
      · exact k.elim
    · next e he =>
      simp only [Option.some.injEq] at h; subst h
      simp only [wpOp] at k
      split at k
      · next cs ds e1 e2 =>
        split at k
        · next xs ys g1 g2 =>
          obtain ⟨hb, k⟩ := cond_elim k
          simp only [Bool.and_eq_true] at hb
          refine fin h1 h2 ?_ k
          rw [e1, e2]
          simp only [binA, aggVal g1, aggVal g2, (pure_agg (hagg he) x y xs ys (Nat.eq_of_beq_eq_true hb.1) (Nat.eq_of_beq_eq_true hb.2)).2, negB, cond_true]
        · exact k.elim
      · exact k.elim
    · cases h
  · cases h
end Go.AI
end
section
namespace Go.AI
variable {P : Program} {tl : List AV} {t : Env} {H : AHeap} {K : AV → AHeap → Prop}
theorem ans_slice [BaseC P] {ty : TypeId} {x : Operand} {lo hi mx : Option Operand} {r : ROp} (ht : TR tl t) {eqs : List (TypeId × Nat)} (h : resOp P eqs (.slice ty x lo hi mx) = some r) (k : wpOp P r t H K) : Ans P (.slice ty x lo hi mx) tl H K := by
  have hopt : ∀ {o : Option Operand} {r : Option RV} {v : Option Int}, resOptV o = some r → optI t r = some v → optInt tl o = some v := by
    intro o r v h1 h2
    cases o with
    | none => simp only [resOptV, Option.some.injEq] at h1; subst h1; simp only [optI, Option.some.injEq] at h2; subst h2; rfl
    | some x =>
      simp only [resOptV, Option.map_eq_some_iff] at h1
      obtain ⟨a, h1, rfl⟩ := h1
      simp only [optI] at h2
      split at h2
      · next kk n e =>
        simp only [Option.some.injEq] at h2; subst h2
        simp only [optInt, resV_ok ht h1, e, Option.bind_some, intA, Option.map_some]
      · cases h2
  cases mx with
  | some m => simp [resOp] at h
  | none =>
    simp only [resOp] at h
    split at h
    · next e h0 =>
      split at h
      · next rx rlo rhi sz h1 h2 h3 h4 =>
        simp only [Option.some.injEq] at h; subst h
        simp only [wpOp] at k
        split at k
        · next s l u e1 e2 e3 =>
          obtain ⟨r, hr, hk⟩ := k
          refine ans_of (by simp) ?_ hk
          have hn : optInt tl none = some none := rfl
          simp only [plainOper, opA, h0, resV_ok ht h1, e1, hopt h2 e2, hopt h3 e3, hn, h4, Option.isNone_none, if_true, hr, Option.bind_some]
        · exact k.elim
      · cases h
    · cases h
theorem ans_addr [BaseC P] {ty : TypeId} {x : Operand} {f : Nat} {r : ROp} (ht : TR tl t) {eqs : List (TypeId × Nat)} (h : resOp P eqs (.fieldAddr ty x f) = some r) (k : wpOp P r t H K) : Ans P (.fieldAddr ty x f) tl H K := by
  simp only [resOp] at h
  split at h
  · next rx fs h1 h2 =>
    split at h
    · next fd h3 =>
      split at h
      · next n h4 =>
        simp only [Option.some.injEq] at h; subst h
        simp only [wpOp] at k
        split at k
        · next p e1 =>
          obtain ⟨a, rfl, hk⟩ := k
          refine ans_of (by simp) ?_ hk
          simp only [plainOper, opA, resV_ok ht h1, e1, h2, h3, h4]
        · exact k.elim
      · cases h
    · cases h
  · cases h
theorem ans_field [BaseC P] {ty : TypeId} {x : Operand} {f : Nat} {r : ROp} (ht : TR tl t) {eqs : List (TypeId × Nat)} (h : resOp P eqs (.field ty x f) = some r) (k : wpOp P r t H K) : Ans P (.field ty x f) tl H K := by
  simp only [resOp] at h
  split at h
  · next rx fs h1 h2 =>
    split at h
    · next fd h3 =>
      split at h
      · next g n h4 h5 =>
        simp only [Option.some.injEq] at h; subst h
        simp only [wpOp] at k
        split at k
        · next cs e1 =>
          cases g with
          | true =>
            simp only [cond_true] at k
            refine ans_of (by simp) ?_ k
            simp only [plainOper, opA, resV_ok ht h1, e1, h2, h3, Option.bind_some, partA, h4, h5]
          | false =>
            simp only [cond_false] at k
            split at k
            · next c hc =>
              refine ans_of (by simp) ?_ k
              simp only [plainOper, opA, resV_ok ht h1, e1, h2, h3, Option.bind_some, partA, h4, h5, hc, Option.map_some]
            · exact k.elim
        · exact k.elim
      · cases h
    · cases h
  · cases h
theorem ans_indexAddr [BaseC P] {ty : TypeId} {x i : Operand} {r : ROp} (ht : TR tl t) {eqs : List (TypeId × Nat)} (h : resOp P eqs (.indexAddr ty x i) = some r) (k : wpOp P r t H K) : Ans P (.indexAddr ty x i) tl H K := by
  simp only [resOp] at h
  split at h
  · next rx ri e h1 h2 h3 =>
    split at h
    · next sz h4 =>
      split at h
      · cases h
      · next hz =>
        simp only [Option.some.injEq] at h; subst h
        simp only [wpOp] at k
        split at k
        · next c kk n e1 e2 =>
          obtain ⟨a, len, cap, rfl, h5, h6, hk⟩ := k
          refine ans_of (by simp) ?_ hk
          have hcond : (0 ≤ n ∧ n < (len : Int) ∧ sizeT P e = some sz ∧ sz ≠ 0) := ⟨h5, h6, h4, hz⟩
          simp only [plainOper, opA, resV_ok ht h1, e1, resV_ok ht h2, e2, Option.bind_some, intA, h3, if_pos hcond]
        · exact k.elim
    · cases h
  · next rx ri len e h1 h2 h3 =>
    split at h
    · next sz h4 =>
      split at h
      · cases h
      · next hz =>
        simp only [Option.some.injEq] at h; subst h
        simp only [wpOp] at k
        split at k
        · next c kk n e1 e2 =>
          obtain ⟨a, rfl, h5, h6, hk⟩ := k
          refine ans_of (by simp) ?_ hk
          have hcond : (0 ≤ n ∧ n < (len : Int)) := ⟨h5, h6⟩
          simp only [plainOper, opA, resV_ok ht h1, e1, resV_ok ht h2, e2, Option.bind_some, intA, h3, if_pos hcond, h4, if_neg hz]
        · exact k.elim
    · cases h
  · cases h
theorem ans_index [BaseC P] {ty : TypeId} {x i : Operand} {r : ROp} (ht : TR tl t) {eqs : List (TypeId × Nat)} (h : resOp P eqs (.index ty x i) = some r) (k : wpOp P r t H K) : Ans P (.index ty x i) tl H K := by
  simp only [resOp] at h
  split at h
  · next rx ri h1 h2 h3 =>
    simp only [Option.some.injEq] at h; subst h
    simp only [wpOp] at k
    split at k
    · next s kk n e1 e2 =>
      obtain ⟨h6, c, h7, hk⟩ := k
      refine ans_of (by simp) ?_ hk
      simp only [plainOper, opA, resV_ok ht h1, e1, resV_ok ht h2, e2, Option.bind_some, intA, h3, if_pos h6, h7]
    · exact k.elim
  · cases h
theorem keyOk_of [BaseC P] {eqs : List (TypeId × Nat)} (hf : Facts P eqs) {kt : TypeId} {kk : Option Nat} (hkk : kkT P eqs kt = some kk) {key : List Int} (hl : lenOk kk key = true) {k : Value} (hk : keyV kk key = some k) (e : Bool) : keyOkA P kt e k = true := by
  unfold kkT at hkk
  split at hkk
  · next q hq =>
    simp only [Option.some.injEq] at hkk; subst hkk
    have hfa := hf q (List.mem_of_find?_eq_some hq)
    have hkt : q.1 = kt := by simpa using List.find?_some hq
    rw [hkt] at hfa
    have hn : key.length = q.2 := by simpa [lenOk] using hl
    have hkv : k = .agg (key.map intVal).toArray := by simpa [keyV, hn] using hk.symm
    rw [hkv]; exact hfa.1 e key hn
  · split at hkk
    · next hu =>
      simp only [Option.some.injEq] at hkk; subst hkk
      obtain ⟨n, rfl⟩ : ∃ n, key = [n] := by
        cases key with
        | nil => simp [lenOk] at hl
        | cons n r => cases r with
          | nil => exact ⟨n, rfl⟩
          | cons _ _ => simp [lenOk] at hl
      simp only [keyV, Option.some.injEq] at hk
      subst hk
      unfold keyOkA
      have : pureRun P (Instr.checkKey e (9999 + 1) kt (intVal n)) = some () := by
        rw [Instr.checkKey, pureRun_bind (pure_under hu)]
        rfl
      rw [show (10000 : Nat) = 9999 + 1 from rfl, this]; rfl
    · cases hkk
theorem ans_lookup [BaseC P] {ty : TypeId} {x i : Operand} {ok : Bool} {r : ROp} (ht : TR tl t) {eqs : List (TypeId × Nat)} (hf : Facts P eqs) (h : resOp P eqs (.lookup ty x i ok) = some r) (k : wpOp P r t H K) : Ans P (.lookup ty x i ok) tl H K := by
  simp only [resOp] at h
  split at h
  · next kt et h0 =>
    split at h
    · next kk rx ri zero g h1 h2 h3 h4 h5 =>
      split at h
      · next hz =>
        obtain ⟨hz, hz1⟩ := hz
        simp only [Option.some.injEq] at h; subst h
        simp only [wpOp] at k
        split at k
        · next c key e1 e2 =>
          obtain ⟨es, xs, hm, hl, hcase⟩ := k
          obtain ⟨kv, v1, v2⟩ := key_val e2 hl
          have g2 : es.all (fun e => lenOk kk e.1) = true := by
            rcases hm with ⟨b, _, _, h⟩ | ⟨_, rfl⟩
            · exact h
            · rfl
          obtain ⟨f, f1, f2, _, _⟩ := find_rel hf h1 hl v2 g2 (.tup [])
          have hgo : ∀ (b : Bool) (cs : List AC), f.isSome = b → (f.map (·.2)).getD (partOf g zero) = partOf g cs → (g = true ∨ cs.length = 1) → K (cond ok (.tup [(g, cs), (false, [.bool b])]) (partOf g cs)) H → Ans P (.lookup ty x i ok) tl H K := by
            intro b cs hb hv hlen hk
            refine ans_of (by simp) ?_ hk
            have hp2 : (partOf g cs).part = some (g, cs) := by
              rcases hlen with rfl | hlen
              · rfl
              · cases g with
                | true => rfl
                | false =>
                  cases cs with
                  | nil => cases hlen
                  | cons c r => cases r with
                    | nil => rfl
                    | cons _ _ => simp at hlen
            rcases hm with ⟨m, rfl, hget, _⟩ | ⟨rfl, rfl⟩
            · simp only [plainOper, opA, h0, resV_ok ht h2, e1, resV_ok ht h3, Option.bind_some, v1, hget, hz, keyOk_of hf h1 hl v2, if_true, f1, hb, hv, hp2]
              cases ok <;> rfl
            · simp only [entE] at f1
              simp only [plainOper, opA, h0, resV_ok ht h2, e1, resV_ok ht h3, Option.bind_some, v1, hz, keyOk_of hf h1 hl v2, if_true, f1, hb, hv, hp2]
              cases ok <;> rfl
          have hlenT : ∀ ys : Tup (zero.map ctOf), g = true ∨ (cellsOf (zero.map ctOf) ys).length = 1 := by
            intro ys
            rw [length_cellsOf, List.length_map]
            exact hz1
          rcases hcase with ⟨c1, c2⟩ | ⟨c1, c2, c3⟩
          · rw [app_lam] at c2
            rw [← f2] at c1
            have hs : f.isSome = true := by cases f with
              | none => cases c1
              | some _ => rfl
            exact hgo true _ hs (by rw [c1]; rfl) (hlenT xs) c2
          · rw [app_lam] at c3
            rw [← f2] at c1
            have hs : f.isSome = false := by cases f with
              | none => rfl
              | some _ => cases c1
            exact hgo false _ hs (by rw [c1, c2]; rfl) (hlenT xs) c3
        · exact k.elim
      · cases h
    · cases h
  · cases h
theorem sameBits_plain {kk : Option Nat} {key : List Int} {k : Value} (hk : keyV kk key = some k) : plainKey k = true ∧ Instr.sameBits 10000 k k = true := by
  have hone : ∀ n m, Instr.sameBits m (intVal n) (intVal n) = true := by
    intro n m
    cases m <;> simp [intVal, Instr.sameBits]
  cases kk with
  | none =>
    cases key with
    | nil => cases hk
    | cons n r => cases r with
      | nil => simp only [keyV, Option.some.injEq] at hk; subst hk; exact ⟨rfl, hone _ _⟩
      | cons _ _ => cases hk
  | some n =>
    simp only [keyV] at hk
    split at hk
    · simp only [Option.some.injEq] at hk; subst hk
      refine ⟨?_, ?_⟩
      · simp only [plainKey, List.all_map]
        rw [List.all_eq_true]
        intro x _; rfl
      · rw [show (10000 : Nat) = 9999 + 1 from rfl, Instr.sameBits]
        simp only [beq_self_eq_true, Bool.true_and]
        rw [List.all_eq_true]
        rintro ⟨a, b⟩ hab
        have h2 : ∀ (l : List Value) (a b : Value), (a, b) ∈ l.zip l → a = b ∧ a ∈ l := by
          intro l
          induction l with
          | nil => intro a b h; cases h
          | cons x l ih =>
            intro a b h
            simp only [List.zip_cons_cons, List.mem_cons] at h
            rcases h with h | h
            · cases h; exact ⟨rfl, List.mem_cons_self ..⟩
            · obtain ⟨e1, e2⟩ := ih a b h
              exact ⟨e1, List.mem_cons_of_mem _ e2⟩
        obtain ⟨e1, e2⟩ := h2 _ _ _ hab
        subst e1
        have e3 : a ∈ key.map intVal := by simpa using e2
        obtain ⟨n, _, rfl⟩ := List.mem_map.1 e3
        exact hone n _
    · cases hk
theorem ans_mapUpdate [BaseC P] {ty : TypeId} {m x y : Operand} {r : ROp} (ht : TR tl t) {eqs : List (TypeId × Nat)} (hf : Facts P eqs) (h : resOp P eqs (.mapUpdate ty m x y) = some r) (k : wpOp P r t H K) : Ans P (.mapUpdate ty m x y) tl H K := by
  simp only [resOp] at h
  split at h
  · next kt et h0 =>
    split at h
    · next kk rm rk rx h1 h2 h3 h4 =>
      simp only [Option.some.injEq] at h; subst h
      simp only [wpOp] at k
      split at k
      · next c key cs e1 e2 e3 =>
        obtain ⟨b, es, rfl, hget, g2, hl, hk⟩ := k
        obtain ⟨kv, v1, v2⟩ := key_val e2 hl
        obtain ⟨f, f1, f2, f3, f4⟩ := find_rel hf h1 hl v2 g2 (evR t rx)
        obtain ⟨p1, p2⟩ := sameBits_plain v2
        have hp : (evR t rx).part.isSome = true := by
          cases hv : evR t rx with
          | one c => rfl
          | agg c => rfl
          | tup _ => rw [hv] at e3; cases e3
        refine ans_of (by simp) ?_ hk
        simp only [plainOper, opA, h0, resV_ok ht h2, e1, resV_ok ht h3, Option.bind_some, v1, resV_ok ht h4, hget, keyOk_of hf h1 hl v2, p1, hp, and_self, if_true, f1]
        cases f with
        | none => simp only [f4 rfl]
        | some q =>
          obtain ⟨j, y⟩ := q
          obtain ⟨q1, q2⟩ := f3 j y rfl
          have hany : ((entE kk es)[j]?).any (fun e => decide (Instr.sameBits 10000 e.1 kv = true)) = true := by
            rw [Option.map_eq_some_iff] at q1
            obtain ⟨e, he, hek⟩ := q1
            rw [he, Option.any_some, hek, p2]; rfl
          simp only [hany, if_true, q2]
      · exact k.elim
    · cases h
  · cases h
end Go.AI
end
section
namespace Go.AI
variable {P : Program} {tl : List AV} {t : Env} {H : AHeap} {K : AV → AHeap → Prop}
theorem run_call [BaseC P] {c : Call} {f : FuncId} {args : List AV} {x : Operand} (hc : c.callee = .value x) (hcal : calleeA P c tl = some (f, args)) (k : Run P f args H K) : Ans P (.call c) tl H K := by
  obtain ⟨v, H', h, hk⟩ := k
  refine ⟨v, H', ?_, hk⟩
  unfold stepS stepA plainOper
  simp only [hc, hcal, Option.bind_some, h]
theorem ans_builtin [BaseC P] {b : Builtin} {args : Array Operand} {ats : Array TypeId} {r : ROp} (ht : TR tl t) (h : resBuiltin P b args.toList ats = some r) (k : wpOp P r t H K) : Ans P (.call ⟨.builtin b, args, ats⟩) tl H K := by
  have fin : ∀ {vs : List AV} {v : AV} {H' : AHeap}, evalAll tl args.toList = some vs → builtinA P H b vs ats = some (v, H') → K v H' → Ans P (.call ⟨.builtin b, args, ats⟩) tl H K := by
    intro vs v H' h1 h2 hk
    refine ⟨v, H', ?_, hk⟩
    unfold stepS stepA plainOper
    simp only [opA, h1, Option.bind_some, h2]
  unfold resBuiltin at h
  split at h
  · next x hx =>
    have e0 := resVs_ok ht hx
    split at h
    · next e hu =>
      simp only [Option.some.injEq] at h; subst h
      simp only [wpOp] at k
      split at k
      · next c e1 =>
        obtain ⟨a, sz, n, cap, rfl, hk⟩ := k
        refine fin e0 ?_ hk
        simp only [builtinA, lenA, evRs, e1, hu]
      · exact k.elim
    · next n e hu =>
      simp only [Option.some.injEq] at h; subst h
      simp only [wpOp] at k
      split at k
      · next c e1 =>
        refine fin e0 ?_ k
        simp only [builtinA, lenA, evRs, e1, hu]
      · exact k.elim
    · next hu =>
      simp only [Option.some.injEq] at h; subst h
      simp only [wpOp] at k
      split at k
      · next c e1 =>
        refine fin e0 ?_ k
        simp only [builtinA, lenA, evRs, e1, hu]
      · exact k.elim
    · cases h
  · next x y hx =>
    have e0 := resVs_ok ht hx
    simp only [Option.some.injEq] at h; subst h
    simp only [wpOp] at k
    split at k
    · next kk m k' n e1 e2 =>
      obtain ⟨k0, q⟩ := cond_elim k
      clear k
      obtain rfl := kEq_eq k0
      refine fin e0 ?_ q
      simp only [builtinA, minA, evRs, e1, e2, if_true]
    · exact k.elim
  · next x y z hx =>
    have e0 := resVs_ok ht hx
    simp only [Option.some.injEq] at h; subst h
    simp only [wpOp] at k
    split at k
    · next kk m k' n k'' p e1 e2 e3 =>
      obtain ⟨k0, q⟩ := cond_elim k
      clear k
      simp only [Bool.and_eq_true] at k0
      obtain rfl := kEq_eq k0.1
      obtain rfl := kEq_eq k0.2
      refine fin e0 ?_ q
      simp only [builtinA, minA, evRs, e1, e2, e3, and_self, if_true]
    · exact k.elim
  · next x y hx =>
    have e0 := resVs_ok ht hx
    simp only [Option.some.injEq] at h; subst h
    simp only [wpOp] at k
    split at k
    · next kk m k' n e1 e2 =>
      obtain ⟨k0, q⟩ := cond_elim k
      clear k
      obtain rfl := kEq_eq k0
      refine fin e0 ?_ q
      simp only [builtinA, maxA, evRs, e1, e2, if_true]
    · exact k.elim
  · next s x hx =>
    have e0 := resVs_ok ht hx
    split at h
    · next e xt hu1 hu2 =>
      split at h
      · next i hi =>
        split at h
        · cases h
        · next hc =>
          simp only [Option.some.injEq] at h; subst h
          simp only [wpOp] at k
          split at k
          · next s x e1 e2 =>
            obtain ⟨n, cs, s', H', g1, g2, hk⟩ := k
            refine fin e0 ?_ hk
            simp only [builtinA, appA, evRs, e1, e2, hu1, hu2, hi]
            unfold cellsT at hc
            rw [if_neg hc]
            simp only [g1, g2, Option.bind_some]
          · exact k.elim
      · cases h
    · cases h
  · next d x hx =>
    have e0 := resVs_ok ht hx
    split at h
    · next e hu =>
      rw [Option.map_eq_some_iff] at h
      obtain ⟨size, hs, rfl⟩ := h
      simp only [wpOp] at k
      split at k
      · next d x e1 e2 =>
        obtain ⟨n, cs, a, dsz, len, cap, g1, rfl, hcase⟩ := k
        rcases hcase with ⟨h0, hk⟩ | ⟨h0, p, H', rfl, g2, g3, g4, hk⟩
        · refine fin e0 ?_ hk
          simp only [builtinA, copyA, evRs, e1, e2, hu, hs, g1, Option.bind_some, h0, if_true]
        · refine fin e0 ?_ hk
          subst g2
          simp only [builtinA, copyA, evRs, e1, e2, hu, hs, g1, Option.bind_some, if_neg h0, true_and, ne_eq, g3, not_false_eq_true, if_true, g4]
      · exact k.elim
    · cases h
  · next d hx =>
    have e0 := resVs_ok ht hx
    split at h
    · next e hu =>
      rw [Option.map_eq_some_iff] at h
      obtain ⟨zero, hs, rfl⟩ := h
      simp only [wpOp] at k
      split at k
      · next d e1 =>
        obtain ⟨a, dsz, len, cap, rfl, hcase⟩ := k
        rcases hcase with ⟨h0, hk⟩ | ⟨h0, p, H', rfl, g2, g3, g4, hk⟩
        · refine fin e0 ?_ hk
          simp only [builtinA, clearA, evRs, e1, hu, h0, if_true]
        · refine fin e0 ?_ hk
          simp only [builtinA, clearA, evRs, e1, hu, if_neg h0, zero_cells hs, Option.bind_some, g2, true_and, ne_eq, g3, not_false_eq_true, if_true, g4]
      · exact k.elim
    · cases h
  · cases h
theorem wpOp_sound [BaseC P] {eqs : List (TypeId × Nat)} (hf : Facts P eqs) (ht : TR tl t) {op : Op} {r : ROp} (h : resOp P eqs op = some r) (k : wpOp P r t H K) : Ans P op tl H K := by
  cases op with
  | move x =>
    simp only [resOp, Option.map_eq_some_iff] at h
    obtain ⟨a, h1, rfl⟩ := h
    exact ans_of (by simp) (by simp only [plainOper, opA, resV_ok ht h1, Option.bind_some]) k
  | assign x =>
    simp only [resOp, Option.map_eq_some_iff] at h
    obtain ⟨a, h1, rfl⟩ := h
    exact ans_of (by simp) (by simp only [plainOper, opA, resV_ok ht h1, Option.bind_some]) k
  | pick c a b =>
    simp only [resOp] at h
    split at h
    · next rc ra rb h1 h2 h3 =>
      simp only [Option.some.injEq] at h; subst h
      simp only [wpOp] at k
      split at k
      · next v e1 =>
        rcases CondB_elim k with ⟨rfl, q⟩ | ⟨rfl, q⟩
        · exact ans_of (by simp) (by simp only [plainOper, opA, resV_ok ht h1, e1, resV_ok ht h2, resV_ok ht h3, if_true]) q
        · exact ans_of (by simp) (by simp only [plainOper, opA, resV_ok ht h1, e1, resV_ok ht h2, resV_ok ht h3, Bool.false_eq_true, if_false]) q
      · exact k.elim
    · cases h
  | alloc e =>
    simp only [resOp, Option.map_eq_some_iff] at h
    obtain ⟨cs, h1, rfl⟩ := h
    exact ans_of (by simp) (by simp only [plainOper, opA, zero_cells h1]) k
  | box e x =>
    simp only [resOp, Option.map_eq_some_iff] at h
    obtain ⟨a, h1, rfl⟩ := h
    simp only [wpOp] at k
    split at k
    · next cs hc =>
      rw [cellsR_eq] at hc
      exact ans_of (by simp) (by simp only [plainOper, opA, resV_ok ht h1, Option.bind_some, hc]) k
    · exact k.elim
  | build e ps => exact ans_build ht h k
  | buildSlice e len ps => exact ans_buildSlice ht h k
  | load ty x => exact ans_load ht h k
  | store ty x v => exact ans_store ht h k
  | nilCheck x =>
    simp only [resOp, Option.map_eq_some_iff] at h
    obtain ⟨a, h1, rfl⟩ := h
    simp only [wpOp] at k
    split at k
    · next c e1 =>
      obtain ⟨hn, hk⟩ := k
      refine ans_of (by simp) ?_ hk
      simp only [plainOper, opA, resV_ok ht h1, e1]
      unfold nonNil at hn
      split at hn <;> first | cases hn | skip
      next n1 n2 n3 =>
      split
      · next h => cases h; exact absurd rfl n1
      · next h => cases h; exact absurd rfl n2
      · next h => cases h; exact absurd rfl n3
      · next h => cases h; rfl
      · next h => cases h
    · next hno =>
      refine ans_of (by simp) ?_ k
      simp only [plainOper, opA, resV_ok ht h1]
      split
      · next h => simp only [Option.some.injEq] at h; exact absurd h (hno _)
      · next h => simp only [Option.some.injEq] at h; exact absurd h (hno _)
      · next h => simp only [Option.some.injEq] at h; exact absurd h (hno _)
      · next h => cases h; rfl
      · next h => cases h
  | binOp op ty x y ty' => exact ans_bin ht hf h k
  | unOp op ty x =>
    cases op with
    | not =>
      simp only [resOp, Option.map_eq_some_iff] at h
      obtain ⟨a, h1, rfl⟩ := h
      simp only [wpOp] at k
      split at k
      · next b e1 => exact ans_of (by simp) (by simp only [plainOper, opA, resV_ok ht h1, e1]) k
      · exact k.elim
    | neg =>
      simp only [resOp, Option.map_eq_some_iff] at h
      obtain ⟨a, h1, rfl⟩ := h
      simp only [wpOp] at k
      split at k
      · next kk n e1 =>
        refine ans_of (by simp) ?_ k
        have hc : pureRun P (Op.unary .neg (.int kk n)) = some (.int kk (kk.wrap (-n))) := by
          rw [← Int.zero_sub]; rfl
        simp only [plainOper, opA, resV_ok ht h1, e1, Option.bind_some, AV.val, AC.val, hc, ofVal, ofCell, Option.map_some]
      · exact k.elim
    | _ => simp [resOp] at h
  | convert s d x =>
    simp only [resOp] at h
    split at h
    · next ks kd h1 h2 =>
      rw [Option.map_eq_some_iff] at h
      obtain ⟨a, h3, rfl⟩ := h
      simp only [wpOp] at k
      split at k
      · next kk n e1 =>
        refine ans_of (by simp) ?_ k
        have hc : pureRun P (convert s d (.int kk n)) = some (.int kd (kd.wrap n)) := by
          unfold convert
          rw [pureRun_bind (pure_under h1), pureRun_bind (pure_under h2)]
          rfl
        simp only [plainOper, opA, resV_ok ht h3, e1, Option.bind_some, AV.val, AC.val, hc, ofVal, ofCell, Option.map_some]
      · exact k.elim
    · cases h
  | makeFunc fn first caps =>
    cases fn with
    | func f =>
      simp only [resOp] at h
      split at h
      · next a b h1 h2 =>
        simp only [Option.some.injEq] at h; subst h
        simp only [wpOp] at k
        split at k
        · next ca cb e1 e2 =>
          obtain ⟨asx, bs, g1, g2, hk⟩ := k
          refine ans_of (by simp) ?_ hk
          simp only [plainOper, opA, resVs_ok ht h1, resVs_ok ht h2, Option.bind_some, onesC_ok e1, onesC_ok e2, ptrs_ok g1, ptrs_ok g2]
        · exact k.elim
      · cases h
    | _ => simp [resOp] at h
  | makeMap ty r =>
    cases r with
    | none =>
      simp only [resOp] at h
      split at h
      · next kt et h1 =>
        simp only [Option.some.injEq] at h; subst h
        exact ans_of (by simp) (by simp only [plainOper, opA, h1]) k
      · cases h
    | some x => simp [resOp] at h
  | makeSlice ty l c =>
    simp only [resOp] at h
    split at h
    · next e h0 =>
      split at h
      · next i zero rl rc h1 h2 h3 h4 =>
        split at h
        · next hi =>
          simp only [Option.some.injEq] at h; subst h
          simp only [wpOp] at k
          split at k
          · next k1 n1 k2 n2 e1 e2 =>
            obtain ⟨⟨g1, g2, g3, g4⟩, hk⟩ := k
            refine ans_of (by simp) ?_ hk
            have hcond : (0 ≤ n1 ∧ n1 ≤ n2 ∧ n2 * (i.bytes : Int) ≤ (maxBytes : Int) ∧ n2 ≤ 4611686018427387904 ∧ i.size ≠ 0 ∧ zero.length = i.size) := ⟨g1, g2, g3, g4, hi.1, hi.2⟩
            simp only [plainOper, opA, h0, h1, zero_cells h2, resV_ok ht h3, e1, resV_ok ht h4, e2, Option.bind_some, intA, if_pos hcond]
          · exact k.elim
        · cases h
      · cases h
    · cases h
  | slice ty x lo hi mx => exact ans_slice ht h k
  | fieldAddr ty x f => exact ans_addr ht h k
  | field ty x f => exact ans_field ht h k
  | indexAddr ty x i => exact ans_indexAddr ht h k
  | index ty x i => exact ans_index ht h k
  | lookup ty x i ok => exact ans_lookup ht hf h k
  | mapUpdate ty m x y => exact ans_mapUpdate ht hf h k
  | extract x i =>
    simp only [resOp, Option.map_eq_some_iff] at h
    obtain ⟨a, h1, rfl⟩ := h
    simp only [wpOp] at k
    split at k
    · next vs e1 =>
      split at k
      · next p hp => exact ans_of (by simp) (by simp only [plainOper, opA, resV_ok ht h1, e1, hp, Option.bind_some]) k
      · exact k.elim
    · exact k.elim
  | call c =>
    obtain ⟨callee, args, ats⟩ := c
    cases callee with
    | value f =>
      have dyn : ∀ {rf : RV} {ras : List RV}, resV f = some rf → resVs args.toList = some ras → wpOp P (.callv rf ras) t H K → Ans P (.call ⟨.value f, args, ats⟩) tl H K := by
        intro rf ras h1 h2 k
        simp only [wpOp] at k
        split at k
        · next c e1 =>
          rcases k with ⟨g, first, caps, rfl, hg, hk⟩ | ⟨l, rfl, hk⟩
          · refine run_call (x := f) rfl ?_ hk
            simp only [calleeA, resV_ok ht h1, e1, resVs_ok ht h2, if_pos hg]
          · refine run_call (x := f) rfl ?_ hk
            simp only [calleeA, resV_ok ht h1, e1, resVs_ok ht h2]
        · exact k.elim
      cases f with
      | func f =>
        simp only [resOp] at h
        split at h
        · next hlt =>
          rw [Option.map_eq_some_iff] at h
          obtain ⟨asx, h2, rfl⟩ := h
          refine run_call (x := .func f) rfl ?_ k
          simp only [calleeA, evalA, resVs_ok ht h2, if_pos hlt, List.map_nil, List.nil_append, List.append_nil]
        · cases h
      | tmp n =>
        simp only [resOp] at h
        split at h
        · next h1 h2 => simp only [Option.some.injEq] at h; subst h; exact dyn h1 h2 k
        · cases h
      | const v =>
        simp only [resOp] at h
        split at h
        · next h1 h2 => simp only [Option.some.injEq] at h; subst h; exact dyn h1 h2 k
        · cases h
      | global g => simp [resOp, resV] at h
    | invoke x m => simp [resOp] at h
    | builtin b =>
      simp only [resOp] at h
      exact ans_builtin ht h k
  | _ => simp [resOp] at h
end Go.AI
end
section
namespace Go.AI
variable {P : Program} {eqs : List (TypeId × Nat)} {N : Nat}
theorem wpG_elim {c : Nat} {w : Bool} {t : Env} {A B : Env → Prop} (h : wpG c w t A B) :
    ((match t c with | .one (.bool b) => b == w | _ => false) = true ∧ A t) ∨ ((match t c with | .one (.bool b) => b == w | _ => false) = false ∧ B t) := by
  unfold wpG at h
  split at h
  · next b hb =>
    try rw [hb]
    rcases CondB_elim h with ⟨rfl, q⟩ | ⟨rfl, q⟩
    · rw [upd_self hb] at q
      cases w with
      | true => exact .inl ⟨rfl, q⟩
      | false => exact .inr ⟨rfl, q⟩
    · rw [upd_self hb] at q
      cases w with
      | true => exact .inr ⟨rfl, q⟩
      | false => exact .inl ⟨rfl, q⟩
  · next hno =>
    refine .inr ⟨?_, h⟩
    first
      | rfl
      | (split
         · next b hb => exact absurd hb (hno b)
         · rfl)
theorem wanted_env {tl : List AV} {t : Env} (ht : TR tl t) (d : Nat) (w : Bool) : wantedS tl (some (some d, w)) = (match t d with | .one (.bool b) => b == w | _ => false) := by
  have := ht d
  simp only [wantedS, Option.bind_some]
  cases hx : tl[d]? with
  | none => rw [hx] at this; rw [← this]; rfl
  | some v =>
    rw [hx] at this; simp only [Option.getD_some] at this; rw [← this]
    cases v with
    | one c => cases c <;> rfl
    | _ => rfl
theorem wpO_step [BaseC P] (hf : Facts P eqs) {o : SOp} {r : RO} {tl : List AV} {t : Env} {H : AHeap} (ht : TR tl t) (hl : tl.length = N) (hr : resO P eqs N o = some r) {K : Env → Env → AHeap → Prop}
    (k : wpO P r t H K) :
    ∃ tl' t' H', TR tl' t' ∧ tl'.length = N ∧ K t t' H' ∧
      ((wantedS tl o.guard = true ∧ ∃ v, stepS P (callE P) o.op tl H = some (v, H') ∧ tl' = putA tl o.dst v) ∨ (wantedS tl o.guard = false ∧ tl' = putA tl o.dst (.tup []) ∧ H' = H)) := by
  obtain ⟨dst, op, guard⟩ := o
  unfold resO at hr
  split at hr
  · next rop d h1 h2 h3 =>
    split at hr
    · next hd =>
      simp only [Option.some.injEq] at hr; subst hr
      simp only at h1 h2 h3
      subst h2 h3
      obtain ⟨v, H', e, q⟩ := wpOp_sound hf ht h1 k
      exact ⟨tl.set d v, upd t d v, H', ht.set (by rw [hl]; exact hd) v, by simp [hl], q, .inl ⟨rfl, v, e, rfl⟩⟩
    · cases hr
  · next rop h1 h2 h3 =>
    simp only [Option.some.injEq] at hr; subst hr
    simp only at h1 h2 h3
    subst h2 h3
    obtain ⟨v, H', e, q⟩ := wpOp_sound hf ht h1 k
    exact ⟨tl, t, H', ht, hl, q, .inl ⟨rfl, v, e, rfl⟩⟩
  · next rop d c w h1 h2 h3 =>
    split at hr
    · next hd =>
      simp only [Option.some.injEq] at hr; subst hr
      simp only at h1 h2 h3
      subst h2 h3
      have hw := wanted_env ht c w
      simp only [wpO] at k
      rcases wpG_elim k with ⟨g, q⟩ | ⟨g, q⟩
      · obtain ⟨v, H', e, q⟩ := wpOp_sound hf ht h1 q
        exact ⟨tl.set d v, upd t d v, H', ht.set (by rw [hl]; exact hd) v, by simp [hl], q, .inl ⟨by rw [hw]; exact g, v, e, rfl⟩⟩
      · exact ⟨tl.set d (.tup []), upd t d (.tup []), H, ht.set (by rw [hl]; exact hd) _, by simp [hl], q, .inr ⟨by rw [hw]; exact g, rfl, rfl⟩⟩
    · cases hr
  · next rop c w h1 h2 h3 =>
    simp only [Option.some.injEq] at hr; subst hr
    simp only at h1 h2 h3
    subst h2 h3
    have hw := wanted_env ht c w
    simp only [wpO] at k
    rcases wpG_elim k with ⟨g, q⟩ | ⟨g, q⟩
    · obtain ⟨v, H', e, q⟩ := wpOp_sound hf ht h1 q
      exact ⟨tl, t, H', ht, hl, q, .inl ⟨by rw [hw]; exact g, v, e, rfl⟩⟩
    · exact ⟨tl, t, H, ht, hl, q, .inr ⟨by rw [hw]; exact g, rfl, rfl⟩⟩
  · cases hr
theorem wpOs_sound [BaseC P] (hf : Facts P eqs) : ∀ {l : List SOp} {rl : List RO} {tl : List AV} {t : Env} {H : AHeap} {K : Env → AHeap → Prop}, TR tl t → tl.length = N → resOs P eqs N l = some rl → wpOs P rl t H K →
    ∃ tl' t' H', opsS P (callE P) l tl H = some (tl', H') ∧ TR tl' t' ∧ tl'.length = N ∧ K t' H'
  | [], rl, tl, t, H, K, ht, hl, hr, k => by
    simp only [resOs, Option.some.injEq] at hr; subst hr
    exact ⟨tl, t, H, rfl, ht, hl, k⟩
  | o :: l, rl, tl, t, H, K, ht, hl, hr, k => by
    simp only [resOs] at hr
    split at hr
    · next r rs h1 h2 =>
      simp only [Option.some.injEq] at hr; subst hr
      simp only [wpOs] at k
      obtain ⟨tl1, t1, H1, a1, a2, a3, a4⟩ := wpO_step hf ht hl h1 k
      obtain ⟨tl', t', H', b1, b2, b3, b4⟩ := wpOs_sound hf a1 a2 h2 a3
      refine ⟨tl', t', H', ?_, b2, b3, b4⟩
      rw [opsS]
      rcases a4 with ⟨g, v, e1, e2⟩ | ⟨g, e1, e2⟩
      · rw [if_pos g, e1]; simp only; rw [← e2]; exact b1
      · rw [g]; simp only [Bool.false_eq_true, if_false]; rw [← e1, ← e2]; exact b1
    · cases hr
def SRel (s : St) (e : Env × AHeap) : Prop := TR s.1 e.1 ∧ s.2 = e.2
theorem All2.snoc {α β : Type} {R : α → β → Prop} {l : List α} {m : List β} {a : α} {b : β} (h : All2 R l m) (k : R a b) : All2 R (l ++ [a]) (m ++ [b]) := All2.append h ⟨k, trivial⟩
theorem All2.reverse {α β : Type} {R : α → β → Prop} : ∀ {l : List α} {m : List β}, All2 R l m → All2 R l.reverse m.reverse
  | [], [], _ => trivial
  | _ :: _, _ :: _, ⟨h, k⟩ => by rw [List.reverse_cons, List.reverse_cons]; exact (All2.reverse k).snoc h
  | [], _ :: _, h => h.elim
  | _ :: _, [], h => h.elim
theorem wpT_sound [BaseC P] (hf : Facts P eqs) : ∀ {l : List SOp} {rl : List RO} {tl : List AV} {t : Env} {H : AHeap} {K : List (Env × AHeap) → Env → AHeap → Prop} {acc : List (Env × AHeap)} {acc' : List St}, All2 SRel acc' acc →
    TR tl t → tl.length = N → resOs P eqs N l = some rl → wpT P rl t H acc K →
    ∃ sts sts' tl' t' H', statesS P (callE P) l (tl, H) = some sts ∧ All2 SRel (acc'.reverse ++ sts) sts' ∧ sts.getLast? = some (tl', H') ∧ TR tl' t' ∧ tl'.length = N ∧ K sts' t' H'
  | [], rl, tl, t, H, K, acc, acc', ha, ht, hl, hr, k => by
    simp only [resOs, Option.some.injEq] at hr; subst hr
    refine ⟨[(tl, H)], ((t, H) :: acc).reverse, tl, t, H, rfl, ?_, rfl, ht, hl, k⟩
    rw [List.reverse_cons]
    exact ha.reverse.snoc ⟨ht, rfl⟩
  | o :: l, rl, tl, t, H, K, acc, acc', ha, ht, hl, hr, k => by
    simp only [resOs] at hr
    split at hr
    · next r rs h1 h2 =>
      simp only [Option.some.injEq] at hr; subst hr
      simp only [wpT] at k
      obtain ⟨tl1, t1, H1, a1, a2, a3, a4⟩ := wpO_step hf ht hl h1 k
      obtain ⟨sts, sts', tl', t', H', b1, b2, b3, b4, b5, b6⟩ := wpT_sound hf (acc' := (tl, H) :: acc') (acc := (t, H) :: acc) ⟨⟨ht, rfl⟩, ha⟩ a1 a2 h2 a3
      refine ⟨(tl, H) :: sts, sts', tl', t', H', ?_, by rw [List.reverse_cons, List.append_assoc] at b2; exact b2, ?_, b4, b5, b6⟩
      · rw [statesS]
        rcases a4 with ⟨g, v, e1, e2⟩ | ⟨g, e1, e2⟩
        · simp only [g, if_true, e1, ← e2, b1, Option.map_some]
        · simp only [g, Bool.false_eq_true, if_false, ← e1, ← e2, b1, Option.map_some]
      · cases sts with
        | nil => cases b3
        | cons s r => rw [List.getLast?_cons_cons]; exact b3
    · cases hr
theorem load_same {ty : TypeId} {x : Operand} {agg : Bool} {tys : List CT} {rx : RV} {tl : List AV} {t : Env} {H H' : AHeap} {a : APtr} (ht : TR tl t) (h : resOp P eqs (.load ty x) = some (.ld agg tys rx)) (he : evR t rx = .one (.ptr (some a)))
    (hl : H'.load a tys.length = H.load a tys.length) : (opA P (plainOper (.load ty x)) tl H').map (·.1) = (opA P (plainOper (.load ty x)) tl H).map (·.1) ∧ touchA (plainOper (.load ty x)) tl = some a.1 := by
  simp only [resOp] at h
  split at h
  · next rx' n tys' h1 h2 h3 h4 =>
    split at h
    · next hn =>
      simp only [Option.some.injEq, ROp.ld.injEq] at h
      obtain ⟨_, rfl, rfl⟩ := h
      subst hn
      refine ⟨?_, ?_⟩
      · simp only [plainOper, opA, resV_ok ht h1, he, h2, h3, hl]
        cases H.load a tys'.length <;> rfl
      · simp only [plainOper, touchA, resV_ok ht h1, he]
    · cases h
  · next rx' n tys' h1 h2 h3 h4 =>
    split at h
    · next hn =>
      simp only [Option.some.injEq, ROp.ld.injEq] at h
      obtain ⟨_, rfl, rfl⟩ := h
      rw [hn] at hl
      refine ⟨?_, ?_⟩
      · simp only [plainOper, opA, resV_ok ht h1, he, h2, h3, hl]
        split <;> rfl
      · simp only [plainOper, touchA, resV_ok ht h1, he]
    · cases h
  · cases h
theorem load_touch [BaseC P] {ty : TypeId} {x : Operand} {agg : Bool} {tys : List CT} {rx : RV} {tl : List AV} {t : Env} {a : APtr} (ht : TR tl t) (h : resOp P eqs (.load ty x) = some (.ld agg tys rx)) (he : evR t rx = .one (.ptr (some a))) : touchA (plainOper (.load ty x)) tl = some a.1 :=
  (load_same (H := .empty) (H' := .empty) ht h he rfl).2
theorem load_form {ty : TypeId} {x : Operand} {r : ROp} (h : resOp P eqs (.load ty x) = some r) : ∃ agg tys rx, r = .ld agg tys rx := by
  simp only [resOp] at h
  split at h
  · split at h
    · simp only [Option.some.injEq] at h; exact ⟨_, _, _, h.symm⟩
    · cases h
  · split at h
    · simp only [Option.some.injEq] at h; exact ⟨_, _, _, h.symm⟩
    · cases h
  · cases h
theorem resOs_get : ∀ {l : List SOp} {rl : List RO} {i : Nat} {o : SOp}, resOs P eqs N l = some rl → l[i]? = some o → ∃ r, rl[i]? = some r ∧ resO P eqs N o = some r
  | [], _, _, _, _, h => by simp at h
  | o :: l, rl, i, o', hr, h => by
    simp only [resOs] at hr
    split at hr
    · next r rs h1 h2 =>
      simp only [Option.some.injEq] at hr; subst hr
      cases i with
      | zero => simp only [List.getElem?_cons_zero, Option.some.injEq] at h; subst h; exact ⟨r, rfl, h1⟩
      | succ i => simp only [List.getElem?_cons_succ] at h ⊢; exact resOs_get h2 h
    · cases hr
theorem resO_op {o : SOp} {r : RO} (h : resO P eqs N o = some r) : resOp P eqs o.op = some r.op ∧ ∀ {tl : List AV} {t : Env}, TR tl t → r.on t = wantedS tl o.guard := by
  obtain ⟨dst, op, guard⟩ := o
  unfold resO at h
  split at h
  · next h1 h2 h3 =>
    split at h
    · simp only [Option.some.injEq] at h; subst h; exact ⟨h1, fun _ => by simp only at h3; subst h3; rfl⟩
    · cases h
  · next h1 h2 h3 => simp only [Option.some.injEq] at h; subst h; exact ⟨h1, fun _ => by simp only at h3; subst h3; rfl⟩
  · next h1 h2 h3 =>
    split at h
    · simp only [Option.some.injEq] at h; subst h; exact ⟨h1, fun ht => by simp only at h3; subst h3; rw [wanted_env ht]; rfl⟩
    · cases h
  · next h1 h2 h3 => simp only [Option.some.injEq] at h; subst h; exact ⟨h1, fun ht => by simp only at h3; subst h3; rw [wanted_env ht]; rfl⟩
  · cases h
theorem len_same {args : Array Operand} {ats : Array TypeId} {r : ROp} {tl : List AV} {H H' : AHeap} (h : resOp P eqs (.call ⟨.builtin .len, args, ats⟩) = some r) :
    (opA P (plainOper (.call ⟨.builtin .len, args, ats⟩)) tl H').map (·.1) = (opA P (plainOper (.call ⟨.builtin .len, args, ats⟩)) tl H).map (·.1) := by
  have key : ∀ vs : List AV, (∀ k v, (ats[0]?).bind P.underlying ≠ some (.map k v)) → (lenA P H' vs ats).map (·.1) = (lenA P H vs ats).map (·.1) := by
    intro vs hn
    unfold lenA
    split <;> first | rfl | skip
    · next hu => exact absurd hu (hn _ _)
  simp only [resOp, resBuiltin] at h
  have hn : ∀ k v, (ats[0]?).bind P.underlying ≠ some (.map k v) := by
    intro k v hu
    split at h
    · rw [hu] at h; simp at h
    all_goals first | (next h1 _ => cases h1; done) | (next h1 => cases h1; done) | cases h
  simp only [plainOper, opA]
  cases evalAll tl args.toList with
  | none => rfl
  | some vs => exact key vs hn
theorem pair_ok [BaseC P] {l : List SOp} {rl : List RO} {sts : List St} {sts' : List (Env × AHeap)} (hr : resOs P eqs N l = some rl) (ha : All2 SRel sts sts') {p : Nat × Nat} (hp : (l[p.1]?).any (fun o => isLoad o.op) = true) (k : pairR rl sts' p) : pairS P l sts p = true := by
  unfold pairR at k
  split at k
  case h_2 => exact k.elim
  next r ei ej ek h1 h2 h3 h4 =>
  cases ho : l[p.1]? with
  | none => rw [ho] at hp; cases hp
  | some o =>
    rw [ho] at hp
    obtain ⟨r', g1, g2⟩ := resOs_get hr ho
    rw [h1] at g1
    simp only [Option.some.injEq] at g1; subst g1
    obtain ⟨g3, g4⟩ := resO_op g2
    obtain ⟨si, s1, s2⟩ := ha.get' h2
    obtain ⟨sj, s3, s4⟩ := ha.get' h3
    obtain ⟨sk, s5, s6⟩ := ha.get' h4
    unfold pairS
    simp only [ho, s1, s3, s5]
    rw [← g4 s2.1]
    cases hon : r.on ei.1 with
    | false => rfl
    | true =>
      rw [hon] at k
      simp only [cond_true] at k
      simp only [Bool.not_true, Bool.false_or]
      obtain ⟨dst, op, guard⟩ := o
      simp only [Option.any_some] at hp
      unfold isLoad at hp
      split at hp
      · next ty x =>
        simp only at g3 ⊢
        obtain ⟨agg, tys, rx, hform⟩ := load_form g3
        rw [hform] at g3 k
        simp only at k
        split at k
        · next c hc =>
          rw [s2.2, s4.2, s6.2]
          cases hb : Nat.blt p.2 p.1 with
          | true =>
            rw [hb] at k
            simp only [cond_true] at k
            obtain ⟨a, rfl, hor⟩ := k
            have hlt : p.2 < p.1 := by rwa [Nat.blt_eq] at hb
            rw [if_pos hlt, load_touch s2.1 g3 hc]
            simp only [Bool.or_eq_true, decide_eq_true_eq]
            rcases hor with h | h
            · exact .inl h
            · exact .inr (load_same s2.1 g3 hc h).1
          | false =>
            rw [hb] at k
            simp only [cond_false] at k
            obtain ⟨a, rfl, h⟩ := k
            have hlt : ¬ p.2 < p.1 := by
              intro h'
              have : Nat.blt p.2 p.1 = true := by rwa [Nat.blt_eq]
              rw [this] at hb; cases hb
            rw [if_neg hlt]
            simp only [decide_eq_true_eq]
            exact (load_same s2.1 g3 hc h).1
        · exact k.elim
      · next args ats =>
        simp only at g3 ⊢
        split
        · split
          · simp only [Bool.or_eq_true, decide_eq_true_eq]
            exact .inr (len_same g3)
          · rfl
        · simp only [decide_eq_true_eq]
          exact len_same g3
      · cases hp
theorem pairs_ok [BaseC P] {l : List SOp} {rl : List RO} {sts : List St} {sts' : List (Env × AHeap)} {K : Prop} (hr : resOs P eqs N l = some rl) (ha : All2 SRel sts sts') : ∀ {ps : List (Nat × Nat)}, ps.all (fun p => (l[p.1]?).any fun o => isLoad o.op) = true → pairsR rl sts' K ps → ps.all (pairS P l sts) = true ∧ K
  | [], _, k => ⟨rfl, k⟩
  | p :: ps, h, ⟨k1, k2⟩ => by
    simp only [List.all_cons, Bool.and_eq_true] at h ⊢
    obtain ⟨q1, q2⟩ := pairs_ok hr ha h.2 k2
    exact ⟨⟨pair_ok hr ha h.1 k1, q1⟩, q2⟩
def Good2 (P : Program) [BaseC P] (c : SC) (N : Nat) (tl : List AV) (H : AHeap) (K : Ex → Env → AHeap → Prop) : Prop :=
  ∃ e tl' t' H', execS P (callE P) c (tl, H) = some (e, (tl', H')) ∧ TR tl' t' ∧ tl'.length = N ∧ K e t' H'
theorem wpC_sound [BaseC P] (hf : Facts P eqs) : ∀ {c : SC} {r : RC} {tl : List AV} {t : Env} {H : AHeap} {K : Ex → Env → AHeap → Prop}, TR tl t → tl.length = N → resC P eqs N c = some r → wpC P r t H K → Good2 P c N tl H K
  | .skip, r, tl, t, H, K, ht, hl, hr, k => by
    simp only [resC, Option.some.injEq] at hr; subst hr
    exact ⟨.normal, tl, t, H, rfl, ht, hl, k⟩
  | .region l, r, tl, t, H, K, ht, hl, hr, k => by
    simp only [resC, Option.map_eq_some_iff] at hr
    obtain ⟨rl, h1, rfl⟩ := hr
    obtain ⟨tl', t', H', e, a1, a2, a3⟩ := wpOs_sound hf ht hl h1 k
    exact ⟨.normal, tl', t', H', by simp only [execS, e, Option.map_some], a1, a2, a3⟩
  | .held l ps, r, tl, t, H, K, ht, hl, hr, k => by
    simp only [resC] at hr
    split at hr
    · next hp =>
      rw [Option.map_eq_some_iff] at hr
      obtain ⟨rl, h1, rfl⟩ := hr
      obtain ⟨sts, sts', tl', t', H', e, b1, b2, b3, b4, b5⟩ := wpT_sound hf (acc := []) (acc' := []) trivial ht hl h1 k
      obtain ⟨q1, q2⟩ := pairs_ok h1 b1 hp b5
      exact ⟨.normal, tl', t', H', by simp only [execS, e]; rw [if_pos (by simpa using q1), b2]; rfl, b3, b4, q2⟩
    · cases hr
  | .seq a b, r, tl, t, H, K, ht, hl, hr, k => by
    simp only [resC] at hr
    split at hr
    · next ra rb h1 h2 =>
      simp only [Option.some.injEq] at hr; subst hr
      obtain ⟨e, tl', t', H', e1, a1, a2, a3⟩ := wpC_sound hf ht hl h1 k
      cases e with
      | normal =>
        obtain ⟨e', tl2, t2, H2, e2, b1, b2, b3⟩ := wpC_sound hf a1 a2 h2 a3
        exact ⟨e', tl2, t2, H2, by simp only [execS, e1, e2], b1, b2, b3⟩
      | exit i => exact ⟨.exit i, tl', t', H', by simp only [execS, e1], a1, a2, a3⟩
      | ret => exact ⟨.ret, tl', t', H', by simp only [execS, e1], a1, a2, a3⟩
    · cases hr
  | .cond x a b, r, tl, t, H, K, ht, hl, hr, k => by
    cases x with
    | tmp c =>
      simp only [resC] at hr
      split at hr
      · next ra rb h1 h2 =>
        simp only [Option.some.injEq] at hr; subst hr
        simp only [wpC] at k
        split at k
        · next v hv =>
          have hev : evalA tl (.tmp c) = some (t c) := by simp only [evalA, ht c]
          rcases CondB_elim k with ⟨rfl, q⟩ | ⟨rfl, q⟩
          · rw [upd_self hv] at q
            obtain ⟨e, tl', t', H', e1, a1, a2, a3⟩ := wpC_sound hf ht hl h1 q
            exact ⟨e, tl', t', H', by simp only [execS, hev, hv, e1], a1, a2, a3⟩
          · rw [upd_self hv] at q
            obtain ⟨e, tl', t', H', e1, a1, a2, a3⟩ := wpC_sound hf ht hl h2 q
            exact ⟨e, tl', t', H', by simp only [execS, hev, hv, e1], a1, a2, a3⟩
        · exact k.elim
      · cases hr
    | _ => simp [resC] at hr
  | .block id b, r, tl, t, H, K, ht, hl, hr, k => by
    simp only [resC, Option.map_eq_some_iff] at hr
    obtain ⟨rb, h1, rfl⟩ := hr
    obtain ⟨e, tl', t', H', e1, a1, a2, a3⟩ := wpC_sound hf ht hl h1 k
    cases e with
    | normal => exact ⟨.normal, tl', t', H', by simp only [execS, e1], a1, a2, a3⟩
    | exit i =>
      unfold kBlk at a3
      simp only at a3
      by_cases hi : i = id
      · subst hi
        rw [Nat.beq_refl] at a3
        exact ⟨.normal, tl', t', H', by simp only [execS, e1, if_true], a1, a2, a3⟩
      · have hb : Nat.beq i id = false := by
          cases hx : Nat.beq i id with
          | false => rfl
          | true => exact absurd (Nat.eq_of_beq_eq_true hx) hi
        rw [hb] at a3
        exact ⟨.exit i, tl', t', H', by simp only [execS, e1, if_neg hi], a1, a2, a3⟩
    | ret => exact ⟨.ret, tl', t', H', by simp only [execS, e1], a1, a2, a3⟩
  | .loop b, r, tl, t, H, K, ht, hl, hr, k => by
    simp only [resC, Option.map_eq_some_iff] at hr
    obtain ⟨rb, h1, rfl⟩ := hr
    simp only [wpC] at k
    have key := k (fun t H => ∀ tl, TR tl t → tl.length = N → ∃ e tl' t' H', iterE (fun s => execS P (callE P) b s) (tl, H) = some (e, (tl', H')) ∧ TR tl' t' ∧ tl'.length = N ∧ K e t' H') (by
      intro t H h tl ht hl
      obtain ⟨e, tl', t', H', e1, a1, a2, a3⟩ := wpC_sound hf ht hl h1 h
      rw [iterE_eq, e1]
      cases e with
      | normal => exact a3 tl' a1 a2
      | exit i => exact ⟨.exit i, tl', t', H', rfl, a1, a2, a3⟩
      | ret => exact ⟨.ret, tl', t', H', rfl, a1, a2, a3⟩)
    obtain ⟨e, tl', t', H', e1, a1, a2, a3⟩ := key tl ht hl
    exact ⟨e, tl', t', H', by simp only [execS, e1], a1, a2, a3⟩
  | .exit i, r, tl, t, H, K, ht, hl, hr, k => by
    simp only [resC, Option.some.injEq] at hr; subst hr
    exact ⟨.exit i, tl, t, H, rfl, ht, hl, k⟩
  | .ret, r, tl, t, H, K, ht, hl, hr, k => by
    simp only [resC, Option.some.injEq] at hr; subst hr
    exact ⟨.ret, tl, t, H, rfl, ht, hl, k⟩
  | .rangeF f ps a b, r, tl, t, H, K, ht, hl, hr, k => by
    simp only [resC, Option.map_eq_some_iff] at hr
    obtain ⟨rf, h1, rfl⟩ := hr
    simp only [wpC] at k
    split at k
    · next c hc =>
      obtain ⟨g, first, caps, rfl, hg, q⟩ := k
      obtain ⟨v, H', hrun, st, pend, T', ps', a', b', e1, e2, e3⟩ := q tl hl ht
      refine ⟨pend, tl, t, _, ?_, ht, hl, e3⟩
      simp only [execS, resV_ok ht h1, hc, if_neg (Nat.not_le.2 hg), hrun, e1, if_neg e2]
    · exact k.elim
  | .bad, r, tl, t, H, K, ht, hl, hr, k => by simp [resC] at hr
inductive RR where
  | tm (t : Nat)
  | cell (a : Nat) (agg : Bool) (tys : List CT)
def resR (P : Program) : List ResultVar → Option (List RR)
  | [] => some []
  | .tmp t :: r => (resR P r).map (.tm t :: ·)
  | .cell a t :: r => match isAggT P t, sizeT P t, tysT P t, resR P r with
    | some g, some n, some tys, some rs => if (g = true ∧ tys.length = n) ∨ (g = false ∧ tys.length = 1) then some (.cell a g tys :: rs) else none
    | _, _, _, _ => none
def wpR : List RR → Env → AHeap → (List (Bool × List AC) → Prop) → Prop
  | [], _, _, K => K []
  | .tm n :: r, t, H, K => match t n with
    | .one c => wpR r t H fun ps => K ((false, [c]) :: ps)
    | .agg cs => wpR r t H fun ps => K ((true, cs) :: ps)
    | .tup _ => False
  | .cell a g tys :: r, t, H, K => match t a with
    | .one p => Ld tys H p (lam tys fun cs => wpR r t H fun ps => K ((g, cs) :: ps))
    | _ => False
def joinR : List (Bool × List AC) → AV
  | [p] => unpart p
  | ps => .tup ps
def kTop (rs : List RR) (K : AV → AHeap → Prop) : Ex → Env → AHeap → Prop := fun e t H => match e with
  | .normal => wpR rs t H fun ps => K (joinR ps) H
  | .exit _ => False
  | .ret => wpR rs t H fun ps => K (joinR ps) H
def wpF (P : Program) [BaseC P] (c : RC) (rs : List RR) (t : Env) (H : AHeap) (K : AV → AHeap → Prop) : Prop := wpC P c t H (kTop rs K)
theorem wpR_sound : ∀ {rv : List ResultVar} {rs : List RR} {tl : List AV} {t : Env} {H : AHeap} {K : List (Bool × List AC) → Prop}, TR tl t → resR P rv = some rs → wpR rs t H K → ∃ ps, resultsA P tl H rv = some ps ∧ K ps
  | [], rs, tl, t, H, K, ht, hr, k => by
    simp only [resR, Option.some.injEq] at hr; subst hr
    exact ⟨[], rfl, k⟩
  | .tmp n :: rv, rs, tl, t, H, K, ht, hr, k => by
    simp only [resR, Option.map_eq_some_iff] at hr
    obtain ⟨rs, h1, rfl⟩ := hr
    simp only [wpR] at k
    have hn := ht n
    split at k
    · next c hc =>
      obtain ⟨ps, e, q⟩ := wpR_sound ht h1 k
      exact ⟨_, by simp only [resultsA, hn, hc, AV.part, e], q⟩
    · next c hc =>
      obtain ⟨ps, e, q⟩ := wpR_sound ht h1 k
      exact ⟨_, by simp only [resultsA, hn, hc, AV.part, e], q⟩
    · exact k.elim
  | .cell a ty :: rv, rs, tl, t, H, K, ht, hr, k => by
    simp only [resR] at hr
    split at hr
    · next g n tys rs' h1 h2 h3 h4 =>
      split at hr
      · next hg =>
        simp only [Option.some.injEq] at hr; subst hr
        simp only [wpR] at k
        have hn := ht a
        split at k
        · next p hp =>
          obtain ⟨ad, xs, rfl, hld, hk⟩ := k
          rw [app_lam] at hk
          obtain ⟨ps, e, q⟩ := wpR_sound ht h4 hk
          rcases hg with ⟨rfl, hlen⟩ | ⟨rfl, hlen⟩
          · rw [hlen] at hld
            exact ⟨_, by simp only [resultsA, hn, hp, h1, h2, e, hld, Option.map_some], q⟩
          · rw [hlen] at hld
            exact ⟨_, by simp only [resultsA, hn, hp, h1, h2, e, hld, Option.map_some], q⟩
        · exact k.elim
      · cases hr
    · cases hr
def envOf (l : List AV) : Env := fun n => l[n]?.getD (.tup [])
theorem run_of [BaseC P] (hf : Facts P eqs) {f : FuncId} {fn : Func} {code : Code} {c : RC} {rs : List RR} {args : List AV} {H : AHeap} {K : AV → AHeap → Prop} (tbl : List (Nat × List (Nat × Nat)))
    (h0 : BaseC.has P f = false) (h1 : P.funcs[f]? = some fn) (h2 : fn.body = some code) (h3 : slimOk tbl code = true) (h4 : resC P eqs fn.ntmps (slim tbl code) = some c) (h5 : resR P fn.results.toList = some rs) (h6 : args.length ≤ fn.ntmps)
    (k : wpF P c rs (envOf args) H K) : Run P f args H K := by
  have ht : TR (args ++ List.replicate (fn.ntmps - args.length) (.tup [])) (envOf args) := by
    intro n
    unfold envOf
    by_cases hn : n < args.length
    · rw [List.getElem?_append_left hn]
    · rw [List.getElem?_append_right (by omega), List.getElem?_replicate, List.getElem?_eq_none (l := args) (by omega)]
      split <;> rfl
  obtain ⟨e, tl', t', H', e1, a1, a2, a3⟩ := wpC_sound hf ht (by simp; omega) h4 k
  have fin : ∀ {ps : List (Bool × List AC)}, resultsA P tl' H' fn.results.toList = some ps → (e = .normal ∨ e = .ret) → callE P f args H = some (joinR ps, H') := by
    intro ps hps he
    refine callE_of tbl h0 h1 h2 h3 ?_
    rw [e1]
    have hj : (match resultsA P tl' H' fn.results.toList with
      | some [p] => some (unpart p, H')
      | some ps => some (.tup ps, H')
      | none => none) = some (joinR ps, H') := by
      rw [hps]
      cases ps with
      | nil => rfl
      | cons p r => cases r with
        | nil => rfl
        | cons _ _ => rfl
    rcases he with rfl | rfl
    · exact hj
    · exact hj
  cases e with
  | normal =>
    obtain ⟨ps, q1, q2⟩ := wpR_sound a1 h5 a3
    exact ⟨_, _, fin q1 (.inl rfl), q2⟩
  | ret =>
    obtain ⟨ps, q1, q2⟩ := wpR_sound a1 h5 a3
    exact ⟨_, _, fin q1 (.inr rfl), q2⟩
  | exit i => exact a3.elim
end Go.AI
end
section
namespace Go.AI
def flat : List (Bool × List CT) → List CT
  | [] => []
  | p :: r => p.2 ++ flat r
def splitP : List (Bool × List CT) → List AC → List (Bool × List AC)
  | [], _ => []
  | p :: r, cs => (p.1, cs.take p.2.length) :: splitP r (cs.drop p.2.length)
def RunT (P : Program) [BaseC P] (rs : List (Bool × List CT)) (g : FuncId) (args : List AV) (H : AHeap) (K : AHeap → Cur (flat rs)) : Prop :=
  Run P g args H fun v H' => ∃ xs : Tup (flat rs), v = joinR (splitP rs (cellsOf (flat rs) xs)) ∧ app (flat rs) (K H') xs
def CVT (P : Program) [BaseC P] (rs : List (Bool × List CT)) (c : AC) (args : List AV) (H : AHeap) (K : AHeap → Cur (flat rs)) : Prop :=
  CV P c args H fun v H' => ∃ xs : Tup (flat rs), v = joinR (splitP rs (cellsOf (flat rs) xs)) ∧ app (flat rs) (K H') xs
def LoopT (σ : Type) (B : (σ → AHeap → Prop) → σ → AHeap → Prop) (s : σ) (H : AHeap) : Prop := ∀ X : σ → AHeap → Prop, (∀ s H, B X s H → X s H) → X s H
theorem Run.mono {P : Program} [BaseC P] {g : FuncId} {args : List AV} {H : AHeap} {K K' : AV → AHeap → Prop} (h : ∀ v H', K v H' → K' v H') : Run P g args H K → Run P g args H K' :=
  fun ⟨v, H', e, k⟩ => ⟨v, H', e, h v H' k⟩
variable {P : Program}
theorem m_ld {tys : List CT} {H : AHeap} {p : AC} {k k' : Cur tys} (h : Imp tys k k') : Ld tys H p k → Ld tys H p k' :=
  fun ⟨a, xs, e, l, q⟩ => ⟨a, xs, e, l, app_imp h q⟩
theorem m_st {H : AHeap} {p : AC} {cs : List AC} {k k' : AHeap → Prop} (h : ∀ H', k H' → k' H') : Sto H p cs k → Sto H p cs k' :=
  fun ⟨a, H', e, l, q⟩ => ⟨a, H', e, l, h _ q⟩
theorem m_new {e : Nat} {cs : List AC} {H : AHeap} {k k' : AC → AHeap → Prop} (h : ∀ p H', k p H' → k' p H') : New e cs H k → New e cs H k' := h _ _
theorem m_news {e sz len : Nat} {cs : List AC} {H : AHeap} {k k' : AC → AHeap → Prop} (h : ∀ p H', k p H' → k' p H') : NewS e sz len cs H k → NewS e sz len cs H k' := h _ _
theorem m_if {b : Bool} {A B A' B' : Prop} (h : A → A') (h' : B → B') : CondB b A B → CondB b A' B' := by
  cases b with
  | true => exact h
  | false => exact h'
theorem m_fa {off : Nat} {p : AC} {k k' : AC → Prop} (h : ∀ q, k q → k' q) : FA off p k → FA off p k' := fun ⟨a, e, q⟩ => ⟨a, e, h _ q⟩
theorem m_ia {sz : Nat} {c : AC} {i : Int} {k k' : AC → Prop} (h : ∀ q, k q → k' q) : IA sz c i k → IA sz c i k' := fun ⟨a, n, cap, e, g, l, q⟩ => ⟨a, n, cap, e, g, l, h _ q⟩
theorem m_len {c : AC} {k k' : Int → Prop} (h : ∀ n, k n → k' n) : LenS c k → LenS c k' := fun ⟨a, s, n, cap, e, q⟩ => ⟨a, s, n, cap, e, h _ q⟩
theorem m_slc {sz : Nat} {c : AC} {lo hi : Option Int} {k k' : AC → Prop} (h : ∀ q, k q → k' q) : Slc sz c lo hi k → Slc sz c lo hi k' := fun ⟨r, e, q⟩ => ⟨r, e, h _ q⟩
theorem m_app {e sz bytes : Nat} {s x : AC} {H : AHeap} {k k' : AC → AHeap → Prop} (h : ∀ p H', k p H' → k' p H') : App e sz bytes s x H k → App e sz bytes s x H k' :=
  fun ⟨n, cs, s', H', e1, e2, q⟩ => ⟨n, cs, s', H', e1, e2, h _ _ q⟩
theorem m_mks {e sz bytes : Nat} {zero : List AC} {len cap : Int} {H : AHeap} {k k' : AC → AHeap → Prop} (h : ∀ p H', k p H' → k' p H') : MkS e sz bytes zero len cap H k → MkS e sz bytes zero len cap H k' := fun ⟨a, b⟩ => ⟨a, h _ _ b⟩
theorem m_fn {f : Nat} {first caps : List AC} {k k' : AC → Prop} (h : ∀ q, k q → k' q) : Fnc f first caps k → Fnc f first caps k' := fun ⟨a, b, e1, e2, q⟩ => ⟨a, b, e1, e2, h _ q⟩
theorem m_call [BaseC P] {rs : List (Bool × List CT)} {g : FuncId} {args : List AV} {H : AHeap} {k : AHeap → Cur (flat rs)} {K' : AV → AHeap → Prop} (h : ∀ H', Imp (flat rs) (k H') (lam (flat rs) fun cs => K' (joinR (splitP rs cs)) H')) :
    RunT P rs g args H k → Run P g args H K' := Run.mono fun v H' ⟨xs, e, q⟩ => by
  have := app_imp (h H') q
  rw [app_lam] at this
  rw [e]; exact this
theorem m_callv [BaseC P] {rs : List (Bool × List CT)} {c : AC} {args : List AV} {H : AHeap} {k : AHeap → Cur (flat rs)} {K' : AV → AHeap → Prop} (h : ∀ H', Imp (flat rs) (k H') (lam (flat rs) fun cs => K' (joinR (splitP rs cs)) H')) :
    CVT P rs c args H k → CV P c args H K' := fun k => k.elim (fun ⟨g, first, caps, e1, e2, e3⟩ => .inl ⟨g, first, caps, e1, e2, m_call h e3⟩) fun ⟨l, e1, e3⟩ => .inr ⟨l, e1, m_call h e3⟩
theorem m_loop [BaseC P] {σ : Type} {B : (σ → AHeap → Prop) → σ → AHeap → Prop} {s : σ} {H : AHeap} {b : RC} {t : Env} {K : Ex → Env → AHeap → Prop} (R : σ → Env → Prop) (hR : R s t)
    (h : ∀ (X : Env → AHeap → Prop) (Y : σ → AHeap → Prop), (∀ s t H, R s t → Y s H → X t H) → ∀ s t H, R s t → B Y s H → wpC P b t H (kSeq X K)) : LoopT σ B s H → wpC P (.loop b) t H K := by
  intro hl X hX
  exact hl (fun s H => ∀ t, R s t → X t H) (fun s H hB t hr => hX t H (h X _ (fun s t H hr hy => hy t hr) s t H hr hB)) t hR
theorem RunT.imp [BaseC P] {rs : List (Bool × List CT)} {g : FuncId} {args : List AV} {H : AHeap} {k k' : AHeap → Cur (flat rs)} (h : ∀ H', Imp (flat rs) (k H') (k' H')) : RunT P rs g args H k → RunT P rs g args H k' :=
  Run.mono fun _ H' ⟨xs, e, q⟩ => ⟨xs, e, app_imp (h H') q⟩
theorem CVT.mk [BaseC P] {rs : List (Bool × List CT)} {g : Nat} {first caps : List APtr} {args : List AV} {H : AHeap} {k : AHeap → Cur (flat rs)} (hg : g < P.funcs.size)
    (h : RunT P rs g (first.map (fun a => .one (.ptr (some a))) ++ args ++ caps.map (fun a => .one (.ptr (some a)))) H k) : CVT P rs (.fn g first caps) args H k := .inl ⟨g, first, caps, rfl, hg, h⟩
theorem CVT.yield [BaseC P] {rs : List (Bool × List CT)} {l : Nat} {args : List AV} {H : AHeap} {k : AHeap → Cur (flat rs)} (h : RunT P rs (P.funcs.size + l) args H k) : CVT P rs (.yield l) args H k := .inr ⟨l, rfl, h⟩
theorem LoopT.rule {σ : Type} {B : (σ → AHeap → Prop) → σ → AHeap → Prop} {s : σ} {H : AHeap} (I : Nat → σ → AHeap → Prop) (n : Nat) (h0 : I n s H)
    (hs : ∀ n s H (back : σ → AHeap → Prop), I n s H → (∀ m s' H', m < n → I m s' H' → back s' H') → B back s H) : LoopT σ B s H := by
  intro X hX
  induction n using Nat.strongRecOn generalizing s H with
  | _ n ih => exact hX s H (hs n s H X h0 fun m s' H' hm hi => ih m hm hi)
theorem Ld.mk {tys : List CT} {H : AHeap} {a : APtr} {k : Cur tys} (xs : Tup tys) (h : H.load a tys.length = some (cellsOf tys xs)) (q : app tys k xs) : Ld tys H (.ptr (some a)) k := ⟨a, xs, rfl, h, q⟩
theorem Ld.i {kk : IntKind} {H : AHeap} {a : APtr} {k : Int → Prop} {n : Int} (h : H.load a 1 = some [.int kk n]) (q : k n) : Ld [.int kk] H (.ptr (some a)) k := ⟨a, (n, ()), rfl, h, q⟩
theorem Ld.b {H : AHeap} {a : APtr} {k : Bool → Prop} {n : Bool} (h : H.load a 1 = some [.bool n]) (q : k n) : Ld [.bool] H (.ptr (some a)) k := ⟨a, (n, ()), rfl, h, q⟩
theorem Ld.c {H : AHeap} {a : APtr} {k : AC → Prop} {n : AC} (h : H.load a 1 = some [n]) (q : k n) : Ld [.ac] H (.ptr (some a)) k := ⟨a, (n, ()), rfl, h, q⟩
theorem Sto.mk {H H' : AHeap} {a : APtr} {cs : List AC} {k : AHeap → Prop} (h : H.store a cs = some H') (q : k H') : Sto H (.ptr (some a)) cs k := ⟨a, H', rfl, h, q⟩
theorem New.mk {e : Nat} {cs : List AC} {H : AHeap} {k : AC → AHeap → Prop} (h : k (.ptr (some (H.size, 0))) (H.newRow e (cs.map some))) : New e cs H k := h
theorem NewS.mk {e sz len : Nat} {cs : List AC} {H : AHeap} {k : AC → AHeap → Prop} (h : k (.sl (some (H.size, 0)) sz len (some len)) (H.newRow e (cs.map some))) : NewS e sz len cs H k := h
theorem NewM.mk {H : AHeap} {k : AC → AHeap → Prop} (h : k (.map (some H.size)) (H.push (.map []))) : NewM H k := h
theorem CondB.mk {b : Bool} {A B : Prop} (h : b = true → A) (h' : b = false → B) : CondB b A B := by
  cases b with
  | true => exact h rfl
  | false => exact h' rfl
theorem CondB.dec {p : Prop} [Decidable p] {A B : Prop} (h : p → A) (h' : ¬ p → B) : CondB (decide p) A B :=
  CondB.mk (fun e => h (of_decide_eq_true e)) (fun e => h' (of_decide_eq_false e))
theorem CondB.eq {x y : Int} {A B : Prop} (h : x = y → A) (h' : x ≠ y → B) : CondB (x == y) A B :=
  CondB.mk (fun e => h (by simpa using e)) (fun e => h' (by simpa using e))
theorem CondB.ne {x y : Int} {A B : Prop} (h : x ≠ y → A) (h' : x = y → B) : CondB (x != y) A B :=
  CondB.mk (fun e => h (by simpa using e)) (fun e => h' (by simpa using e))
theorem CondB.pos {b : Bool} {A B : Prop} (e : b = true) (h : A) : CondB b A B := by subst e; exact h
theorem CondB.neg {b : Bool} {A B : Prop} (e : b = false) (h : B) : CondB b A B := by subst e; exact h
theorem NN.ptr {a : APtr} {k : Prop} (h : k) : NN (.ptr (some a)) k := ⟨rfl, h⟩
theorem NN.fn {f : Nat} {a b : List APtr} {k : Prop} (h : k) : NN (.fn f a b) k := ⟨rfl, h⟩
theorem FA.mk {off b o : Nat} {k : AC → Prop} (h : k (.ptr (some (b, o + off)))) : FA off (.ptr (some (b, o))) k := ⟨(b, o), rfl, h⟩
theorem IA.mk {sz b o n : Nat} {cap : Option Nat} {i : Int} {k : AC → Prop} (h0 : 0 ≤ i) (h1 : i < n) (h : k (.ptr (some (b, o + i.toNat * sz)))) : IA sz (.sl (some (b, o)) sz n cap) i k := ⟨(b, o), n, cap, rfl, h0, h1, h⟩
theorem LenS.mk {a : Option APtr} {sz n : Nat} {cap : Option Nat} {k : Int → Prop} (h : k (n : Int)) : LenS (.sl a sz n cap) k := ⟨a, sz, n, cap, rfl, h⟩
theorem Slc.mk {sz : Nat} {c r : AC} {lo hi : Option Int} {k : AC → Prop} (e : sliceA sz c lo hi = some r) (h : k r) : Slc sz c lo hi k := ⟨r, e, h⟩
theorem App.mk {e sz bytes n : Nat} {s x s' : AC} {cs : List AC} {H H' : AHeap} {k : AC → AHeap → Prop} (h1 : srcA H sz x = some (n, cs)) (h2 : appendA H sz bytes e s n cs = some (s', H')) (h : k s' H') : App e sz bytes s x H k := ⟨n, cs, s', H', h1, h2, h⟩
theorem Fnc.mk {f : Nat} {first caps : List AC} {asx bs : List APtr} {k : AC → Prop} (h1 : ptrsC first = some asx) (h2 : ptrsC caps = some bs) (h : k (.fn f asx bs)) : Fnc f first caps k := ⟨asx, bs, h1, h2, h⟩
theorem GE0.mk {n : Int} {k : Prop} (h : 0 ≤ n) (q : k) : GE0 n k := ⟨h, q⟩
theorem NZ.mk {n : Int} {k : Prop} (h : n ≠ 0) (q : k) : NZ n k := ⟨h, q⟩
theorem MkS.mk {e sz bytes : Nat} {zero : List AC} {len cap : Int} {H : AHeap} {k : AC → AHeap → Prop} (h1 : 0 ≤ len) (h2 : len ≤ cap) (h3 : cap * bytes ≤ maxBytes) (h4 : cap ≤ 4611686018427387904)
    (q : k (.sl (some (H.size, 0)) sz len.toNat (some cap.toNat)) (H.newRow e ((List.flatten (List.replicate cap.toNat zero)).map some))) : MkS e sz bytes zero len cap H k := ⟨⟨h1, h2, h3, h4⟩, q⟩
theorem Same1.mk {H H' : AHeap} {a : APtr} {n : Nat} (h : H'.load a n = H.load a n) : Same1 H H' (.ptr (some a)) n := ⟨a, rfl, h⟩
theorem Same2.mk {H H' : AHeap} {a : APtr} {n : Nat} (h : H'.load a n = H.load a n) : Same2 H H' (.ptr (some a)) n := ⟨a, rfl, .inr h⟩
theorem Same2.new {H H' : AHeap} {a : APtr} {n : Nat} (h : H'.size ≤ a.1) : Same2 H H' (.ptr (some a)) n := ⟨a, rfl, .inl h⟩
end Go.AI
end
section
namespace Go.AI
variable {P : Program} {A B : Prop} {t : Env} {H : AHeap}
section
variable {K : Ex → Env → AHeap → Prop} {J : Env → AHeap → Prop} {a b : RC}
theorem c_skip [BaseC P] (h : A → K .normal t H) : A → wpC P .skip t H K := h
theorem c_ops [BaseC P] {l : List RO} (h : A → wpOs P l t H (K .normal)) : A → wpC P (.ops l) t H K := h
theorem c_held [BaseC P] {l : List RO} {ps : List (Nat × Nat)} (h : A → wpT P l t H [] fun sts t' H' => pairsR l sts (K .normal t' H') ps) : A → wpC P (.held l ps) t H K := h
theorem c_seq [BaseC P] (h : A → wpC P a t H (kSeq (fun t' H' => wpC P b t' H' K) K)) : A → wpC P (.seq a b) t H K := h
theorem c_if [BaseC P] {c : Nat} {v : Bool} (ht : t c = .one (.bool v)) (h1 : A → wpC P a (upd t c (.one (.bool true))) H K) (h2 : B → wpC P b (upd t c (.one (.bool false))) H K) : CondB v A B → wpC P (.cond c a b) t H K := by
  intro h
  simp only [wpC]
  rw [ht]
  exact m_if h1 h2 h
theorem c_blk [BaseC P] {id : Nat} (h : A → wpC P b t H (kBlk id K)) : A → wpC P (.block id b) t H K := h
theorem c_exit [BaseC P] {id : Nat} (h : A → K (.exit id) t H) : A → wpC P (.exit id) t H K := h
theorem c_ret [BaseC P] (h : A → K .ret t H) : A → wpC P .ret t H K := h
theorem k_seq (h : A → J t H) : A → kSeq J K .normal t H := h
theorem k_seqE {i : Nat} (h : A → K (.exit i) t H) : A → kSeq J K (.exit i) t H := h
theorem k_seqR (h : A → K .ret t H) : A → kSeq J K .ret t H := h
theorem k_blk {id : Nat} (h : A → K .normal t H) : A → kBlk id K .normal t H := h
theorem k_blkH {id : Nat} (h : A → K .normal t H) : A → kBlk id K (.exit id) t H := by
  intro x
  unfold kBlk
  simp only [Nat.beq_refl, cond_true]
  exact h x
theorem k_blkR {id : Nat} (h : A → K .ret t H) : A → kBlk id K .ret t H := h
theorem k_top {rs : List RR} {Q : AV → AHeap → Prop} (h : A → wpR rs t H fun ps => Q (joinR ps) H) : A → kTop rs Q .normal t H := h
theorem k_topR {rs : List RR} {Q : AV → AHeap → Prop} (h : A → wpR rs t H fun ps => Q (joinR ps) H) : A → kTop rs Q .ret t H := h
end
section
variable {K : Env → AHeap → Prop} {W : Env → Env → AHeap → Prop} {T : List (Env × AHeap) → Env → AHeap → Prop} {acc : List (Env × AHeap)} {o : RO} {op : ROp} {r : List RO} {d c : Nat}
theorem s_nil [BaseC P] (h : A → K t H) : A → wpOs P [] t H K := h
theorem s_cons [BaseC P] (h : A → wpO P o t H fun _ t' H' => wpOs P r t' H' K) : A → wpOs P (o :: r) t H K := h
theorem t_nil [BaseC P] (h : A → T ((t, H) :: acc).reverse t H) : A → wpT P [] t H acc T := h
theorem t_cons [BaseC P] (h : A → wpO P o t H fun t0 t' H' => wpT P r t' H' ((t0, H) :: acc) T) : A → wpT P (o :: r) t H acc T := h
theorem w_put [BaseC P] (h : A → wpOp P op t H fun v H' => W t (upd t d v) H') : A → wpO P (.put d op) t H W := h
theorem w_run [BaseC P] (h : A → wpOp P op t H fun _ H' => W t t H') : A → wpO P (.run op) t H W := h
theorem w_gputY [BaseC P] {w : Bool} (ht : t c = .one (.bool w)) (h : A → wpOp P op (upd t c (.one (.bool w))) H fun v H' => W (upd t c (.one (.bool w))) (upd (upd t c (.one (.bool w))) d v) H') : A → wpO P (.gput d c w op) t H W := by
  intro x
  simp only [wpO, wpG]
  rw [ht]
  cases w with
  | true => exact h x
  | false => exact h x
theorem w_gputN [BaseC P] {w : Bool} (ht : t c = .one (.bool (!w))) (h : A → W (upd t c (.one (.bool (!w)))) (upd (upd t c (.one (.bool (!w)))) d (.tup [])) H) : A → wpO P (.gput d c w op) t H W := by
  intro x
  simp only [wpO, wpG]
  rw [ht]
  cases w with
  | true => exact h x
  | false => exact h x
theorem w_gputT [BaseC P] {v : Bool} (ht : t c = .one (.bool v)) (h : A → wpOp P op (upd t c (.one (.bool true))) H fun v H' => W (upd t c (.one (.bool true))) (upd (upd t c (.one (.bool true))) d v) H')
    (h' : B → W (upd t c (.one (.bool false))) (upd (upd t c (.one (.bool false))) d (.tup [])) H) : CondB v A B → wpO P (.gput d c true op) t H W := by
  intro x
  simp only [wpO, wpG]
  rw [ht]
  exact m_if h h' x
theorem w_gputF [BaseC P] {v : Bool} (ht : t c = .one (.bool v)) (h : A → W (upd t c (.one (.bool true))) (upd (upd t c (.one (.bool true))) d (.tup [])) H)
    (h' : B → wpOp P op (upd t c (.one (.bool false))) H fun v H' => W (upd t c (.one (.bool false))) (upd (upd t c (.one (.bool false))) d v) H') : CondB v A B → wpO P (.gput d c false op) t H W := by
  intro x
  simp only [wpO, wpG]
  rw [ht]
  exact m_if h h' x
theorem w_gputJ [BaseC P] {w : Bool} {l : List (Bool × List AC)} (ht : t c = .tup l) (h : A → W t (upd t d (.tup [])) H) : A → wpO P (.gput d c w op) t H W := by
  intro x
  simp only [wpO, wpG]
  rw [ht]
  exact h x
theorem p_nil {ops : List RO} {sts : List (Env × AHeap)} {K : Prop} (h : A → K) : A → pairsR ops sts K [] := h
theorem p_one {ops : List RO} {sts : List (Env × AHeap)} {K : Prop} {i j n : Nat} {ps : List (Nat × Nat)} {o : RO} {ti tk : Env} {Hi Hk : AHeap} {ej : Env × AHeap} {agg : Bool} {tys : List CT} {x : RV} {p : AC}
    (e1 : ops[i]? = some o) (e2 : sts[i]? = some (ti, Hi)) (e3 : sts[j]? = some ej) (e4 : sts[j + 1]? = some (tk, Hk)) (eo : o.op = .ld agg tys x) (hn : tys.length = n) (ec : evR ti x = .one p) (hlt : Nat.blt j i = false) (h : A → pairsR ops sts K ps) :
    Same1 Hi Hk p n ∧ A → pairsR ops sts K ((i, j) :: ps) := by
  rintro ⟨a, b⟩
  refine ⟨?_, h b⟩
  unfold pairR
  simp only [e1, e2, e3, e4, eo, ec, hlt, cond_false, hn]
  cases o.on ti
  · trivial
  · exact a
theorem p_two {ops : List RO} {sts : List (Env × AHeap)} {K : Prop} {i j n : Nat} {ps : List (Nat × Nat)} {o : RO} {ti tj : Env} {Hi Hj : AHeap} {ek : Env × AHeap} {agg : Bool} {tys : List CT} {x : RV} {p : AC}
    (e1 : ops[i]? = some o) (e2 : sts[i]? = some (ti, Hi)) (e3 : sts[j]? = some (tj, Hj)) (e4 : sts[j + 1]? = some ek) (eo : o.op = .ld agg tys x) (hn : tys.length = n) (ec : evR ti x = .one p) (hlt : Nat.blt j i = true) (h : A → pairsR ops sts K ps) :
    Same2 Hi Hj p n ∧ A → pairsR ops sts K ((i, j) :: ps) := by
  rintro ⟨a, b⟩
  refine ⟨?_, h b⟩
  unfold pairR
  simp only [e1, e2, e3, e4, eo, ec, hlt, cond_true, hn]
  cases o.on ti
  · trivial
  · exact a
theorem p_skip {ops : List RO} {sts : List (Env × AHeap)} {K : Prop} {p : Nat × Nat} {ps : List (Nat × Nat)} (hp : pairR ops sts p) (h : A → pairsR ops sts K ps) : A → pairsR ops sts K (p :: ps) := fun a => ⟨hp, h a⟩
end
section
variable {K : AV → AHeap → Prop} {x y z : RV} {k k1 : IntKind} {m n p' : Int}
theorem o_mov [BaseC P] {v : AV} (hx : evR t x = v) (h : A → K v H) : A → wpOp P (.mov x) t H K := by
  intro q; simp only [wpOp]; rw [hx]; exact h q
theorem o_pickT [BaseC P] {v : AV} (hx : evR t x = .one (.bool true)) (hy : evR t y = v) (h : A → K v H) : A → wpOp P (.pick x y z) t H K := by
  intro q; simp only [wpOp]; rw [hx, hy]; exact h q
theorem o_pickF [BaseC P] {v : AV} (hx : evR t x = .one (.bool false)) (hy : evR t z = v) (h : A → K v H) : A → wpOp P (.pick x y z) t H K := by
  intro q; simp only [wpOp]; rw [hx, hy]; exact h q
theorem o_new [BaseC P] {e : Nat} {cs : List AC} {q : AC → AHeap → Prop} (h : ∀ p H', q p H' → K (.one p) H') : New e cs H q → wpOp P (.new e cs) t H K := m_new h
theorem o_box [BaseC P] {e : Nat} {cs : List AC} {q : AC → AHeap → Prop} (hx : cellsR (evR t x) = some cs) (h : ∀ p H', q p H' → K (.one p) H') : New e cs H q → wpOp P (.box e x) t H K := by
  intro w; simp only [wpOp]; rw [hx]; exact m_new h w
theorem o_bld [BaseC P] {cs cs' : List AC} {ps : List (Nat × Nat × RV)} (hx : fillR t cs ps = some cs') (h : A → K (.agg cs') H) : A → wpOp P (.bld cs ps) t H K := by
  intro w; simp only [wpOp]; rw [hx]; exact h w
theorem o_blds [BaseC P] {e sz len : Nat} {cs cs' : List AC} {ps : List (Nat × Nat × RV)} {q : AC → AHeap → Prop} (hx : fillR t cs ps = some cs') (h : ∀ p H', q p H' → K (.one p) H') : NewS e sz len cs' H q → wpOp P (.blds e sz len cs ps) t H K := by
  intro w; simp only [wpOp]; rw [hx]; exact m_news h w
theorem o_ld [BaseC P] {agg : Bool} {tys : List CT} {p : AC} {q : Cur tys} (hx : evR t x = .one p) (h : Imp tys q (lam tys fun cs => K (partOf agg cs) H)) : Ld tys H p q → wpOp P (.ld agg tys x) t H K := by
  intro w; simp only [wpOp]; rw [hx]; exact m_ld h w
theorem o_ld1 [BaseC P] {agg : Bool} {c1 : CT} {p : AC} {q : Cur [c1]} (hx : evR t x = .one p) (h : ∀ a : c1.T, q a → K (partOf agg [c1.cell a]) H) : Ld [c1] H p q → wpOp P (.ld agg [c1] x) t H K := o_ld hx h
theorem o_ld7 [BaseC P] {agg : Bool} {c1 c2 c3 c4 c5 c6 c7 : CT} {p : AC} {q : Cur [c1, c2, c3, c4, c5, c6, c7]} (hx : evR t x = .one p) (h : ∀ (x1 : c1.T) (x2 : c2.T) (x3 : c3.T) (x4 : c4.T) (x5 : c5.T) (x6 : c6.T) (x7 : c7.T), q x1 x2 x3 x4 x5 x6 x7 → K (partOf agg [c1.cell x1, c2.cell x2, c3.cell x3, c4.cell x4, c5.cell x5, c6.cell x6, c7.cell x7]) H) :
    Ld [c1, c2, c3, c4, c5, c6, c7] H p q → wpOp P (.ld agg [c1, c2, c3, c4, c5, c6, c7] x) t H K := o_ld hx h
theorem o_st [BaseC P] {N : Nat} {cs : List AC} {p : AC} {q : AHeap → Prop} (hx : evR t x = .one p) (hy : cellsR (evR t y) = some cs) (hn : Nat.beq cs.length N = true) (h : ∀ H', q H' → K (.tup []) H') : Sto H p cs q → wpOp P (.st N x y) t H K := by
  intro w; simp only [wpOp]; rw [hx, hy]; simp only [hn, cond_true]; exact m_st h w
theorem kEq_self (k : IntKind) : kEq k k = true := by cases k <;> rfl
theorem o_ar [BaseC P] {o : AOp} (hx : evR t x = .one (.int k m)) (hy : evR t y = .one (.int k n)) (h : A → ArK o n (K (.one (.int k (arith o k m n))) H)) : A → wpOp P (.ar o x y) t H K := by
  intro w; simp only [wpOp]; rw [hx, hy]; simp only [kEq_self, cond_true]; exact h w
theorem o_add [BaseC P] (hx : evR t x = .one (.int k m)) (hy : evR t y = .one (.int k n)) (h : A → K (.one (.int k (IntKind.wrap k (m + n)))) H) : A → wpOp P (.ar .add x y) t H K := o_ar hx hy h
theorem o_sub [BaseC P] (hx : evR t x = .one (.int k m)) (hy : evR t y = .one (.int k n)) (h : A → K (.one (.int k (IntKind.wrap k (m - n)))) H) : A → wpOp P (.ar .sub x y) t H K := o_ar hx hy h
theorem o_mul [BaseC P] (hx : evR t x = .one (.int k m)) (hy : evR t y = .one (.int k n)) (h : A → K (.one (.int k (IntKind.wrap k (m * n)))) H) : A → wpOp P (.ar .mul x y) t H K := o_ar hx hy h
theorem o_cm [BaseC P] {o : COp} (hx : evR t x = .one (.int k m)) (hy : evR t y = .one (.int k n)) (h : A → K (.one (.bool (cmp o m n))) H) : A → wpOp P (.cm o x y) t H K := by
  intro w; simp only [wpOp]; rw [hx, hy]; simp only [kEq_self, cond_true]; exact h w
theorem o_eq [BaseC P] (hx : evR t x = .one (.int k m)) (hy : evR t y = .one (.int k n)) (h : A → K (.one (.bool (m == n))) H) : A → wpOp P (.cm .eq x y) t H K := o_cm hx hy h
theorem o_ne [BaseC P] (hx : evR t x = .one (.int k m)) (hy : evR t y = .one (.int k n)) (h : A → K (.one (.bool (m != n))) H) : A → wpOp P (.cm .ne x y) t H K := o_cm hx hy h
theorem o_lt [BaseC P] (hx : evR t x = .one (.int k m)) (hy : evR t y = .one (.int k n)) (h : A → K (.one (.bool (decide (m < n)))) H) : A → wpOp P (.cm .lt x y) t H K := o_cm hx hy h
theorem o_le [BaseC P] (hx : evR t x = .one (.int k m)) (hy : evR t y = .one (.int k n)) (h : A → K (.one (.bool (decide (m ≤ n)))) H) : A → wpOp P (.cm .le x y) t H K := o_cm hx hy h
theorem o_gt [BaseC P] (hx : evR t x = .one (.int k m)) (hy : evR t y = .one (.int k n)) (h : A → K (.one (.bool (decide (m > n)))) H) : A → wpOp P (.cm .gt x y) t H K := o_cm hx hy h
theorem o_ge [BaseC P] (hx : evR t x = .one (.int k m)) (hy : evR t y = .one (.int k n)) (h : A → K (.one (.bool (decide (m ≥ n)))) H) : A → wpOp P (.cm .ge x y) t H K := o_cm hx hy h
theorem o_eqb [BaseC P] {a b : Bool} (hx : evR t x = .one (.bool a)) (hy : evR t y = .one (.bool b)) (h : A → K (.one (.bool (a == b))) H) : A → wpOp P (.eqb false x y) t H K := by
  intro w; simp only [wpOp]; rw [hx, hy]; exact h w
theorem o_neb [BaseC P] {a b : Bool} (hx : evR t x = .one (.bool a)) (hy : evR t y = .one (.bool b)) (h : A → K (.one (.bool (!(a == b)))) H) : A → wpOp P (.eqb true x y) t H K := by
  intro w; simp only [wpOp]; rw [hx, hy]; exact h w
theorem o_not [BaseC P] {b : Bool} (hx : evR t x = .one (.bool b)) (h : A → K (.one (.bool (!b))) H) : A → wpOp P (.not x) t H K := by
  intro w; simp only [wpOp]; rw [hx]; exact h w
theorem o_fn [BaseC P] {f : Nat} {asx bs : List RV} {a b : List AC} {q : AC → Prop} (ha : onesC t asx = some a) (hb : onesC t bs = some b) (h : ∀ c, q c → K (.one c) H) : Fnc f a b q → wpOp P (.fn f asx bs) t H K := by
  intro w; simp only [wpOp]; rw [ha, hb]; exact m_fn h w
theorem o_mks [BaseC P] {e sz bytes : Nat} {zero : List AC} {q : AC → AHeap → Prop} (hx : evR t x = .one (.int k m)) (hy : evR t y = .one (.int k1 n)) (h : ∀ c H', q c H' → K (.one c) H') : MkS e sz bytes zero m n H q → wpOp P (.mks e sz bytes zero x y) t H K := by
  intro w; simp only [wpOp]; rw [hx, hy]; exact m_mks h w
theorem o_slc [BaseC P] {sz : Nat} {s : AC} {lo hi : Option RV} {l u : Option Int} {q : AC → Prop} (hx : evR t x = .one s) (hl : optI t lo = some l) (hu : optI t hi = some u) (h : ∀ c, q c → K (.one c) H) : Slc sz s l u q → wpOp P (.slc sz x lo hi) t H K := by
  intro w; simp only [wpOp]; rw [hx, hl, hu]; exact m_slc h w
theorem o_fa [BaseC P] {off : Nat} {p : AC} {q : AC → Prop} (hx : evR t x = .one p) (h : ∀ c, q c → K (.one c) H) : FA off p q → wpOp P (.fa off x) t H K := by
  intro w; simp only [wpOp]; rw [hx]; exact m_fa h w
theorem o_ia [BaseC P] {sz : Nat} {c : AC} {q : AC → Prop} (hx : evR t x = .one c) (hy : evR t y = .one (.int k n)) (h : ∀ c, q c → K (.one c) H) : IA sz c n q → wpOp P (.ia sz x y) t H K := by
  intro w; simp only [wpOp]; rw [hx, hy]; exact m_ia h w
theorem o_ex [BaseC P] {vs : List (Bool × List AC)} {i : Nat} {p : Bool × List AC} {v : AV} (hx : evR t x = .tup vs) (hp : vs[i]? = some p) (hv : unpart p = v) (h : A → K v H) : A → wpOp P (.ex x i) t H K := by
  intro w; simp only [wpOp]; rw [hx]; simp only [hp, hv]; exact h w
theorem o_lens [BaseC P] {c : AC} {q : Int → Prop} (hx : evR t x = .one c) (h : ∀ n, q n → K (.one (.int .i64 n)) H) : LenS c q → wpOp P (.lens x) t H K := by
  intro w; simp only [wpOp]; rw [hx]; exact m_len h w
theorem o_app [BaseC P] {e sz bytes : Nat} {s c : AC} {q : AC → AHeap → Prop} (hx : evR t x = .one s) (hy : evR t y = .one c) (h : ∀ c H', q c H' → K (.one c) H') : App e sz bytes s c H q → wpOp P (.app e sz bytes x y) t H K := by
  intro w; simp only [wpOp]; rw [hx, hy]; exact m_app h w
theorem o_call [BaseC P] {f : Nat} {rs : List RV} {asx : List AV} (ha : evRs t rs = asx) (h : A → Run P f asx H K) : A → wpOp P (.call f rs) t H K := by
  intro w; simp only [wpOp]; rw [ha]; exact h w
theorem o_callv [BaseC P] {rs : List RV} {asx : List AV} {c : AC} (hx : evR t x = .one c) (ha : evRs t rs = asx) (h : A → CV P c asx H K) : A → wpOp P (.callv x rs) t H K := by
  intro w; simp only [wpOp]; rw [hx, ha]; exact h w
theorem cv_0 [BaseC P] {g : FuncId} {args : List AV} {q : AHeap → Cur (flat [])} (h : ∀ H', q H' → K (.tup []) H') : RunT P [] g args H q → Run P g args H K := m_call h
theorem cv_1 [BaseC P] {g : FuncId} {args : List AV} {a : Bool} {c1 : CT} {q : AHeap → Cur [c1]} (h : ∀ H' (x : c1.T), q H' x → K (unpart (a, [c1.cell x])) H') : RunT P [(a, [c1])] g args H q → Run P g args H K := m_call h
theorem cu_1 [BaseC P] {c : AC} {args : List AV} {a : Bool} {c1 : CT} {q : AHeap → Cur [c1]} (h : ∀ H' (x : c1.T), q H' x → K (unpart (a, [c1.cell x])) H') : CVT P [(a, [c1])] c args H q → CV P c args H K := m_callv h
end
section
variable {K : List (Bool × List AC) → Prop} {r : List RR}
theorem r_nil (h : A → K []) : A → wpR [] t H K := h
theorem r_one {n : Nat} {c : AC} (hx : t n = .one c) (h : A → wpR r t H fun ps => K ((false, [c]) :: ps)) : A → wpR (.tm n :: r) t H K := by
  intro w; simp only [wpR]; rw [hx]; exact h w
theorem r_cell {a : Nat} {g : Bool} {tys : List CT} {p : AC} {q : Cur tys} (hx : t a = .one p) (h : Imp tys q (lam tys fun cs => wpR r t H fun ps => K ((g, cs) :: ps))) : Ld tys H p q → wpR (.cell a g tys :: r) t H K := by
  intro w; simp only [wpR]; rw [hx]; exact m_ld h w
theorem r_cell7 {a : Nat} {g : Bool} {c1 c2 c3 c4 c5 c6 c7 : CT} {p : AC} {q : Cur [c1, c2, c3, c4, c5, c6, c7]} (hx : t a = .one p) (h : ∀ (x1 : c1.T) (x2 : c2.T) (x3 : c3.T) (x4 : c4.T) (x5 : c5.T) (x6 : c6.T) (x7 : c7.T), q x1 x2 x3 x4 x5 x6 x7 → wpR r t H fun ps => K ((g, [c1.cell x1, c2.cell x2, c3.cell x3, c4.cell x4, c5.cell x5, c6.cell x6, c7.cell x7]) :: ps)) : Ld [c1, c2, c3, c4, c5, c6, c7] H p q → wpR (.cell a g [c1, c2, c3, c4, c5, c6, c7] :: r) t H K := r_cell hx h
end
end Go.AI
end
section
namespace Go.AI
abbrev pM (d s : Nat) : RO := .put d (.mov (.tm s))
abbrev cI (n : Int) : RV := .ct (.one (.int .i64 n))
abbrev KQT (L : List (Bool × List CT)) (Q : AHeap → Cur (flat L)) : AV → AHeap → Prop := fun v H => ∃ xs : Tup (flat L), v = joinR (splitP L (cellsOf (flat L) xs)) ∧ app (flat L) (Q H) xs
section
variable {P : Program} {A : Prop} {t : Env} {H : AHeap} {J : Env → AHeap → Prop} {K : Ex → Env → AHeap → Prop}
theorem sP [BaseC P] {M : Env → AHeap → Prop} {op : ROp} {r : List RO} {d : Nat} (h : A → wpOp P op t H fun v H' => wpOs P r (upd t d v) H' M) : A → wpOs P (.put d op :: r) t H M := s_cons (w_put h)
theorem sK [BaseC P] (h : A → J t H) : A → wpOs P [] t H (kSeq J K .normal) := s_nil (k_seq h)
theorem cO [BaseC P] {l : List RO} {b : RC} (h : A → wpOs P l t H (kSeq (fun t' H' => wpC P b t' H' K) K .normal)) : A → wpC P (.seq (.ops l) b) t H K := c_seq (c_ops h)
theorem runK [BaseC P] {eqs : _} (hf : Facts P eqs) (tbl : List (Nat × List (Nat × Nat))) {f : FuncId} {fn : Func} {c : RC} {rs : List RR} {args : List AV} {K : AV → AHeap → Prop}
    (h1 : P.funcs[f]? = some fn) (h0 : BaseC.has P f = false) (h2 : fn.body = some (fn.body.getD .skip)) (h3 : slimOk tbl (fn.body.getD .skip) = true) (h4 : resC P eqs fn.ntmps (slim tbl (fn.body.getD .skip)) = some c) (h5 : resR P fn.results.toList = some rs) (h6 : Nat.ble args.length fn.ntmps = true)
    (k : wpF P c rs (envOf args) H K) : Run P f args H K := run_of hf tbl h0 h1 h2 h3 h4 h5 (Nat.le_of_ble_eq_true h6) k
end
end Go.AI
end
section
namespace Go.AI
variable {P : Program}
theorem bind_ret {α β : Type} {s : Sem α} {f : α → Sem β} {a : α} (h : pureRun P s = some a) {r : Option β} (k : pureRun P (f a) = r) : pureRun P (s >>= f) = r := by rw [pureRun_bind h, k]
theorem pure_program : pureRun P program = some P := rfl
theorem pure_part [BaseC P] {t : TypeId} (hu : P.underlying t = some (.int .i64)) {cs : Array Value} {off : Nat} {v : Value} (h : cs[off]? = some v) : pureRun P (part t cs off) = some v := by
  have hb : pureRun P (isAgg t) = some false := by
    unfold isAgg
    exact bind_ret (pure_under hu) rfl
  unfold part
  refine bind_ret hb ?_
  simp only [Bool.false_eq_true, if_false, h]
  rfl
theorem pure_eqInt [BaseC P] (d : Nat) {t : TypeId} (hu : P.underlying t = some (.int .i64)) (a b : Int) : pureRun P (Op.equalIn (d + 1) t (intVal a) (intVal b)) = some (a == b) := by
  rw [Op.equalIn]
  exact bind_ret (pure_under hu) rfl
theorem pure_keyInt [BaseC P] (d : Nat) (e : Bool) {t : TypeId} (hu : P.underlying t = some (.int .i64)) (a : Int) : pureRun P (Instr.checkKey e (d + 1) t (intVal a)) = some () := by
  rw [Instr.checkKey]
  exact bind_ret (pure_under hu) rfl
theorem loop_eq [BaseC P] {F : Type} (body : F → Option Bool × Unit → Sem (ForInStep (Option Bool × Unit))) (q : F → Bool) : ∀ l : List F, (∀ f ∈ l, pureRun P (body f (none, ())) = some (if q f then .yield (none, ()) else .done (some false, ()))) →
    pureRun P (forIn l (none, ()) body) = some (if l.all q then (none, ()) else (some false, ()))
  | [], _ => rfl
  | f :: l, h => by
    rw [List.forIn_cons]
    have h0 := h f (List.mem_cons_self ..)
    cases hq : q f with
    | true =>
      rw [hq] at h0
      refine bind_ret h0 ?_
      simp only [List.all_cons, hq, Bool.true_and]
      exact loop_eq body q l fun f hf => h f (List.mem_cons_of_mem _ hf)
    | false =>
      rw [hq] at h0
      refine bind_ret h0 ?_
      simp only [List.all_cons, hq, Bool.false_and]
      rfl
theorem loop_unit [BaseC P] {F : Type} (body : F → Unit → Sem (ForInStep Unit)) : ∀ l : List F, (∀ f ∈ l, pureRun P (body f ()) = some (.yield ())) → pureRun P (forIn l () body) = some ()
  | [], _ => rfl
  | f :: l, h => by
    rw [List.forIn_cons]
    refine bind_ret (h f (List.mem_cons_self ..)) ?_
    exact loop_unit body l fun f hf => h f (List.mem_cons_of_mem _ hf)
theorem cell_get (xs : List Int) {i : Nat} {x : Int} (h : xs[i]? = some x) : (xs.map intVal).toArray[i]? = some (intVal x) := by
  simp [h]
theorem list_eq_all : ∀ (xs ys : List Int) (n : Nat), xs.length = n → ys.length = n → (decide (xs = ys)) = (List.range n).all fun i => xs[i]?.getD 0 == ys[i]?.getD 0 := by
  intro xs ys n hx hy
  rw [Bool.eq_iff_iff, decide_eq_true_eq, List.all_eq_true]
  constructor
  · rintro rfl i _; simp
  · intro h
    apply List.ext_getElem?
    intro i
    by_cases hi : i < n
    · have := h i (List.mem_range.2 hi)
      rw [List.getElem?_eq_getElem (by omega), List.getElem?_eq_getElem (by omega)] at this ⊢
      simpa using this
    · rw [List.getElem?_eq_none (by omega), List.getElem?_eq_none (by omega)]
theorem AggFact.struct [BaseC P] {t n : Nat} (fs : Array Field) (hu : P.underlying t = some (.struct fs)) (hst : P.stoodInHeld t = false) (hg : P.eqGuardType P.depth t = false)
    (hf : fs.toList.map (fun f => (f.name == "_", P.underlying f.type, f.offset)) = (List.range n).map fun i => (false, some (.int .i64), i)) : AggFact P t n := by
  have hfld : ∀ (i : Nat) (f : Field), fs.toList[i]? = some f → i < n ∧ f.name ≠ "_" ∧ P.underlying f.type = some (.int .i64) ∧ f.offset = i := by
    intro i f h
    have h1 := congrArg (fun l => l[i]?) hf
    simp only [List.getElem?_map, h, Option.map_some] at h1
    by_cases hi : i < n
    · rw [List.getElem?_range hi] at h1
      simp only [Option.map_some, Option.some.injEq, Prod.mk.injEq] at h1
      refine ⟨hi, ?_, h1.2.1, h1.2.2⟩
      intro e
      rw [e] at h1
      simp at h1
    · rw [List.getElem?_eq_none (by simpa using Nat.le_of_not_lt hi)] at h1
      cases h1
  have hlen : fs.toList.length = n := by have := congrArg List.length hf; simpa using this
  refine ⟨?_, ?_, ?_, by rw [hu]; rfl⟩
  · intro e xs hx
    unfold keyOkA
    have : pureRun P (Instr.checkKey e (9999 + 1) t (.agg (xs.map intVal).toArray)) = some () := by
      rw [Instr.checkKey]
      refine bind_ret (pure_under hu) ?_
      simp only
      rw [← Array.forIn_toList]
      refine bind_ret (loop_unit _ _ ?_) rfl
      intro f hmem
      obtain ⟨i, hi⟩ := List.getElem?_of_mem hmem
      obtain ⟨h1, h2, h3, h4⟩ := hfld i f hi
      rw [if_pos h2]
      refine bind_ret (pure_part h3 (cell_get xs (x := xs[i]?.getD 0) ?_)) ?_
      · rw [h4, List.getElem?_eq_getElem (by omega)]; rfl
      · exact bind_ret (pure_keyInt 9998 e h3 _) rfl
    rw [show (10000 : Nat) = 9999 + 1 from rfl, this]; rfl
  · intro xs ys hx hy
    show pureRun P (Op.equalIn (9999 + 1) t _ _) = _
    rw [Op.equalIn]
    refine bind_ret (pure_under hu) ?_
    refine bind_ret pure_program ?_
    simp only [hst, Bool.false_eq_true, if_false]
    rw [← Array.forIn_toList]
    refine bind_ret (loop_eq _ (fun f => xs[f.offset]?.getD 0 == ys[f.offset]?.getD 0) _ ?_) ?_
    · intro f hmem
      obtain ⟨i, hi⟩ := List.getElem?_of_mem hmem
      obtain ⟨h1, h2, h3, h4⟩ := hfld i f hi
      rw [if_pos h2]
      refine bind_ret (pure_part h3 (cell_get xs (x := xs[f.offset]?.getD 0) ?_)) ?_
      · rw [h4, List.getElem?_eq_getElem (by omega)]; rfl
      refine bind_ret (pure_part h3 (cell_get ys (x := ys[f.offset]?.getD 0) ?_)) ?_
      · rw [h4, List.getElem?_eq_getElem (by omega)]; rfl
      refine bind_ret (pure_eqInt 9998 h3 _ _) ?_
      cases xs[f.offset]?.getD 0 == ys[f.offset]?.getD 0 <;> rfl
    · have hall : (fs.toList.all fun f => xs[f.offset]?.getD 0 == ys[f.offset]?.getD 0) = decide (xs = ys) := by
        rw [list_eq_all xs ys n hx hy]
        have : fs.toList.map (·.offset) = List.range n := by
          apply List.ext_getElem?
          intro i
          rw [List.getElem?_map]
          by_cases hi : i < n
          · obtain ⟨f, hfi⟩ : ∃ f, fs.toList[i]? = some f := ⟨fs.toList[i], List.getElem?_eq_getElem (by omega)⟩
            rw [hfi, List.getElem?_range hi, Option.map_some, (hfld i f hfi).2.2.2]
          · rw [List.getElem?_eq_none (by omega), List.getElem?_eq_none (by simpa using Nat.le_of_not_lt hi)]; rfl
        rw [← this, List.all_map]; rfl
      rw [hall]
      cases decide (xs = ys) <;> rfl
  · intro op x y xs ys hx hy
    unfold eqGuard
    cases op <;> first | rfl | skip
    · refine bind_ret pure_program ?_
      refine bind_ret pure_program ?_
      simp only [hg]; rfl
    · refine bind_ret pure_program ?_
      refine bind_ret pure_program ?_
      simp only [hg]; rfl
theorem AggFact.array [BaseC P] {t n e : Nat} (hu : P.underlying t = some (.array n e)) (hs : pureRun P (Go.sizeOf e) = some 1) (he : P.underlying e = some (.int .i64)) (hg : P.eqGuardType P.depth t = false) : AggFact P t n := by
  refine ⟨?_, ?_, ?_, by rw [hu]; rfl⟩
  · intro b xs hx
    unfold keyOkA
    have : pureRun P (Instr.checkKey b (9999 + 1) t (.agg (xs.map intVal).toArray)) = some () := by
      rw [Instr.checkKey]
      refine bind_ret (pure_under hu) ?_
      simp only
      rw [Std.Legacy.Range.forIn_eq_forIn_range']
      refine bind_ret (loop_unit _ _ ?_) rfl
      intro i hi
      have hi' : i < n := by simp at hi; omega
      refine bind_ret hs ?_
      refine bind_ret (pure_part he (cell_get xs (x := xs[i]?.getD 0) ?_)) ?_
      · rw [Nat.mul_one, List.getElem?_eq_getElem (by omega)]; rfl
      · exact bind_ret (pure_keyInt 9998 b he _) rfl
    rw [show (10000 : Nat) = 9999 + 1 from rfl, this]; rfl
  · intro xs ys hx hy
    show pureRun P (Op.equalIn (9999 + 1) t _ _) = _
    rw [Op.equalIn]
    refine bind_ret (pure_under hu) ?_
    refine bind_ret hs ?_
    rw [Std.Legacy.Range.forIn_eq_forIn_range']
    refine bind_ret (loop_eq _ (fun i => xs[i]?.getD 0 == ys[i]?.getD 0) _ ?_) ?_
    · intro i hi
      have hi' : i < n := by simp at hi; omega
      refine bind_ret (pure_part he (cell_get xs (x := xs[i]?.getD 0) ?_)) ?_
      · rw [Nat.mul_one, List.getElem?_eq_getElem (by omega)]; rfl
      refine bind_ret (pure_part he (cell_get ys (x := ys[i]?.getD 0) ?_)) ?_
      · rw [Nat.mul_one, List.getElem?_eq_getElem (by omega)]; rfl
      refine bind_ret (pure_eqInt 9998 he _ _) ?_
      cases xs[i]?.getD 0 == ys[i]?.getD 0 <;> rfl
    · rw [list_eq_all xs ys n hx hy]
      have : List.range' 0 n 1 = List.range n := by rw [List.range_eq_range']
      simp only [Std.Legacy.Range.size, Nat.sub_zero, Nat.add_sub_cancel, Nat.div_one, this]
      cases (List.range n).all fun i => xs[i]?.getD 0 == ys[i]?.getD 0 <;> rfl
  · intro op x y xs ys hx hy
    unfold eqGuard
    cases op <;> first | rfl | skip
    · refine bind_ret pure_program ?_
      refine bind_ret pure_program ?_
      simp only [hg]; rfl
    · refine bind_ret pure_program ?_
      refine bind_ret pure_program ?_
      simp only [hg]; rfl
end Go.AI
end
section
namespace Go.AI
def GW (H : AHeap) : Prop := ∀ x e g st ro cs, H.get x = some (.row e g st ro cs) → g ≤ x
structure Keep (S : Nat → Prop) (H H' : AHeap) : Prop where
  size : H.size ≤ H'.size
  get : ∀ b, b < H.size → ¬ S b → H'.get b = H.get b
  ext : ∀ b, b < H.size → ¬ S b → H'.ext b = H.ext b
  gw : GW H ↔ GW H'
  grp : ∀ x e g st ro cs, H'.get x = some (.row e g st ro cs) → g < H.size → ¬ S g → ∃ e' st' ro' cs', H.get x = some (.row e' g st' ro' cs')
abbrev Kp (H H' : AHeap) : Prop := Keep (fun _ => False) H H'
theorem Keep.refl (S : Nat → Prop) (H : AHeap) : Keep S H H := ⟨Nat.le_refl _, fun _ _ _ => rfl, fun _ _ _ => rfl, Iff.rfl, fun x e g st ro cs hx _ _ => ⟨e, st, ro, cs, hx⟩⟩
theorem Keep.trans {S T : Nat → Prop} {A B C : AHeap} (h : Keep S A B) (k : Keep T B C) (hs : ∀ b, b < A.size → T b → S b) : Keep S A C :=
  ⟨Nat.le_trans h.size k.size,
   fun b hb hn => (k.get b (Nat.lt_of_lt_of_le hb h.size) fun ht => hn (hs b hb ht)).trans (h.get b hb hn),
   fun b hb hn => (k.ext b (Nat.lt_of_lt_of_le hb h.size) fun ht => hn (hs b hb ht)).trans (h.ext b hb hn),
   h.gw.trans k.gw, fun x e g st ro cs hx hg hn => by
     obtain ⟨e', st', ro', cs', h1⟩ := k.grp x e g st ro cs hx (Nat.lt_of_lt_of_le hg h.size) fun ht => hn (hs g hg ht)
     exact h.grp x e' g st' ro' cs' h1 hg hn⟩
theorem Keep.mono {S T : Nat → Prop} {A B : AHeap} (h : Keep S A B) (hs : ∀ b, b < A.size → S b → T b) : Keep T A B :=
  ⟨h.size, fun b hb hn => h.get b hb fun hx => hn (hs b hb hx), fun b hb hn => h.ext b hb fun hx => hn (hs b hb hx), h.gw, fun x e g st ro cs hx hg hn => h.grp x e g st ro cs hx hg fun hs' => hn (hs g hg hs')⟩
theorem Kp.trans {A B C : AHeap} (h : Kp A B) (k : Kp B C) : Kp A C := Keep.trans h k fun _ _ h => h
theorem Kp.andThen {S : Nat → Prop} {A B C : AHeap} (h : Kp A B) (k : Keep S B C) : Keep S A C :=
  Keep.trans (h.mono fun _ _ e => e.elim) k fun _ _ e => e
theorem Keep.old {S : Nat → Prop} {A B : AHeap} (h : Keep S A B) (hs : ∀ b, b < A.size → ¬ S b) : Kp A B := h.mono fun b hb e => (hs b hb e).elim
theorem Kp.fresh {S : Nat → Prop} {A B C : AHeap} (h : Kp A B) (k : Keep S B C) (hs : ∀ x, S x → A.size ≤ x) : Kp A C :=
  (Keep.trans (h.mono fun _ _ e => e.elim : Keep S A B) k fun _ _ e => e).old fun b hb e => by have := hs b e; omega
theorem Kp.refl (H : AHeap) : Kp H H := Keep.refl _ H
theorem Keep.getS {S : Nat → Prop} {A B : AHeap} (h : Keep S A B) {b : Nat} {o : AObj} (hg : A.get b = some o) (hn : ¬ S b) : B.get b = some o := by
  rw [h.get b (AHeap.get_lt hg) hn, hg]
theorem Keep.loadS {S : Nat → Prop} {A B : AHeap} (h : Keep S A B) {b o n : Nat} {cs : List AC} (hl : A.load (b, o) n = some cs) (hn : ¬ S b) : B.load (b, o) n = some cs := by
  unfold AHeap.load at hl ⊢
  simp only at hl ⊢
  cases hg : A.get b with
  | none => rw [hg] at hl; cases hl
  | some x => rw [hg] at hl; rw [h.getS hg hn]; exact hl
theorem Kp.load {A B : AHeap} (h : Kp A B) {b o n : Nat} {cs : List AC} (hl : A.load (b, o) n = some cs) : B.load (b, o) n = some cs := h.loadS hl id
theorem Kp.keeps {A B : AHeap} (h : Kp A B) : Keeps A B := fun b o hg => h.getS hg id
theorem Kp.newRow (H : AHeap) (e : TypeId) (cs : List (Option AC)) : Kp H (H.newRow e cs) := by
  refine ⟨by simp, fun b hb _ => by rw [AHeap.get_newRow, if_neg (by omega)], fun b hb _ => by rw [AHeap.ext_newRow, if_neg (by omega)], ⟨fun hw x e' g st ro cs' hx => ?_, fun hw x e' g st ro cs' hx => ?_⟩, fun x e' g st ro cs' hx hg _ => ?_⟩
  · rw [AHeap.get_newRow] at hx
    split at hx
    · next h => cases hx; omega
    · exact hw _ _ _ _ _ _ hx
  · refine hw x e' g st ro cs' ?_
    have := AHeap.get_lt hx
    rw [AHeap.get_newRow, if_neg (by omega)]
    exact hx
  · rw [AHeap.get_newRow] at hx
    split at hx
    · cases hx; omega
    · exact ⟨_, _, _, _, hx⟩
theorem Kp.push (H : AHeap) (es : List (Value × AV)) : Kp H (H.push (.map es)) := by
  refine ⟨by simp, fun b hb _ => by rw [AHeap.get_push, if_neg (by omega)], fun b hb _ => rfl, ⟨fun hw x e' g st ro cs' hx => ?_, fun hw x e' g st ro cs' hx => ?_⟩, fun x e' g st ro cs' hx hg _ => ?_⟩
  · rw [AHeap.get_push] at hx
    split at hx
    · cases hx
    · exact hw _ _ _ _ _ _ hx
  · refine hw x e' g st ro cs' ?_
    have := AHeap.get_lt hx
    rw [AHeap.get_push, if_neg (by omega)]
    exact hx
  · rw [AHeap.get_push] at hx
    split at hx
    · cases hx
    · exact ⟨_, _, _, _, hx⟩
theorem Keep.set {H : AHeap} {b : Nat} {o o0 : AObj} (h0 : H.get b = some o0) (ho : sameKind o0 o) : Keep (fun x => x = b) H (H.set b o) := by
  refine ⟨by simp, fun x hx hn => by rw [AHeap.get_set, if_neg (fun h => hn h.1)], fun x hx hn => rfl, ⟨fun hw x e' g st ro cs' hx => ?_, fun hw x e' g st ro cs' hx => ?_⟩, fun x e' g st ro cs' hx hg _ => ?_⟩
  · rw [AHeap.get_set] at hx
    split at hx
    · next h =>
      simp only [Option.some.injEq] at hx
      subst hx
      cases o0 with
      | row e1 g1 st1 ro1 cs1 =>
        obtain ⟨_, h2, _⟩ := ho
        subst h2
        rw [h.1]
        exact hw _ _ _ _ _ _ h0
      | map _ => exact ho.elim
      | loop => exact ho.elim
    · exact hw _ _ _ _ _ _ hx
  · by_cases h : x = b
    · subst h
      rw [h0] at hx
      cases hx
      cases o with
      | row e1 g1 st1 ro1 cs1 =>
        obtain ⟨_, h2, _⟩ := ho
        subst h2
        exact hw x e1 _ st1 ro1 cs1 (by rw [AHeap.get_set, if_pos ⟨rfl, AHeap.get_lt h0⟩])
      | map _ => exact ho.elim
      | loop => exact ho.elim
    · exact hw x e' g st ro cs' (by rw [AHeap.get_set, if_neg (fun k => h k.1)]; exact hx)
  · rw [AHeap.get_set] at hx
    split at hx
    · next h =>
      simp only [Option.some.injEq] at hx
      subst hx
      cases o0 with
      | row e1 g1 st1 ro1 cs1 =>
        obtain ⟨_, h2, _⟩ := ho
        subst h2
        rw [h.1]
        exact ⟨_, _, _, _, h0⟩
      | map _ => exact ho.elim
      | loop => exact ho.elim
    · exact ⟨_, _, _, _, hx⟩
structure Own (H : AHeap) (b : Nat) (cs : List AC) : Prop where
  get : ∃ e, H.get b = some (.row e b 0 false (cs.map some))
  ext : (H.ext b).2 = false
theorem Own.lt {H : AHeap} {b : Nat} {cs : List AC} (h : Own H b cs) : b < H.size := by obtain ⟨e, h⟩ := h.get; exact AHeap.get_lt h
theorem Own.keep {S : Nat → Prop} {H H' : AHeap} {b : Nat} {cs : List AC} (h : Own H b cs) (k : Keep S H H') (hn : ¬ S b) : Own H' b cs := by
  obtain ⟨e, hg⟩ := h.get
  exact ⟨⟨e, k.getS hg hn⟩, by rw [k.ext b h.lt hn]; exact h.ext⟩
theorem Own.kp {H H' : AHeap} {b : Nat} {cs : List AC} (h : Own H b cs) (k : Kp H H') : Own H' b cs := h.keep k id
theorem takeAll_map : ∀ (cs : List AC) (o n : Nat), o + n ≤ cs.length → takeAll (cs.map some) o n = some ((cs.drop o).take n)
  | cs, o, n, h => takeAll_of (by simp; omega) fun i hi => by
    rw [List.getElem?_map, List.getElem?_take, if_pos hi, List.getElem?_drop]
theorem load_of {H : AHeap} {b e g st : Nat} {ro : Bool} {cs : List AC} (h : H.get b = some (.row e g st ro (cs.map some))) {o n : Nat} (ho : o + n ≤ cs.length) : H.load (b, o) n = some ((cs.drop o).take n) := by
  unfold AHeap.load
  simp only [h]
  exact takeAll_map cs o n ho
theorem Own.load {H : AHeap} {b : Nat} {cs : List AC} (h : Own H b cs) {o n : Nat} (ho : o + n ≤ cs.length) : H.load (b, o) n = some ((cs.drop o).take n) := by
  obtain ⟨e, hg⟩ := h.get
  exact load_of hg ho
theorem Own.cell {H : AHeap} {b : Nat} {cs : List AC} (h : Own H b cs) {o : Nat} {c : AC} (hc : cs[o]? = some c) : H.load (b, o) 1 = some [c] := by
  have hlt := (List.getElem?_eq_some_iff.1 hc).1
  rw [h.load (by omega)]
  have : cs.drop o = c :: cs.drop (o + 1) := by
    rw [List.drop_eq_getElem_cons hlt]
    rw [List.getElem?_eq_getElem hlt] at hc
    simp only [Option.some.injEq] at hc
    rw [hc]
  rw [this]; rfl
theorem Own.all {H : AHeap} {b : Nat} {cs : List AC} (h : Own H b cs) : H.load (b, 0) cs.length = some cs := by
  rw [h.load (by omega)]; simp
theorem splice_map : ∀ (vs cs : List AC) (o : Nat), o + vs.length ≤ cs.length → splice (cs.map some) o (vs.map some) = ((cs.take o ++ vs ++ cs.drop (o + vs.length)).map some)
  | [], cs, o, _ => by simp [splice]
  | v :: vs, cs, o, h => by
    simp only [List.map_cons, splice, List.length_cons] at h ⊢
    rw [show (cs.map some).set o (some v) = (cs.set o v).map some from by rw [List.map_set]]
    rw [splice_map vs (cs.set o v) (o + 1) (by simp; omega)]
    congr 1
    rw [List.take_set, List.drop_set, if_pos (by omega)]
    have : (cs.take (o + 1)).set o v = cs.take o ++ [v] := by
      apply List.ext_getElem?
      intro i
      have hl : (cs.take o).length = o := by rw [List.length_take]; omega
      rw [List.getElem?_set, List.getElem?_append, List.getElem?_take, List.getElem?_take, List.length_take, hl]
      by_cases h1 : o = i
      · subst h1; simp; omega
      · rw [if_neg h1]
        by_cases h2 : i < o
        · rw [if_pos (by omega), if_pos h2, if_pos h2]
        · rw [if_neg (by omega), if_neg h2, List.getElem?_eq_none (by simp; omega)]
    rw [this]
    simp [List.append_assoc, Nat.add_assoc, Nat.add_comm 1]
theorem Own.store {H : AHeap} {b : Nat} {cs : List AC} (h : Own H b cs) {o : Nat} {vs : List AC} (ho : o + vs.length ≤ cs.length) :
    ∃ H', H.store (b, o) vs = some H' ∧ Own H' b (cs.take o ++ vs ++ cs.drop (o + vs.length)) ∧ Keep (fun x => x = b) H H' ∧ H'.size = H.size := by
  obtain ⟨e, hg⟩ := h.get
  have hx := h.ext
  have hlt := h.lt
  refine ⟨H.set b (.row e b 0 false (splice (cs.map some) o (vs.map some))), ?_, ?_, Keep.set hg ⟨rfl, rfl, rfl, rfl, by rw [length_splice, List.length_map]⟩, rfl⟩
  · unfold AHeap.store
    simp only [hg, List.length_map, if_pos ho]
    unfold AHeap.stores
    rw [hx]
    simp only [Bool.false_eq_true, if_false]
  · refine ⟨⟨e, ?_⟩, hx⟩
    rw [AHeap.get_set, if_pos ⟨rfl, hlt⟩, splice_map vs cs o ho]
theorem New.own {e : Nat} {cs : List AC} {H : AHeap} {K : AC → AHeap → Prop} (h : ∀ b H', b = H.size → H'.size = H.size + 1 → Own H' b cs → Kp H H' → K (.ptr (some (b, 0))) H') : New e cs H K := by
  refine New.mk (h _ _ rfl (by simp) ⟨⟨e, by rw [AHeap.get_newRow, if_pos rfl]⟩, by rw [AHeap.ext_newRow, if_pos rfl]⟩ (Kp.newRow _ _ _))
theorem NewS.own {e sz len : Nat} {cs : List AC} {H : AHeap} {K : AC → AHeap → Prop} (h : ∀ b H', b = H.size → H'.size = H.size + 1 → Own H' b cs → Kp H H' → K (.sl (some (b, 0)) sz len (some len)) H') : NewS e sz len cs H K := by
  refine NewS.mk (h _ _ rfl (by simp) ⟨⟨e, by rw [AHeap.get_newRow, if_pos rfl]⟩, by rw [AHeap.ext_newRow, if_pos rfl]⟩ (Kp.newRow _ _ _))
theorem Sto.own {H : AHeap} {b o : Nat} {vs cs : List AC} {K : AHeap → Prop} (hb : Own H b cs) (ho : o + vs.length ≤ cs.length)
    (h : ∀ H', Own H' b (cs.take o ++ vs ++ cs.drop (o + vs.length)) → Keep (fun x => x = b) H H' → H'.size = H.size → K H') : Sto H (.ptr (some (b, o))) vs K := by
  obtain ⟨H', e, h1, h2, h3⟩ := hb.store (vs := vs) ho
  exact Sto.mk e (h H' h1 h2 h3)
theorem NewSto.own {e : Nat} {cs vs : List AC} {H : AHeap} {K : AC → AHeap → Prop} (hl : vs.length = cs.length) (h : ∀ b H', b = H.size → H'.size = H.size + 1 → Own H' b vs → Kp H H' → K (.ptr (some (b, 0))) H') :
    New e cs H fun p H1 => Sto H1 p vs fun H2 => K p H2 := by
  refine New.own fun b H1 hb hs ho hk => ?_
  refine Sto.own ho (by omega) fun H2 ho2 hk2 hs2 => ?_
  have : cs.take 0 ++ vs ++ cs.drop (0 + vs.length) = vs := by simp [hl]
  rw [this] at ho2
  refine h b H2 hb (by omega) ho2 ?_
  exact (Keep.trans (hk.mono fun _ _ e => e.elim) (hk2.mono (T := fun x => H.size ≤ x) fun x _ e => by have e' : x = b := e; omega) (fun x _ e => e) : Keep (fun x => H.size ≤ x) H H2).old fun x hx e => by omega
theorem Ld.oc {H : AHeap} {b o : Nat} {cs : List AC} {c : AC} {k : AC → Prop} (hb : Own H b cs) (hc : cs[o]? = some c) (q : k c) : Ld [.ac] H (.ptr (some (b, o))) k := Ld.c (hb.cell hc) q
theorem Ld.oi {H : AHeap} {b o : Nat} {cs : List AC} {kk : IntKind} {n : Int} {k : Int → Prop} (hb : Own H b cs) (hc : cs[o]? = some (.int kk n)) (q : k n) : Ld [.int kk] H (.ptr (some (b, o))) k := Ld.i (hb.cell hc) q
theorem Ld.ob {H : AHeap} {b o : Nat} {cs : List AC} {n : Bool} {k : Bool → Prop} (hb : Own H b cs) (hc : cs[o]? = some (.bool n)) (q : k n) : Ld [.bool] H (.ptr (some (b, o))) k := Ld.b (hb.cell hc) q
theorem Ld.oall {tys : List CT} {H : AHeap} {b : Nat} {cs : List AC} {k : Cur tys} (hb : Own H b cs) (xs : Tup tys) (hc : cs = cellsOf tys xs) (q : app tys k xs) : Ld tys H (.ptr (some (b, 0))) k := by
  refine Ld.mk xs ?_ q
  rw [← length_cellsOf (tys := tys) (xs := xs), ← hc]
  exact hb.all
structure SlR (H : AHeap) (s : AC) (sz : Nat) (rows : List (List AC)) : Prop where
  ex : ∃ a z cap, s = .sl a z rows.length cap ∧ ∀ (i : Nat) (r : List AC), rows[i]? = some r → z = sz ∧ ∃ b o, a = some (b, o) ∧ H.load (b, o + i * sz) sz = some r
theorem SlR.keep {S : Nat → Prop} {H H' : AHeap} {s : AC} {sz : Nat} {rows : List (List AC)} (h : SlR H s sz rows) (k : Keep S H H') (hs : ∀ b o n cap z, s = .sl (some (b, o)) z n cap → ¬ S b) : SlR H' s sz rows := by
  obtain ⟨a, z, cap, e, h⟩ := h.ex
  refine ⟨a, z, cap, e, fun i r hr => ?_⟩
  obtain ⟨hz, b, o, e1, e2⟩ := h i r hr
  subst e1
  exact ⟨hz, b, o, rfl, k.loadS e2 (hs b o _ _ _ e)⟩
theorem SlR.kp {H H' : AHeap} {s : AC} {sz : Nat} {rows : List (List AC)} (h : SlR H s sz rows) (k : Kp H H') : SlR H' s sz rows := h.keep k fun _ _ _ _ _ _ => id
theorem LenS.of {H : AHeap} {s : AC} {sz : Nat} {rows : List (List AC)} (h : SlR H s sz rows) {k : Int → Prop} (q : k (rows.length : Int)) : LenS s k := by
  obtain ⟨a, z, cap, rfl, _⟩ := h.ex
  exact LenS.mk q
theorem IA.of {H : AHeap} {s : AC} {sz : Nat} {rows : List (List AC)} (h : SlR H s sz rows) {i : Int} {r : List AC} (h0 : 0 ≤ i) (hr : rows[i.toNat]? = some r) {k : AC → Prop}
    (q : ∀ b o, H.load (b, o) sz = some r → k (.ptr (some (b, o)))) : IA sz s i k := by
  obtain ⟨a, z, cap, rfl, hl⟩ := h.ex
  obtain ⟨rfl, b, o, rfl, e⟩ := hl _ _ hr
  have hlt := (List.getElem?_eq_some_iff.1 hr).1
  exact IA.mk h0 (by omega) (q b _ e)
theorem Ld.ec {H : AHeap} {b o n i : Nat} {cs : List AC} {c : AC} {k : AC → Prop} (h : H.load (b, o) n = some cs) (hc : cs[i]? = some c) (q : k c) : Ld [.ac] H (.ptr (some (b, o + i))) k := Ld.c (load_cell h hc) q
theorem Ld.ei {H : AHeap} {b o n i : Nat} {cs : List AC} {kk : IntKind} {x : Int} {k : Int → Prop} (h : H.load (b, o) n = some cs) (hc : cs[i]? = some (.int kk x)) (q : k x) : Ld [.int kk] H (.ptr (some (b, o + i))) k := Ld.i (load_cell h hc) q
theorem Ld.all {tys : List CT} {H : AHeap} {b o n : Nat} {cs : List AC} {k : Cur tys} (h : H.load (b, o) n = some cs) (xs : Tup tys) (hc : cs = cellsOf tys xs) (hn : tys.length = n) (q : app tys k xs) : Ld tys H (.ptr (some (b, o))) k := by
  subst hn hc
  exact Ld.mk xs h q
theorem tc {α β : Type} {a a' : α} {b b' : β} (h : a = a') (k : b = b') : (a, b) = (a', b') := by subst h k; rfl
theorem Ld.o1 {H : AHeap} {b : Nat} {cs : List AC} {c0 : CT} {k : Cur [c0]} (hb : Own H b cs) (x0 : c0.T) (hc : cs = [c0.cell x0]) (q : k x0) : Ld [c0] H (.ptr (some (b, 0))) k := Ld.oall hb (x0, ()) hc q
theorem Ld.a1 {H : AHeap} {b o n : Nat} {cs : List AC} {c0 : CT} {k : Cur [c0]} (h : H.load (b, o) n = some cs) (x0 : c0.T) (hc : cs = [c0.cell x0]) (hn : 1 = n) (q : k x0) : Ld [c0] H (.ptr (some (b, o))) k := Ld.all h (x0, ()) hc hn q
theorem Ld.o2 {H : AHeap} {b : Nat} {cs : List AC} {c0 c1 : CT} {k : Cur [c0, c1]} (hb : Own H b cs) (x0 : c0.T) (x1 : c1.T) (hc : cs = [c0.cell x0, c1.cell x1]) (q : k x0 x1) : Ld [c0, c1] H (.ptr (some (b, 0))) k := Ld.oall hb (x0, x1, ()) hc q
theorem Ld.a2 {H : AHeap} {b o n : Nat} {cs : List AC} {c0 c1 : CT} {k : Cur [c0, c1]} (h : H.load (b, o) n = some cs) (x0 : c0.T) (x1 : c1.T) (hc : cs = [c0.cell x0, c1.cell x1]) (hn : 2 = n) (q : k x0 x1) : Ld [c0, c1] H (.ptr (some (b, o))) k := Ld.all h (x0, x1, ()) hc hn q
theorem Ld.o3 {H : AHeap} {b : Nat} {cs : List AC} {c0 c1 c2 : CT} {k : Cur [c0, c1, c2]} (hb : Own H b cs) (x0 : c0.T) (x1 : c1.T) (x2 : c2.T) (hc : cs = [c0.cell x0, c1.cell x1, c2.cell x2]) (q : k x0 x1 x2) : Ld [c0, c1, c2] H (.ptr (some (b, 0))) k := Ld.oall hb (x0, x1, x2, ()) hc q
theorem Ld.a3 {H : AHeap} {b o n : Nat} {cs : List AC} {c0 c1 c2 : CT} {k : Cur [c0, c1, c2]} (h : H.load (b, o) n = some cs) (x0 : c0.T) (x1 : c1.T) (x2 : c2.T) (hc : cs = [c0.cell x0, c1.cell x1, c2.cell x2]) (hn : 3 = n) (q : k x0 x1 x2) : Ld [c0, c1, c2] H (.ptr (some (b, o))) k := Ld.all h (x0, x1, x2, ()) hc hn q
theorem Ld.o4 {H : AHeap} {b : Nat} {cs : List AC} {c0 c1 c2 c3 : CT} {k : Cur [c0, c1, c2, c3]} (hb : Own H b cs) (x0 : c0.T) (x1 : c1.T) (x2 : c2.T) (x3 : c3.T) (hc : cs = [c0.cell x0, c1.cell x1, c2.cell x2, c3.cell x3]) (q : k x0 x1 x2 x3) : Ld [c0, c1, c2, c3] H (.ptr (some (b, 0))) k := Ld.oall hb (x0, x1, x2, x3, ()) hc q
theorem Ld.a4 {H : AHeap} {b o n : Nat} {cs : List AC} {c0 c1 c2 c3 : CT} {k : Cur [c0, c1, c2, c3]} (h : H.load (b, o) n = some cs) (x0 : c0.T) (x1 : c1.T) (x2 : c2.T) (x3 : c3.T) (hc : cs = [c0.cell x0, c1.cell x1, c2.cell x2, c3.cell x3]) (hn : 4 = n) (q : k x0 x1 x2 x3) : Ld [c0, c1, c2, c3] H (.ptr (some (b, o))) k := Ld.all h (x0, x1, x2, x3, ()) hc hn q
theorem Ld.o5 {H : AHeap} {b : Nat} {cs : List AC} {c0 c1 c2 c3 c4 : CT} {k : Cur [c0, c1, c2, c3, c4]} (hb : Own H b cs) (x0 : c0.T) (x1 : c1.T) (x2 : c2.T) (x3 : c3.T) (x4 : c4.T) (hc : cs = [c0.cell x0, c1.cell x1, c2.cell x2, c3.cell x3, c4.cell x4]) (q : k x0 x1 x2 x3 x4) : Ld [c0, c1, c2, c3, c4] H (.ptr (some (b, 0))) k := Ld.oall hb (x0, x1, x2, x3, x4, ()) hc q
theorem Ld.a5 {H : AHeap} {b o n : Nat} {cs : List AC} {c0 c1 c2 c3 c4 : CT} {k : Cur [c0, c1, c2, c3, c4]} (h : H.load (b, o) n = some cs) (x0 : c0.T) (x1 : c1.T) (x2 : c2.T) (x3 : c3.T) (x4 : c4.T) (hc : cs = [c0.cell x0, c1.cell x1, c2.cell x2, c3.cell x3, c4.cell x4]) (hn : 5 = n) (q : k x0 x1 x2 x3 x4) : Ld [c0, c1, c2, c3, c4] H (.ptr (some (b, o))) k := Ld.all h (x0, x1, x2, x3, x4, ()) hc hn q
theorem Ld.o6 {H : AHeap} {b : Nat} {cs : List AC} {c0 c1 c2 c3 c4 c5 : CT} {k : Cur [c0, c1, c2, c3, c4, c5]} (hb : Own H b cs) (x0 : c0.T) (x1 : c1.T) (x2 : c2.T) (x3 : c3.T) (x4 : c4.T) (x5 : c5.T) (hc : cs = [c0.cell x0, c1.cell x1, c2.cell x2, c3.cell x3, c4.cell x4, c5.cell x5]) (q : k x0 x1 x2 x3 x4 x5) : Ld [c0, c1, c2, c3, c4, c5] H (.ptr (some (b, 0))) k := Ld.oall hb (x0, x1, x2, x3, x4, x5, ()) hc q
theorem Ld.a6 {H : AHeap} {b o n : Nat} {cs : List AC} {c0 c1 c2 c3 c4 c5 : CT} {k : Cur [c0, c1, c2, c3, c4, c5]} (h : H.load (b, o) n = some cs) (x0 : c0.T) (x1 : c1.T) (x2 : c2.T) (x3 : c3.T) (x4 : c4.T) (x5 : c5.T) (hc : cs = [c0.cell x0, c1.cell x1, c2.cell x2, c3.cell x3, c4.cell x4, c5.cell x5]) (hn : 6 = n) (q : k x0 x1 x2 x3 x4 x5) : Ld [c0, c1, c2, c3, c4, c5] H (.ptr (some (b, o))) k := Ld.all h (x0, x1, x2, x3, x4, x5, ()) hc hn q
theorem Ld.o7 {H : AHeap} {b : Nat} {cs : List AC} {c0 c1 c2 c3 c4 c5 c6 : CT} {k : Cur [c0, c1, c2, c3, c4, c5, c6]} (hb : Own H b cs) (x0 : c0.T) (x1 : c1.T) (x2 : c2.T) (x3 : c3.T) (x4 : c4.T) (x5 : c5.T) (x6 : c6.T) (hc : cs = [c0.cell x0, c1.cell x1, c2.cell x2, c3.cell x3, c4.cell x4, c5.cell x5, c6.cell x6]) (q : k x0 x1 x2 x3 x4 x5 x6) : Ld [c0, c1, c2, c3, c4, c5, c6] H (.ptr (some (b, 0))) k := Ld.oall hb (x0, x1, x2, x3, x4, x5, x6, ()) hc q
theorem Ld.a7 {H : AHeap} {b o n : Nat} {cs : List AC} {c0 c1 c2 c3 c4 c5 c6 : CT} {k : Cur [c0, c1, c2, c3, c4, c5, c6]} (h : H.load (b, o) n = some cs) (x0 : c0.T) (x1 : c1.T) (x2 : c2.T) (x3 : c3.T) (x4 : c4.T) (x5 : c5.T) (x6 : c6.T) (hc : cs = [c0.cell x0, c1.cell x1, c2.cell x2, c3.cell x3, c4.cell x4, c5.cell x5, c6.cell x6]) (hn : 7 = n) (q : k x0 x1 x2 x3 x4 x5 x6) : Ld [c0, c1, c2, c3, c4, c5, c6] H (.ptr (some (b, o))) k := Ld.all h (x0, x1, x2, x3, x4, x5, x6, ()) hc hn q
theorem Ld.a9 {H : AHeap} {b o n : Nat} {cs : List AC} {c0 c1 c2 c3 c4 c5 c6 c7 c8 : CT} {k : Cur [c0, c1, c2, c3, c4, c5, c6, c7, c8]} (h : H.load (b, o) n = some cs) (x0 : c0.T) (x1 : c1.T) (x2 : c2.T) (x3 : c3.T) (x4 : c4.T) (x5 : c5.T) (x6 : c6.T) (x7 : c7.T) (x8 : c8.T) (hc : cs = [c0.cell x0, c1.cell x1, c2.cell x2, c3.cell x3, c4.cell x4, c5.cell x5, c6.cell x6, c7.cell x7, c8.cell x8]) (hn : 9 = n) (q : k x0 x1 x2 x3 x4 x5 x6 x7 x8) : Ld [c0, c1, c2, c3, c4, c5, c6, c7, c8] H (.ptr (some (b, o))) k := Ld.all h (x0, x1, x2, x3, x4, x5, x6, x7, x8, ()) hc hn q
theorem wrap64 {n : Int} (h1 : -9223372036854775808 ≤ n) (h2 : n < 9223372036854775808) : IntKind.wrap .i64 n = n := wrap_small h1 h2
end Go.AI
end
section
namespace Go.AI
structure OwnS (H : AHeap) (s : AC) (sz : Nat) (F : Nat → Prop) (rows : List (List AC)) : Prop where
  len : ∀ r ∈ rows, r.length = sz
  lt : ∀ x, F x → x < H.size
  ex : (s = .sl none 0 0 (some 0) ∧ rows = []) ∨ ∃ b e g st cap, s = .sl (some (b, 0)) sz rows.length cap ∧ H.get b = some (.row e g st false (rows.flatten.map some)) ∧ (H.ext g).1 ≤ st + rows.flatten.length ∧ (cap = none ∨ cap = some rows.length) ∧ F b ∧ F g
  grp : GW H → ∀ b o z n cap e g st ro cs x e' st' ro' cs', s = .sl (some (b, o)) z n cap → H.get b = some (.row e g st ro cs) → H.get x = some (.row e' g st' ro' cs') → F x
theorem flatten_len {sz : Nat} : ∀ {rows : List (List AC)}, (∀ r ∈ rows, r.length = sz) → rows.flatten.length = rows.length * sz
  | [], _ => by simp
  | r :: rows, h => by
    rw [List.flatten_cons, List.length_append, flatten_len fun r hr => h r (List.mem_cons_of_mem _ hr), h r (List.mem_cons_self ..), List.length_cons, Nat.add_mul, Nat.one_mul, Nat.add_comm]
theorem flatten_row {sz : Nat} : ∀ {rows : List (List AC)} {i : Nat} {r : List AC}, (∀ r ∈ rows, r.length = sz) → rows[i]? = some r → (rows.flatten.drop (i * sz)).take sz = r
  | [], i, r, _, h => by simp at h
  | a :: rows, 0, r, hl, h => by
    simp only [List.getElem?_cons_zero, Option.some.injEq] at h
    subst h
    rw [Nat.zero_mul, List.drop_zero, List.flatten_cons, List.take_append_of_le_length (by rw [hl _ (List.mem_cons_self ..)]; exact Nat.le_refl _), List.take_of_length_le (by rw [hl _ (List.mem_cons_self ..)]; exact Nat.le_refl _)]
  | a :: rows, i + 1, r, hl, h => by
    simp only [List.getElem?_cons_succ] at h
    have ha := hl a (List.mem_cons_self ..)
    rw [List.flatten_cons, show (i + 1) * sz = a.length + i * sz from by rw [ha, Nat.add_mul, Nat.one_mul, Nat.add_comm], ← List.drop_drop, List.drop_left]
    exact flatten_row (fun r hr => hl r (List.mem_cons_of_mem _ hr)) h
theorem OwnS.slr {H : AHeap} {s : AC} {sz : Nat} {F : Nat → Prop} {rows : List (List AC)} (h : OwnS H s sz F rows) : SlR H s sz rows := by
  rcases h.ex with ⟨rfl, rfl⟩ | ⟨b, e, g, st, cap, rfl, hg, _, _, _, _⟩
  · exact ⟨⟨none, 0, some 0, rfl, fun i r hr => by simp at hr⟩⟩
  · refine ⟨⟨_, _, _, rfl, fun i r hr => ⟨rfl, b, 0, rfl, ?_⟩⟩⟩
    have hlt := (List.getElem?_eq_some_iff.1 hr).1
    have hfl := flatten_len h.len
    have hm : (i + 1) * sz ≤ rows.length * sz := Nat.mul_le_mul_right _ hlt
    rw [Nat.add_mul, Nat.one_mul] at hm
    rw [Nat.zero_add, load_of hg (by omega), flatten_row h.len hr]
theorem OwnS.keep {S F : Nat → Prop} {H H' : AHeap} {s : AC} {sz : Nat} {rows : List (List AC)} (h : OwnS H s sz F rows) (k : Keep S H H') (hd : ∀ x, S x → ¬ F x) : OwnS H' s sz F rows := by
  refine ⟨h.len, fun x hx => Nat.lt_of_lt_of_le (h.lt x hx) k.size, ?_, fun hw' b o z n cap e g st ro cs x e' st' ro' cs' hs hb hx => ?_⟩
  rotate_left
  · rcases h.ex with ⟨h1, _⟩ | ⟨b1, e1, g1, st1, cap1, h1, h2, _, _, h5, h6⟩
    · rw [h1] at hs; cases hs
    · rw [h1] at hs
      cases hs
      have hg := k.getS h2 fun hx => hd _ hx h5
      rw [hg] at hb
      cases hb
      obtain ⟨_, _, _, _, h3⟩ := k.grp x _ _ _ _ _ hx (h.lt _ h6) fun hS => hd _ hS h6
      exact h.grp (k.gw.2 hw') _ _ _ _ _ _ _ _ _ _ _ _ _ _ _ h1 h2 h3
  rcases h.ex with h1 | ⟨b, e, g, st, cap, h1, h2, h3, h4, h5, h6⟩
  · exact .inl h1
  · exact .inr ⟨b, e, g, st, cap, h1, k.getS h2 fun hx => hd _ hx h5, by rw [k.ext g (h.lt g h6) fun hx => hd _ hx h6]; exact h3, h4, h5, h6⟩
theorem OwnS.kp {F : Nat → Prop} {H H' : AHeap} {s : AC} {sz : Nat} {rows : List (List AC)} (h : OwnS H s sz F rows) (k : Kp H H') : OwnS H' s sz F rows := h.keep k fun _ hx => hx.elim
theorem OwnS.nil (H : AHeap) (sz : Nat) : OwnS H (.sl none 0 0 (some 0)) sz (fun _ => False) [] := ⟨fun _ h => (by cases h), fun _ h => h.elim, .inl ⟨rfl, rfl⟩, fun _ b o z n cap e g st ro cs x e' st' ro' cs' hs _ _ => by cases hs⟩
theorem OwnS.wide {F G : Nat → Prop} {H : AHeap} {s : AC} {sz : Nat} {rows : List (List AC)} (h : OwnS H s sz F rows) (hF : ∀ x, F x → G x) (hG : ∀ x, G x → x < H.size) : OwnS H s sz G rows := by
  refine ⟨h.len, hG, ?_, fun hw b o z n cap e g st ro cs x e' st' ro' cs' hs hb hx => hF _ (h.grp hw b o z n cap e g st ro cs x e' st' ro' cs' hs hb hx)⟩
  rcases h.ex with h1 | ⟨b, e, g, st, cap, h1, h2, h3, h4, h5, h6⟩
  · exact .inl h1
  · exact .inr ⟨b, e, g, st, cap, h1, h2, h3, h4, hF _ h5, hF _ h6⟩
theorem fresh_grp {H : AHeap} {F : Nat → Prop} (e0 : TypeId) (cs0 : List (Option AC)) (s : AC) {sz n0 : Nat} {cap0 : Option Nat} (hs : s = .sl (some (H.size, 0)) sz n0 cap0) : GW (H.newRow e0 cs0) → ∀ b o z n cap e g st ro cs x e' st' ro' cs', s = .sl (some (b, o)) z n cap → (H.newRow e0 cs0).get b = some (.row e g st ro cs) → (H.newRow e0 cs0).get x = some (.row e' g st' ro' cs') → F x ∨ x = H.size := by
  intro hw b o z n cap e g st ro cs x e' st' ro' cs' h1 hb hx
  rw [hs] at h1
  cases h1
  rw [AHeap.get_newRow, if_pos rfl] at hb
  cases hb
  have h1 := hw _ _ _ _ _ _ hx
  have h2 := AHeap.get_lt hx
  have h3 : (H.newRow e0 cs0).size = H.size + 1 := by simp
  exact .inr (by omega)
theorem App.own {H : AHeap} {s x : AC} {sz bytes e : Nat} {F : Nat → Prop} {rows : List (List AC)} {r : List AC} {K : AC → AHeap → Prop} (hs : OwnS H s sz F rows) (hx : ∃ p cap, x = .sl (some (p, 0)) sz 1 cap ∧ H.load (p, 0) sz = some r)
    (hr : r.length = sz) (hb : (rows.length + 1) * bytes ≤ 140737488355328) (hn : rows.length + 1 ≤ 4611686018427387904)
    (h : ∀ s' H', OwnS H' s' sz (fun y => F y ∨ y = H.size) (rows ++ [r]) → Keep F H H' → H'.size = H.size + 1 → K s' H') : App e sz bytes s x H K := by
  obtain ⟨p, capx, rfl, hld⟩ := hx
  have hsrc : srcA H sz (.sl (some (p, 0)) sz 1 capx) = some (1, r) := by simp [srcA, hld]
  have hlen' : ∀ y ∈ rows ++ [r], y.length = sz := by
    intro y hy
    rcases List.mem_append.1 hy with hy | hy
    · exact hs.len y hy
    · simp at hy; subst hy; exact hr
  have hfl := flatten_len hs.len
  rcases hs.ex with ⟨rfl, rfl⟩ | ⟨b, e0, g, st, cap, rfl, h2, h3, h4, h5, h6⟩
  · refine App.mk hsrc (s' := .sl (some (H.size, 0)) sz 1 none) (H' := H.newRow e (r.map some)) ?_ (h _ _ ⟨hlen', fun y hy => ?_, .inr ⟨H.size, e, H.size, 0, none, rfl, ?_, ?_, .inl rfl, .inr rfl, .inr rfl⟩, fresh_grp _ _ _ rfl⟩ ?_ (by simp))
    · have : ¬ ((0 + 1) * bytes > maxBytes ∨ 0 + 1 > 4611686018427387904) := by unfold maxBytes; simp at hb; omega
      simp only [appendA, if_neg this]
      rfl
    · rcases hy with hy | hy
      · have := hs.lt y hy; simp; omega
      · simp; omega
    · rw [AHeap.get_newRow, if_pos rfl]; simp
    · rw [AHeap.ext_newRow, if_pos rfl]; simp
    · exact (Kp.newRow H e _).mono fun _ _ hx => hx.elim
  · have hne : ¬ ((rows.length + 1) * bytes > maxBytes ∨ rows.length + 1 > 4611686018427387904) := by unfold maxBytes; omega
    have hbnd : ¬ (0 + rows.length * sz > (rows.flatten.map some).length) := by rw [List.length_map, hfl]; omega
    have hall : ((rows.flatten.map some).drop 0).take (rows.length * sz) ++ r.map some = (rows ++ [r]).flatten.map some := by
      rw [List.drop_zero, List.take_of_length_le (by rw [List.length_map, hfl]; omega)]; simp
    have hsize : H.size < (H.size + 1) := by omega
    rcases h4 with rfl | rfl
    · -- the room behind it may be another's
      refine App.mk hsrc (s' := .sl (some (H.size, 0)) sz (rows.length + 1) none) (H' := H.alias e0 g (st + 0) (st + (0 + rows.length * sz)) (((rows.flatten.map some).drop 0).take (rows.length * sz) ++ r.map some)) ?_ ?_
      · simp only [appendA, if_neg hne, h2, if_neg hbnd]
        simp
      · rw [hall]
        have hext : (H.ext g).1 ≤ st + (0 + rows.length * sz) := by omega
        have hblot : H.blotGroup g (st + (0 + rows.length * sz)) (st + 0 + ((rows ++ [r]).flatten.map some).length) = H := by
          unfold AHeap.blotGroup; rw [if_pos hext]
        have hget : ∀ m, (H.alias e0 g (st + 0) (st + (0 + rows.length * sz)) ((rows ++ [r]).flatten.map some)).get m = if m = H.size then some (.row e0 g (st + 0) false ((rows ++ [r]).flatten.map some)) else H.get m := by
          intro m
          unfold AHeap.alias
          rw [hblot, AHeap.get_setExt, AHeap.get_push]
        refine h _ _ ⟨hlen', fun y hy => ?_, .inr ⟨H.size, e0, g, st, none, by simp, ?_, ?_, .inl rfl, .inr rfl, .inl h6⟩, fun hw b' o' z' n' cap' e1 g1 st1 ro1 cs1 x e' st' ro' cs' hs' hb' hx' => ?_⟩ ⟨?_, ?_, ?_, ⟨fun hw x e' g' st' ro' cs' hx => ?_, fun hw x e' g' st' ro' cs' hx => ?_⟩, fun x e' g' st' ro' cs' hx hg hn => ?_⟩ ?_
        · rw [AHeap.size_alias]
          rcases hy with hy | hy
          · have := hs.lt y hy; omega
          · omega
        · rw [hget, if_pos rfl]; rfl
        · rw [AHeap.ext_alias, if_pos rfl]
          have e1 := flatten_len hlen'
          have e2 : (rows ++ [r]).length * sz = rows.length * sz + sz := by rw [List.length_append, Nat.add_mul]; simp
          simp only [List.length_map]
          have e3 : max (H.ext g).1 (st + 0 + (rows ++ [r]).flatten.length) = st + 0 + (rows ++ [r]).flatten.length := Nat.max_eq_right (by omega)
          rw [e3]
          omega
        · cases hs'
          rw [hget, if_pos rfl] at hb'
          cases hb'
          rw [hget] at hx'
          split at hx'
          · next h => exact .inr h
          · refine .inl (hs.grp (fun y e2 g2 st2 ro2 cs2 hy => ?_) _ _ _ _ _ _ _ _ _ _ x _ _ _ _ rfl h2 hx')
            refine hw y e2 g2 st2 ro2 cs2 ?_
            have := AHeap.get_lt hy
            rw [hget, if_neg (by omega)]
            exact hy
        · rw [AHeap.size_alias]; omega
        · intro m hm _; rw [hget, if_neg (by omega)]
        · intro m hm hn2
          rw [AHeap.ext_alias, if_neg (fun e => hn2 (by rw [e]; exact h6))]
        · rw [hget] at hx
          split at hx
          · next h =>
            cases hx
            have := hs.lt _ h6
            omega
          · exact hw _ _ _ _ _ _ hx
        · refine hw x e' g' st' ro' cs' ?_
          have := AHeap.get_lt hx
          rw [hget, if_neg (by omega)]
          exact hx
        · rw [hget] at hx
          split at hx
          · cases hx
            exact absurd h6 hn
          · exact ⟨_, _, _, _, hx⟩
        · rw [AHeap.size_alias]
    · refine App.mk hsrc (s' := .sl (some (H.size, 0)) sz (rows.length + 1) none) (H' := H.newRow e (((rows.flatten.map some).drop 0).take (rows.length * sz) ++ r.map some)) ?_ ?_
      · simp only [appendA, if_neg hne, h2, if_neg hbnd]
        simp
      · rw [hall]
        refine h _ _ ⟨hlen', fun y hy => ?_, .inr ⟨H.size, e, H.size, 0, none, by simp, ?_, ?_, .inl rfl, .inr rfl, .inr rfl⟩, fresh_grp _ _ _ rfl⟩ ((Kp.newRow H e _).mono fun _ _ hx => hx.elim) (by simp)
        · rcases hy with hy | hy
          · have := hs.lt y hy; simp; omega
          · simp; omega
        · rw [AHeap.get_newRow, if_pos rfl]
        · rw [AHeap.ext_newRow, if_pos rfl]; simp only [List.length_map]; omega
def ofI (es : List (List Int × Int)) : List (List Int × AV) := es.map fun e => (e.1, .one (.int .i64 e.2))
structure MapI (H : AHeap) (b : Nat) (kk : Option Nat) (es : List (List Int × Int)) : Prop where
  get : H.get b = some (.map (entE kk (ofI es)))
  ok : ∀ e ∈ es, lenOk kk e.1 = true
def findI (n : List Int) : List (List Int × Int) → Option Int
  | [] => none
  | (m, v) :: r => if m = n then some v else findI n r
def setI (n : List Int) (x : Int) : List (List Int × Int) → List (List Int × Int)
  | [] => [(n, x)]
  | (m, v) :: r => if m = n then (n, x) :: r else (m, v) :: setI n x r
theorem find_ofI (n : List Int) : ∀ es : List (List Int × Int), findE n (ofI es) = (findI n es).map fun x => .one (.int .i64 x)
  | [] => rfl
  | (m, v) :: r => by
    simp only [ofI, List.map_cons, findE, findI]
    split
    · rfl
    · exact find_ofI n r
theorem set_ofI (n : List Int) (x : Int) : ∀ es : List (List Int × Int), setE n (.one (.int .i64 x)) (ofI es) = ofI (setI n x es)
  | [] => rfl
  | (m, v) :: r => by
    simp only [ofI, List.map_cons, setE, setI]
    split
    · rfl
    · simp only [List.map_cons]; rw [← ofI, ← ofI, set_ofI n x r]
theorem setI_mem {n : List Int} {x : Int} : ∀ {es : List (List Int × Int)} {e : List Int × Int}, e ∈ setI n x es → e = (n, x) ∨ e ∈ es
  | [], e, h => by simp [setI] at h; exact .inl h
  | (m, v) :: r, e, h => by
    simp only [setI] at h
    split at h
    · rcases List.mem_cons.1 h with h | h
      · exact .inl h
      · exact .inr (List.mem_cons_of_mem _ h)
    · rcases List.mem_cons.1 h with h | h
      · exact .inr (by rw [h]; exact List.mem_cons_self ..)
      · rcases setI_mem h with h | h
        · exact .inl h
        · exact .inr (List.mem_cons_of_mem _ h)
theorem findI_set (n : List Int) (x : Int) (m : List Int) : ∀ es : List (List Int × Int), findI m (setI n x es) = if n = m then some x else findI m es
  | [] => by simp only [setI, findI]
  | (k, v) :: r => by
    simp only [setI]
    by_cases h : k = n
    · subst h
      rw [if_pos rfl]
      simp only [findI]
      split <;> rfl
    · rw [if_neg h]
      simp only [findI, findI_set n x m r]
      by_cases h1 : k = m
      · subst h1
        rw [if_pos rfl, if_pos rfl, if_neg (fun e => h e.symm)]
      · rw [if_neg h1, if_neg h1]
theorem MapI.lt {H : AHeap} {b : Nat} {kk : Option Nat} {es : List (List Int × Int)} (h : MapI H b kk es) : b < H.size := AHeap.get_lt h.get
theorem MapI.keep {S : Nat → Prop} {H H' : AHeap} {b : Nat} {kk : Option Nat} {es : List (List Int × Int)} (h : MapI H b kk es) (k : Keep S H H') (hn : ¬ S b) : MapI H' b kk es := ⟨k.getS h.get hn, h.ok⟩
theorem MapI.kp {H H' : AHeap} {b : Nat} {kk : Option Nat} {es : List (List Int × Int)} (h : MapI H b kk es) (k : Kp H H') : MapI H' b kk es := h.keep k id
theorem MapI.all {H : AHeap} {b : Nat} {kk : Option Nat} {es : List (List Int × Int)} (h : MapI H b kk es) : (ofI es).all (fun e => lenOk kk e.1) = true := by
  rw [List.all_eq_true]
  intro e he
  obtain ⟨x, hx, rfl⟩ := List.mem_map.1 he
  exact h.ok x hx
theorem Look.i {H : AHeap} {b : Nat} {kk : Option Nat} {es : List (List Int × Int)} {key : List Int} {K : Bool → Int → Prop} (hm : MapI H b kk es) (hk : lenOk kk key = true)
    (h1 : ∀ n, findI key es = some n → K true n) (h0 : findI key es = none → K false 0) : Look kk false [.int .i64] [.int .i64 0] H (.map (some b)) key K := by
  cases hf : findI key es with
  | some n => exact ⟨ofI es, (n, ()), .inl ⟨b, rfl, hm.get, hm.all⟩, hk, .inl ⟨by rw [find_ofI, hf]; rfl, h1 n hf⟩⟩
  | none => exact ⟨ofI es, ((0 : Int), ()), .inl ⟨b, rfl, hm.get, hm.all⟩, hk, .inr ⟨by rw [find_ofI, hf]; rfl, rfl, h0 hf⟩⟩
theorem MSet.i {H : AHeap} {b : Nat} {kk : Option Nat} {es : List (List Int × Int)} {key : List Int} {n : Int} {K : AHeap → Prop} (hm : MapI H b kk es) (hk : lenOk kk key = true)
    (h : ∀ H', MapI H' b kk (setI key n es) → Keep (fun x => x = b) H H' → H'.size = H.size → K H') : MSet kk H (.map (some b)) key (.one (.int .i64 n)) K := by
  refine ⟨b, ofI es, rfl, hm.get, hm.all, hk, h _ ⟨?_, fun e he => ?_⟩ (Keep.set hm.get trivial) rfl⟩
  · rw [AHeap.get_set, if_pos ⟨rfl, hm.lt⟩, set_ofI]
  · rcases setI_mem he with rfl | he
    · exact hk
    · exact hm.ok e he
theorem NewM.i {H : AHeap} {K : AC → AHeap → Prop} (kk : Option Nat) (h : ∀ b H', b = H.size → H'.size = H.size + 1 → MapI H' b kk [] → Kp H H' → K (.map (some b)) H') : NewM H K :=
  NewM.mk (h _ _ rfl (by simp) ⟨by rw [AHeap.get_push, if_pos rfl]; rfl, fun _ h => by cases h⟩ (Kp.push _ _))
end Go.AI
namespace Go.AI
theorem Slc.of {H : AHeap} {s : AC} {sz : Nat} {rows : List (List AC)} (h : SlR H s sz rows) (hne : rows ≠ []) {lo hi : Option Int} {l u : Nat} (hl : lo.getD 0 = (l : Int)) (hu : hi.getD (rows.length : Int) = (u : Int)) (h1 : l ≤ u) (h2 : u ≤ rows.length) {k : AC → Prop}
    (q : ∀ r, SlR H r sz ((rows.drop l).take (u - l)) → k r) : Slc sz s lo hi k := by
  obtain ⟨a, z, cap, rfl, hr⟩ := h.ex
  obtain ⟨r0, hr0⟩ : ∃ r, rows[0]? = some r := by
    cases rows with
    | nil => exact absurd rfl hne
    | cons r _ => exact ⟨r, rfl⟩
  obtain ⟨rfl, b, o, rfl, _⟩ := hr 0 r0 hr0
  refine Slc.mk (r := .sl (some (b, o + l * z)) z (u - l) (cap.map (· - l))) ?_ (q _ ⟨some (b, o + l * z), z, cap.map (· - l), ?_, fun i r hi => ?_⟩)
  · simp only [sliceA, hl, hu]
    rw [if_pos (by refine ⟨by simp, by omega, by omega, by omega⟩)]
    simp
  · rw [List.length_take, List.length_drop, Nat.min_eq_left (by omega)]
  · rw [List.getElem?_take] at hi
    split at hi
    · rw [List.getElem?_drop] at hi
      obtain ⟨_, b', o', e, hld⟩ := hr _ _ hi
      cases e
      refine ⟨rfl, b, o + l * z, rfl, ?_⟩
      rw [show o + l * z + i * z = o + (l + i) * z from by rw [Nat.add_mul]; omega]
      exact hld
    · cases hi
theorem Own.slr {H : AHeap} {b : Nat} {cs : List AC} (h : Own H b cs) (cap : Option Nat) : SlR H (.sl (some (b, 0)) 1 cs.length cap) 1 (cs.map fun c => [c]) := by
  refine ⟨_, 1, cap, by rw [List.length_map], fun i r hr => ⟨rfl, b, 0, rfl, ?_⟩⟩
  rw [List.getElem?_map, Option.map_eq_some_iff] at hr
  obtain ⟨c, hc, rfl⟩ := hr
  rw [Nat.zero_add, Nat.mul_one]
  exact h.cell hc
theorem flatten_rep (x : AC) : ∀ n, (List.flatten (List.replicate n [x])) = List.replicate n x
  | 0 => rfl
  | n + 1 => by rw [List.replicate_succ, List.flatten_cons, flatten_rep x n, List.replicate_succ]; rfl
theorem MkS.own {e bytes : Nat} {zero : AC} {n : Nat} {H : AHeap} {K : AC → AHeap → Prop} (hb : n * bytes ≤ 140737488355328) (hn : n ≤ 4611686018427387904)
    (h : ∀ b H', b = H.size → H'.size = H.size + 1 → Own H' b (List.replicate n zero) → Kp H H' → K (.sl (some (b, 0)) 1 n (some n)) H') : MkS e 1 bytes [zero] (n : Int) (n : Int) H K := by
  refine MkS.mk (by omega) (by omega) ?_ (by omega) ?_
  · unfold maxBytes; exact_mod_cast hb
  · rw [Int.toNat_natCast, flatten_rep]
    exact h _ _ rfl (by simp) ⟨⟨e, by rw [AHeap.get_newRow, if_pos rfl]⟩, by rw [AHeap.ext_newRow, if_pos rfl]⟩ (Kp.newRow _ _ _)
theorem Sto.cell {H : AHeap} {b o : Nat} {v : AC} {cs : List AC} {K : AHeap → Prop} (hb : Own H b cs) (ho : o < cs.length) (h : ∀ H', Own H' b (cs.set o v) → Keep (fun x => x = b) H H' → H'.size = H.size → K H') : Sto H (.ptr (some (b, o))) [v] K := by
  refine Sto.own hb (by simp; omega) fun H' h1 h2 h3 => h H' ?_ h2 h3
  have : cs.take o ++ [v] ++ cs.drop (o + [v].length) = cs.set o v := by
    rw [List.set_eq_take_append_cons_drop, if_pos ho]; simp
  rwa [this] at h1
end Go.AI
namespace Go.AI
end Go.AI
namespace Go.AI
theorem CVT.imp {P : Program} [BaseC P] {rs : List (Bool × List CT)} {c : AC} {args : List AV} {H : AHeap} {k k' : AHeap → Cur (flat rs)} (h : ∀ H', Imp (flat rs) (k H') (k' H')) : CVT P rs c args H k → CVT P rs c args H k' :=
  fun k => k.elim (fun ⟨g, first, caps, e1, e2, e3⟩ => .inl ⟨g, first, caps, e1, e2, RunT.imp h e3⟩) fun ⟨l, e1, e3⟩ => .inr ⟨l, e1, RunT.imp h e3⟩
end Go.AI
end
section
namespace Go.AI
open Go.Lib
theorem callE_told {P : Program} [BaseC P] {f : FuncId} {args : List AV} {H : AHeap} {r} (hb : BaseC.has P f = true) (h : BaseC.call P f args H = some r) : callE P f args H = some r := by
  refine callE_some.2 ⟨1, ?_⟩
  unfold callA
  rw [if_pos hb, h]
theorem runT_told {P : Program} [BaseC P] {rs : List (Bool × List CT)} {f : FuncId} {args : List AV} {H H' : AHeap} {v : AV} {K : AHeap → Cur (flat rs)} (hb : BaseC.has P f = true) (h : BaseC.call P f args H = some (v, H')) (xs : Tup (flat rs)) (hv : v = joinR (splitP rs (cellsOf (flat rs) xs)))
    (k : app (flat rs) (K H') xs) : RunT P rs f args H K := ⟨v, H', callE_told hb h, xs, hv, k⟩
def iRows (l : List Int) : List (List AC) := l.map fun n => [AC.int .i64 n]
theorem iRows_flat : ∀ l : List Int, (iRows l).flatten = l.map (AC.int .i64)
  | [] => rfl
  | a :: l => by
    have := iRows_flat l
    unfold iRows at this ⊢
    rw [List.map_cons, List.flatten_cons, this]
    rfl
theorem iRows_len (l : List Int) : (iRows l).length = l.length := by unfold iRows; rw [List.length_map]
theorem OwnS.turn {H : AHeap} {s : AC} {F : Nat → Prop} {l l' : List Int} (h : OwnS H s 1 F (iRows l)) (hw : GW H) (hl : l'.length = l.length) :
    s = .sl none 0 0 (some 0) ∧ l = [] ∨ ∃ b cap H', s = .sl (some (b, 0)) 1 l.length cap ∧ H.load (b, 0) l.length = some (l.map (AC.int .i64)) ∧ H.store (b, 0) (l'.map (AC.int .i64)) = some H' ∧ OwnS H' s 1 F (iRows l') ∧ Keep F H H' ∧ H'.size = H.size := by
  rcases h.ex with ⟨h1, h2⟩ | ⟨b, e, g, st, cap, h1, hg, h3, h4, h5, h6⟩
  · refine .inl ⟨h1, ?_⟩
    have := congrArg List.length h2
    rw [iRows_len] at this
    exact List.eq_nil_of_length_eq_zero this
  · rw [iRows_len] at h1
    rw [iRows_flat] at hg
    have hblt := AHeap.get_lt hg
    obtain ⟨H', hH'⟩ : ∃ H', H' = H.stores b e g st 0 ((l.map (AC.int .i64)).map some) ((l'.map (AC.int .i64)).map some) := ⟨_, rfl⟩
    have hst : H.store (b, 0) (l'.map (AC.int .i64)) = some H' := by
      unfold AHeap.store
      simp only [hg]
      rw [if_pos (by simp [hl]), hH']
    have hsz : H'.size = H.size := by rw [hH']; exact AHeap.size_stores _ _ _ _ _ _ _ _
    have hext : ∀ k, H'.ext k = H.ext k := fun k => by rw [hH']; exact AHeap.ext_stores _ _ _ _ _ _ _ _ _
    have hnew : splice ((l.map (AC.int .i64)).map some) 0 ((l'.map (AC.int .i64)).map some) = (l'.map (AC.int .i64)).map some := by
      rw [splice_map _ _ 0 (by simp [hl]), List.take_zero, List.nil_append, List.drop_eq_nil_of_le (by simp [hl]), List.append_nil]
    -- what each block holds behind it
    have hget : ∀ m, H'.get m = if m = b then some (.row e g st false ((l'.map (AC.int .i64)).map some)) else if (H.ext g).2 = true ∧ ¬ (H.ext g).1 ≤ st + 0 then (H.get m).map (blot g (st + 0) (st + 0 + l'.length)) else H.get m := by
      intro m
      rw [hH']
      unfold AHeap.stores
      rw [AHeap.get_set, hnew]
      have hlt' : b < (if (H.ext g).2 = true then H.blotGroup g (st + 0) (st + 0 + ((l'.map (AC.int .i64)).map some).length) else H).size := by
        split
        · rw [AHeap.size_blotGroup]; exact hblt
        · exact hblt
      by_cases hm : m = b
      · rw [if_pos ⟨hm, hlt'⟩, if_pos hm]
      · rw [if_neg (fun k => hm k.1), if_neg hm]
        by_cases hx : (H.ext g).2 = true
        · rw [if_pos hx]
          unfold AHeap.blotGroup
          by_cases hy : (H.ext g).1 ≤ st + 0
          · rw [if_pos hy, if_neg (fun k => k.2 hy)]
          · rw [if_neg hy, if_pos ⟨hx, hy⟩, AHeap.get_blotAll]
            by_cases hml : m < H.size
            · rw [if_pos hml]; simp
            · rw [if_neg hml]
              have : H.get m = none := by unfold AHeap.get; rw [if_neg hml]
              rw [this]; rfl
        · rw [if_neg hx, if_neg (fun k => hx k.1)]
    -- rows keep their groups
    have rowOf : ∀ x e' g' st' ro' cs', H'.get x = some (.row e' g' st' ro' cs') → ∃ e1 st1 ro1 cs1, H.get x = some (.row e1 g' st1 ro1 cs1) := by
      intro x e' g' st' ro' cs' hx
      rw [hget] at hx
      split at hx
      · next hxb => cases hx; subst hxb; exact ⟨_, _, _, _, hg⟩
      split at hx
      · obtain ⟨o, ho, hb⟩ := Option.map_eq_some_iff.1 hx
        cases o with
        | map _ => cases hb
        | loop => cases hb
        | row e1 g1 st1 ro1 cs1 =>
          simp only [blot] at hb
          split at hb
          · cases hb; exact ⟨_, _, _, _, ho⟩
          · cases hb; exact ⟨_, _, _, _, ho⟩
      · exact ⟨_, _, _, _, hx⟩
    have rowTo : ∀ x e' g' st' ro' cs', H.get x = some (.row e' g' st' ro' cs') → ∃ e1 st1 ro1 cs1, H'.get x = some (.row e1 g' st1 ro1 cs1) := by
      intro x e' g' st' ro' cs' hx
      rw [hget]
      split
      · next hxb => subst hxb; rw [hg] at hx; cases hx; exact ⟨_, _, _, _, rfl⟩
      split
      · rw [hx]
        simp only [Option.map_some, blot]
        split
        · exact ⟨_, _, _, _, rfl⟩
        · exact ⟨_, _, _, _, rfl⟩
      · exact ⟨_, _, _, _, hx⟩
    have keep : Keep F H H' := by
      refine ⟨by omega, fun x hx hn => ?_, fun x hx hn => hext x, ⟨fun hw' x e' g' st' ro' cs' hx => ?_, fun hw' x e' g' st' ro' cs' hx => ?_⟩, fun x e' g' st' ro' cs' hx _ _ => rowOf x _ _ _ _ _ hx⟩
      · rw [hget, if_neg (fun k => hn (by rw [k]; exact h5))]
        split
        · cases ho : H.get x with
          | none => rfl
          | some o =>
            cases o with
            | map _ => rfl
            | loop => rfl
            | row e1 g1 st1 ro1 cs1 =>
              simp only [Option.map_some, blot]
              rw [if_neg]
              rintro rfl
              exact hn (h.grp hw _ _ _ _ _ _ _ _ _ _ _ _ _ _ _ h1 hg ho)
        · rfl
      · obtain ⟨_, _, _, _, hx'⟩ := rowOf _ _ _ _ _ _ hx
        exact hw' _ _ _ _ _ _ hx'
      · obtain ⟨_, _, _, _, hx'⟩ := rowTo _ _ _ _ _ _ hx
        exact hw' _ _ _ _ _ _ hx'
    refine .inr ⟨b, cap, H', h1, ?_, hst, ⟨fun r hr => ?_, fun x hx => by have := h.lt x hx; omega, .inr ⟨b, e, g, st, cap, by rw [iRows_len, hl]; exact h1, ?_, ?_, ?_, h5, h6⟩, fun hw' b' o z n cap' e' g' st' ro cs x e2 st2 ro2 cs2 hs hb hx => ?_⟩, keep, hsz⟩
    · rw [load_of hg (by simp), List.drop_zero, List.take_of_length_le (by simp)]
    · unfold iRows at hr
      obtain ⟨n, _, rfl⟩ := List.mem_map.1 hr
      rfl
    · rw [hget, if_pos rfl, iRows_flat]
    · rw [hext, iRows_flat, List.length_map, hl]
      rw [iRows_flat, List.length_map] at h3
      exact h3
    · rw [iRows_len, hl]
      rw [iRows_len] at h4
      exact h4
    · rw [h1] at hs
      cases hs
      rw [hget, if_pos rfl] at hb
      cases hb
      obtain ⟨_, _, _, _, hx'⟩ := rowOf _ _ _ _ _ _ hx
      exact h.grp hw _ _ _ _ _ _ _ _ _ _ _ _ _ _ _ h1 hg hx'
end Go.AI
end
section
namespace Go.AI
abbrev Sp := Int × Int
def dScan : Option Int → List Sp → Int
  | _, [] => 0
  | prev, p :: r => if p.1 < -16384 ∨ 16384 < p.2 ∨ p.2 < p.1 then 1 else if prev.any (fun h => decide (p.1 ≤ h + 1)) then 2 else dScan (some p.2) r
end Go.AI
end
section
namespace Go.AI
open Go.Sort Go.Proofs
abbrev BSp := {p : Sp // -16384 ≤ p.1 ∧ p.1 ≤ 16384}
instance : Inhabited BSp := ⟨⟨(0, 0), by decide⟩⟩
def bspI (x : BSp) : List Int := [x.1.1, x.1.2]
def decB : List Int → Option (List BSp)
  | [] => some []
  | [_] => none
  | a :: b :: r => if h : -16384 ≤ a ∧ a ≤ 16384 then (decB r).map (⟨(a, b), h⟩ :: ·) else none
theorem decB_eq : ∀ (zs : List Int) (l : List BSp), decB zs = some l → zs = flatI bspI l
  | [], l, h => by
    simp only [decB, Option.some.injEq] at h
    subst h; rfl
  | [_], l, h => by cases h
  | a :: b :: r, l, h => by
    unfold decB at h
    split at h
    · next hb =>
      obtain ⟨l', hl, rfl⟩ := Option.map_eq_some_iff.1 h
      rw [decB_eq r l' hl]
      rfl
    · cases h
def cfB (x y : BSp) : Int := x.1.1 - y.1.1
def ltB : BSp → BSp → Bool := ltOf cfB
theorem ltB_eq (x y : BSp) : ltB x y = decide (x.1.1 < y.1.1) := by
  unfold ltB ltOf cfB
  rw [decide_eq_decide]
  omega
theorem ltB_swo : SWO ltB where
  irrefl x := by rw [ltB_eq, decide_eq_false]; omega
  trans x y z h1 h2 := by
    rw [ltB_eq, decide_eq_true_iff] at *
    omega
  ntrans x y z h1 h2 := by
    rw [ltB_eq, decide_eq_false_iff_not] at *
    omega
def lenB (H : AHeap) : List AV → Option (AV × AHeap)
  | [.one (.int .u64 x)] => if 0 ≤ x ∧ x ≤ 18446744073709551615 then some (.one (.int .i64 (Lib.bitLen x.toNat : Nat)), H) else none
  | _ => none
theorem lenB_sound {P : Program} {f : FuncId} (h1 : ∀ (x : Int) (w : World), 0 ≤ x → x ≤ 18446744073709551615 → Calls P f #[.int .u64 x] w fun e w' => e = .returned (.int .i64 (Lib.bitLen x.toNat : Nat)) ∧ w' = w)
    {args : List AV} {H : AHeap} {v : AV} {H' : AHeap} (h : lenB H args = some (v, H')) :
    H.size ≤ H'.size ∧ ∀ μ w (rargs : Array Value), All2 (VRel μ w) args rargs.toList → WF H → Rel μ H.get w → Free μ H.size H'.size → Calls P f rargs w (CallPost μ H w H' v) := by
  unfold lenB at h
  split at h
  · next x =>
    split at h
    · next hx =>
      cases h
      refine ⟨Nat.le_refl _, fun μ w rargs hr wf rel fr => ?_⟩
      obtain ⟨rl⟩ := rargs
      change All2 (VRel μ w) _ rl at hr
      obtain ⟨u1, rl, rfl, hu1, hr⟩ := a2_cons hr
      obtain rfl := a2_nil hr
      obtain rfl : u1 = .int .u64 x := hu1
      refine (h1 x w hx.1 hx.2).mono ?_
      rintro e w' ⟨rfl, rfl⟩
      exact ⟨_, μ, rfl, rfl, Post.refl wf rel⟩
    · cases h
  · cases h
end Go.AI
end
section
namespace Go.AI
open Go.Sort
theorem reads {μ : Mu} {H : AHeap} {w : World} {p : APtr} {zs : List Int} {r s : Nat} (rel : Rel μ H.get w) (hl : H.load p zs.length = some (zs.map (AC.int .i64))) (hm : μ p.1 = some (r, s)) :
    ∀ j, j < zs.length → w.cell? ⟨r, s + p.2 + j, none⟩ = some (.int .i64 (zs.getD j 0)) := by
  intro j hj
  unfold AHeap.load at hl
  split at hl
  · next e k st ro cells hb =>
    obtain ⟨A, e2, fz, h1, h2, h3, h4⟩ := rel.obj p.1 r s _ hm hb
    obtain ⟨_, hcs⟩ := takeAll_spec hl
    obtain ⟨u, hu, hr⟩ := h4 (p.2 + j) _ (hcs j (.int .i64 zs[j]) (by rw [List.getElem?_map, List.getElem?_eq_getElem hj]; rfl))
    have hr' : u = .int .i64 zs[j] := hr
    subst hr'
    rw [cell_row h1, show s + p.2 + j = s + (p.2 + j) from by omega, hu]
    simp [List.getD, List.getElem?_eq_getElem hj]
  · cases hl
def mostB (g : List Int → Int) (H : AHeap) : List AV → Option (AV × AHeap)
  | [.one (.sl (some p) _ len _)] =>
    if 0 < len ∧ len ≤ 9223372036854775807 then (H.load p len).bind fun cs => (intsOf cs).map fun zs => (.one (.int .i64 (g zs)), H) else none
  | _ => none
theorem mostB_sound {P : Program} {f : FuncId} {g : List Int → Int} (h1 : ∀ (b off n c : Nat) (zs : List Int) (w : World), 0 < n → n ≤ zs.length → n ≤ 9223372036854775807 → (∀ j, j < zs.length → w.cell? ⟨b, off + j, none⟩ = some (.int .i64 (zs.getD j 0))) →
      Calls P f #[.slice (some ⟨b, off, none⟩) n c] w fun e w' => e = .returned (.int .i64 (g (zs.take n))) ∧ w' = w)
    {args : List AV} {H : AHeap} {v : AV} {H' : AHeap} (h : mostB g H args = some (v, H')) :
    H.size ≤ H'.size ∧ ∀ μ w (rargs : Array Value), All2 (VRel μ w) args rargs.toList → WF H → Rel μ H.get w → Free μ H.size H'.size → Calls P f rargs w (CallPost μ H w H' v) := by
  unfold mostB at h
  split at h
  · next p sz len cap =>
    split at h
    · next hc =>
      obtain ⟨cs, hcs, h⟩ := Option.bind_eq_some_iff.1 h
      obtain ⟨zs, hzs, h⟩ := Option.map_eq_some_iff.1 h
      simp only [Prod.mk.injEq] at h
      obtain ⟨rfl, rfl⟩ := h
      obtain rfl := intsOf_eq hzs
      have hlen : zs.length = len := by
        have hcs' := hcs
        unfold AHeap.load at hcs'
        split at hcs'
        · have := (takeAll_spec hcs').1
          rwa [List.length_map] at this
        · cases hcs'
      subst hlen
      refine ⟨Nat.le_refl _, fun μ w rargs hr wf rel fr => ?_⟩
      obtain ⟨rl⟩ := rargs
      change All2 (VRel μ w) _ rl at hr
      obtain ⟨u1, rl, rfl, hu1, hr⟩ := a2_cons hr
      obtain rfl := a2_nil hr
      obtain ⟨a', cap', r, s, e, n, rfl, hle, _, hm, ha, _, _⟩ := hu1
      have ha' : a' = ⟨r, s + p.2, none⟩ := ha.resolve_left (by omega)
      subst ha'
      have := h1 r (s + p.2) zs.length cap' zs w hc.1 (Nat.le_refl _) hc.2 (reads rel hcs hm)
      rw [List.take_length] at this
      refine this.mono ?_
      rintro e w' ⟨rfl, rfl⟩
      exact ⟨_, μ, rfl, rfl, Post.refl wf rel⟩
    · cases h
  · cases h
end Go.AI
end
section
namespace Go.Proofs.YtkpjcnlljdccjaaGreat
open Go.Shelf Go.Sort Go.RowKit Go.AI Go.Proofs
set_option maxRecDepth 100000
def Tryz.laysSort_ren : Ren := ⟨fun n => (([(0, 0), (1, 1), (2, 2), (107, 46), (108, 79), (111, 72), (113, 74), (114, 73), (125, 96), (128, 115), (129, 116), (189, 93), (215, 151), (216, 129), (257, 106), (294, 123), (295, 124), (296, 125), (297, 126), (298, 127), (299, 128), (300, 130), (301, 131), (328, 148), (329, 133), (330, 134), (331, 149), (332, 150), (343, 166), (347, 177), (348, 178), (349, 179), (350, 180), (351, 181), (352, 182), (353, 183), (354, 184), (355, 185), (356, 186), (357, 187), (358, 188), (359, 189), (360, 190), (361, 191), (366, 193)] : List (Nat × Nat)).lookup n).getD n, fun n => (([(0, 0), (1, 1), (2, 2), (3, 3), (4, 4), (5, 5), (6, 6), (7, 7), (8, 8), (9, 9), (10, 10), (11, 11), (12, 12), (13, 13), (14, 14), (15, 15), (16, 16), (17, 17), (18, 18), (19, 19), (20, 20), (21, 21), (28, 28), (29, 70), (30, 104), (34, 102), (35, 112), (36, 103), (43, 143), (45, 32), (46, 113), (47, 115), (51, 134), (52, 133), (53, 136), (54, 135), (80, 178), (81, 184), (111, 55), (112, 72), (127, 188), (131, 121), (134, 125), (164, 193), (181, 144), (182, 127), (183, 128), (184, 145), (185, 146), (186, 147), (187, 148), (218, 149), (219, 150), (220, 151), (221, 157), (222, 153), (223, 158), (228, 159), (229, 160), (230, 172), (238, 179), (239, 180), (240, 181), (241, 182), (242, 183), (243, 185), (244, 186), (245, 187), (246, 189), (247, 190), (248, 191), (249, 192)] : List (Nat × Nat)).lookup n).getD n, fun n => (([] : List (Nat × Nat)).lookup n).getD n⟩
theorem Tryz.laysSort : Lays.n189 Tryz.prog Tryz.laysSort_ren where
  mixed := by kernel_rfl
  f125 := Tryz.func96.trans (congrArg some (by kernel_rfl))
  f128 := Tryz.func115.trans (congrArg some (by kernel_rfl))
  f129 := Tryz.func116.trans (congrArg some (by kernel_rfl))
  f189 := Tryz.func93.trans (congrArg some (by kernel_rfl))
  f215 := Tryz.func151.trans (congrArg some (by kernel_rfl))
  f216 := Tryz.func129.trans (congrArg some (by kernel_rfl))
  f257 := Tryz.func106.trans (congrArg some (by kernel_rfl))
  f294 := Tryz.func123.trans (congrArg some (by kernel_rfl))
  f295 := Tryz.func124.trans (congrArg some (by kernel_rfl))
  f296 := Tryz.func125.trans (congrArg some (by kernel_rfl))
  f297 := Tryz.func126.trans (congrArg some (by kernel_rfl))
  f298 := Tryz.func127.trans (congrArg some (by kernel_rfl))
  f299 := Tryz.func128.trans (congrArg some (by kernel_rfl))
  f300 := Tryz.func130.trans (congrArg some (by kernel_rfl))
  f301 := Tryz.func131.trans (congrArg some (by kernel_rfl))
  f328 := Tryz.func148.trans (congrArg some (by kernel_rfl))
  f329 := Tryz.func133.trans (congrArg some (by kernel_rfl))
  f330 := Tryz.func134.trans (congrArg some (by kernel_rfl))
  f331 := Tryz.func149.trans (congrArg some (by kernel_rfl))
  f332 := Tryz.func150.trans (congrArg some (by kernel_rfl))
  f343 := Tryz.func166.trans (congrArg some (by kernel_rfl))
  t0 := Tryz.underlying0
  a0 := Tryz.isAgg0
  z0 := Tryz.sizeOf0
  v0 := Tryz.zeroValue0
  t3 := Tryz.underlying3
  a3 := Tryz.isAgg3
  z3 := Tryz.sizeOf3
  v3 := Tryz.zeroValue3
  t4 := Tryz.underlying4
  a4 := Tryz.isAgg4
  z4 := Tryz.sizeOf4
  v4 := Tryz.zeroValue4
  t5 := Tryz.underlying5
  a5 := Tryz.isAgg5
  z5 := Tryz.sizeOf5
  v5 := Tryz.zeroValue5
  t9 := Tryz.underlying9
  a9 := Tryz.isAgg9
  z9 := Tryz.sizeOf9
  v9 := Tryz.zeroValue9
  t28 := Tryz.underlying28
  a28 := Tryz.isAgg28
  z28 := Tryz.sizeOf28
  v28 := Tryz.zeroValue28
  t46 := Tryz.underlying113
  a46 := Tryz.isAgg113
  z46 := Tryz.sizeOf113
  v46 := Tryz.zeroValue113
  t51 := Tryz.underlying134
  a51 := Tryz.isAgg134
  z51 := Tryz.sizeOf134
  v51 := Tryz.zeroValue134
  t53 := Tryz.underlying136
  a53 := Tryz.isAgg136
  z53 := Tryz.sizeOf136
  v53 := Tryz.zeroValue136
  t131 := Tryz.underlying121
  a131 := Tryz.isAgg121
  z131 := Tryz.sizeOf121
  v131 := Tryz.zeroValue121
  t182 := Tryz.underlying127
  a182 := Tryz.isAgg127
  z182 := Tryz.sizeOf127
  v182 := Tryz.zeroValue127
  t183 := Tryz.underlying128
  a183 := Tryz.isAgg128
  z183 := Tryz.sizeOf128
  v183 := Tryz.zeroValue128
  t218 := Tryz.underlying149
  a218 := Tryz.isAgg149
  z218 := Tryz.sizeOf149
  v218 := Tryz.zeroValue149
  t222 := Tryz.underlying153
  a222 := Tryz.isAgg153
  z222 := Tryz.sizeOf153
  v222 := Tryz.zeroValue153
  t228 := Tryz.underlying159
  a228 := Tryz.isAgg159
  z228 := Tryz.sizeOf159
  v228 := Tryz.zeroValue159
  t229 := Tryz.underlying160
  a229 := Tryz.isAgg160
  z229 := Tryz.sizeOf160
  v229 := Tryz.zeroValue160
def Tryz.laysCompact_ren : Ren := ⟨fun n => (([(0, 0), (1, 1), (2, 2), (15, 56), (20, 59), (31, 129), (37, 151), (40, 177), (41, 178), (42, 179), (43, 180), (44, 181), (45, 182), (46, 183), (47, 184), (48, 185), (49, 186), (50, 187), (51, 188), (52, 189), (53, 190), (54, 191), (55, 193)] : List (Nat × Nat)).lookup n).getD n, fun n => (([(0, 0), (1, 1), (2, 2), (3, 3), (4, 4), (5, 5), (6, 6), (7, 7), (8, 8), (9, 9), (10, 10), (11, 11), (12, 12), (13, 13), (14, 14), (15, 15), (16, 16), (17, 17), (18, 18), (19, 19), (20, 20), (21, 21), (22, 28), (23, 87), (33, 121), (34, 122), (36, 102), (40, 113), (41, 72), (42, 55), (45, 112), (46, 178), (47, 179), (48, 180), (49, 181), (50, 182), (51, 183), (52, 184), (53, 134), (54, 185), (55, 186), (56, 187), (57, 188), (58, 189), (59, 190), (60, 191), (61, 192), (62, 193)] : List (Nat × Nat)).lookup n).getD n, fun n => (([] : List (Nat × Nat)).lookup n).getD n⟩
theorem Tryz.laysCompact : Lays2.n20 Tryz.prog Tryz.laysCompact_ren where
  mixed := by kernel_rfl
  f20 := Tryz.func59.trans (congrArg some (by kernel_rfl))
  t0 := Tryz.underlying0
  a0 := Tryz.isAgg0
  z0 := Tryz.sizeOf0
  v0 := Tryz.zeroValue0
  t3 := Tryz.underlying3
  a3 := Tryz.isAgg3
  z3 := Tryz.sizeOf3
  v3 := Tryz.zeroValue3
  t4 := Tryz.underlying4
  a4 := Tryz.isAgg4
  z4 := Tryz.sizeOf4
  v4 := Tryz.zeroValue4
  t22 := Tryz.underlying28
  a22 := Tryz.isAgg28
  z22 := Tryz.sizeOf28
  v22 := Tryz.zeroValue28
  i3 := by kernel_rfl
def Tryz.laysPdq_ren : Ren := ⟨fun n => (([(0, 0), (1, 1), (2, 2), (14, 95), (15, 96), (18, 151), (20, 107), (21, 108), (22, 109), (23, 110), (24, 111), (25, 112), (26, 113), (27, 114), (28, 115), (29, 116), (46, 132), (47, 133), (48, 134), (49, 135), (50, 136), (57, 152), (60, 177), (61, 178), (62, 179), (63, 180), (64, 181), (65, 182), (66, 183), (67, 184), (68, 185), (69, 186), (70, 187), (71, 188), (72, 189), (73, 190), (74, 191), (75, 193)] : List (Nat × Nat)).lookup n).getD n, fun n => (([(0, 0), (1, 1), (2, 2), (3, 3), (4, 4), (5, 5), (6, 6), (7, 7), (8, 8), (9, 9), (10, 10), (11, 11), (12, 12), (13, 13), (14, 14), (15, 15), (16, 16), (17, 17), (18, 18), (19, 19), (20, 20), (21, 21), (22, 22), (24, 49), (25, 98), (27, 28), (29, 143), (30, 112), (37, 114), (38, 115), (39, 113), (42, 55), (44, 126), (45, 127), (46, 128), (47, 129), (48, 130), (49, 131), (50, 121), (51, 132), (52, 133), (53, 134), (54, 135), (55, 136), (66, 149), (67, 150), (68, 151), (69, 152), (70, 153), (71, 154), (76, 159), (77, 160), (78, 161), (81, 178), (82, 179), (83, 180), (84, 181), (85, 182), (86, 183), (87, 184), (88, 185), (89, 186), (90, 187), (91, 188), (92, 189), (93, 190), (94, 191), (95, 192), (96, 193)] : List (Nat × Nat)).lookup n).getD n, fun n => (([] : List (Nat × Nat)).lookup n).getD n⟩
theorem Tryz.laysPdq : SlLaysF0.n14 Tryz.prog Tryz.laysPdq_ren where
  mixed := by kernel_rfl
  f14 := ⟨"slices.pdqsortCmpFunc[fetterlock/api.Span]", by kernel_rfl, Tryz.func95.trans (congrArg some (by kernel_rfl))⟩
  f15 := Tryz.func96.trans (congrArg some (by kernel_rfl))
  f20 := ⟨"slices.insertionSortCmpFunc[fetterlock/api.Span]", by kernel_rfl, Tryz.func107.trans (congrArg some (by kernel_rfl))⟩
  f21 := ⟨"slices.heapSortCmpFunc[fetterlock/api.Span]", by kernel_rfl, Tryz.func108.trans (congrArg some (by kernel_rfl))⟩
  f22 := ⟨"slices.breakPatternsCmpFunc[fetterlock/api.Span]", by kernel_rfl, Tryz.func109.trans (congrArg some (by kernel_rfl))⟩
  f23 := ⟨"slices.choosePivotCmpFunc[fetterlock/api.Span]", by kernel_rfl, Tryz.func110.trans (congrArg some (by kernel_rfl))⟩
  f24 := ⟨"slices.reverseRangeCmpFunc[fetterlock/api.Span]", by kernel_rfl, Tryz.func111.trans (congrArg some (by kernel_rfl))⟩
  f25 := ⟨"slices.partialInsertionSortCmpFunc[fetterlock/api.Span]", by kernel_rfl, Tryz.func112.trans (congrArg some (by kernel_rfl))⟩
  f26 := ⟨"slices.partitionEqualCmpFunc[fetterlock/api.Span]", by kernel_rfl, Tryz.func113.trans (congrArg some (by kernel_rfl))⟩
  f27 := ⟨"slices.partitionCmpFunc[fetterlock/api.Span]", by kernel_rfl, Tryz.func114.trans (congrArg some (by kernel_rfl))⟩
  f28 := Tryz.func115.trans (congrArg some (by kernel_rfl))
  f29 := Tryz.func116.trans (congrArg some (by kernel_rfl))
  f46 := ⟨"slices.siftDownCmpFunc[fetterlock/api.Span]", by kernel_rfl, Tryz.func132.trans (congrArg some (by kernel_rfl))⟩
  f47 := Tryz.func133.trans (congrArg some (by kernel_rfl))
  f48 := Tryz.func134.trans (congrArg some (by kernel_rfl))
  f49 := ⟨"slices.medianAdjacentCmpFunc[fetterlock/api.Span]", by kernel_rfl, Tryz.func135.trans (congrArg some (by kernel_rfl))⟩
  f50 := ⟨"slices.medianCmpFunc[fetterlock/api.Span]", by kernel_rfl, Tryz.func136.trans (congrArg some (by kernel_rfl))⟩
  f57 := ⟨"slices.order2CmpFunc[fetterlock/api.Span]", by kernel_rfl, Tryz.func152.trans (congrArg some (by kernel_rfl))⟩
  t0 := Tryz.underlying0
  a0 := Tryz.isAgg0
  z0 := Tryz.sizeOf0
  v0 := Tryz.zeroValue0
  t3 := Tryz.underlying3
  a3 := Tryz.isAgg3
  z3 := Tryz.sizeOf3
  v3 := Tryz.zeroValue3
  t4 := Tryz.underlying4
  a4 := Tryz.isAgg4
  z4 := Tryz.sizeOf4
  v4 := Tryz.zeroValue4
  t5 := Tryz.underlying5
  a5 := Tryz.isAgg5
  z5 := Tryz.sizeOf5
  v5 := Tryz.zeroValue5
  t9 := Tryz.underlying9
  a9 := Tryz.isAgg9
  z9 := Tryz.sizeOf9
  v9 := Tryz.zeroValue9
  t22 := Tryz.underlying22
  a22 := Tryz.isAgg22
  z22 := Tryz.sizeOf22
  v22 := Tryz.zeroValue22
  t25 := Tryz.underlying98
  a25 := Tryz.isAgg98
  z25 := Tryz.sizeOf98
  v25 := Tryz.zeroValue98
  t39 := Tryz.underlying113
  a39 := Tryz.isAgg113
  z39 := Tryz.sizeOf113
  v39 := Tryz.zeroValue113
  t45 := Tryz.underlying127
  a45 := Tryz.isAgg127
  z45 := Tryz.sizeOf127
  v45 := Tryz.zeroValue127
  t46 := Tryz.underlying128
  a46 := Tryz.isAgg128
  z46 := Tryz.sizeOf128
  v46 := Tryz.zeroValue128
  t50 := Tryz.underlying121
  a50 := Tryz.isAgg121
  z50 := Tryz.sizeOf121
  v50 := Tryz.zeroValue121
  t53 := Tryz.underlying134
  a53 := Tryz.isAgg134
  z53 := Tryz.sizeOf134
  v53 := Tryz.zeroValue134
  t55 := Tryz.underlying136
  a55 := Tryz.isAgg136
  z55 := Tryz.sizeOf136
  v55 := Tryz.zeroValue136
  t66 := Tryz.underlying149
  a66 := Tryz.isAgg149
  z66 := Tryz.sizeOf149
  v66 := Tryz.zeroValue149
  t70 := Tryz.underlying153
  a70 := Tryz.isAgg153
  z70 := Tryz.sizeOf153
  v70 := Tryz.zeroValue153
  t76 := Tryz.underlying159
  a76 := Tryz.isAgg159
  z76 := Tryz.sizeOf159
  v76 := Tryz.zeroValue159
  t77 := Tryz.underlying160
  a77 := Tryz.isAgg160
  z77 := Tryz.sizeOf160
  v77 := Tryz.zeroValue160
theorem Tryz.join1 (x y : Int × Int) (hx : -16384 ≤ x.1 ∧ x.1 ≤ 16384) (hy : -16384 ≤ y.1 ∧ y.1 ≤ 16384) (W : World) : Calls Tryz.prog 66 #[.agg #[.int .i64 x.1, .int .i64 x.2], .agg #[.int .i64 y.1, .int .i64 y.2]] W fun e w' => e = .returned (.int .i64 (x.1 - y.1)) ∧ ∃ q os', w' = grow (W.drewN q) os' := by
  have hr : RowKit.wrap64 (x.1 - y.1) = x.1 - y.1 := by unfold RowKit.wrap64; omega
  go_enter Tryz.func66, Tryz.ntmps66
  go_wp2
  go_ret
  refine ⟨?_, 0, _, by rw [alloc_eq_grow, alloc_eq_grow, grow_grow]; rfl⟩
  rw [← hr]
  rfl
theorem Tryz.cmpLays (blk off size : Nat) (w : World) : CmpLays Tryz.prog 66 #[] (encInts bspI) 2 cfB blk off size w :=
  fun _ _ _ _ x y => Tryz.join1 x.1 y.1 x.2 y.2 _
theorem Tryz.pdq_told (blk off cap lim : Nat) (d : Array BSp) (w : World) (hH : HoldsK (encInts bspI) 2 w blk off d) (hb : blk < w.heap.size) (h1 : d.size < 4611686018427387904) (h2 : lim < 4611686018427387904) :
    Calls Tryz.prog 95 #[.slice (some ⟨blk, off, none⟩) d.size cap, .int .i64 (0 : Nat), .int .i64 d.size, .int .i64 lim, .func (.func 66) #[] #[]] w fun e w' => e = .returned (.tuple #[]) ∧ SWK (encInts bspI) 2 w blk off (pdq ltB d 0 d.size lim true true) w' := by
  have eg : ∀ args w, (callFunc 66 args).run Tryz.prog w = .ok (.enter 66 args) w := enters_of Tryz.func66 (by kernel_rfl) rfl
  exact AnyQ.pdqsortCmpFunc_all Tryz.laysPdq 2 Tryz.isAgg49 Tryz.sizeOf49 (encInts bspI) cfB 66 #[] ltB_swo blk off cap d w eg (Tryz.cmpLays blk off d.size w) ⟨fun x => rfl, fun x v hv => by
    simp only [encInts, bspI, List.map_cons, List.map_nil, List.mem_cons, List.not_mem_nil, or_false] at hv
    rcases hv with rfl | rfl <;> rfl, hH, hb⟩ (d.size + 1) 0 d.size lim d w (by omega) rfl (SWK.start hH) (Nat.zero_le _) (Nat.le_refl _) h1 h2 (Or.inl rfl)
def Tryz.laysMax_ren : Ren := ⟨fun n => (([(0, 0), (1, 1), (2, 2), (107, 46), (108, 79), (111, 72), (113, 74), (114, 73), (125, 96), (128, 115), (129, 116), (189, 93), (215, 151), (216, 129), (257, 106), (294, 123), (295, 124), (296, 125), (297, 126), (298, 127), (299, 128), (300, 130), (301, 131), (328, 148), (329, 133), (330, 134), (331, 149), (332, 150), (343, 166), (347, 177), (348, 178), (349, 179), (350, 180), (351, 181), (352, 182), (353, 183), (354, 184), (355, 185), (356, 186), (357, 187), (358, 188), (359, 189), (360, 190), (361, 191), (366, 193)] : List (Nat × Nat)).lookup n).getD n, fun n => (([(0, 0), (1, 1), (2, 2), (3, 3), (4, 4), (5, 5), (6, 6), (7, 7), (8, 8), (9, 9), (10, 10), (11, 11), (12, 12), (13, 13), (14, 14), (15, 15), (16, 16), (17, 17), (18, 18), (19, 19), (20, 20), (21, 21), (28, 28), (29, 70), (30, 104), (34, 102), (35, 112), (36, 103), (43, 143), (45, 32), (46, 113), (47, 115), (51, 134), (52, 133), (53, 136), (54, 135), (80, 178), (81, 184), (111, 55), (112, 72), (127, 188), (131, 121), (134, 125), (164, 193), (181, 144), (182, 127), (183, 128), (184, 145), (185, 146), (186, 147), (187, 148), (218, 149), (219, 150), (220, 151), (221, 157), (222, 153), (223, 158), (228, 159), (229, 160), (230, 172), (238, 179), (239, 180), (240, 181), (241, 182), (242, 183), (243, 185), (244, 186), (245, 187), (246, 189), (247, 190), (248, 191), (249, 192)] : List (Nat × Nat)).lookup n).getD n, fun n => (([] : List (Nat × Nat)).lookup n).getD n⟩
theorem Tryz.laysMax : Lays.n113 Tryz.prog Tryz.laysMax_ren where
  mixed := by kernel_rfl
  f113 := Tryz.func74.trans (congrArg some (by kernel_rfl))
  t0 := Tryz.underlying0
  a0 := Tryz.isAgg0
  z0 := Tryz.sizeOf0
  v0 := Tryz.zeroValue0
  t3 := Tryz.underlying3
  a3 := Tryz.isAgg3
  z3 := Tryz.sizeOf3
  v3 := Tryz.zeroValue3
  t4 := Tryz.underlying4
  a4 := Tryz.isAgg4
  z4 := Tryz.sizeOf4
  v4 := Tryz.zeroValue4
  t9 := Tryz.underlying9
  a9 := Tryz.isAgg9
  z9 := Tryz.sizeOf9
  v9 := Tryz.zeroValue9
  t20 := Tryz.underlying20
  a20 := Tryz.isAgg20
  z20 := Tryz.sizeOf20
  v20 := Tryz.zeroValue20
  t28 := Tryz.underlying28
  a28 := Tryz.isAgg28
  z28 := Tryz.sizeOf28
  v28 := Tryz.zeroValue28
def Tryz.laysMin_ren : Ren := ⟨fun n => (([(0, 0), (1, 1), (2, 2), (107, 46), (108, 79), (111, 72), (113, 74), (114, 73), (125, 96), (128, 115), (129, 116), (189, 93), (215, 151), (216, 129), (257, 106), (294, 123), (295, 124), (296, 125), (297, 126), (298, 127), (299, 128), (300, 130), (301, 131), (328, 148), (329, 133), (330, 134), (331, 149), (332, 150), (343, 166), (347, 177), (348, 178), (349, 179), (350, 180), (351, 181), (352, 182), (353, 183), (354, 184), (355, 185), (356, 186), (357, 187), (358, 188), (359, 189), (360, 190), (361, 191), (366, 193)] : List (Nat × Nat)).lookup n).getD n, fun n => (([(0, 0), (1, 1), (2, 2), (3, 3), (4, 4), (5, 5), (6, 6), (7, 7), (8, 8), (9, 9), (10, 10), (11, 11), (12, 12), (13, 13), (14, 14), (15, 15), (16, 16), (17, 17), (18, 18), (19, 19), (20, 20), (21, 21), (28, 28), (29, 70), (30, 104), (34, 102), (35, 112), (36, 103), (43, 143), (45, 32), (46, 113), (47, 115), (51, 134), (52, 133), (53, 136), (54, 135), (80, 178), (81, 184), (111, 55), (112, 72), (127, 188), (131, 121), (134, 125), (164, 193), (181, 144), (182, 127), (183, 128), (184, 145), (185, 146), (186, 147), (187, 148), (218, 149), (219, 150), (220, 151), (221, 157), (222, 153), (223, 158), (228, 159), (229, 160), (230, 172), (238, 179), (239, 180), (240, 181), (241, 182), (242, 183), (243, 185), (244, 186), (245, 187), (246, 189), (247, 190), (248, 191), (249, 192)] : List (Nat × Nat)).lookup n).getD n, fun n => (([] : List (Nat × Nat)).lookup n).getD n⟩
theorem Tryz.laysMin : Lays.n114 Tryz.prog Tryz.laysMin_ren where
  mixed := by kernel_rfl
  f114 := Tryz.func73.trans (congrArg some (by kernel_rfl))
  t0 := Tryz.underlying0
  a0 := Tryz.isAgg0
  z0 := Tryz.sizeOf0
  v0 := Tryz.zeroValue0
  t3 := Tryz.underlying3
  a3 := Tryz.isAgg3
  z3 := Tryz.sizeOf3
  v3 := Tryz.zeroValue3
  t4 := Tryz.underlying4
  a4 := Tryz.isAgg4
  z4 := Tryz.sizeOf4
  v4 := Tryz.zeroValue4
  t9 := Tryz.underlying9
  a9 := Tryz.isAgg9
  z9 := Tryz.sizeOf9
  v9 := Tryz.zeroValue9
  t20 := Tryz.underlying20
  a20 := Tryz.isAgg20
  z20 := Tryz.sizeOf20
  v20 := Tryz.zeroValue20
  t28 := Tryz.underlying28
  a28 := Tryz.isAgg28
  z28 := Tryz.sizeOf28
  v28 := Tryz.zeroValue28
noncomputable def Tryz.baseCall : CallA := fun f args H => if f = 93 then sortB H args else if f = 59 then compactB H args else if f = 10 then (match args with
  | [] => some (.one (.bool true), H)
  | _ => none) else if f = 95 then pdqB bspI 2 decB ltB 66 H args else if f = 96 then lenB H args else if f = 73 then mostB Lib.minOf H args else if f = 74 then mostB Lib.maxOf H args else none
theorem Tryz.base_sound : CallSound Tryz.prog Tryz.baseCall := by
  intro f args H v H' h
  unfold Tryz.baseCall at h
  split at h
  · next e =>
    subst e
    have := sortB_sound (P := Tryz.prog) (f := 93) (fun p cap w => Any.slices_Sort_int_none Tryz.laysSort p cap w) (fun blk off cap zs w h1 h2 h3 => Any.slices_Sort_int Tryz.laysSort blk off cap zs w h1 h2 h3) h
    exact ⟨this.1, .inl ⟨⟨_, Tryz.func93, by kernel_rfl⟩, this.2⟩⟩
  split at h
  · next e =>
    subst e
    have := compactB_sound (P := Tryz.prog) (f := 59) (fun p cap w => Any.slices_Compact_int_empty Tryz.laysCompact p cap w) (fun blk off cap zs w h1 h2 h3 => Any.slices_Compact_int Tryz.laysCompact blk off cap zs w h1 h2 h3) h
    exact ⟨this.1, .inl ⟨⟨_, Tryz.func59, by kernel_rfl⟩, this.2⟩⟩
  split at h
  · next e =>
    subst e
    split at h
    · cases h
      obtain ⟨c, H0, hc, h0⟩ := Tryz.closed_run
      exact ⟨Nat.le_refl _, .inl ⟨⟨_, Tryz.func10, by kernel_rfl⟩, told_closed hc (Array.getElem?_eq_some_iff.1 Tryz.func10).1 h0 H⟩⟩
    · cases h
  split at h
  · next e =>
    subst e
    have := pdqB_sound (P := Tryz.prog) (f := 95) (k := 2) (fun _ => rfl) (by omega) ltB_swo decB_eq Tryz.pdq_told h
    exact ⟨this.1, .inl ⟨⟨_, Tryz.func95, by kernel_rfl⟩, this.2⟩⟩
  split at h
  · next e =>
    subst e
    have := lenB_sound (P := Tryz.prog) (f := 96) (fun x w h0 h1 => Any.bits_Len (SlLaysF0.n15.bits (P := Tryz.prog) (ρ := Tryz.laysPdq_ren) { Tryz.laysPdq with }) x w h0 h1) h
    exact ⟨this.1, .inl ⟨⟨_, Tryz.func96, by kernel_rfl⟩, this.2⟩⟩
  split at h
  · next e =>
    subst e
    have := mostB_sound (P := Tryz.prog) (f := 73) (fun b off n c zs w h1 h2 h3 h4 => Any.slices_Min_int Tryz.laysMin b off n c zs w h1 h2 h3 h4) h
    exact ⟨this.1, .inl ⟨⟨_, Tryz.func73, by kernel_rfl⟩, this.2⟩⟩
  split at h
  · next e =>
    subst e
    have := mostB_sound (P := Tryz.prog) (f := 74) (fun b off n c zs w h1 h2 h3 h4 => Any.slices_Max_int Tryz.laysMax b off n c zs w h1 h2 h3 h4) h
    exact ⟨this.1, .inl ⟨⟨_, Tryz.func74, by kernel_rfl⟩, this.2⟩⟩
  · cases h
end Go.Proofs.YtkpjcnlljdccjaaGreat
end
section
namespace Go.AI
theorem slr_none (H : AHeap) (sz : Nat) : SlR H (.sl none 0 0 (some 0)) sz [] := ⟨Option.none, 0, some 0, rfl, fun i r h => by simp at h⟩
theorem good_i {D : Type} {P : Program} {H : AHeap} {n : Nat} {t : TypeId} {k : IntKind} {cs : List AC} {d : DataW D} (hu : P.underlying t = some (.int k)) (h : AI.Good P H n t cs d) : ∃ i, cs = [.int k i] ∧ (Lit.int k i).wf = true := by
  cases n with
  | zero => exact h.elim
  | succ n =>
    simp only [AI.Good, goodStep, hu] at h
    obtain ⟨i, h1, _, h3⟩ := h
    exact ⟨i, h1, h3⟩
theorem good_st {D : Type} {P : Program} {H : AHeap} {n : Nat} {t : TypeId} {fs : Array Field} {cs : List AC} {d : DataW D} (hu : P.underlying t = some (.struct fs)) (h : AI.Good P H n t cs d) : ∃ m ds, n = m + 1 ∧ d = .agg ds ∧ goodF P (AI.Good P H m) fs.toList cs ds := by
  cases n with
  | zero => exact h.elim
  | succ n => simp only [AI.Good, goodStep, hu] at h; obtain ⟨ds, h1, h2⟩ := h; exact ⟨n, ds, rfl, h1, h2⟩
theorem good_sl {D : Type} {P : Program} {H : AHeap} {n : Nat} {t e : TypeId} {cs : List AC} {d : DataW D} (hu : P.underlying t = some (.slice e)) (h : AI.Good P H n t cs d) :
    (cs = [.sl none 0 0 (some 0)] ∧ d = .nil) ∨ ∃ m b ds rest cells, n = m + 1 ∧ cs = [.sl (some (b, 0)) (P.cellsOf e) ds.length none] ∧ d = .slice ds rest ∧ H.get b = some (.row e b 0 true (cells.map some)) ∧
        goodL (AI.Good P H m) e (P.cellsOf e) cells ds ∧ ds.length ≤ maxLen := by
  cases n with
  | zero => exact h.elim
  | succ n =>
    simp only [AI.Good, goodStep, hu] at h
    rcases h with h | ⟨b, ds, rest, cells, h1, h2, h3, h4, h5, _⟩
    · exact .inl h
    · exact .inr ⟨n, b, ds, rest, cells, rfl, h1, h2, h3, h4, h5⟩
theorem goodF_c {D : Type} {P : Program} {good : TypeId → List AC → DataW D → Prop} {f : Field} {fs : List Field} {cs : List AC} {ds : List (DataW D)} (h : goodF P good (f :: fs) cs ds) :
    ∃ d ds' a b, ds = d :: ds' ∧ cs = a ++ b ∧ good f.type a d ∧ goodF P good fs b ds' := by
  cases ds with
  | nil => exact h.elim
  | cons d ds' => exact ⟨d, ds', cs.take (P.cellsOf f.type), cs.drop (P.cellsOf f.type), rfl, (List.take_append_drop ..).symm, h.1, h.2⟩
theorem goodF_n {D : Type} {P : Program} {good : TypeId → List AC → DataW D → Prop} {cs : List AC} {ds : List (DataW D)} (h : goodF P good [] cs ds) : ds = [] ∧ cs = [] := by
  cases ds with
  | nil => exact ⟨rfl, h⟩
  | cons d ds' => exact h.elim
theorem goodL_rows {D α : Type} {good : TypeId → List AC → DataW D → Prop} {e k : Nat} {enc : α → List AC} {R : α → Prop} (elt : ∀ cs d, good e cs d → ∃ a, cs = enc a ∧ R a) : ∀ (ds : List (DataW D)) (cells : List AC), goodL good e k cells ds → ∃ l : List α, l.length = ds.length ∧ cells = (l.map enc).flatten ∧ ∀ a ∈ l, R a
  | [], cells, h => ⟨[], rfl, h, fun _ h => by cases h⟩
  | d :: ds, cells, h => by
    obtain ⟨h1, h2⟩ := h
    obtain ⟨a, e1, ra⟩ := elt _ _ h1
    obtain ⟨l, g1, g2, g3⟩ := goodL_rows elt ds _ h2
    refine ⟨a :: l, by simp [g1], ?_, fun x hx => ?_⟩
    · rw [List.map_cons, List.flatten_cons, ← g2, ← e1, List.take_append_drop]
    · rcases List.mem_cons.1 hx with rfl | hx
      · exact ra
      · exact g3 x hx
theorem good_rows {D α : Type} {P : Program} {H : AHeap} {n k : Nat} {t e : TypeId} {cs : List AC} {d : DataW D} {enc : α → List AC} {R : α → Prop} (hu : P.underlying t = some (.slice e)) (hk : ∀ a, (enc a).length = k) (hc : P.cellsOf e = k)
    (elt : ∀ m, m < n → ∀ (cs : List AC) (d : DataW D), AI.Good P H m e cs d → ∃ a, cs = enc a ∧ R a) (h : AI.Good P H n t cs d) : ∃ (s : AC) (l : List α), cs = [s] ∧ SlR H s k (l.map enc) ∧ l.length ≤ maxLen ∧ (∀ a ∈ l, R a) ∧ ∀ b o z m cap, s = .sl (some (b, o)) z m cap → b < H.size := by
  rcases good_sl hu h with ⟨rfl, rfl⟩ | ⟨m, b, ds, rest, cells, rfl, rfl, rfl, hg, hl, hm⟩
  · exact ⟨_, [], rfl, slr_none _ _, by simp, (by simp), fun b o z m cap e => by cases e⟩
  · rw [hc] at hl ⊢
    obtain ⟨l, e1, rfl, hR⟩ := goodL_rows (elt m (Nat.lt_succ_self _)) ds cells hl
    refine ⟨_, l, rfl, ⟨some (b, 0), k, Option.none, by rw [List.length_map, e1], fun i r hr => ⟨rfl, b, 0, rfl, ?_⟩⟩, by omega, hR, fun b' o z m' cap e => ?_⟩
    · have hlt := (List.getElem?_eq_some_iff.1 hr).1
      have hall : ∀ r ∈ l.map enc, r.length = k := by
        intro r hr
        obtain ⟨x, _, rfl⟩ := List.mem_map.1 hr
        exact hk x
      have hfl := flatten_len hall
      have hm' : (i + 1) * k ≤ (l.map enc).length * k := Nat.mul_le_mul_right _ (by omega)
      rw [Nat.add_mul, Nat.one_mul] at hm'
      rw [Nat.zero_add, load_of hg (by omega), flatten_row hall hr]
    · have e2 : b = b' := congrArg (fun c => match c with | AC.sl (some p) _ _ _ => p.1 | _ => 0) e
      rw [← e2]
      exact AHeap.get_lt hg
end Go.AI
end
section
namespace Go.AI
open Go.ChangeShapes Go.WideShapes Go.ChangeAt Go.RowKit
set_option linter.unusedVariables false
section
variable {H : Type} {enc : TypeId × Value → H} {P : Program}
theorem post_of_below {f : Func} {s : ChangeSpec} {apart fresh handsOn again : Bool} {W W' : World} {args : Array Value} {v : Value} {ds gs : List (DataW H)} {before pa pv : List MemPlace}
    (hW : DataW.Whole enc P f.params.toList s.vars apart W args.toList ds gs before)
    (hres : ∀ (b : Nat) (sp : Nat → Bool) (hd : Bool), DataW.TrodAll enc P W' b sp hd f.resultTypes.toList (v.resultList f.resultTypes.size) (s.fn H (ds ++ gs)).results [])
    (hargs : ∀ sp : Nat → Bool, (∀ p ∈ before, sp p.block = true) → DataW.TrodAll enc P W' 0 sp true f.params.toList args.toList (s.fn H (ds ++ gs)).args pa)
    (hvars : ∀ sp : Nat → Bool, (∀ p ∈ before, sp p.block = true) → DataW.TrodVars enc P W' sp s.vars (s.fn H (ds ++ gs)).vars pv)
    (hps : before = pa ++ pv) (hb : Below W.heap.size W W')
    (hok : ∀ (j : Nat) (t : TypeId) (r : Value), f.resultTypes[j]? = some t → (v.resultList f.resultTypes.size)[j]? = some r → Value.okWide P W' .any 0 t r) :
    s.post enc P f apart fresh handsOn again W args v W' := by
  have hlt : ∀ p ∈ before, p.block < W.heap.size := fun p hp => hW.lt p hp
  have hold : ∀ p ∈ before, (fun b => decide (b < W.heap.size)) p.block = true := fun p hp => by simpa using hlt p hp
  refine ⟨ds, gs, before, [], pa, pv, hW, hres _ _ _, hargs _ hold, hvars _ hold, World.keptBut_mono (fun p hp => ⟨hp, ?_⟩) (hb.frame (· ∈ before)), fun _ => ?_⟩
  · rw [hps, List.mem_append] at hp
    exact Or.inr hp
  · obtain ⟨_, _, _, _, _, hz, hn⟩ := hW
    refine ⟨hok, _, _, ([] ++ pa) ++ pv, ⟨[] ++ pa, pv, trodAll_append (hargs _ (fun _ _ => rfl)) (hres _ _ _), hvars _ (fun _ _ => rfl), rfl, ?_, ?_⟩, ?_⟩
    · intro b off hp
      have hin : MemPlace.cell b off ∈ before := by rw [hps]; simpa using hp
      rw [hb.frozen (hlt _ hin)]
      exact hz b off hin
    · intro ha
      have := hn ha
      rw [hps] at this
      simpa using this
    · intro p hp _
      rw [hps]
      simpa using hp
end
theorem gargs_cons {D : Type} {P : Program} {H : AHeap} {t : TypeId} {ts : List TypeId} {avs : List AV} {d : DataW D} {ds : List (DataW D)} (h : GoodArgs P H (t :: ts) avs (d :: ds)) :
    ∃ a rest n cs, avs = a :: rest ∧ AI.Good P H n t cs d ∧ a = avOf P t cs ∧ GoodArgs P H ts rest ds := by
  cases avs with
  | nil => exact h.elim
  | cons a rest =>
    obtain ⟨⟨n, cs, h1, h2⟩, h3⟩ := h
    exact ⟨a, rest, n, cs, rfl, h1, h2, h3⟩
theorem gargs_nil {D : Type} {P : Program} {H : AHeap} {avs : List AV} (h : GoodArgs (D := D) P H [] avs []) : avs = [] := by
  cases avs with
  | nil => rfl
  | cons a rest => exact h.elim
end Go.AI
end
section
namespace Go.Proofs.YtkpjcnlljdccjaaGreat
open Go.AI
set_option linter.unusedVariables false
theorem own : ownKnob Tryz.prog.godebug = none := by kernel_rfl
theorem names_ok : AI.NamesOk Tryz.prog := Tryz.names_ok
theorem mixed : Tryz.prog.follows .mixedOrders = true := Tryz.mixed
theorem laid_out : laidOutB Tryz.prog = true := by kernel_rfl
theorem cells3 : Tryz.prog.cellsOf 3 = 1 := by decide +kernel
end Go.Proofs.YtkpjcnlljdccjaaGreat
end
