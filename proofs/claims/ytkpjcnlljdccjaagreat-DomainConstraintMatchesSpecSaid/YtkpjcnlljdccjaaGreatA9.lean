/- Joined by a program: what the proof of the law leans on, part 9. -/
import Derived.Test.YtkpjcnlljdccjaaGreatA8
import Derived.Shelf.Sort.Plain
import Derived.Shelf.Slices.In.SortNone
set_option linter.unusedVariables false
set_option linter.unusedSimpArgs false
section
namespace Go.AI
open Go.Sort
theorem Post.more {μ μ' : Mu} {H H' : AHeap} {w w1 w' : World} {os : Array Obj} (p : Post μ H w μ' H' w1) (hh : w'.heap = w1.heap ++ os) (h1 : w'.os = w1.os) (h2 : w'.tape = w1.tape) (h3 : w'.output = w1.output) : Post μ H w μ' H' w' := by
  have old : ∀ k, k < w1.heap.size → w'.heap[k]? = w1.heap[k]? := fun k hk => by rw [hh, Array.getElem?_append_left hk]
  have hsz : w1.heap.size ≤ w'.heap.size := by rw [hh, Array.size_append]; omega
  have hsh : Shapes w1 w' := by
    intro k x hx
    unfold World.shape? at hx ⊢
    rcases Nat.lt_or_ge k w1.heap.size with hk | hk
    · rw [old k hk]; exact hx
    · rw [Array.getElem?_eq_none hk] at hx; cases hx
  refine ⟨p.wf, ⟨fun b r s h => Nat.lt_of_lt_of_le (p.rel.dom b r s h) hsz, fun b r s o h ho => ?_, p.rel.sep, p.rel.clos⟩, p.size, p.out, p.fresh, p.kind, p.kind', p.hidden, p.mapped, h1.trans p.os, h2.trans p.tape, h3.trans p.output, Nat.le_trans p.wsize hsz, fun k hk hs => ?_, p.shapes.trans hsh⟩
  · rw [old r (p.rel.dom b r s h)]
    exact (p.rel.obj b r s o h ho).mono (fun _ _ h => h) hsh
  · rw [old k (Nat.lt_of_lt_of_le hk p.wsize)]
    exact p.keep k hk hs
theorem putRow_eq {w : World} {r off : Nat} {A : Array Value} {e : TypeId} {fz : Nat × Nat} {zs : List Int} (h : w.heap[r]? = some (.cells A e fz)) (hf : off + zs.length ≤ A.size) :
    putRow (Value.int .i64) w r off zs.toArray = w.setRow r (putAt A off (zs.map (Value.int .i64))) := by
  have e1 : putCells (Value.int .i64) off zs.toArray A = putAt A off (zs.map (Value.int .i64)) := by
    apply Array.ext_getElem?
    intro k
    simp only [putCells, Array.getElem?_mapIdx, List.size_toArray]
    by_cases hk : off ≤ k ∧ k < off + zs.length
    · have hkA : k < A.size := by omega
      have := @putAt_in A off (zs.map (Value.int .i64)) (by rw [List.length_map]; exact hf) (k - off) (by rw [List.length_map]; omega)
      rw [show off + (k - off) = k from by omega] at this
      rw [this, Array.getElem?_eq_getElem hkA, Option.map_some, if_pos hk, List.getElem?_map, List.getElem?_eq_getElem (by omega), Option.map_some]
      rw [getElem!_pos _ _ (by simpa using (by omega : k - off < zs.length))]
      simp
    · rw [putAt_out (by rw [List.length_map]; exact hf) (by rw [List.length_map]; omega)]
      cases hA : A[k]? with
      | none => rfl
      | some v => simp only [Option.map_some, if_neg hk]
  unfold putRow
  rw [mapBlock_congr w r _ (fun _ => putAt A off (zs.map (Value.int .i64))) (fun c e' fr hc => by rw [h] at hc; cases hc; exact e1)]
  unfold mapBlock World.setRow
  congr 1
def intsOf : List AC → Option (List Int)
  | [] => some []
  | .int .i64 n :: r => (intsOf r).map (n :: ·)
  | _ => none
theorem intsOf_eq : ∀ {cs : List AC} {zs : List Int}, intsOf cs = some zs → cs = zs.map (AC.int .i64)
  | [], zs, h => by simp only [intsOf, Option.some.injEq] at h; subst h; rfl
  | c :: cs, zs, h => by
    unfold intsOf at h
    split at h
    · next h1 => cases h1
    · next n r h1 =>
      cases h1
      obtain ⟨l, hl, rfl⟩ := Option.map_eq_some_iff.1 h
      rw [intsOf_eq hl]; rfl
    · cases h
theorem intsOf_map : ∀ zs : List Int, intsOf (zs.map (AC.int .i64)) = some zs
  | [] => rfl
  | z :: zs => by simp only [List.map_cons, intsOf, intsOf_map zs, Option.map_some]
theorem inplace {μ : Mu} {H H' : AHeap} {w : World} {p : APtr} {zs zs' : List Int} {r s : Nat} (wf : WF H) (rel : Rel μ H.get w) (hl : H.load p zs.length = some (zs.map (AC.int .i64))) (hs : H.store p (zs'.map (AC.int .i64)) = some H') (hlen : zs'.length = zs.length) (hm : μ p.1 = some (r, s)) :
    Holds (Value.int .i64) w r (s + p.2) zs.toArray ∧ r < w.heap.size ∧ ∀ n os, Post μ H w μ H' (grow (putRow (Value.int .i64) (Sort.ahead w n) r (s + p.2) zs'.toArray) os) := by
  obtain ⟨e, k, st, cells, hb, hfit, rfl⟩ := store_eq hs
  obtain ⟨A, e2, fz, h1, h2, h3, h4⟩ := rel.obj p.1 r s _ hm hb
  obtain rfl := h3 rfl
  rw [List.length_map] at hfit
  unfold AHeap.load at hl
  rw [hb] at hl
  obtain ⟨_, hcs⟩ := takeAll_spec hl
  refine ⟨fun j hj => ?_, rel.dom _ _ _ hm, fun n os => ?_⟩
  · simp only [List.size_toArray] at hj
    obtain ⟨u, hu, hr⟩ := h4 (p.2 + j) _ (hcs j (.int .i64 zs[j]) (by rw [List.getElem?_map, List.getElem?_eq_getElem hj]; rfl))
    have hr' : u = .int .i64 zs[j] := hr
    subst hr'
    refine ⟨?_, ?_⟩
    · rw [cell_row h1, show s + p.2 + j = s + (p.2 + j) from by omega, hu, getElem!_pos _ _ (by simpa using hj)]
      simp
    · unfold World.frozen?
      rw [h1]
      simp
  · have hp := post_stores (off := p.2) (xs := (zs'.map (AC.int .i64)).map some) (vs := zs'.map (Value.int .i64)) wf rel hb hm h1 (by simp; omega) (by simp) (fun i c u hc hu => by
      simp only [List.getElem?_map, Option.map_eq_some_iff] at hc hu
      obtain ⟨_, ⟨z, hz, rfl⟩, hc⟩ := hc
      obtain ⟨z', hz', rfl⟩ := hu
      rw [hz] at hz'
      cases hz'
      cases hc
      rfl)
    rw [← putRow_eq h1 (by omega)] at hp
    exact hp.more (os := os) rfl rfl rfl rfl
def sortB (H : AHeap) : List AV → Option (AV × AHeap)
  | [.one (.sl a _ len _)] =>
    if len = 0 then some (.tup [], H)
    else if len ≥ 4611686018427387904 then none
    else match a with
      | none => none
      | some p => (H.load p len).bind fun cs => (intsOf cs).bind fun zs => (H.store p ((zs.mergeSort fun x y => decide (x ≤ y)).map (AC.int .i64))).map fun H' => (.tup [], H')
  | _ => none
theorem sortB_sound {P : Program} {f : FuncId} (h0 : ∀ (p : Option Addr) (cap : Nat) (w : World), Calls P f #[.slice p 0 cap] w fun e w' => e = .returned (.tuple #[]) ∧ w' = w)
    (h1 : ∀ (blk off cap : Nat) (zs : List Int) (w : World), Holds (Value.int .i64) w blk off zs.toArray → blk < w.heap.size → zs.length < 4611686018427387904 →
      Calls P f #[.slice (some ⟨blk, off, none⟩) zs.length cap] w fun e w' => e = .returned (.tuple #[]) ∧ ∃ n os, w' = grow (putRow (Value.int .i64) (Sort.ahead w n) blk off (zs.mergeSort fun x y => decide (x ≤ y)).toArray) os)
    {args : List AV} {H : AHeap} {v : AV} {H' : AHeap} (h : sortB H args = some (v, H')) :
    H.size ≤ H'.size ∧ ∀ μ w (rargs : Array Value), All2 (VRel μ w) args rargs.toList → WF H → Rel μ H.get w → Free μ H.size H'.size → Calls P f rargs w (CallPost μ H w H' v) := by
  unfold sortB at h
  split at h
  · next a sz len cap =>
    have rarg : ∀ {μ : Mu} {w : World} {rargs : Array Value}, All2 (VRel μ w) [.one (.sl a sz len cap)] rargs.toList → ∃ u, rargs = #[u] ∧ CRel μ w (.sl a sz len cap) u := by
      intro μ w rargs hr
      obtain ⟨l⟩ := rargs
      cases l with
      | nil => exact hr.elim
      | cons u l => cases l with
        | nil => exact ⟨u, rfl, hr.1⟩
        | cons _ _ => exact hr.2.elim
    split at h
    · next hz =>
      subst hz
      cases h
      refine ⟨Nat.le_refl _, fun μ w rargs hr wf rel fr => ?_⟩
      obtain ⟨u, rfl, hu⟩ := rarg hr
      have hu' : ∃ q c, u = .slice q 0 c := by
        cases a with
        | none => exact ⟨none, 0, hu.2.2⟩
        | some p => obtain ⟨a', cap', _, _, _, _, e, _⟩ := hu; exact ⟨_, _, e⟩
      obtain ⟨q, c, rfl⟩ := hu'
      refine (h0 q c w).mono ?_
      rintro e w' ⟨rfl, rfl⟩
      exact ⟨_, μ, rfl, ⟨#[], rfl, trivial⟩, Post.refl wf rel⟩
    · next hz =>
      split at h
      · cases h
      next hbig =>
      split at h
      · cases h
      next p =>
      obtain ⟨cs, hcs, h⟩ := Option.bind_eq_some_iff.1 h
      obtain ⟨zs, hzs, h⟩ := Option.bind_eq_some_iff.1 h
      obtain ⟨H2, hst, h⟩ := Option.map_eq_some_iff.1 h
      simp only [Prod.mk.injEq] at h
      obtain ⟨rfl, rfl⟩ := h
      obtain rfl := intsOf_eq hzs
      have hlen : zs.length = len := by
        have hcs' := hcs
        unfold AHeap.load at hcs'
        split at hcs'
        · have := (takeAll_spec hcs').1
          rwa [List.length_map] at this
        · cases hcs'
      subst hlen
      refine ⟨?_, fun μ w rargs hr wf rel fr => ?_⟩
      · obtain ⟨e, k, st, cells, _, _, rfl⟩ := store_eq hst
        rw [AHeap.size_stores]
        exact Nat.le_refl _
      obtain ⟨u, rfl, a', cap', r, s, e, n, rfl, hle, _, hm, ha, _, _⟩ := rarg hr
      have ha' : a' = ⟨r, s + p.2, none⟩ := ha.resolve_left (by omega)
      subst ha'
      obtain ⟨g1, g2, g3⟩ := inplace wf rel hcs hst (List.length_mergeSort _) hm
      refine (h1 r (s + p.2) cap' zs w g1 g2 (by omega)).mono ?_
      rintro e w' ⟨rfl, n, os, rfl⟩
      exact ⟨_, μ, rfl, ⟨#[], rfl, trivial⟩, g3 n os⟩
  · cases h
end Go.AI
end
