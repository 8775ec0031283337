/-
  The library's sort of a slice of integers, told of the abstract run.
-/
import Derived.Test.YthkoheaklmgonaaDoorDrKit
import Derived.Sort.OwnSortedInts
namespace Go.Dr
open Go.RowKit

variable {P : Program} {B : Nat} {w0 w w' : World} {φ : Phi} {h h' : AH}

theorem CallsK.of_calls {f : FuncId} {args : Array Value} {R : Ending → World → Prop} {K : Value → World → Prop} (hc : Calls P f args w R) (hr : ∀ e w', R e w' → ∃ v, e = .returned v ∧ K v w') : CallsK P .normal f args w K := by
  intro cs
  obtain ⟨e, w', fr, hR, hst, hf, hl⟩ := hc cs
  obtain ⟨v, rfl, hk⟩ := hr _ _ hR
  obtain ⟨hm, hd, hkd, fn, hfn, hres⟩ := hl
  exact ⟨v, w', fr, fn, hk, hst, hf, hm, hd, hkd, hfn, hres⟩

def intsOf : List AV → Option (List Int)
  | [] => some []
  | .int .i64 n :: l => match intsOf l with
    | some r => some (n :: r)
    | none => none
  | _ => none

theorem intsOf_ok : ∀ {l : List AV} {z : List Int}, intsOf l = some z → l = z.map (AV.int .i64)
  | [], z, he => by cases he; rfl
  | v :: l, z, he => by
    unfold intsOf at he
    split at he
    · rename_i h; cases h
    · rename_i n l' h
      cases h
      split at he
      · rename_i r hr; cases he; rw [intsOf_ok hr]; rfl
      · cases he
    · cases he

theorem intsOf_map (z : List Int) : intsOf (z.map (AV.int .i64)) = some z := by
  induction z with
  | nil => rfl
  | cons n z ih => simp only [List.map_cons, intsOf, ih]

def sorted (zs : List Int) : List Int := zs.mergeSort fun x y => decide (x ≤ y)

/-- what sorting a slice of integers does -/
def sortG (args : List AV) (h : AH) : R (AV × AH) :=
  match args with
  | [.nils] => .ok (.tuple [], h)
  | [.slice id off len _ _ es] => match h.get id with
    | some (.cells vs false) => match intsOf ((vs.drop off).take len) with
      | some zs => if es = 1 ∧ 0 < len ∧ off + len ≤ vs.length ∧ len < 4611686018427387904 then .ok (.tuple [], h.set id (.cells (splice vs off ((sorted zs).map (AV.int .i64))) false)) else .error "sort"
      | none => .error "sort"
    | _ => .error "sort"
  | _ => .error "sort"

/-- the kit's two contracts of slices.Sort at []int -/
structure SortIs (P : Program) (f : FuncId) : Prop where
  some : ∀ (blk off cap : Nat) (zs : List Int) (w : World), Sort.Holds (Value.int .i64) w blk off zs.toArray → blk < w.heap.size → zs.length < 4611686018427387904 →
    Calls P f #[.slice (some ⟨blk, off, none⟩) zs.length cap] w fun e w' =>
      e = .returned (.tuple #[]) ∧ ∃ n os, w' = Sort.grow (Sort.putRow (Value.int .i64) (Sort.ahead w n) blk off (zs.mergeSort fun x y => decide (x ≤ y)).toArray) os
  none : ∀ (p : Option Addr) (cap : Nat) (w : World), Calls P f #[.slice p 0 cap] w fun e w' => e = .returned (.tuple #[]) ∧ w' = w
  enter : ∀ args w, (callFunc f args).run P w = .ok (.enter f args) w

theorem putRow_heap {b n off : Nat} {cur : Array Value} {e : TypeId} {fr : Nat × Nat} (d : Array Int) (hb : w.heap[b]? = some (.cells cur e fr)) :
    (Sort.putRow (Value.int .i64) (Sort.ahead w n) b off d).heap[b]? = some (.cells (Sort.putCells (Value.int .i64) off d cur) e fr) := by
  simp [Sort.putRow, Sort.mapBlock, Sort.ahead, Array.getElem?_modify, hb, Sort.onCells]

theorem putRow_other {b n off k : Nat} (d : Array Int) (hk : k ≠ b) : (Sort.putRow (Value.int .i64) (Sort.ahead w n) b off d).heap[k]? = w.heap[k]? := by
  have : b ≠ k := fun e => hk e.symm
  simp [Sort.putRow, Sort.mapBlock, Sort.ahead, Array.getElem?_modify, this]

theorem sort_ok {f : FuncId} (hs : SortIs P f) {args : List AV} {v : AV} (he : sortG args h = .ok (v, h')) {args' : List Value} (ha : ConL φ args args') (hR : Rel B w0 φ h w) :
    (∀ w, (callFunc f ⟨args'⟩).run P w = .ok (.enter f ⟨args'⟩) w) ∧ CallsK P .normal f ⟨args'⟩ w (fun v' w' => ∃ φ', Con φ' v v' ∧ Rel B w0 φ' h' w' ∧ Ext φ h φ' h') := by
  refine ⟨fun w => hs.enter _ _, ?_⟩
  unfold sortG at he
  split at he
  · cases he
    cases ha with
    | cons h1 h2 =>
      cases h2
      cases h1
      exact .of_calls (hs.none _ _ w) fun e w' hh => ⟨_, hh.1, φ, .tuple .nil, by rw [hh.2]; exact hR, .refl _ _⟩
  · rename_i id off len cap x es
    split at he
    · rename_i vs hg
      split at he
      · rename_i zs hz
        split at he
        · rename_i hcond
          obtain ⟨rfl, h0, hle, hbig⟩ := hcond
          cases he
          have hz := intsOf_ok hz
          have hlen : zs.length = len := by
            have := congrArg List.length hz
            simp only [List.length_take, List.length_drop, List.length_map] at this
            omega
          have hget : ∀ j, j < zs.length → vs[off + j]? = some (.int .i64 (zs.getD j 0)) := by
            intro j hj
            have : ((vs.drop off).take len)[j]? = (zs.map (AV.int .i64))[j]? := by rw [hz]
            rw [List.getElem?_take_of_lt (by omega), List.getElem?_drop] at this
            rw [this]
            simp [List.getD, List.getElem?_eq_getElem hj]
          cases ha with
          | cons h1 h2 =>
            cases h2
            cases h1 with
            | @slice _ _ _ _ c _ _ p ad hp hx hcap hl hr =>
              obtain ⟨c0, e, lo, hi, g1, g2, g3, g4, g5⟩ := hR.obj _ _ _ hp hg
              rcases hr with hr | ⟨hr, rfl⟩
              · omega
              have hH : Sort.Holds (Value.int .i64) w p.blk (p.off + off) zs.toArray := by
                intro j hj
                have hj' : j < zs.length := by simpa using hj
                obtain ⟨y, hy, hc⟩ := g4 _ _ (hget j hj')
                cases hc
                refine ⟨?_, ?_⟩
                · rw [cell?_of g1, show p.off + off + j = p.off + (off + j) from by omega, hy]
                  simp [List.getD, List.getElem?_eq_getElem hj', hj']
                · have := g5 rfl (p.off + off + j) (by omega) (by omega)
                  simp only [World.frozen?, g1, Bool.and_eq_false_iff, decide_eq_false_iff_not]
                  omega
              have hB := hR.own _ _ _ hp hg rfl
              have hlt := (hR.obj _ _ _ hp hg).lt
              have hsl : (zs.mergeSort fun x y => decide (x ≤ y)).length = zs.length := List.length_mergeSort zs
              have hcalls := hs.some p.blk (p.off + off) c zs w hH hlt (by omega)
              rw [hlen] at hcalls
              refine .of_calls hcalls fun e' w' hh => ⟨_, hh.1, φ, .tuple .nil, ?_, .write hp _⟩
              obtain ⟨n, os, rfl⟩ := hh.2
              have hb1 : Below B w (Sort.putRow (Value.int .i64) (Sort.ahead w n) p.blk (p.off + off) (zs.mergeSort fun x y => decide (x ≤ y)).toArray) :=
                ⟨rfl, rfl, rfl, by simp [Sort.putRow, Sort.mapBlock, Sort.ahead], fun k hk => putRow_other _ (by omega)⟩
              have hR1 : Rel B w0 φ (h.set id (.cells (splice vs off ((sorted zs).map (AV.int .i64))) false)) (Sort.putRow (Value.int .i64) (Sort.ahead w n) p.blk (p.off + off) (zs.mergeSort fun x y => decide (x ≤ y)).toArray) := by
                refine hR.write hp hg rfl rfl hb1 (fun k hk => putRow_other _ hk) ?_
                refine ⟨_, e, lo, hi, putRow_heap _ g1, ?_, ?_, fun i x hx => ?_, g5⟩
                · rw [splice_length _ _ _ (by simp only [List.length_map, sorted]; omega)]; exact g2
                · simp only [Sort.putCells, Array.size_mapIdx]; exact g3
                · rw [splice_get _ _ _ _ (by simp only [List.length_map, sorted]; omega)] at hx
                  simp only [List.length_map, sorted] at hx
                  simp only [Sort.putCells, Array.getElem?_mapIdx, List.size_toArray]
                  split at hx
                  · rename_i hin
                    obtain ⟨y, hy, _⟩ := g4 _ _ (hget (i - off) (by omega))
                    rw [show p.off + i = p.off + (off + (i - off)) from by omega, hy]
                    simp only [Option.map_some]
                    rw [if_pos (by omega)]
                    refine ⟨_, rfl, ?_⟩
                    rw [List.getElem?_map, List.getElem?_eq_getElem (by omega)] at hx
                    cases hx
                    rw [show p.off + (off + (i - off)) - (p.off + off) = i - off from by omega]
                    have hlt2 : i - off < (zs.mergeSort fun x y => decide (x ≤ y)).length := by omega
                    rw [show (zs.mergeSort fun x y => decide (x ≤ y)).toArray[i - off]! = (zs.mergeSort fun x y => decide (x ≤ y))[i - off] from by simp [List.getElem?_eq_getElem hlt2]]
                    exact .int _ _
                  · rename_i hout
                    obtain ⟨y, hy, hc⟩ := g4 _ _ hx
                    rw [hy]
                    simp only [Option.map_some]
                    rw [if_neg (by omega)]
                    exact ⟨_, rfl, hc⟩
              refine hR1.world ⟨rfl, rfl, rfl, by simp [Sort.grow], fun k hk => Sort.heap_grow_old _ _ ?_⟩ fun i q o e1 e2 => Sort.heap_grow_old _ _ (hR1.obj _ _ _ e1 e2).lt
              exact Nat.lt_of_lt_of_le hk hR1.size
        · cases he
      · cases he
    · cases he
  · cases he

end Go.Dr
