/- 'for _, x := range l' at elements of many cells: load, new variable, store, at one go. Of no program. -/
import Derived.Deep.MidRow
import Derived.Deep.WholeRow
import Derived.WalkKit
import Derived.Great.Walk
import Derived.Great.FillDense
import Derived.Laws.AppendOwn
import Derived.OwnWalk
import Derived.KernelRfl
namespace Go.Proofs.YtadmecjdihfmeaaGreat.Elem
set_option linter.unusedVariables false
set_option linter.unusedSimpArgs false
open Go.RowKit
variable {P : Program}

/-- to stand still at an operation: '(at_builtin; refine halt ?_)' as an arm; then 'refine ⟨?_⟩' -/
structure Halt (p : Prop) : Prop where
  go : p
theorem halt {ops : Array Oper} {l : List Oper} {a : Act} {w : World} {Q : Exit → Act → World → Prop} (h : Halt (wpList P ops Q l a w)) : wpList P ops Q l a w := h.go
theorem halt_load {ops : Array Oper} {rest : List Oper} {o : Oper} {a : Act} {w : World} {Q : Exit → Act → World → Prop} (ty : TypeId) (x : Operand) (ho : o.op = .load ty x) (h : Halt (wpList P ops Q (o :: rest) a w)) : wpList P ops Q (o :: rest) a w := h.go
theorem wp_alloc_row {o : Oper} {a : Act} {w : World} {K : Act → World → Prop} {Q : Exit → Act → World → Prop} (ty : TypeId) (ho : o.op = .alloc ty) (z : Array Value)
    (hz : ∀ w, (zeroValue ty).run P w = .ok (.agg z) w) (h : K (a.put o.dst (.pointer (some ⟨w.heap.size, 0, none⟩))) (w.alloc (.cells z ty))) : o.wp P a w K Q := by
  unfold Oper.wp execOp
  simp only [ho]
  have e : (Instr.alloc ty true (.tuple #[])).run P w = .ok (.pointer (some ⟨w.heap.size, 0, none⟩)) (w.alloc (.cells z ty)) := by
    unfold Instr.alloc
    simp only [Sem.run_bind, hz, Result.andThen_ok, newVar, Value.cells]
    go_simp
  simp only [Sem.run_bind, e, Result.andThen_ok]
  exact h
theorem wpList_alloc_row {ops : Array Oper} {rest : List Oper} {o : Oper} {a : Act} {w : World} {Q : Exit → Act → World → Prop} (hgd : o.guard = none) (ty : TypeId) (ho : o.op = .alloc ty) (z : Array Value)
    (hz : ∀ w, (zeroValue ty).run P w = .ok (.agg z) w) (h : wpList P ops Q rest (a.put o.dst (.pointer (some ⟨w.heap.size, 0, none⟩))) (w.alloc (.cells z ty))) : wpList P ops Q (o :: rest) a w :=
  wpList_plain hgd fun _ hK => wp_alloc_row ty ho z hz (hK _ _ h)

/-- AN ELEMENT INTO A NEW VARIABLE: load, alloc, store. -/
theorem wpList_elem {ops : Array Oper} {rest : List Oper} {o1 o2 o3 : Oper} {a : Act} {w : World} {Q : Exit → Act → World → Prop} (g1 : o1.guard = none) (g2 : o2.guard = none) (g3 : o3.guard = none)
    (ty : TypeId) (x y1 y2 : Operand) (h1 : o1.op = .load ty x) (h2 : o2.op = .alloc ty) (h3 : o3.op = .store ty y2 y1) (d3 : o3.dst = none)
    (b o : Nat) (hx : a.eval x = .pointer (some ⟨b, o, none⟩)) (cs : List Value) (hc : w.rangeAt b o cs) (d : TypeDesc) (hu : P.underlying ty = some d) (hd : d.isRow = true)
    (z : Array Value) (hz : ∀ w, (zeroValue ty).run P w = .ok (.agg z) w) (hzs : z.size = cs.length) (hi : (P.info? ty).map (·.size) = some cs.length) (hone : cs.all (·.oneCell') = true)
    (e1 : ((a.put o1.dst (.agg cs.toArray)).put o2.dst (.pointer (some ⟨w.heap.size, 0, none⟩))).eval y1 = .agg cs.toArray)
    (e2 : ((a.put o1.dst (.agg cs.toArray)).put o2.dst (.pointer (some ⟨w.heap.size, 0, none⟩))).eval y2 = .pointer (some ⟨w.heap.size, 0, none⟩))
    (h : wpList P ops Q rest ((a.put o1.dst (.agg cs.toArray)).put o2.dst (.pointer (some ⟨w.heap.size, 0, none⟩))) (w.alloc (.cells cs.toArray ty))) :
    wpList P ops Q (o1 :: o2 :: o3 :: rest) a w := by
  refine wpList_load_mid g1 ty x h1 b o hx cs d hc hu hd hi ?_
  refine wpList_alloc_row g2 ty h2 z hz ?_
  refine wpList_store_row g3 ty y2 y1 h3 w.heap.size cs.toArray e2 e1 ty z (heap_alloc_last _ _) (by simpa using hi) (by simpa using hzs) (all_oneCell_toArray (List.all_eq_true.1 hone)) ?_
  rw [World.setRow_alloc_new, d3]
  exact h
/-- what a slice literal of whole elements holds -/
theorem built_whole {e : TypeId} {z : Value} {n : Nat} (h : (P.info? e).map (fun i => (i.zero, i.size)) = some (some z, n)) (hn : 0 < n) (css : List (Array Value)) (h0 : 0 < css.length) (hs : ∀ c ∈ css, c.size = n) (hb : css.length * n ≤ 16777216)
    (parts : List (Nat × Value)) (hp : parts = (css.zipIdx 0).map fun x => (x.2, Value.agg x.1)) : P.builtSlice e css.length parts = some (css.flatMap Array.toList).toArray := by
  subst hp
  cases hq : P.info? e with
  | none => simp [hq] at h
  | some i =>
    simp only [hq, Option.map_some, Option.some.injEq, Prod.mk.injEq] at h
    obtain ⟨hz, hsz⟩ := h
    unfold Program.builtSlice
    simp only [hq, hz]
    have hm : 0 < css.length * n := Nat.mul_pos h0 hn
    rw [if_neg (by rw [hsz]; omega)]
    have hw := Great.fill_whole (s := n) hn (css.map Value.agg) ((Array.range (css.length * n)).map fun x => z.cells[x % z.cells.size]!) (by simpa [Value.cells] using hs) (by simp)
    rw [hsz]
    rw [List.zipIdx_map, List.map_map, List.flatMap_map] at hw
    exact hw
theorem grown_alloc {w w' : World} {o : Obj} {r : Option Nat} (h : (w.alloc o).grownBy w' r) : w.grownBy w' r :=
  ⟨h.os, h.tape, h.output, by have := h.size; simp at this; omega, fun k hk hr => by rw [h.block k (by simp; omega) hr]; exact Below.heap_alloc w o k hk⟩
theorem ownsRow_alloc {w : World} {base e size n : Nat} {v : Value} {xs : List Value} (h : w.ownsRow base e size v n xs) (o : Obj) : (w.alloc o).ownsRow base e size v n xs := by
  obtain ⟨h1, h2 | ⟨g, cap, cur, h3, h4, h5, h6⟩⟩ := h
  · exact ⟨h1, .inl h2⟩
  · exact ⟨h1, .inr ⟨g, cap, cur, h3, h4, (Below.heap_alloc w o g (Array.getElem?_eq_some_iff.1 h5).1).trans h5, h6⟩⟩
/-- 'out = append(out, x)', x a variable of many cells: load, slice of one, append. -/
theorem wpList_append_elem {ops : Array Oper} {rest : List Oper} {o1 o2 o3 : Oper} {a : Act} {w : World} {Q : Exit → Act → World → Prop} (g1 : o1.guard = none) (g2 : o2.guard = none) (g3 : o3.guard = none)
    (ty tS : TypeId) (x s y1 y2 : Operand) (h1 : o1.op = .load ty x) (h2 : o2.op = .buildSlice tS 1 #[(0, y1)]) (h3 : o3.op = .call { callee := .builtin .append, args := #[s, y2], argTypes := #[tS, tS] })
    (b o : Nat) (hx : a.eval x = .pointer (some ⟨b, o, none⟩)) (cs : List Value) (hc : w.rangeAt b o cs) (d : TypeDesc) (hu : P.underlying ty = some d) (hd : d.isRow = true) (hS : P.underlying tS = some (.slice ty))
    (z : Value) (bytes : Nat) (hi : (P.info? ty).map (fun i => (i.zero, i.size, i.bytes)) = some (some z, cs.length, bytes)) (hzs : z.cells.size = cs.length) (h0 : 0 < cs.length) (h24 : cs.length ≤ 16777216) (hone : ∀ v ∈ cs, v.oneCell' = true)
    (base : Nat) (v : Value) (n : Nat) (xs : List Value) (hown : w.ownsRow base ty cs.length v n xs) (h63 : n + 1 ≤ maxLen) (hbytes : (n + 1) * bytes ≤ 140737488355328) (hbase : base ≤ w.heap.size)
    (e1 : (a.put o1.dst (.agg cs.toArray)).eval y1 = .agg cs.toArray)
    (e2 : ((a.put o1.dst (.agg cs.toArray)).put o2.dst (.slice (some ⟨w.heap.size, 0, none⟩) 1 1)).eval s = v)
    (e3 : ((a.put o1.dst (.agg cs.toArray)).put o2.dst (.slice (some ⟨w.heap.size, 0, none⟩) 1 1)).eval y2 = .slice (some ⟨w.heap.size, 0, none⟩) 1 1)
    (h : ∀ v' w', w'.ownsRow base ty cs.length v' (n + 1) (xs ++ cs) → w.grownBy w' v.ownBlock → wpList P ops Q rest (((a.put o1.dst (.agg cs.toArray)).put o2.dst (.slice (some ⟨w.heap.size, 0, none⟩) 1 1)).put o3.dst v') w') :
    wpList P ops Q (o1 :: o2 :: o3 :: rest) a w := by
  obtain ⟨i, hi', hz, hz1, hz2⟩ := info_parts hi
  have hi2 : (P.info? ty).map (fun i => (i.zero, i.size)) = some (some z, cs.length) := by rw [hi']; simp [hz, hz1]
  have hi3 : (P.info? ty).map (·.size) = some cs.length := by rw [hi']; simp [hz1]
  refine wpList_load_mid g1 ty x h1 b o hx cs d hc hu hd hi3 ?_
  refine Great.wpList_buildSliceTo g2 tS ty 1 #[(0, y1)] h2 w.heap.size rfl o2.dst rfl hS cs.toArray ?_ ?_
  · have := built_whole hi2 h0 [cs.toArray] (by simp) (by simp) (by simpa using h24) [(0, .agg cs.toArray)] rfl
    simpa [e1] using this
  · refine wpList_append_own _ g3 s y2 tS h3 base ty i z cs.length bytes hS hi' hz hz1 hz2 hzs h0 v n xs e2 (ownsRow_alloc hown _) ⟨w.heap.size, 0, none⟩ 1 1 cs e3 (by simp) (fun j u hj => ?_) hone h63 hbytes (by simp; omega) ?_
    · have e : (⟨w.heap.size, 0, none⟩ : Addr).add j = ⟨w.heap.size, j, none⟩ := by unfold Addr.add; split <;> simp_all
      rw [e, World.cell?_alloc_mark]
      simpa using hj
    · intro v' w' k1 k2 _
      exact h v' w' k1 (grown_alloc k2)
end Go.Proofs.YtadmecjdihfmeaaGreat.Elem
