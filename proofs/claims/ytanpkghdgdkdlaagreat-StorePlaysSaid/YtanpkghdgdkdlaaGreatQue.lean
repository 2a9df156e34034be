/- A list of whole numbers that is appended to and cut at its head: 'todo = append(todo, more...)', 'todo = todo[1:]'. -/
import Derived.Test.YtanpkghdgdkdlaaGreatStoDoes
import Derived.Test.YtanpkghdgdkdlaaGreatBlock
import Derived.Deep.AppendSrc
namespace Go.Proofs.YtanpkghdgdkdlaaGreat.Sto
set_option linter.unusedVariables false
set_option linter.unusedSimpArgs false
open Go.RowKit Go.Lib Go.Proofs.YtanpkghdgdkdlaaGreat.Mem Go.Proofs.YtanpkghdgdkdlaaGreat.Oct Go.Proofs.YtanpkghdgdkdlaaGreat.Dev

def Que (g : Nat) (w : World) (v : Value) (l : List Int) : Prop :=
  ∃ off cap cur, v = .slice (some ⟨g, off, none⟩) l.length cap ∧ w.heap[g]? = some (.cells cur 3 (0, 0)) ∧ off + cap ≤ cur.size ∧ l.length ≤ cap ∧ cap ≤ maxLen ∧ ∀ j (h : j < l.length), cur[off + j]? = some (.int .i64 l[j])
theorem Que.lt {g : Nat} {w : World} {v : Value} {l : List Int} (h : Que g w v l) : g < w.heap.size := by
  obtain ⟨off, cap, cur, _, hb, _⟩ := h
  exact heap_lt hb
theorem Que.on {g : Nat} {w w' : World} {v : Value} {l : List Int} {T : List Nat} (h : Que g w v l) (hc : Chg T w w') (hg : g ∉ T) : Que g w' v l := by
  obtain ⟨off, cap, cur, e, hb, r⟩ := h
  exact ⟨off, cap, cur, e, (hc.block g (heap_lt hb) hg).trans hb, r⟩
theorem Que.one {w : World} (x : Int) : Que w.heap.size (w.alloc (.cells #[.int .i64 x] 3)) (.slice (some ⟨w.heap.size, 0, none⟩) 1 1) [x] := by
  refine ⟨0, 1, #[.int .i64 x], rfl, heap_alloc_last _ _, by simp, by simp, by decide, fun j hj => ?_⟩
  match j, hj with
  | 0, _ => rfl
theorem Que.form {g : Nat} {w : World} {v : Value} {l : List Int} (h : Que g w v l) : ∃ off cap, v = .slice (some ⟨g, off, none⟩) l.length cap ∧ l.length ≤ cap ∧ cap ≤ maxLen := by
  obtain ⟨off, cap, cur, e, hb, _, h2, h3, _⟩ := h
  exact ⟨off, cap, e, h2, h3⟩
theorem Que.head {g : Nat} {w : World} {off cap n : Nat} {x : Int} {l : List Int} (h : Que g w (.slice (some ⟨g, off, none⟩) n cap) (x :: l)) : w.cell? ⟨g, off, none⟩ = some (.int .i64 x) ∧
    Que g w (.slice (if cap = 1 then some ⟨g, off, none⟩ else some ⟨g, off + 1, none⟩) l.length (cap - 1)) l := by
  obtain ⟨off', cap', cur, e, hb, h1, h2, h3, h4⟩ := h
  injection e with e1 e2 e3
  injection e1 with e1
  injection e1 with e1 e4
  subst e4 e3
  refine ⟨?_, ?_⟩
  · rw [cell_at hb]
    have := h4 0 (by simp)
    rw [Nat.add_zero] at this
    exact this
  · simp only [List.length_cons] at h2 h4
    by_cases hc : cap = 1
    · have hl : l = [] := List.length_eq_zero_iff.1 (by omega)
      subst hl
      rw [if_pos hc]
      exact ⟨off, cap - 1, cur, rfl, hb, by omega, by simp, by omega, fun j hj => by simp at hj⟩
    · rw [if_neg hc]
      refine ⟨off + 1, cap - 1, cur, rfl, hb, by omega, by omega, by omega, fun j hj => ?_⟩
      have := h4 (j + 1) (by omega)
      rw [show off + 1 + j = off + (j + 1) by omega, this]
      rfl
theorem heap_setCells {g : Nat} {t : TypeId} {f : Nat × Nat} : ∀ (vs : List Value) (o : Nat) (w : World) (cur : Array Value), w.heap[g]? = some (.cells cur t f) → o + vs.length ≤ cur.size →
    ∃ cur' : Array Value, (w.setCells g o vs).heap[g]? = some (.cells cur' t f) ∧ cur'.size = cur.size ∧ (∀ i, i < o ∨ o + vs.length ≤ i → cur'[i]? = cur[i]?) ∧ ∀ j, j < vs.length → cur'[o + j]? = vs[j]?
  | [], o, w, cur, h, hl => ⟨cur, h, rfl, fun _ _ => rfl, fun j hj => by simp at hj⟩
  | v :: vs, o, w, cur, h, hl => by
    simp only [List.length_cons] at hl
    obtain ⟨cur', h1, h2, h3, h4⟩ := heap_setCells vs (o + 1) (w.setCell ⟨g, o, none⟩ v) _ (heap_set_at h o v) (by simp; omega)
    refine ⟨cur', h1, by simpa using h2, fun i hi => ?_, fun j hj => ?_⟩
    · simp only [List.length_cons] at hi
      rw [h3 i (by omega), Array.getElem?_setIfInBounds, if_neg (by omega)]
    · match j with
      | 0 =>
        rw [h3 (o + 0) (by omega), Array.getElem?_setIfInBounds, if_pos (by omega), if_pos (by omega)]
        rfl
      | j + 1 =>
        have := h4 j (by simpa using hj)
        rw [show o + (j + 1) = o + 1 + j by omega, this]
        rfl
theorem chg_setCells (g : Nat) : ∀ (vs : List Value) (o : Nat) (w : World), Chg [g] w (w.setCells g o vs)
  | [], o, w => Chg.refl _ _
  | v :: vs, o, w => ((Chg.refl [g] w).setCell ⟨g, o, none⟩ v (.inl (by simp))).trans (chg_setCells g vs (o + 1) _)
/-- what is appended: nothing, or what lies somewhere -/
def More (w : World) (v : Value) (l : List Int) : Prop := (l = [] ∧ ∃ c, v = .slice none 0 c) ∨ ∃ b o c, v = .slice (some ⟨b, o, none⟩) l.length c ∧ ∀ j (h : j < l.length), w.cell? ⟨b, o + j, none⟩ = some (.int .i64 l[j])
theorem More.of_own {base : Nat} {w : World} {v : Value} {l : List Int} (h : OwnI base w v l) : More w v l := by
  rcases h.2 with ⟨rfl, h0⟩ | ⟨g, cap, cur, rfl, hg, hb, r⟩
  · exact .inl ⟨List.length_eq_zero_iff.1 h0, _, rfl⟩
  · refine .inr ⟨g, 0, cap, rfl, fun j hj => ?_⟩
    rw [← add_at]
    exact World.ownsRow.cells h rfl j _ (by simp [hj])
theorem More.src {w : World} {v : Value} {l : List Int} (h : More w v l) : Src Tryz.prog 1 23 v l.length (l.map (Value.int .i64)) w := by
  rcases h with ⟨rfl, c, rfl⟩ | ⟨b, o, c, rfl, hc⟩
  · exact Src.ofNil w Tryz.underlying23 c
  · refine Src.ofSlice w Tryz.underlying23 ⟨b, o, none⟩ l.length c _ (by simp) (fun j u hj => ?_) (fun u hu => ?_)
    · rw [add_at]
      by_cases hl : j < l.length
      · rw [List.getElem?_eq_getElem (by simpa using hl)] at hj
        rw [hc j hl]
        simpa using hj
      · rw [List.getElem?_eq_none (by simpa using hl)] at hj; cases hj
    · obtain ⟨z, _, rfl⟩ := List.mem_map.1 hu
      rfl
theorem Que.append {g : Nat} {w : World} {v vx : Value} {l ks : List Int} (h : Que g w v l) (hx : More w vx ks) (hl : l.length + ks.length ≤ 1048576) (ty : TypeId) :
    ∃ v' w' g', (Builtin.append_ #[23, 23] ty #[v, vx]).run Tryz.prog w = .ok v' w' ∧ Que g' w' v' (l ++ ks) ∧ Chg [g] w w' ∧ (g' = g ∨ g' = w.heap.size) := by
  obtain ⟨off, cap, cur, rfl, hb, h1, h2, h3, h4⟩ := h
  obtain ⟨i0, hi, hz0, hz1, hz2⟩ := info_parts info_int
  by_cases hroom : l.length + ks.length ≤ cap
  · obtain ⟨cur', k1, k2, k3, k4⟩ := heap_setCells (ks.map (Value.int .i64)) (off + l.length) w cur hb (by simp; omega)
    have hcell : ∀ j, w.cell? ⟨g, j, none⟩ = cur[j]? := fun j => cell_at hb j
    have hr := run_append_room_src (P := Tryz.prog) w 23 23 ty 3 i0 Tryz.underlying23 hi g off l.length cap vx ks.length (ks.map (Value.int .i64)) (by rw [hz1]; exact hx.src) hroom
      (fun j hj => by
        rw [hcell, hz1, Nat.mul_one, Array.getElem?_eq_getElem (by simp at hj; omega)]
        rfl) (fun j hj => frozen_at hb _)
    refine ⟨_, _, g, hr, ⟨off, cap, cur', by simp, ?_, by omega, by simp; omega, h3, fun j hj => ?_⟩, ?_, .inl rfl⟩
    · rw [hz1, Nat.mul_one]; exact k1
    · by_cases hjl : j < l.length
      · rw [k3 _ (by omega), h4 j hjl]
        simp [List.getElem_append_left hjl]
      · have := k4 (j - l.length) (by simp at hj ⊢; omega)
        rw [show off + l.length + (j - l.length) = off + j by omega] at this
        rw [this, List.getElem?_eq_getElem (by simp at hj ⊢; omega)]
        simp [List.getElem_append_right (show l.length ≤ j by omega)]
    · exact chg_setCells _ _ _ _
  · have holds : (Builtin.firstCells i0.size l.length (.slice (some ⟨g, off, none⟩) l.length cap)).run Tryz.prog w.drew = .ok (l.map (Value.int .i64)).toArray w.drew := by
      rw [hz1]
      refine run_firstCells_some w.drew 1 l.length ⟨g, off, none⟩ l.length cap _ (by simp) (fun j u hj => ?_)
      rw [add_at]
      by_cases hjl : j < l.length
      · rw [List.getElem?_eq_getElem (by simpa using hjl)] at hj
        have : w.drew.cell? ⟨g, off + j, none⟩ = w.cell? ⟨g, off + j, none⟩ := rfl
        rw [this, cell_at hb, h4 j hjl]
        simpa using hj
      · rw [List.getElem?_eq_none (by simpa using hjl)] at hj; cases hj
    have hr := run_append_grow_src (P := Tryz.prog) w 23 23 ty 3 i0 (.int .i64 0) Tryz.underlying23 hi hz0 (some ⟨g, off, none⟩) l.length cap (l.map (Value.int .i64)) holds vx ks.length (ks.map (Value.int .i64)) (by rw [hz1]; exact hx.src) (by omega) (by omega)
      (by rw [hz2]; exact growslice_fits (by omega) (by omega))
    have hge := grownCap_ge w (l.length + ks.length) cap 3
    have hle := grownCap_le_maxLen w (l.length + ks.length) cap 3 (by unfold maxLen; omega)
    refine ⟨_, _, w.heap.size, hr, ⟨0, _, _, by simp, heap_alloc_new w.drew _, ?_, by simpa using hge, hle, fun j hj => ?_⟩, ?_, .inr rfl⟩
    · simp only [Array.size_append, List.size_toArray, size_zeroCells, List.length_append, List.length_map]
      have : (Value.cells (.int .i64 0)).size = 1 := rfl
      rw [this]
      omega
    · rw [Nat.zero_add, Array.getElem?_append_left (by simpa using hj), List.getElem?_toArray, ← List.map_append, List.getElem?_map, List.getElem?_eq_getElem hj]
      rfl
    · exact (Chg.refl [g] w).drew.alloc _
theorem wpList_append_que {w : World} {ops : Array Oper} {rest : List Oper} {o : Oper} {a : Act} {Q : Exit → Act → World → Prop} (hgd : o.guard = none) (s x : Operand)
    (ho : o.op = .call { callee := .builtin .append, args := #[s, x], argTypes := #[23, 23] }) {g : Nat} {v vx : Value} {l ks : List Int} (hs : a.eval s = v) (hvx : a.eval x = vx) (h : Que g w v l) (hx : More w vx ks) (hl : l.length + ks.length ≤ 1048576)
    (hk : ∀ v' w' g', Que g' w' v' (l ++ ks) → Chg [g] w w' → (g' = g ∨ g' = w.heap.size) → wpList Tryz.prog ops Q rest (a.put o.dst v') w') : wpList Tryz.prog ops Q (o :: rest) a w := by
  refine wpList_plain hgd fun K hK => ?_
  obtain ⟨v', w', g', hr, h1, h2, h3⟩ := h.append hx hl o.type
  unfold Oper.wp execOp
  simp only [ho, resolve, invoke, builtin, Sem.run_bind, Sem.run_pure, Result.andThen_ok, List.map_toArray, List.map_cons, List.map_nil, hs, hvx, hr]
  exact hK _ _ (hk v' w' g' h1 h2 h3)
end Go.Proofs.YtanpkghdgdkdlaaGreat.Sto
