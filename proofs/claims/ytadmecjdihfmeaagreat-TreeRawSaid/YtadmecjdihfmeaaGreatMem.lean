/- What a call may have turned in memory ('Chg'), and maps whose keys are whole numbers as plain functions ('IsI'). Of no program. -/
import Derived.WalkKit
import Derived.WalkSpells
import Derived.MapKept
import Derived.Maps.RangeRun
namespace Go.Proofs.YtadmecjdihfmeaaGreat.Mem
set_option linter.unusedVariables false
set_option linter.unusedSimpArgs false
open Go.RowKit Go.MapKept
open Go.ChangeMaps (setBlock)

/-- Of what was there, the blocks of S alone may have turned. -/
structure Chg (S : List Nat) (w w' : World) : Prop where
  os : w'.os = w.os
  tape : w'.tape = w.tape
  output : w'.output = w.output
  size : w.heap.size ≤ w'.heap.size
  block : ∀ k, k < w.heap.size → k ∉ S → w'.heap[k]? = w.heap[k]?
theorem Chg.refl (S : List Nat) (w : World) : Chg S w w := ⟨rfl, rfl, rfl, Nat.le_refl _, fun _ _ _ => rfl⟩
theorem Chg.trans' {S S' : List Nat} {a b c : World} (h : Chg S a b) (k : Chg S' b c) (hs : ∀ x ∈ S', x ∈ S ∨ a.heap.size ≤ x) : Chg S a c :=
  ⟨k.os.trans h.os, k.tape.trans h.tape, k.output.trans h.output, Nat.le_trans h.size k.size, fun i hi hn =>
    (k.block i (Nat.lt_of_lt_of_le hi h.size) (fun hm => by rcases hs i hm with h1 | h1; exact hn h1; omega)).trans (h.block i hi hn)⟩
theorem Chg.trans {S : List Nat} {a b c : World} (h : Chg S a b) (k : Chg S b c) : Chg S a c := h.trans' k (fun _ hx => .inl hx)
theorem Chg.mono {S S' : List Nat} {a b : World} (h : Chg S a b) (hs : ∀ x ∈ S, x ∈ S') : Chg S' a b :=
  ⟨h.os, h.tape, h.output, h.size, fun i hi hn => h.block i hi (fun hm => hn (hs i hm))⟩
theorem Chg.of_below {S : List Nat} {a b : World} (h : Below a.heap.size a b) : Chg S a b := ⟨h.os, h.tape, h.output, h.size, fun i hi _ => h.block i hi⟩
theorem Chg.below {S : List Nat} {a b : World} (h : Chg S a b) {B : Nat} (hB : B ≤ a.heap.size) (hs : ∀ x ∈ S, B ≤ x) : Below B a b :=
  ⟨h.os, h.tape, h.output, h.size, fun i hi => h.block i (by omega) (fun hm => by have := hs i hm; omega)⟩
theorem Chg.alloc {S : List Nat} {a b : World} (h : Chg S a b) (o : Obj) : Chg S a (b.alloc o) := h.trans (Chg.of_below ((Below.refl _ _).alloc (Nat.le_refl _) _))
theorem Chg.drew {S : List Nat} {a b : World} (h : Chg S a b) : Chg S a b.drew := h.trans (Chg.of_below ((Below.refl _ _).drew))
theorem Chg.setCell {S : List Nat} {a b : World} (h : Chg S a b) (p : Addr) (u : Value) (hp : p.block ∈ S ∨ a.heap.size ≤ p.block) : Chg S a (b.setCell p u) :=
  h.trans' (S' := [p.block]) ⟨rfl, rfl, rfl, by simp [World.setCell], fun k _ hk => Below.heap_setCell _ _ _ _ (by simpa using hk)⟩ (fun x hx => by
    simp only [List.mem_singleton] at hx; subst hx; exact hp)
theorem Chg.setBlock {a : World} (r : Nat) (o : Obj) : Chg [r] a (setBlock a r o) :=
  ⟨rfl, rfl, rfl, by simp [ChangeMaps.setBlock], fun k _ hk => by simp [ChangeMaps.setBlock] at hk ⊢; rw [Array.getElem?_setIfInBounds_ne (by omega)]⟩

/-- A block of cells, whole. -/
theorem cell_at {w : World} {b : Nat} {c : Array Value} {t : TypeId} {f : Nat × Nat} (h : w.heap[b]? = some (.cells c t f)) (j : Nat) : w.cell? ⟨b, j, none⟩ = c[j]? := by
  simp [World.cell?, h]
theorem frozen_at {w : World} {b : Nat} {c : Array Value} {t : TypeId} (h : w.heap[b]? = some (.cells c t (0, 0))) (j : Nat) : w.frozen? ⟨b, j, none⟩ = false := by
  simp [World.frozen?, h]
theorem heap_set_at {w : World} {b : Nat} {c : Array Value} {t : TypeId} {f : Nat × Nat} (h : w.heap[b]? = some (.cells c t f)) (j : Nat) (v : Value) :
    (w.setCell ⟨b, j, none⟩ v).heap[b]? = some (.cells (c.setIfInBounds j v) t f) := by
  simp [World.setCell, Array.getElem?_modify, h]
theorem heap_set_other {w : World} {b : Nat} (p : Addr) (v : Value) (hne : b ≠ p.block) : (w.setCell p v).heap[b]? = w.heap[b]? := Below.heap_setCell _ _ _ _ hne
theorem heap_alloc_other {w : World} {b : Nat} (o : Obj) (h : b < w.heap.size) : (w.alloc o).heap[b]? = w.heap[b]? := Below.heap_alloc _ _ _ h
theorem heap_alloc_last (w : World) (o : Obj) : (w.alloc o).heap[w.heap.size]? = some o := (MapKept.heap_alloc w o).1
theorem heap_lt {w : World} {b : Nat} {o : Obj} (h : w.heap[b]? = some o) : b < w.heap.size := (Array.getElem?_eq_some_iff.1 h).1
theorem cells_ne_map {w : World} {b b' : Nat} {c : Array Value} {t : TypeId} {f : Nat × Nat} {es : Array MapEntry} {k : Nat} (h : w.heap[b]? = some (.cells c t f)) (h' : w.heap[b']? = some (.map es k)) : b ≠ b' := by
  rintro rfl
  rw [h] at h'
  cases h'

/-! ### maps -/
/-- Block b is a map that holds, of each whole number, what m says. -/
def IsI {β : Type} (enc : β → Value) (w : World) (b : Nat) (m : Int → Option β) : Prop :=
  ∃ es clock, w.heap[b]? = some (.map es clock) ∧ Stamped es clock ∧ (∀ x ∈ es.toList, ∃ k v, x.key = .int .i64 k ∧ x.val = enc v ∧ m k = some v) ∧
    (∀ k v, m k = some v → ∃ x ∈ es.toList, x.key = .int .i64 k ∧ x.val = enc v)
/-- one more, or another one -/
def upd {β : Type} (m : Int → Option β) (k : Int) (v : Option β) : Int → Option β := fun j => if j = k then v else m j
theorem upd_same {β : Type} (m : Int → Option β) (k : Int) (v : Option β) : upd m k v k = v := by simp [upd]
theorem upd_other {β : Type} (m : Int → Option β) (k : Int) (v : Option β) {j : Int} (h : j ≠ k) : upd m k v j = m j := by simp [upd, h]

section
variable {β : Type} {enc : β → Value} {w w' : World} {b : Nat} {m : Int → Option β} {P : Program} {t kt et : TypeId}
theorem IsI.lt (h : IsI enc w b m) : b < w.heap.size := by obtain ⟨es, clock, hb, _⟩ := h; exact heap_lt hb
theorem IsI.of_heap (h : IsI enc w b m) (he : w'.heap[b]? = w.heap[b]?) : IsI enc w' b m := by
  obtain ⟨es, clock, hb, r⟩ := h
  exact ⟨es, clock, he.trans hb, r⟩
theorem IsI.touch {S : List Nat} (h : IsI enc w b m) (ht : Chg S w w') (hs : b ∉ S) : IsI enc w' b m := h.of_heap (ht.block b h.lt hs)
theorem IsI.setCell (h : IsI enc w b m) (p : Addr) (v : Value) (hne : b ≠ p.block) : IsI enc (w.setCell p v) b m := h.of_heap (heap_set_other p v hne)
theorem IsI.alloc (h : IsI enc w b m) (o : Obj) : IsI enc (w.alloc o) b m := h.of_heap (heap_alloc_other o h.lt)
theorem IsI.drew (h : IsI enc w b m) : IsI enc w.drew b m := h
theorem IsI.made (w : World) : IsI enc (w.alloc (.map #[] 0)) w.heap.size (fun _ => none) :=
  ⟨#[], 0, heap_alloc_last _ _, stamped_empty 0, by simp, by simp⟩
theorem IsI.congr (h : IsI enc w b m) {m' : Int → Option β} (he : ∀ k, m' k = m k) : IsI enc w b m' := by
  have : m' = m := funext he
  subst this
  exact h
theorem IsI.ne_cells {b' : Nat} {c : Array Value} {t : TypeId} {f : Nat × Nat} (h : IsI enc w b m) (h' : w.heap[b']? = some (.cells c t f)) : b' ≠ b := by
  obtain ⟨es, clock, hb, _⟩ := h
  exact cells_ne_map h' hb

theorem find_some {es : Array MapEntry} (hk : ∀ x ∈ es.toList, ∃ k v, x.key = .int .i64 k ∧ x.val = enc v ∧ m k = some v) (hm : ∀ k v, m k = some v → ∃ x ∈ es.toList, x.key = .int .i64 k ∧ x.val = enc v) (k : Int) :
    (m k = none ∧ Instr.findNow (.int .i64) (.int .i64 k) es.toList 0 = some none ∧ ∀ x ∈ es.toList, x.key ≠ .int .i64 k) ∨
    ∃ v j e, m k = some v ∧ Instr.findNow (.int .i64) (.int .i64 k) es.toList 0 = some (some (j, enc v)) ∧ es[j]? = some e ∧ e.key = .int .i64 k := by
  have hks : ∀ x ∈ es.toList, IsKey (.int .i64) x.key := fun x hx => by obtain ⟨k', v', e, _⟩ := hk x hx; rw [e]; rfl
  rcases findNow_spec (d := .int .i64) (k := .int .i64 k) rfl es.toList 0 hks with ⟨h1, h2⟩ | ⟨j, e, h1, h2, h3⟩
  · left
    refine ⟨?_, h1, h2⟩
    cases hmk : m k with
    | none => rfl
    | some v =>
      obtain ⟨x, hx, e1, _⟩ := hm k v hmk
      exact absurd e1 (h2 x hx)
  · right
    have hj : es[j]? = some e := by simpa using h2
    have hmem : e ∈ es.toList := List.mem_of_getElem? h2
    obtain ⟨k', v', e1, e2, e3⟩ := hk e hmem
    have ek : k' = k := by rw [e1] at h3; injection h3
    subst ek
    exact ⟨v', j, e, e3, by rw [← e2]; simpa using h1, hj, h3⟩

/-- 'v, ok := m[k]' -/
theorem IsI.look (h : IsI enc w b m) (ht : P.underlying t = some (.map kt et)) (hk : P.underlying kt = some (.int .i64)) {z : Value} (hz : (zeroValue et).run P w = .ok z w) (k : Int) :
    (Instr.lookup t (.map (some b)) (.int .i64 k) true).run P w = .ok (.tuple #[(match m k with | some v => enc v | none => z), .bool (m k).isSome]) w := by
  obtain ⟨es, clock, hb, hs, h1, h2⟩ := h
  rcases find_some h1 h2 k with ⟨e0, e1, _⟩ | ⟨v, j, e, e0, e1, _, _⟩
  · simp [Instr.lookup, run_underlying ht, MapKept.run_getObj_map hb, run_checkKey hk (k := .int .i64 k) rfl, run_findKey hk e1, hz, Result.andThen, e0]
  · simp [Instr.lookup, run_underlying ht, MapKept.run_getObj_map hb, run_checkKey hk (k := .int .i64 k) rfl, run_findKey hk e1, hz, Result.andThen, e0]
/-- 'm[k]' -/
theorem IsI.look1 (h : IsI enc w b m) (ht : P.underlying t = some (.map kt et)) (hk : P.underlying kt = some (.int .i64)) {z : Value} (hz : (zeroValue et).run P w = .ok z w) (k : Int) :
    (Instr.lookup t (.map (some b)) (.int .i64 k) false).run P w = .ok (match m k with | some v => enc v | none => z) w := by
  obtain ⟨es, clock, hb, hs, h1, h2⟩ := h
  rcases find_some h1 h2 k with ⟨e0, e1, _⟩ | ⟨v, j, e, e0, e1, _, _⟩
  · simp [Instr.lookup, run_underlying ht, MapKept.run_getObj_map hb, run_checkKey hk (k := .int .i64 k) rfl, run_findKey hk e1, hz, Result.andThen, e0]
  · simp [Instr.lookup, run_underlying ht, MapKept.run_getObj_map hb, run_checkKey hk (k := .int .i64 k) rfl, run_findKey hk e1, hz, Result.andThen, e0]
/-- 'm[k] = v' -/
theorem IsI.put (h : IsI enc w b m) (ht : P.underlying t = some (.map kt et)) (hk : P.underlying kt = some (.int .i64)) (k : Int) (v : β) :
    ∃ w', (Instr.mapUpdate t (.map (some b)) (.int .i64 k) (enc v)).run P w = .ok () w' ∧ IsI enc w' b (upd m k (some v)) ∧ Chg [b] w w' := by
  obtain ⟨es, clock, hb, hs, h1, h2⟩ := h
  rcases find_some h1 h2 k with ⟨e0, e1, hne⟩ | ⟨v0, j, e, e0, e1, hj, hkey⟩
  · refine ⟨_, by simp [Instr.mapUpdate, run_underlying ht, MapKept.run_getObj_map hb, run_checkKey hk (k := .int .i64 k) rfl, run_findKey hk e1, MapKept.run_setObj_map _ hb, Result.andThen]; rfl, ?_, Chg.setBlock b _⟩
    refine ⟨_, _, (heap_set hb).1, stamped_push hs hne, ?_, ?_⟩
    · intro x hx
      simp only [Array.toList_push, List.mem_append, List.mem_singleton] at hx
      rcases hx with hx | rfl
      · obtain ⟨k', v', q1, q2, q3⟩ := h1 x hx
        refine ⟨k', v', q1, q2, ?_⟩
        rw [upd_other]
        · exact q3
        · rintro rfl
          exact hne x hx q1
      · exact ⟨k, v, rfl, rfl, upd_same _ _ _⟩
    · intro k' v' q
      by_cases hkk : k' = k
      · subst hkk
        rw [upd_same] at q
        cases q
        exact ⟨{ key := .int .i64 k', val := enc v, born := clock }, by simp, rfl, rfl⟩
      · rw [upd_other _ _ _ hkk] at q
        obtain ⟨x, hx, q1, q2⟩ := h2 k' v' q
        exact ⟨x, by simp [hx], q1, q2⟩
  · refine ⟨_, by simp [Instr.mapUpdate, run_underlying ht, MapKept.run_getObj_map hb, run_checkKey hk (k := .int .i64 k) rfl, run_findKey hk e1, hj, hkey, run_keyThatStays (d := .int .i64) (k := .int .i64 k) rfl, MapKept.run_setObj_map _ hb, Result.andThen]; rfl, ?_, Chg.setBlock b _⟩
    have hlt : j < es.size := (Array.getElem?_eq_some_iff.1 hj).1
    have hej : es[j] = e := (Array.getElem?_eq_some_iff.1 hj).2
    have hkey' : ∀ e', es[j]? = some e' → ({ e' with key := .int .i64 k, val := enc v } : MapEntry).key = e'.key := fun e' he' => by rw [hj] at he'; cases he'; exact hkey.symm
    refine ⟨_, _, (heap_set hb).1, stamped_modify hs _ _ (fun _ _ => rfl) (fun e' _ he' => hkey' e' he'), ?_, ?_⟩
    · intro x hx
      obtain ⟨i, hi, rfl⟩ := List.getElem_of_mem hx
      simp only [Array.getElem_toList, Array.getElem_modify]
      by_cases hij : j = i
      · subst hij
        simp only [if_true]
        exact ⟨k, v, rfl, rfl, upd_same _ _ _⟩
      · rw [if_neg hij]
        have hi' : i < es.size := by simpa using hi
        obtain ⟨k', v', q1, q2, q3⟩ := h1 es[i] (Array.getElem_mem_toList hi')
        refine ⟨k', v', q1, q2, ?_⟩
        rw [upd_other]
        · exact q3
        · rintro rfl
          have hn := (List.pairwise_iff_getElem.1 ((stamped_iff es clock).1 hs).2.2)
          rcases Nat.lt_or_gt_of_ne hij with h' | h'
          · exact hn j i (by simpa using hlt) (by simpa using hi') h' (by simp only [Array.getElem_toList]; rw [q1, hej, hkey])
          · exact hn i j (by simpa using hi') (by simpa using hlt) h' (by simp only [Array.getElem_toList]; rw [q1, hej, hkey])
    · intro k' v' q
      by_cases hkk : k' = k
      · subst hkk
        rw [upd_same] at q
        cases q
        refine ⟨{ es[j] with key := .int .i64 k', val := enc v }, ?_, rfl, rfl⟩
        have : (es.modify j fun e => { e with key := .int .i64 k', val := enc v })[j]'(by simpa using hlt) = { es[j] with key := .int .i64 k', val := enc v } := by simp [Array.getElem_modify]
        rw [← this]
        exact Array.getElem_mem_toList _
      · rw [upd_other _ _ _ hkk] at q
        obtain ⟨x, hx, q1, q2⟩ := h2 k' v' q
        obtain ⟨i, hi, rfl⟩ := List.getElem_of_mem hx
        simp only [Array.getElem_toList] at q1 q2
        have hi' : i < es.size := by simpa using hi
        have hij : j ≠ i := by
          rintro rfl
          rw [hej, hkey] at q1
          injection q1 with _ q1
          exact hkk q1.symm
        refine ⟨es[i], ?_, q1, q2⟩
        have : (es.modify j fun e => { e with key := .int .i64 k, val := enc v })[i]'(by simpa using hi') = es[i] := by simp [Array.getElem_modify, hij]
        rw [← this]
        exact Array.getElem_mem_toList _
/-- 'clear(m)' -/
theorem IsI.wipe (h : IsI enc w b m) (ht : P.underlying t = some (.map kt et)) (ty : TypeId) :
    ∃ w', (Builtin.clear_ #[t] ty #[.map (some b)]).run P w = .ok (.tuple #[]) w' ∧ IsI enc w' b (fun _ => none) ∧ Chg [b] w w' := by
  obtain ⟨es, clock, hb, hs, h1, h2⟩ := h
  refine ⟨_, by simp [Builtin.clear_, run_underlying ht, MapKept.run_getObj_map hb, MapKept.run_setObj_map _ hb, Result.andThen]; rfl, ?_, Chg.setBlock b _⟩
  exact ⟨_, _, (heap_set hb).1, stamped_empty _, by simp, by simp⟩
end

theorem Chg.cell {T : List Nat} {w w' : World} (h : Chg T w w') {b o : Nat} {v : Value} (hn : b ∉ T) (hc : w.cell? ⟨b, o, none⟩ = some v) : w'.cell? ⟨b, o, none⟩ = some v := by
  have hlt : b < w.heap.size := by
    unfold World.cell? at hc
    cases hh : w.heap[b]? with
    | none => simp [hh] at hc
    | some x => exact heap_lt hh
  rw [← hc]
  exact World.cell?_of_block (w := w) (h.block b hlt hn)
theorem Chg.frozen {T : List Nat} {w w' : World} (h : Chg T w w') {b o : Nat} (hn : b ∉ T) (hlt : b < w.heap.size) : w'.frozen? ⟨b, o, none⟩ = w.frozen? ⟨b, o, none⟩ :=
  World.frozen?_of_block (w := w) (h.block b hlt hn)

/-! ### slices that nobody turns any more: what they read as; p says in which blocks they may lie -/
/-- A slice whose elements have sz cells each; R says what an element's cells read as. -/
def SliceOf {α : Type} (sz : Nat) (R : World → List Value → α → Prop) (p : Nat → Prop) (w : World) (v : Value) (l : List α) : Prop :=
  (l = [] ∧ ∃ a c, v = .slice a 0 c) ∨ ∃ b o c, v = .slice (some ⟨b, o, none⟩) l.length c ∧ p b ∧ l.length ≤ 9223372036854775807 ∧
    ∀ j (h : j < l.length), ∃ cs, cs.length = sz ∧ (∀ q, q < sz → w.cell? ⟨b, o + (j * sz + q), none⟩ = cs[q]?) ∧ R w cs l[j]
theorem SliceOf.form {α : Type} {sz : Nat} {R : World → List Value → α → Prop} {p : Nat → Prop} {w : World} {v : Value} {l : List α} (h : SliceOf sz R p w v l) :
    ∃ a c, v = .slice a l.length c ∧ l.length ≤ 9223372036854775807 ∧ ∀ j (h : j < l.length), ∃ b o, a = some ⟨b, o, none⟩ ∧ p b ∧ ∃ cs, cs.length = sz ∧ (∀ q, q < sz → w.cell? ⟨b, o + (j * sz + q), none⟩ = cs[q]?) ∧ R w cs l[j] := by
  rcases h with ⟨rfl, a, c, e⟩ | ⟨b, o, c, e, hp, hm, hc⟩
  · exact ⟨_, _, e, by simp, by simp⟩
  · exact ⟨_, _, e, hm, fun j hj => ⟨b, o, rfl, hp, hc j hj⟩⟩
theorem SliceOf.below {α : Type} {sz : Nat} {R : World → List Value → α → Prop} {B : Nat} {w w' : World} {v : Value} {l : List α} (h : SliceOf sz R (· < B) w v l) (hb : Below B w w') (hR : ∀ cs a, R w cs a → R w' cs a) : SliceOf sz R (· < B) w' v l := by
  rcases h with h | ⟨b, o, c, e, hp, hm, hc⟩
  · exact .inl h
  · refine .inr ⟨b, o, c, e, hp, hm, fun j hj => ?_⟩
    obtain ⟨cs, h1, h2, h3⟩ := hc j hj
    exact ⟨cs, h1, fun q hq => (hb.cell (p := ⟨b, o + (j * sz + q), none⟩) hp).trans (h2 q hq), hR _ _ h3⟩
/-- A slice of whole numbers. -/
def Ints (p : Nat → Prop) (w : World) (v : Value) (l : List Int) : Prop :=
  (l = [] ∧ ∃ a c, v = .slice a 0 c) ∨ ∃ b o c, v = .slice (some ⟨b, o, none⟩) l.length c ∧ p b ∧ l.length ≤ 9223372036854775807 ∧ ∀ j (h : j < l.length), w.cell? ⟨b, o + j, none⟩ = some (.int .i64 l[j])
theorem Ints.chg {p : Nat → Prop} {T : List Nat} {w w' : World} {v : Value} {l : List Int} (h : Ints p w v l) (ht : Chg T w w') (hd : ∀ k, p k → k ∉ T) : Ints p w' v l := by
  rcases h with h | ⟨b, o, c, e, hp, hm, hc⟩
  · exact .inl h
  · refine .inr ⟨b, o, c, e, hp, hm, fun j hj => ?_⟩
    rw [ht.cell (hd b hp) (hc j hj)]
theorem Ints.below {B : Nat} {w w' : World} {v : Value} {l : List Int} (h : Ints (· < B) w v l) (hb : Below B w w') : Ints (· < B) w' v l := by
  rcases h with h | ⟨b, o, c, e, hp, hm, hc⟩
  · exact .inl h
  · exact .inr ⟨b, o, c, e, hp, hm, fun j hj => (hb.cell (p := ⟨b, o + j, none⟩) hp).trans (hc j hj)⟩
theorem Ints.mono {p q : Nat → Prop} {w : World} {v : Value} {l : List Int} (h : Ints p w v l) (hq : ∀ k, p k → q k) : Ints q w v l := by
  rcases h with h | ⟨b, o, c, e, hp, hm, hc⟩
  · exact .inl h
  · exact .inr ⟨b, o, c, e, hq b hp, hm, hc⟩
theorem Ints.form {p : Nat → Prop} {w : World} {v : Value} {l : List Int} (h : Ints p w v l) : ∃ a c, v = .slice a l.length c ∧ l.length ≤ 9223372036854775807 ∧ ∀ j (h : j < l.length), ∃ b o, a = some ⟨b, o, none⟩ ∧ w.cell? ⟨b, o + j, none⟩ = some (.int .i64 l[j]) := by
  rcases h with ⟨rfl, a, c, e⟩ | ⟨b, o, c, e, _, hm, hc⟩
  · exact ⟨_, _, e, by simp, by simp⟩
  · exact ⟨_, _, e, hm, fun j hj => ⟨b, o, rfl, hc j hj⟩⟩
/-- A slice of texts. -/
def Strs (p : Nat → Prop) (w : World) (v : Value) (l : List ByteArray) : Prop :=
  (l = [] ∧ ∃ a c, v = .slice a 0 c) ∨ ∃ b o c, v = .slice (some ⟨b, o, none⟩) l.length c ∧ p b ∧ l.length ≤ 9223372036854775807 ∧ ∀ j (h : j < l.length), w.cell? ⟨b, o + j, none⟩ = some (.string l[j])
theorem Strs.chg {p : Nat → Prop} {T : List Nat} {w w' : World} {v : Value} {l : List ByteArray} (h : Strs p w v l) (ht : Chg T w w') (hd : ∀ k, p k → k ∉ T) : Strs p w' v l := by
  rcases h with h | ⟨b, o, c, e, hp, hm, hc⟩
  · exact .inl h
  · refine .inr ⟨b, o, c, e, hp, hm, fun j hj => ?_⟩
    rw [ht.cell (hd b hp) (hc j hj)]
theorem Strs.below {B : Nat} {w w' : World} {v : Value} {l : List ByteArray} (h : Strs (· < B) w v l) (hb : Below B w w') : Strs (· < B) w' v l := by
  rcases h with h | ⟨b, o, c, e, hp, hm, hc⟩
  · exact .inl h
  · exact .inr ⟨b, o, c, e, hp, hm, fun j hj => (hb.cell (p := ⟨b, o + j, none⟩) hp).trans (hc j hj)⟩
theorem Strs.mono {p q : Nat → Prop} {w : World} {v : Value} {l : List ByteArray} (h : Strs p w v l) (hq : ∀ k, p k → q k) : Strs q w v l := by
  rcases h with h | ⟨b, o, c, e, hp, hm, hc⟩
  · exact .inl h
  · exact .inr ⟨b, o, c, e, hq b hp, hm, hc⟩
theorem Strs.form {p : Nat → Prop} {w : World} {v : Value} {l : List ByteArray} (h : Strs p w v l) : ∃ a c, v = .slice a l.length c ∧ l.length ≤ 9223372036854775807 ∧ ∀ j (h : j < l.length), ∃ b o, a = some ⟨b, o, none⟩ ∧ w.cell? ⟨b, o + j, none⟩ = some (.string l[j]) := by
  rcases h with ⟨rfl, a, c, e⟩ | ⟨b, o, c, e, _, hm, hc⟩
  · exact ⟨_, _, e, by simp, by simp⟩
  · exact ⟨_, _, e, hm, fun j hj => ⟨b, o, rfl, hc j hj⟩⟩
end Go.Proofs.YtadmecjdihfmeaaGreat.Mem
