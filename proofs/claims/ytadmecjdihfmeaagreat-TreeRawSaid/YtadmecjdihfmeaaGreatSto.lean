/- Layer 6: a store in memory, and its small functions. -/
import Derived.Test.YtadmecjdihfmeaaGreatStoPure
import Derived.Test.YtadmecjdihfmeaaGreatDevWalks
import Derived.Deep.RegionWith
namespace Go.Proofs.YtadmecjdihfmeaaGreat.Sto
set_option linter.unusedVariables false
set_option linter.unusedSimpArgs false
set_option maxRecDepth 100000
open Go.RowKit Go.Lib Go.Proofs.YtadmecjdihfmeaaGreat.Mem Go.Proofs.YtadmecjdihfmeaaGreat.Oct Go.Proofs.YtadmecjdihfmeaaGreat.Dev

abbrev CV := Cel × Option Addr × Nat
abbrev celV (c : CV) : Value := .agg #[.int .i64 c.1.named, .int .i64 c.1.held, .int .i64 c.1.high, .slice c.2.1 c.1.kids.length c.2.2]
abbrev keptV (_ : Unit) : Value := .bool true
/-- the six blocks that turn -/
structure Blk where
  s : Nat
  d : Nat
  k : Nat
  y : Nat
  c : Nat
  p : Nat
  x : List Nat
def Blk.all (B : Blk) : List Nat := [B.s, B.d, B.k, B.y, B.c, B.p]
/-- where kids may lie: not among the six, nor in what is kept from them -/
def Blk.out (B : Blk) (q : Nat) : Prop := q ∉ B.all ∧ q ∉ B.x
def StS.row (S : StS) (B : Blk) : Array Value := #[.int .i64 S.gen, .int .i64 S.root, .string S.note, .pointer (some ⟨B.d, 0, none⟩), .map (some B.c), .map (some B.p)]
/-- the map of what is there: what it says, and where the kids lie -/
structure CellsAt (w : World) (B : Blk) (f : Int → Option Cel) (mm : Int → Option CV) : Prop where
  is : IsI celV w B.c mm
  eq : ∀ i, (mm i).map (·.1) = f i
  kids : ∀ i c a k, mm i = some (c, a, k) → Ints B.out w (.slice a c.kids.length k) c.kids
structure StAt (w : World) (B : Blk) (S : StS) (D : DevS) : Prop where
  box : w.heap[B.s]? = some (.cells (S.row B) 97 (0, 0))
  dev : At w B.d B.k B.y D
  cells : ∃ mm, CellsAt w B S.cells mm
  kept : IsI keptV w B.p (fun i => if S.kept i = true then some () else none)
  nd : B.all.Nodup
  small : D.small
  low : ∀ q ∈ B.x, q < w.heap.size
section
variable {w w' : World} {B : Blk} {S : StS} {D : DevS}
theorem StAt.lt (h : StAt w B S D) : ∀ k ∈ B.all, k < w.heap.size := by
  obtain ⟨mm, hc⟩ := h.cells
  intro k hk
  simp only [Blk.all, List.mem_cons, List.mem_nil_iff, or_false] at hk
  rcases hk with rfl | rfl | rfl | rfl | rfl | rfl
  · exact heap_lt h.box
  · exact heap_lt h.dev.heap
  · exact h.dev.kept.lt
  · exact h.dev.dirty.lt
  · exact hc.is.lt
  · exact h.kept.lt
theorem CellsAt.chg {f : Int → Option Cel} {mm : Int → Option CV} {T : List Nat} (h : CellsAt w B f mm) (hc : Chg T w w') (hT : ∀ t ∈ T, t ∈ B.all ∧ t ≠ B.c) : CellsAt w' B f mm :=
  ⟨h.is.touch hc (fun hm => (hT _ hm).2 rfl), h.eq, fun i c a k hi => (h.kids i c a k hi).chg hc (fun q hq hm => hq.1 (hT q hm).1)⟩
theorem StAt.on (h : StAt w B S D) (hb : Below w.heap.size w w') : StAt w' B S D := by
  obtain ⟨mm, hc⟩ := h.cells
  exact ⟨(hb.block _ (heap_lt h.box)).trans h.box, h.dev.of_below hb (heap_lt h.dev.heap) h.dev.kept.lt h.dev.dirty.lt, ⟨mm, hc.chg (T := []) (Chg.of_below hb) (by simp)⟩, h.kept.of_heap (hb.block _ h.kept.lt), h.nd, h.small, fun q hq => Nat.lt_of_lt_of_le (h.low q hq) hb.size⟩
theorem StAt.cell (h : StAt w B S D) : w.cell? ⟨B.s, 0, none⟩ = some (.int .i64 S.gen) ∧ w.cell? ⟨B.s, 1, none⟩ = some (.int .i64 S.root) ∧ w.cell? ⟨B.s, 2, none⟩ = some (.string S.note) ∧ w.cell? ⟨B.s, 3, none⟩ = some (.pointer (some ⟨B.d, 0, none⟩)) ∧ w.cell? ⟨B.s, 4, none⟩ = some (.map (some B.c)) ∧ w.cell? ⟨B.s, 5, none⟩ = some (.map (some B.p)) ∧ ∀ j, w.frozen? ⟨B.s, j, none⟩ = false :=
  ⟨cell_at h.box 0, cell_at h.box 1, cell_at h.box 2, cell_at h.box 3, cell_at h.box 4, cell_at h.box 5, fun j => frozen_at h.box j⟩
/-- another map of what is there -/
theorem StAt.setCells {S' : StS} {mm : Int → Option CV} (h : StAt w B S D) (hc : Chg [B.c] w w') (hm : CellsAt w' B S'.cells mm) (hs : S'.row B = S.row B) (hk : S'.kept = S.kept) : StAt w' B S' D := by
  have hnd := h.nd
  simp only [Blk.all, List.nodup_cons, List.mem_cons, List.mem_nil_iff, or_false, not_or] at hnd
  obtain ⟨⟨n1, n2, n3, n4, n5⟩, ⟨n6, n7, n8, n9⟩, ⟨n10, n11, n12⟩, ⟨n13, n14⟩, n15, _⟩ := hnd
  exact ⟨by rw [hs]; exact (hc.block _ (heap_lt h.box) (by simpa using n4)).trans h.box, h.dev.of_touch hc (by simpa using n8) (by simpa using n11) (by simpa using n13), ⟨mm, hm⟩, by rw [hk]; exact h.kept.touch hc (by simpa using fun e => n15 e.symm), h.nd, h.small, fun q hq => Nat.lt_of_lt_of_le (h.low q hq) hc.size⟩
end
theorem CellsAt.put {w w' : World} {B : Blk} {f : Int → Option Cel} {mm : Int → Option CV} {i : Int} {c : Cel} {a : Option Addr} {k : Nat} (h : CellsAt w B f mm) (hm : IsI celV w' B.c (upd mm i (some (c, a, k)))) (hc : Chg [B.c] w w')
    (hk : Ints B.out w (.slice a c.kids.length k) c.kids) : CellsAt w' B (upd f i (some c)) (upd mm i (some (c, a, k))) := by
  have hT : ∀ q, B.out q → q ∉ [B.c] := fun q hq hm => hq.1 (by simp at hm; subst hm; simp [Blk.all])
  refine ⟨hm, fun j => ?_, fun j c' a' k' hj => ?_⟩
  · by_cases hji : j = i
    · subst hji; rw [upd_same, upd_same]; rfl
    · rw [upd_other _ _ _ hji, upd_other _ _ _ hji]; exact h.eq j
  · by_cases hji : j = i
    · subst hji; rw [upd_same] at hj; cases hj; exact hk.chg hc hT
    · rw [upd_other _ _ _ hji] at hj; exact (h.kids j c' a' k' hj).chg hc hT
theorem StAt.drew {w : World} {B : Blk} {S : StS} {D : DevS} (h : StAt w B S D) : StAt w.drew B S D := h.on ((Below.refl _ _).drew)
theorem Blk.c_mem (B : Blk) : ∀ t ∈ [B.c], t ∈ B.all := by intro t ht; simp at ht; subst ht; simp [Blk.all]
theorem zero_cell (w : World) : (zeroValue 113).run Tryz.prog w = .ok (.agg #[.int .i64 0, .int .i64 0, .int .i64 0, .slice none 0 0]) w := by kernel_rfl
theorem zero_bool (w : World) : (zeroValue 4).run Tryz.prog w = .ok (.bool false) w := by kernel_rfl
theorem celV_noCel : celV (noCel, none, 0) = .agg #[.int .i64 0, .int .i64 0, .int .i64 0, .slice none 0 0] := rfl

theorem dead_any (w : World) (B : Blk) (S : StS) (D : DevS) (h : StAt w B S D) : Calls Tryz.prog 46 #[.pointer (some ⟨B.s, 0, none⟩)] w fun e w' => e = .returned (.bool false) ∧ w = w' := by
  obtain ⟨c0, c1, c2, c3, c4, c5, cf⟩ := h.cell
  clear h
  go_enter Tryz.func46, Tryz.ntmps46
  go_wp2
  go_ret
  exact ⟨rfl, rfl⟩
theorem has_any (w : World) (B : Blk) (S : StS) (D : DevS) (i : Int) (h : StAt w B S D) : Calls Tryz.prog 51 #[.pointer (some ⟨B.s, 0, none⟩), .int .i64 i] w fun e w' => e = .returned (.bool (S.has i)) ∧ Below w.heap.size w w' := by
  obtain ⟨c0, c1, c2, c3, c4, c5, cf⟩ := h.cell
  obtain ⟨mm, hm⟩ := h.cells
  have hl := hm.is.look (P := Tryz.prog) Tryz.underlying94 Tryz.underlying3 (zero_cell w) i
  have he := hm.eq i
  have hh : S.has i = (mm i).isSome := by rw [StS.has, ← he]; simp
  rw [hh]
  clear h hm he hh
  cases hi : mm i with
  | none =>
    rw [hi] at hl
    go_enter Tryz.func51, Tryz.ntmps51
    go_wp2
    go_ret
    exact ⟨rfl, (Below.refl _ _).alloc (Nat.le_refl _) _⟩
  | some c =>
    obtain ⟨c, a, k⟩ := c
    rw [hi] at hl
    dsimp only at hl
    go_enter Tryz.func51, Tryz.ntmps51
    go_wp2
    go_ret
    exact ⟨rfl, (Below.refl _ _).alloc (Nat.le_refl _) _⟩
/-- what a place holds, as the map says it -/
theorem CellsAt.get {w : World} {B : Blk} {f : Int → Option Cel} {mm : Int → Option CV} (h : CellsAt w B f mm) (i : Int) : ∃ c a k, (∀ w', (∃ T, Chg T w w' ∧ B.c ∉ T) → (Instr.lookup 94 (.map (some B.c)) (.int .i64 i) false).run Tryz.prog w' = .ok (celV (c, a, k)) w') ∧ c = (f i).getD noCel ∧ Ints B.out w (.slice a c.kids.length k) c.kids := by
  cases hi : mm i with
  | none =>
    refine ⟨noCel, none, 0, fun w' ⟨T, hc, hT⟩ => ?_, by rw [← h.eq i, hi]; rfl, .inl ⟨rfl, none, 0, rfl⟩⟩
    have hl := (h.is.touch hc hT).look1 (P := Tryz.prog) Tryz.underlying94 Tryz.underlying3 (zero_cell w') i
    rw [hi] at hl
    exact hl
  | some c =>
    obtain ⟨c, a, k⟩ := c
    refine ⟨c, a, k, fun w' ⟨T, hc, hT⟩ => ?_, by rw [← h.eq i, hi]; rfl, h.kids i c a k hi⟩
    have hl := (h.is.touch hc hT).look1 (P := Tryz.prog) Tryz.underlying94 Tryz.underlying3 (zero_cell w') i
    rw [hi] at hl
    exact hl
set_option maxHeartbeats 2000000 in
theorem name_any (w : World) (B : Blk) (S : StS) (D : DevS) (i by_ : Int) (h : StAt w B S D) (hr : -9223372036854775808 ≤ (S.cel i).named + by_ ∧ (S.cel i).named + by_ ≤ 9223372036854775807) :
    Calls Tryz.prog 63 #[.pointer (some ⟨B.s, 0, none⟩), .int .i64 i, .int .i64 by_] w fun e w' => e = .returned (.tuple #[]) ∧ StAt w' B (S.name i by_) D ∧ Chg B.all w w' := by
  obtain ⟨c0, c1, c2, c3, c4, c5, cf⟩ := h.cell
  obtain ⟨mm, hm⟩ := h.cells
  obtain ⟨c, a, k, hl, hc, hk⟩ := hm.get i
  have hl0 := hl w ⟨[], Chg.refl _ _, by simp⟩
  have hcel : S.cel i = c := hc.symm
  rw [hcel] at hr
  have H : Hid (StAt w B S D ∧ CellsAt w B S.cells mm ∧ Ints B.out w (.slice a c.kids.length k) c.kids) := ⟨h, hm, hk⟩
  have hc2 : Hid (S.name i by_ = S.setC i (some { c with named := c.named + by_ })) := by rw [StS.name, hcel]; rfl
  clear h hm hk hl hc hcel
  go_enter Tryz.func63, Tryz.ntmps63
  go_wp2_with fail
  generalize hw1 : w.alloc (.cells #[.int .i64 (c.named + by_), .int .i64 c.held, .int .i64 c.high, .slice a c.kids.length k] 113) = w1
  have hbox : w1.heap[w.heap.size]? = some (.cells #[.int .i64 (c.named + by_), .int .i64 c.held, .int .i64 c.high, .slice a c.kids.length k] 113 (0, 0)) := by rw [← hw1]; exact heap_alloc_last _ _
  have hb1 : Below w.heap.size w w1 := by rw [← hw1]; exact (Below.refl _ _).alloc (Nat.le_refl _) _
  have h1 : StAt w1 B S D := H.out.1.on hb1
  have hz : ∀ x ∈ B.all, x < w.heap.size := H.out.1.lt
  have hne : w.heap.size ≠ B.c := fun e => by have := hz B.c (by simp [Blk.all]); omega
  have hm1 : CellsAt w1 B S.cells mm := H.out.2.1.chg (T := []) (Chg.of_below hb1) (by simp)
  obtain ⟨w2, hrun, hm2, ht2⟩ := hm1.is.drew.put (P := Tryz.prog) Tryz.underlying94 Tryz.underlying3 i ({ c with named := c.named + by_ }, a, k)
  generalize w.heap.size = n1 at hbox hne ⊢
  clear hw1 c0 c1 c2 c3 c4 c5 cf hl0
  obtain ⟨c0, c1, c2, c3, c4, c5, cf⟩ := h1.cell
  have hbc : B.s ≠ B.c := by
    have := h1.nd
    simp [Blk.all] at this
    exact this.1.2.2.2.1
  have d0 : w1.drew.cell? ⟨n1, 0, none⟩ = some (.int .i64 (c.named + by_)) ∧ w1.drew.cell? ⟨n1, 1, none⟩ = some (.int .i64 c.held) ∧ w1.drew.cell? ⟨n1, 2, none⟩ = some (.int .i64 c.high) ∧ w1.drew.cell? ⟨n1, 3, none⟩ = some (.slice a c.kids.length k) ∧ w1.drew.cell? ⟨B.s, 4, none⟩ = some (.map (some B.c)) := ⟨cell_at hbox 0, cell_at hbox 1, cell_at hbox 2, cell_at hbox 3, c4⟩
  have d2 : w2.cell? ⟨n1, 0, none⟩ = some (.int .i64 (c.named + by_)) ∧ w2.cell? ⟨n1, 1, none⟩ = some (.int .i64 c.held) ∧ w2.cell? ⟨n1, 2, none⟩ = some (.int .i64 c.high) ∧ w2.cell? ⟨n1, 3, none⟩ = some (.slice a c.kids.length k) ∧ w2.cell? ⟨B.s, 4, none⟩ = some (.map (some B.c)) :=
    ⟨ht2.cell (by simpa using hne) d0.1, ht2.cell (by simpa using hne) d0.2.1, ht2.cell (by simpa using hne) d0.2.2.1, ht2.cell (by simpa using hne) d0.2.2.2.1, ht2.cell (by simpa using hbc) d0.2.2.2.2⟩
  go_region_held3 (fun w' => w'.cell? ⟨n1, 0, none⟩ = some (.int .i64 (c.named + by_)) ∧ w'.cell? ⟨n1, 1, none⟩ = some (.int .i64 c.held) ∧ w'.cell? ⟨n1, 2, none⟩ = some (.int .i64 c.high) ∧ w'.cell? ⟨n1, 3, none⟩ = some (.slice a c.kids.length k) ∧ w'.cell? ⟨B.s, 4, none⟩ = some (.map (some B.c)))
    (first | exact d0 | exact d2)
    (first | fail)
  go_wp2
  first | go_end0 | refine bodyPost_ret (results_none rfl _ _ _) rfl ?_
  have hmD : CellsAt w1.drew B S.cells mm := hm1.chg (T := []) (Chg.refl _ _).drew (by simp)
  have hkD : Ints B.out w1.drew (.slice a c.kids.length k) c.kids := H.out.2.2.chg (T := []) ((Chg.of_below hb1).drew) (by simp)
  have hcc := hmD.put (c := { c with named := c.named + by_ }) hm2 ht2 hkD
  refine ⟨rfl, ?_, ((Chg.of_below hb1).drew).trans (ht2.mono B.c_mem)⟩
  rw [hc2.out]
  exact h1.drew.setCells ht2 hcc rfl rfl
set_option maxHeartbeats 2000000 in
theorem hold_any (w : World) (B : Blk) (S : StS) (D : DevS) (i by_ : Int) (h : StAt w B S D) (hr : -9223372036854775808 ≤ (S.cel i).held + by_ ∧ (S.cel i).held + by_ ≤ 9223372036854775807) :
    Calls Tryz.prog 52 #[.pointer (some ⟨B.s, 0, none⟩), .int .i64 i, .int .i64 by_] w fun e w' => e = .returned (.tuple #[]) ∧ StAt w' B (S.hold i by_) D ∧ Chg B.all w w' := by
  obtain ⟨c0, c1, c2, c3, c4, c5, cf⟩ := h.cell
  obtain ⟨mm, hm⟩ := h.cells
  obtain ⟨c, a, k, hl, hc, hk⟩ := hm.get i
  have hl0 := hl w ⟨[], Chg.refl _ _, by simp⟩
  have hcel : S.cel i = c := hc.symm
  rw [hcel] at hr
  have H : Hid (StAt w B S D ∧ CellsAt w B S.cells mm ∧ Ints B.out w (.slice a c.kids.length k) c.kids) := ⟨h, hm, hk⟩
  have hc2 : Hid (S.hold i by_ = S.setC i (some { c with held := c.held + by_ })) := by rw [StS.hold, hcel]; rfl
  clear h hm hk hl hc hcel
  go_enter Tryz.func52, Tryz.ntmps52
  go_wp2_with fail
  generalize hw1 : w.alloc (.cells #[.int .i64 c.named, .int .i64 (c.held + by_), .int .i64 c.high, .slice a c.kids.length k] 113) = w1
  have hbox : w1.heap[w.heap.size]? = some (.cells #[.int .i64 c.named, .int .i64 (c.held + by_), .int .i64 c.high, .slice a c.kids.length k] 113 (0, 0)) := by rw [← hw1]; exact heap_alloc_last _ _
  have hb1 : Below w.heap.size w w1 := by rw [← hw1]; exact (Below.refl _ _).alloc (Nat.le_refl _) _
  have h1 : StAt w1 B S D := H.out.1.on hb1
  have hz : ∀ x ∈ B.all, x < w.heap.size := H.out.1.lt
  have hne : w.heap.size ≠ B.c := fun e => by have := hz B.c (by simp [Blk.all]); omega
  have hm1 : CellsAt w1 B S.cells mm := H.out.2.1.chg (T := []) (Chg.of_below hb1) (by simp)
  obtain ⟨w2, hrun, hm2, ht2⟩ := hm1.is.drew.put (P := Tryz.prog) Tryz.underlying94 Tryz.underlying3 i ({ c with held := c.held + by_ }, a, k)
  generalize w.heap.size = n1 at hbox hne ⊢
  clear hw1 c0 c1 c2 c3 c4 c5 cf hl0
  obtain ⟨c0, c1, c2, c3, c4, c5, cf⟩ := h1.cell
  have hbc : B.s ≠ B.c := by
    have := h1.nd
    simp [Blk.all] at this
    exact this.1.2.2.2.1
  have d0 : w1.drew.cell? ⟨n1, 0, none⟩ = some (.int .i64 c.named) ∧ w1.drew.cell? ⟨n1, 1, none⟩ = some (.int .i64 (c.held + by_)) ∧ w1.drew.cell? ⟨n1, 2, none⟩ = some (.int .i64 c.high) ∧ w1.drew.cell? ⟨n1, 3, none⟩ = some (.slice a c.kids.length k) ∧ w1.drew.cell? ⟨B.s, 4, none⟩ = some (.map (some B.c)) := ⟨cell_at hbox 0, cell_at hbox 1, cell_at hbox 2, cell_at hbox 3, c4⟩
  have d2 : w2.cell? ⟨n1, 0, none⟩ = some (.int .i64 c.named) ∧ w2.cell? ⟨n1, 1, none⟩ = some (.int .i64 (c.held + by_)) ∧ w2.cell? ⟨n1, 2, none⟩ = some (.int .i64 c.high) ∧ w2.cell? ⟨n1, 3, none⟩ = some (.slice a c.kids.length k) ∧ w2.cell? ⟨B.s, 4, none⟩ = some (.map (some B.c)) :=
    ⟨ht2.cell (by simpa using hne) d0.1, ht2.cell (by simpa using hne) d0.2.1, ht2.cell (by simpa using hne) d0.2.2.1, ht2.cell (by simpa using hne) d0.2.2.2.1, ht2.cell (by simpa using hbc) d0.2.2.2.2⟩
  go_region_held3 (fun w' => w'.cell? ⟨n1, 0, none⟩ = some (.int .i64 c.named) ∧ w'.cell? ⟨n1, 1, none⟩ = some (.int .i64 (c.held + by_)) ∧ w'.cell? ⟨n1, 2, none⟩ = some (.int .i64 c.high) ∧ w'.cell? ⟨n1, 3, none⟩ = some (.slice a c.kids.length k) ∧ w'.cell? ⟨B.s, 4, none⟩ = some (.map (some B.c)))
    (first | exact d0 | exact d2)
    (first | fail)
  go_wp2
  first | go_end0 | refine bodyPost_ret (results_none rfl _ _ _) rfl ?_
  have hmD : CellsAt w1.drew B S.cells mm := hm1.chg (T := []) (Chg.refl _ _).drew (by simp)
  have hkD : Ints B.out w1.drew (.slice a c.kids.length k) c.kids := H.out.2.2.chg (T := []) ((Chg.of_below hb1).drew) (by simp)
  have hcc := hmD.put (c := { c with held := c.held + by_ }) hm2 ht2 hkD
  refine ⟨rfl, ?_, ((Chg.of_below hb1).drew).trans (ht2.mono B.c_mem)⟩
  rw [hc2.out]
  exact h1.drew.setCells ht2 hcc rfl rfl
theorem size_at (w : World) (B : Blk) (S : StS) (D : DevS) (h : StAt w B S D) : Calls Tryz.prog 53 #[.pointer (some ⟨B.d, 0, none⟩)] w fun e w' => e = .returned (.int .i64 D.n) ∧ w = w' := size_any w B.d B.k B.y D h.dev
theorem kept_look {w : World} {B : Blk} {S : StS} {D : DevS} (h : StAt w B S D) (i : Int) : (Instr.lookup 95 (.map (some B.p)) (.int .i64 i) false).run Tryz.prog w = .ok (.bool (S.kept i)) w := by
  have hl := h.kept.look1 (P := Tryz.prog) Tryz.underlying95 Tryz.underlying3 (zero_bool w) i
  rw [hl]
  cases S.kept i <;> rfl
set_option maxHeartbeats 2000000 in
theorem free_any (w : World) (B : Blk) (S : StS) (D : DevS) (h : StAt w B S D) : Calls Tryz.prog 60 #[.pointer (some ⟨B.s, 0, none⟩)] w fun e w' => e = .returned (.int .i64 (S.free D.n)) ∧ Below w.heap.size w w' := by
  obtain ⟨ho1, ho2, ho3, ho4⟩ := h.dev.ok
  have H : Hid (StAt w B S D) := h
  clear h ho1 ho2
  go_enter Tryz.func60, Tryz.ntmps60
  go_wp2_with fail
  go_loopw [3] (fun v wr => ∃ j : Nat, v = .int .i64 (2 + (j : Int)) ∧ j ≤ D.n.toNat ∧ Hid (Below w.heap.size w wr ∧ S.freeGo D.n (D.n.toNat - j) (2 + (j : Int)) = S.free D.n)) (fun v _ => (4100 - intOf v).toNat)
  case atStart => exact ⟨0, rfl, by omega, Below.refl _ _, rfl⟩
  case round =>
    obtain ⟨j, rfl, hj, HT⟩ := hrel
    have hS : StAt wr B S D := H.out.on HT.out.1
    obtain ⟨c0, c1, c2, c3, c4, c5, cf⟩ := hS.cell
    by_cases hlt : 2 + (j : Int) < D.n
    · obtain ⟨q, hq⟩ : ∃ q, D.n.toNat - j = q + 1 := ⟨D.n.toNat - j - 1, by omega⟩
      have hgo := HT.out.2
      rw [hq, StS.freeGo, if_pos hlt] at hgo
      have HG : Hid ((if S.freeAt (2 + (j : Int)) = true then (2 + (j : Int)) else S.freeGo D.n q (2 + (j : Int) + 1)) = S.free D.n) := hgo
      have HS : Hid (StAt wr B S D) := hS
      clear hgo hS
      cases hh : S.has (2 + (j : Int)) with
      | true =>
        have hf : S.freeAt (2 + (j : Int)) = false := by simp [StS.freeAt, hh]
        rw [hf] at HG
        have HG2 : Hid (S.freeGo D.n q (2 + (j : Int) + 1) = S.free D.n) := HG.out
        clear HG hf
        go_wp2_with (first
          | (go_at_call 53; refine (size_at wr B S D HS.out).mono ?_; rintro e w1 ⟨rfl, rfl⟩)
          | (go_at_call 51; refine (has_any _ B S D _ HS.out).mono ?_; rintro e w1 ⟨rfl, hb1⟩; have HB1 : Hid (Below wr.heap.size wr w1) := hb1; clear hb1; rw [hh])
          | fail)
        go_roundw
        case rel => exact ⟨j + 1, by go_num, by omega, HT.out.1.trans (HB1.out.mono HT.out.1.size), by rw [← HG2.out]; congr 1 <;> omega⟩
        case measure => simp [intOf]; omega
      | false =>
        cases hk : S.kept (2 + (j : Int)) with
        | true =>
          have hf : S.freeAt (2 + (j : Int)) = false := by simp [StS.freeAt, hk]
          rw [hf] at HG
          have HG2 : Hid (S.freeGo D.n q (2 + (j : Int) + 1) = S.free D.n) := HG.out
          clear HG hf
          go_wp2_with (first
            | (go_at_call 53; refine (size_at wr B S D HS.out).mono ?_; rintro e w1 ⟨rfl, rfl⟩)
            | (go_at_call 51; refine (has_any _ B S D _ HS.out).mono ?_; rintro e w1 ⟨rfl, hb1⟩; have HB1 : Hid (Below wr.heap.size wr w1) := hb1; obtain ⟨e0, e1, e2, e3, e4, e5, ef⟩ := (HS.out.on hb1).cell; have hkl := kept_look (HS.out.on hb1) (2 + (j : Int)); rw [hk] at hkl; clear hb1; rw [hh])
            | fail)
          go_roundw
          case rel => exact ⟨j + 1, by go_num, by omega, HT.out.1.trans (HB1.out.mono HT.out.1.size), by rw [← HG2.out]; congr 1 <;> omega⟩
          case measure => simp [intOf]; omega
        | false =>
          have hf : S.freeAt (2 + (j : Int)) = true := by simp [StS.freeAt, hk, hh]
          rw [hf] at HG
          have HG2 : Hid ((2 + (j : Int)) = S.free D.n) := HG.out
          clear HG hf
          go_wp2_with (first
            | (go_at_call 53; refine (size_at wr B S D HS.out).mono ?_; rintro e w1 ⟨rfl, rfl⟩)
            | (go_at_call 51; refine (has_any _ B S D _ HS.out).mono ?_; rintro e w1 ⟨rfl, hb1⟩; have HB1 : Hid (Below wr.heap.size wr w1) := hb1; obtain ⟨e0, e1, e2, e3, e4, e5, ef⟩ := (HS.out.on hb1).cell; have hkl := kept_look (HS.out.on hb1) (2 + (j : Int)); rw [hk] at hkl; clear hb1; rw [hh])
            | fail)
          go_ret
          exact ⟨by rw [← HG2.out]; rfl, HT.out.1.trans (HB1.out.mono HT.out.1.size)⟩
    · have hgo := HT.out.2
      have HG : Hid (S.free D.n = 0) := by
        rw [← hgo]
        cases D.n.toNat - j with
        | zero => rfl
        | succ q => rw [StS.freeGo, if_neg hlt]; exact rfl
      have HS : Hid (StAt wr B S D) := hS
      clear hgo hS
      go_wp2_with (first
        | (go_at_call 53; refine (size_at wr B S D HS.out).mono ?_; rintro e w1 ⟨rfl, rfl⟩)
        | fail)
      go_ret
      exact ⟨by rw [HG.out]; rfl, HT.out.1⟩
/-- what a block of the device holds -/
def readP (D : DevS) (i : Int) : Int × Option (List Int × ByteArray) := if D.readE i = 0 then (match getP (D.read i) D.n with | some x => (0, some x) | none => (5, none)) else (D.readE i, none)
/-- a block that is handed back -/
def BlockIs (base : Nat) (w : World) (v : Value) (d : ByteArray) (r : Option (List Int × ByteArray)) : Prop := match r with | some (l, d') => d = d' ∧ OwnI base w v l | none => d = ⟨#[]⟩ ∧ v = .slice none 0 0
theorem read_size {D : DevS} (h : D.small) (i : Int) : (D.read i).size ≤ 4096 := by
  have h0 : (⟨#[]⟩ : ByteArray).size ≤ 4096 := by decide
  unfold DevS.read
  split
  · exact h0
  · split
    · cases hd : D.dirty i with
      | some s => simp only [text, over, hd]; exact h.2 i _ hd
      | none =>
        cases hk : D.kept i with
        | some s => simp only [text, over, hd, hk]; exact h.1 i _ hk
        | none => simp only [text, over, hd, hk]; exact h0
    · exact h0
theorem BlockIs.chg {base : Nat} {w w' : World} {v : Value} {d : ByteArray} {r : Option (List Int × ByteArray)} {T : List Nat} (h : BlockIs base w v d r) (hc : Chg T w w') (hT : ∀ t ∈ T, t < base) : BlockIs base w' v d r := by
  cases r with
  | none => exact h
  | some x => exact ⟨h.1, h.2.chg hc hT⟩
theorem zero_read (w : World) : (zeroValue 9).run Tryz.prog w = .ok (.string ⟨#[]⟩) w := by kernel_rfl
set_option maxHeartbeats 2000000 in
theorem read_any (w : World) (B : Blk) (S : StS) (D : DevS) (i : Int) (h : StAt w B S D) :
    Calls Tryz.prog 89 #[.pointer (some ⟨B.s, 0, none⟩), .int .i64 i] w fun e w' => ∃ (a : Option Addr) (m c : Nat) (d : ByteArray), e = .returned (.tuple #[.agg #[.slice a m c, .string d], .int .i64 (readP D i).1]) ∧ BlockIs w.heap.size w' (.slice a m c) d (readP D i).2 ∧ Below w.heap.size w w' := by
  obtain ⟨c0, c1, c2, c3, c4, c5, cf⟩ := h.cell
  have H : Hid (StAt w B S D) := h
  have hsz := read_size h.small i
  have hlt := heap_lt h.box
  clear h
  go_enter Tryz.func89, Tryz.ntmps89
  by_cases he : D.readE i = 0
  · have hp1 : Hid (readP D i = (match getP (D.read i) D.n with | some x => (0, some x) | none => (5, none))) := by rw [readP, if_pos he]; exact rfl
    have hW : StAt (w.alloc (.cells #[.slice none 0 0, .string ⟨#[]⟩] 125)) B S D := H.out.on ((Below.refl _ _).alloc (Nat.le_refl _) _)
    have HW : Hid (StAt (w.alloc (.cells #[.slice none 0 0, .string ⟨#[]⟩] 125)) B S D) := hW
    clear hW
    go_wp2_with (first
      | (go_at_call 99; refine (Dev.read_any _ B.d B.k B.y D i HW.out.dev).mono ?_; rintro e w1 ⟨rfl, rfl⟩; rw [he])
      | (go_at_call 53; refine (size_at _ B S D HW.out).mono ?_; rintro e w1 ⟨rfl, rfl⟩)
      | fail)
    have hbox : (w.alloc (.cells #[.slice none 0 0, .string ⟨#[]⟩] 125)).heap[w.heap.size]? = some (.cells #[.slice none 0 0, .string ⟨#[]⟩] 125 (0, 0)) := heap_alloc_last _ _
    have hb0 : Below w.heap.size w (w.alloc (.cells #[.slice none 0 0, .string ⟨#[]⟩] 125)) := (Below.refl _ _).alloc (Nat.le_refl _) _
    have hz1 : w.heap.size < (w.alloc (.cells #[.slice none 0 0, .string ⟨#[]⟩] 125)).heap.size := by simp
    clear HW c0 c1 c2 c3 c4 c5 cf hlt
    generalize w.alloc (.cells #[.slice none 0 0, .string ⟨#[]⟩] 125) = w1 at hbox hb0 hz1 ⊢
    refine (get_any (D.read i) D.n w1 (by omega)).mono ?_
    rintro e w2 ⟨a, m, c, d, ok, rfl, hb2, his⟩
    have hbox2 : w2.heap[w.heap.size]? = some (.cells #[.slice none 0 0, .string ⟨#[]⟩] 125 (0, 0)) := (hb2.block _ (heap_lt hbox)).trans hbox
    have c0 : w2.cell? ⟨w.heap.size, 0, none⟩ = some (.slice none 0 0) := cell_at hbox2 0
    have c1 : w2.cell? ⟨w.heap.size, 1, none⟩ = some (.string ⟨#[]⟩) := cell_at hbox2 1
    have cf : ∀ j, w2.frozen? ⟨w.heap.size, j, none⟩ = false := frozen_at hbox2
    have hlt2 := heap_lt hbox2
    have HD : Hid (GetIs w1.heap.size w2 (D.read i) D.n (.slice a m c) d ok ∧ Below w.heap.size w w2 ∧ w2.heap[w.heap.size]? = some (.cells #[.slice none 0 0, .string ⟨#[]⟩] 125 (0, 0)) ∧ w.heap.size < w1.heap.size) := ⟨his, hb0.trans (hb2.mono hb0.size), hbox2, hz1⟩
    clear his hb0 hb2 hbox hbox2 hz1
    cases ok with
    | false =>
      have hg : Hid (getP (D.read i) D.n = none) := by
        have := HD.out.1
        unfold GetIs at this
        split at this
        · exact absurd this.1 (by decide)
        · assumption
      go_wp2
      have hs := heap_set_at (heap_set_at HD.out.2.2.1 0 (.slice none 0 0)) 1 (.string ⟨#[]⟩)
      refine bodyPost_ret (results_cell_tmp Tryz.results89 _ _ w.heap.size 125 #[.slice none 0 0, .string ⟨#[]⟩] (0, 0) _ rfl ((heap_alloc_other _ (heap_lt hs)).trans hs) Tryz.underlying125 rfl (by kernel_rfl)) rfl ?_
      refine ⟨none, 0, 0, ⟨#[]⟩, ?_, ?_, ((HD.out.2.1.setCell (by simp) _).setCell (by simp) _).alloc (by have := HD.out.2.1.size; simp; omega) _⟩
      · rw [hp1.out, hg.out]; rfl
      · rw [hp1.out, hg.out]; exact ⟨rfl, rfl⟩
    | true =>
      obtain ⟨l, hg, hown⟩ : ∃ l, getP (D.read i) D.n = some (l, d) ∧ OwnI w1.heap.size w2 (.slice a m c) l := by
        have := HD.out.1
        unfold GetIs at this
        split at this
        · rename_i l d' he
          obtain ⟨_, rfl, h3⟩ := this
          exact ⟨l, he, h3⟩
        · exact absurd this (by decide)
      have HG : Hid (getP (D.read i) D.n = some (l, d) ∧ OwnI w1.heap.size w2 (.slice a m c) l) := ⟨hg, hown⟩
      clear hg hown
      go_wp2
      have hs := heap_set_at (heap_set_at HD.out.2.2.1 0 (.slice a m c)) 1 (.string d)
      refine bodyPost_ret (results_cell_tmp Tryz.results89 _ _ w.heap.size 125 #[.slice a m c, .string d] (0, 0) _ rfl ((heap_alloc_other _ (heap_lt hs)).trans hs) Tryz.underlying125 rfl (by kernel_rfl)) rfl ?_
      refine ⟨a, m, c, d, ?_, ?_, ((HD.out.2.1.setCell (by simp) _).setCell (by simp) _).alloc (by have := HD.out.2.1.size; simp; omega) _⟩
      · rw [hp1.out, HG.out.1]; rfl
      · rw [hp1.out, HG.out.1]
        refine ⟨rfl, (OwnI.alloc (HG.out.2.chg (((Chg.refl [w.heap.size] w2).setCell ⟨w.heap.size, 0, none⟩ (.slice a m c) (.inl (by simp))).setCell ⟨w.heap.size, 1, none⟩ (.string d) (.inl (by simp))) (fun t ht => ?_)) _).mono (Nat.le_of_lt HD.out.2.2.2)⟩
        have := HD.out.2.2.2
        simp at ht
        omega
  · have hp : readP D i = (D.readE i, none) := by rw [readP, if_neg he]
    have hp1 : Hid ((readP D i).1 = D.readE i ∧ (readP D i).2 = none) := by rw [hp]; exact ⟨rfl, rfl⟩
    have hb0 : (D.readE i == 0) = false := by simp [he]
    clear hp
    go_wp2_with (first
      | (go_at_call 99; refine (Dev.read_any _ B.d B.k B.y D i (H.out.on ((Below.refl _ _).alloc (Nat.le_refl _) _)).dev).mono ?_; rintro e w1 ⟨rfl, rfl⟩)
      | fail)
    refine bodyPost_ret (results_cell_tmp Tryz.results89 _ _ w.heap.size 125 #[.slice none 0 0, .string ⟨#[]⟩] (0, 0) _ rfl (heap_alloc_last _ _) Tryz.underlying125 rfl (by kernel_rfl)) rfl ?_
    refine ⟨none, 0, 0, ⟨#[]⟩, ?_, ?_, (Below.refl _ _).alloc (Nat.le_refl _) _⟩
    · rw [hp1.out.1]; rfl
    · rw [hp1.out.2]; exact ⟨rfl, rfl⟩
end Go.Proofs.YtadmecjdihfmeaaGreat.Sto
