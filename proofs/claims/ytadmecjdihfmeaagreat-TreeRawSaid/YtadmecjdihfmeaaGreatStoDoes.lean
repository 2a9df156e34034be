/- The law's own 'does' of layer 6. -/
import Derived.Test.YtadmecjdihfmeaaGreatStoShort
import Derived.Test.YtadmecjdihfmeaaGreatStoBfs
import Derived.Test.YtadmecjdihfmeaaGreatStoLive
namespace Go.Proofs.YtadmecjdihfmeaaGreat.Sto
set_option linter.unusedVariables false
set_option linter.unusedSimpArgs false
set_option maxRecDepth 100000
open Go.RowKit Go.Lib Go.Proofs.YtadmecjdihfmeaaGreat.Mem Go.Proofs.YtadmecjdihfmeaaGreat.Oct Go.Proofs.YtadmecjdihfmeaaGreat.Dev

theorem results_tmp_cell_tmp {P : Program} {fn : Func} {p q r : Tmp} {ty : TypeId} (h : fn.results = #[.tmp r, .cell p ty, .tmp q]) (tmps : Array Value) (w : World) (g : Nat) (t : TypeId) (cs : Array Value) (fr : Nat × Nat) (d : TypeDesc)
    (hp : tmps.getD p undef = .pointer (some ⟨g, 0, none⟩)) (hg : w.heap[g]? = some (.cells cs t fr))
    (hu : P.underlying ty = some d) (hd : (match d with | .struct _ | .array _ _ => true | _ => false) = true) (hi : (P.info? ty).map (·.size) = some cs.size) :
    (results fn tmps).run P w = .ok (.tuple #[tmps.getD r undef, .agg cs, tmps.getD q undef]) w := by
  have hp' : tmps[p]?.getD undef = .pointer (some ⟨g, 0, none⟩) := by simpa using hp
  simp [results, h, hp', asAddr, run_loadVar_row w g t ty cs fr d hg hu hd hi]
/-- a block that holds no number is none of what a store reads -/
theorem StAt.off3 {w w' : World} {B : Blk} {S : StS} {D : DevS} {g : Nat} (h : StAt w B S D) (hg : ∀ o z, w.cell? ⟨g, o, none⟩ ≠ some (.int .i64 z)) (hng : g ∉ B.all) (hc : Chg [g] w w') : StAt w' B S D := by
  simp only [Blk.all, List.mem_cons, List.mem_nil_iff, or_false, not_or] at hng
  obtain ⟨n1, n2, n3, n4, n5, n6⟩ := hng
  obtain ⟨mm, hm⟩ := h.cells
  refine ⟨(hc.block _ (heap_lt h.box) (by simpa using Ne.symm n1)).trans h.box, h.dev.of_touch hc (by simpa using Ne.symm n2) (by simpa using Ne.symm n3) (by simpa using Ne.symm n4), ⟨mm, hm.is.touch hc (by simpa using Ne.symm n5), hm.eq, fun i c a k hi => ?_⟩, h.kept.touch hc (by simpa using Ne.symm n6), h.nd, h.small, fun q hq => Nat.lt_of_lt_of_le (h.low q hq) hc.size⟩
  rcases hm.kids i c a k hi with hk | ⟨b, o, q, e, hp, hl, hcell⟩
  · exact .inl hk
  · by_cases hz : c.kids.length = 0
    · exact .inl ⟨List.length_eq_zero_iff.1 hz, a, k, by rw [hz]⟩
    · have hbg : b ≠ g := by
        rintro rfl
        exact hg _ _ (hcell 0 (by omega))
      exact .inr ⟨b, o, q, e, hp, hl, fun j hj => by rw [hc.cell (by simpa using hbg) (hcell j hj)]⟩
/-- a block that is new: kids will never lie there -/
def Blk.keep (B : Blk) (g : Nat) : Blk := { B with x := g :: B.x }
theorem StAt.protect {w : World} {B : Blk} {S : StS} {D : DevS} (h : StAt w B S D) (o : Obj) : StAt (w.alloc o) (B.keep w.heap.size) S D := by
  have h1 := h.on ((Below.refl _ _).alloc (Nat.le_refl _) o : Below w.heap.size w (w.alloc o))
  obtain ⟨mm, hm⟩ := h.cells
  have hb : Below w.heap.size w (w.alloc o) := (Below.refl _ _).alloc (Nat.le_refl _) o
  refine ⟨h1.box, h1.dev, ⟨mm, ⟨hm.is.alloc o, hm.eq, fun i c a k hi => ?_⟩⟩, h1.kept, h1.nd, h1.small, fun q hq => ?_⟩
  · refine Ints.mono (Ints.chg (T := []) (Ints.real (hm.kids i c a k hi)) (Chg.of_below hb) (by simp)) (fun q hq => ⟨hq.1.1, fun hm2 => ?_⟩)
    rcases List.mem_cons.1 hm2 with h2 | h2
    · have := hq.2; omega
    · exact hq.1.2 h2
  · rcases List.mem_cons.1 hq with h2 | h2
    · subst h2; simp
    · have := h.low q h2; simp; omega
theorem StAt.off4 {w w' : World} {B : Blk} {S : StS} {D : DevS} {g : Nat} (h : StAt w B S D) (hg : g ∈ B.x) (hng : g ∉ B.all) (hc : Chg [g] w w') : StAt w' B S D := by
  simp only [Blk.all, List.mem_cons, List.mem_nil_iff, or_false, not_or] at hng
  obtain ⟨n1, n2, n3, n4, n5, n6⟩ := hng
  obtain ⟨mm, hm⟩ := h.cells
  refine ⟨(hc.block _ (heap_lt h.box) (by simpa using Ne.symm n1)).trans h.box, h.dev.of_touch hc (by simpa using Ne.symm n2) (by simpa using Ne.symm n3) (by simpa using Ne.symm n4), ⟨mm, hm.is.touch hc (by simpa using Ne.symm n5), hm.eq, fun i c a k hi => ?_⟩, h.kept.touch hc (by simpa using Ne.symm n6), h.nd, h.small, fun q hq => Nat.lt_of_lt_of_le (h.low q hq) hc.size⟩
  exact (hm.kids i c a k hi).chg hc (fun q hq hm2 => hq.2 (by simp at hm2; subst hm2; exact hg))
theorem row_no_int {w : World} {g : Nat} {v : Value} {d : ByteArray} {t : TypeId} {f : Nat × Nat} (h : w.heap[g]? = some (.cells #[v, .string d] t f)) (hv : ∀ z, v ≠ .int .i64 z) : ∀ o z, w.cell? ⟨g, o, none⟩ ≠ some (.int .i64 z) := by
  intro o z he
  rw [cell_at h] at he
  match o with
  | 0 => exact hv z (by simpa using he)
  | 1 => simp at he
  | o + 2 => simp at he
def DoesPost (w : World) (B : Blk) (r : DoesR) (e : Ending) (w' : World) : Prop := ∃ (B' : Blk) (a : Option Addr) (m c : Nat) (d : ByteArray), Blk.Next w B B' ∧ e = .returned (.tuple #[.int .i64 r.num, .agg #[.slice a m c, .string d], .int .i64 r.err]) ∧ BlockIs w.heap.size w' (.slice a m c) d r.blk ∧ StAt w' B' r.st r.dv ∧ Chg B.all w w'
/-- behind a callee that may have turned the store -/
structure De (w : World) (B B' : Blk) (S : StS) (D : DevS) (rb : Nat) (w' : World) : Prop where
  next : Blk.Next w B B'
  st : StAt w' B' S D
  chg : Chg B.all w w'
  rd : w'.heap[rb]? = some (.cells #[.slice none 0 0, .string ⟨#[]⟩] 125 (0, 0))
  er : rb = w.heap.size + 1
  rn : rb ∉ B'.all
theorem Blk.Next.later {w w' : World} {B B' : Blk} (h : Blk.Next w' B B') (hb : w.heap.size ≤ w'.heap.size) : Blk.Next w B B' :=
  ⟨h.s, h.d, h.k, h.y, h.c, h.p.imp id (fun q => Nat.le_trans hb q), h.x⟩
theorem Blk.Next.mem {w : World} {B B' : Blk} (h : Blk.Next w B B') : ∀ x ∈ B'.all, x ∈ B.all ∨ w.heap.size ≤ x := by
  intro x hx
  simp only [Blk.all, List.mem_cons, List.mem_nil_iff, or_false] at hx ⊢
  rw [h.s, h.d, h.k, h.y, h.c] at hx
  have := h.p
  omega
theorem setCell_id {w : World} {b j : Nat} {c : Array Value} {t : TypeId} {f : Nat × Nat} {v : Value} (h : w.heap[b]? = some (.cells c t f)) (hc : c[j]? = some v) : w.setCell ⟨b, j, none⟩ v = w := by
  have e2 : c.setIfInBounds j v = c := by
    apply Array.ext_getElem?
    intro i
    rw [Array.getElem?_setIfInBounds]
    split
    · rename_i hij
      subst hij
      have hl := (Array.getElem?_eq_some_iff.1 hc).1
      rw [if_pos hl, hc]
    · rfl
  have e1 : (w.setCell ⟨b, j, none⟩ v).heap = w.heap := by
    apply Array.ext_getElem?
    intro i
    by_cases hib : i = b
    · subst hib
      rw [heap_set_at h j v, h, e2]
    · exact heap_set_other _ _ hib
  have e3 : w.setCell ⟨b, j, none⟩ v = { w with heap := (w.setCell ⟨b, j, none⟩ v).heap } := rfl
  rw [e3, e1]
theorem De.same {w w' : World} {B B' : Blk} {S : StS} {D : DevS} {rb : Nat} (h : De w B B' S D rb w') : (w'.setCell ⟨rb, 0, none⟩ (.slice none 0 0)).setCell ⟨rb, 1, none⟩ (.string ⟨#[]⟩) = w' := by
  rw [setCell_id h.rd rfl, setCell_id h.rd rfl]
theorem De.ends {w w' : World} {B B' : Blk} {S : StS} {D : DevS} {rb : Nat} (h : De w B B' S D rb w') (num err : Int) : DoesPost w B ⟨num, none, err, S, D⟩ (.returned (.tuple #[.int .i64 num, .agg #[.slice none 0 0, .string ⟨#[]⟩], .int .i64 err])) w' :=
  ⟨B', none, 0, 0, ⟨#[]⟩, h.next, rfl, ⟨rfl, rfl⟩, h.st, h.chg⟩
theorem held_small {n m : Nat} {S : StS} (h : Inv n m S) (hm : m < 1099511627776) : ∀ i c, S.cells i = some c → -9223372036854775808 ≤ c.held ∧ c.held < 9223372036854775807 := fun i c hc => by
  have := h.held i c hc
  have := h.wf.held i c hc
  omega
end Go.Proofs.YtadmecjdihfmeaaGreat.Sto
