/- Layer 6: Open. -/
import Derived.Test.YtadmecjdihfmeaaGreatStoReach
import Derived.Test.YtadmecjdihfmeaaGreatStoFree
import Derived.Test.YtadmecjdihfmeaaGreatBegins
namespace Go.Proofs.YtadmecjdihfmeaaGreat.Sto
set_option linter.unusedVariables false
set_option linter.unusedSimpArgs false
set_option maxRecDepth 100000
open Go.RowKit Go.Lib Go.Proofs.YtadmecjdihfmeaaGreat.Mem Go.Proofs.YtadmecjdihfmeaaGreat.Oct Go.Proofs.YtadmecjdihfmeaaGreat.Dev Go.MapKept

/-- what is told by a beginning may be -/
def supIn (x : Nat × Nat × ByteArray) (n : Int) : Prop := 1 ≤ (x.1 : Int) ∧ (x.1 : Int) ≤ 1099511627776 ∧ (x.2.1 = 0 ∨ (2 ≤ (x.2.1 : Int) ∧ (x.2.1 : Int) < n)) ∧ x.2.2.size ≤ 3900
theorem textP_size {m : Nat} {s t s' : ByteArray} (h : textP m s = .ok (t, s')) : t.size ≤ m := by
  unfold textP at h
  split at h
  · cases h
  · rename_i k s1 hk
    split at h
    · cases h
    · rename_i hm
      unfold rawP at h
      by_cases hk2 : (0 : Int) ≤ k ∧ (k : Int) ≤ s1.size
      · rw [if_pos hk2] at h
        cases h
        rw [ByteArray.size_extract]
        have := hk2.2
        simp
        omega
      · rw [if_neg hk2] at h; cases h
theorem beginsP_in {s : ByteArray} {n : Int} {x : Nat × Nat × ByteArray} (h : beginsP s n = some x) : supIn x n := by
  unfold beginsP at h
  split at h
  · cases h
  · rename_i b hb
    split at h
    · rename_i y s' hr
      split at h
      · cases h
        unfold beginsR at hr
        split at hr
        · cases hr
        · split at hr
          · split at hr
            · cases hr
            · rename_i gen s2 _
              split at hr
              · cases hr
              · rename_i root s3 _
                split at hr
                · cases hr
                · rename_i sz s4 _
                  split at hr
                  · cases hr
                  · rename_i hbad
                    split at hr
                    · cases hr
                    · rename_i note s5 ht
                      cases hr
                      have hsz := textP_size ht
                      rcases super_cases n gen root sz with ⟨g1, gb⟩ | ⟨g1, g2, gb⟩ | ⟨g1, g2, g3, gb⟩ | ⟨g1, g2, g3, g4, g5, gb⟩ | ⟨g1, g2, g3, g4, g5, g6, gb⟩ | ⟨g1, g2, g3, g4, gb⟩ | ⟨g1, g2, g3, g4, g5, g6, gb⟩
                      · exact absurd gb hbad
                      · exact absurd gb hbad
                      · exact absurd gb hbad
                      · exact absurd gb hbad
                      · exact absurd gb hbad
                      · exact ⟨g2, g3, .inl (by exact_mod_cast g4), hsz⟩
                      · exact ⟨g2, g3, .inr ⟨g5, g6⟩, hsz⟩
          · cases hr
      · cases h
    · cases h
/-- the better of two beginnings -/
def bestOf (o x : Option (Nat × Nat × ByteArray)) : Option (Nat × Nat × ByteArray) := match x with
  | none => o
  | some y => match o with
    | none => some y
    | some z => if z.1 < y.1 then some y else some z
def bestJ (D : DevS) : Nat → Option (Nat × Nat × ByteArray)
  | 0 => none
  | j + 1 => bestOf (bestJ D j) (beginsP (D.read j) D.n)
def genOf (o : Option (Nat × Nat × ByteArray)) : Nat := match o with | some x => x.1 | none => 0
theorem bestJ_in (D : DevS) : ∀ j x, bestJ D j = some x → supIn x D.n
  | 0, x, h => by cases h
  | j + 1, x, h => by
    rw [bestJ] at h
    unfold bestOf at h
    split at h
    · exact bestJ_in D j x h
    · rename_i y hy
      split at h
      · cases h; exact beginsP_in hy
      · rename_i z hz
        split at h
        · cases h; exact beginsP_in hy
        · cases h; exact bestJ_in D j _ hz
def openS (x : Nat × Nat × ByteArray) : StS := ⟨x.1, x.2.1, x.2.2, fun _ => none, fun _ => false⟩
def StS.keepAll (S : StS) : StS := { S with kept := S.has }
/-- Open -/
def openOut (D : DevS) : Except Int StS :=
  if D.off = true then .error 5 else match bestJ D 2 with
  | none => .error 2
  | some x => if x.2.1 = 0 then .ok (openS x).keepAll else match reachF D D.n.toNat (openS x) (fun _ => false) x.2.1 with
    | .error e => .error e
    | .ok (_, S) => .ok (S.hold x.2.1 1).keepAll
def OpenPost (w : World) (b bk bd : Nat) (D : DevS) (r : Except Int StS) (e : Ending) (w' : World) : Prop := match r with
  | .error x => NoStore w b bk bd (x, D) e w'
  | .ok S => AStore w b bk bd S (0, D) e w'
/-- a store that is being opened -/
theorem open_at (w : World) (b bk bd : Nat) (D : DevS) (x : Nat × Nat × ByteArray) (h : At w b bk bd D) (hs : D.small) :
    StAt (((w.alloc (.map #[] 0)).alloc (.map #[] 0)).alloc (.cells #[.int .i64 x.1, .int .i64 x.2.1, .string x.2.2, .pointer (some ⟨b, 0, none⟩), .map (some w.heap.size), .map (some (w.heap.size + 1))] 97)) ⟨w.heap.size + 1 + 1, b, bk, bd, w.heap.size, w.heap.size + 1, []⟩ (openS x) D := by
  have h1 : b < w.heap.size := heap_lt h.heap
  have h2 : bk < w.heap.size := h.kept.lt
  have h3 : bd < w.heap.size := h.dirty.lt
  have hne := h.bk_ne
  have hne2 := h.bd_ne
  have hne3 : bk ≠ bd := h.ne
  have hm1 := (IsI.made (enc := celV) w)
  have hm2 := (IsI.made (enc := keptV) (w.alloc (.map #[] 0)))
  have e1 : (w.alloc (.map #[] 0)).heap.size = w.heap.size + 1 := by simp
  have e2 : ((w.alloc (.map #[] 0)).alloc (.map #[] 0)).heap.size = w.heap.size + 2 := by simp
  rw [e1] at hm2
  refine ⟨?_, ((h.alloc _).alloc _).alloc _, ⟨fun _ => none, ⟨(hm1.alloc _).alloc _, fun i => rfl, fun i c a k hi => by cases hi⟩⟩, ?_, ?_, hs, fun q hq => by cases hq⟩
  · have := heap_alloc_last ((w.alloc (.map #[] 0)).alloc (.map #[] 0)) (.cells #[.int .i64 x.1, .int .i64 x.2.1, .string x.2.2, .pointer (some ⟨b, 0, none⟩), .map (some w.heap.size), .map (some (w.heap.size + 1))] 97)
    rw [e2] at this
    exact this
  · exact (hm2.alloc _).congr (fun i => by simp [openS])
  · simp only [Blk.all, List.nodup_cons, List.mem_cons, List.mem_nil_iff, or_false, not_or, List.nodup_nil, not_false_eq_true, and_true]
    omega
theorem none_wf (n : Nat) (x : Nat × Nat × ByteArray) : WF n (openS x) [] := by
  refine ⟨?_, ?_, ?_, ?_, ?_, ?_, ?_, ?_, ?_⟩ <;> intros <;> simp_all [openS]
def gV (o : Option (Nat × Nat × ByteArray)) : Int := match o with | some x => x.1 | none => 0
def rV (o : Option (Nat × Nat × ByteArray)) : Int := match o with | some x => x.2.1 | none => 0
def nV (o : Option (Nat × Nat × ByteArray)) : ByteArray := match o with | some x => x.2.2 | none => ⟨#[]⟩
theorem best_none (o : Option (Nat × Nat × ByteArray)) : bestOf o none = o := rfl
theorem best_less {o : Option (Nat × Nat × ByteArray)} {y : Nat × Nat × ByteArray} (hy : 1 ≤ (y.1 : Int)) (h : gV o < (y.1 : Int)) : bestOf o (some y) = some y := by
  cases o with
  | none => rfl
  | some z =>
    have : z.1 < y.1 := by have h2 : ((z.1 : Nat) : Int) < y.1 := h; omega
    simp [bestOf, this]
theorem best_more {o : Option (Nat × Nat × ByteArray)} {y : Nat × Nat × ByteArray} (hy : 1 ≤ (y.1 : Int)) (h : ¬ gV o < (y.1 : Int)) : bestOf o (some y) = o := by
  cases o with
  | none => exact absurd (show (0 : Int) < y.1 by omega) h
  | some z =>
    have : ¬ z.1 < y.1 := by have h2 : ¬ ((z.1 : Nat) : Int) < y.1 := h; omega
    simp [bestOf, this]
/-- the best beginning so far, in memory -/
def BestAt (w : World) (bb : Nat) (o : Option (Nat × Nat × ByteArray)) : Prop := w.heap[bb]? = some (.cells #[.int .i64 (gV o), .int .i64 (rV o), .string (nV o)] 93 (0, 0))
theorem BestAt.on {w w' : World} {bb : Nat} {o : Option (Nat × Nat × ByteArray)} (h : BestAt w bb o) (hb : Below w.heap.size w w') : BestAt w' bb o := (hb.block _ (heap_lt h)).trans h
theorem BestAt.put {w : World} {bb : Nat} {o : Option (Nat × Nat × ByteArray)} (h : BestAt w bb o) (y : Nat × Nat × ByteArray) : BestAt (((w.setCell ⟨bb, 0, none⟩ (.int .i64 y.1)).setCell ⟨bb, 1, none⟩ (.int .i64 y.2.1)).setCell ⟨bb, 2, none⟩ (.string y.2.2)) bb (some y) :=
  heap_set_at (heap_set_at (heap_set_at h 0 (.int .i64 y.1)) 1 (.int .i64 y.2.1)) 2 (.string y.2.2)
theorem _root_.Go.Proofs.YtadmecjdihfmeaaGreat.Dev.At.on6 {w w' : World} {b bk bd : Nat} {D : DevS} (h : At w b bk bd D) (hb : Below w.heap.size w w') : At w' b bk bd D := h.of_below hb (heap_lt h.heap) h.kept.lt h.dirty.lt
/-! ### the keys that were seen -/
def seenKey (es : Array MapEntry) (seen : Array Nat) (i : Int) : Bool := es.toList.any fun e => seen.contains e.born && (RowKit.intOf e.key == i)
theorem seenKey_none (es : Array MapEntry) : seenKey es #[] = fun _ => false := by
  funext i
  simp [seenKey]
theorem seenKey_push {es : Array MapEntry} {seen : Array Nat} {e : MapEntry} (he : e ∈ es.toList) (hnd : (es.toList.map (·.born)).Nodup) {k : Int} (hk : e.key = .int .i64 k) : seenKey es (seen.push e.born) = fun i => if i = k then true else seenKey es seen i := by
  funext i
  have hik : RowKit.intOf e.key = k := by rw [hk]; rfl
  have huniq : ∀ x ∈ es.toList, x.born = e.born → x = e := by
    intro x hx hb
    generalize es.toList = l at he hnd hx
    induction l with
    | nil => simp at hx
    | cons y l ih =>
      simp only [List.map_cons, List.nodup_cons] at hnd
      rcases List.mem_cons.1 hx with h1 | h1
      · rcases List.mem_cons.1 he with h2 | h2
        · rw [h1, h2]
        · exact absurd (List.mem_map.2 ⟨e, h2, by rw [← h1]; exact hb.symm⟩) hnd.1
      · rcases List.mem_cons.1 he with h2 | h2
        · exact absurd (List.mem_map.2 ⟨x, h1, by rw [← h2]; exact hb⟩) hnd.1
        · exact ih h2 hnd.2 h1
  by_cases hi : i = k
  · subst hi
    rw [if_pos rfl, seenKey, List.any_eq_true]
    exact ⟨e, he, by rw [contains_push, hik]; simp⟩
  · rw [if_neg hi, seenKey, seenKey]
    rw [Bool.eq_iff_iff, List.any_eq_true, List.any_eq_true]
    constructor
    · rintro ⟨x, hx, hx2⟩
      refine ⟨x, hx, ?_⟩
      rw [contains_push] at hx2
      simp only [Bool.and_eq_true, Bool.or_eq_true, beq_iff_eq] at hx2 ⊢
      refine ⟨?_, hx2.2⟩
      rcases hx2.1 with h | h
      · exact h
      · have := huniq x hx (by first | exact h | exact h.symm)
        subst this
        rw [hik] at hx2
        exact absurd hx2.2.symm hi
    · rintro ⟨x, hx, hx2⟩
      refine ⟨x, hx, ?_⟩
      rw [contains_push]
      simp only [Bool.and_eq_true, Bool.or_eq_true] at hx2 ⊢
      exact ⟨.inl hx2.1, hx2.2⟩
theorem seenKey_all {w : World} {B : Blk} {S : StS} {mm : Int → Option CV} {es : Array MapEntry} {seen : Array Nat} (heq : ∀ i, (mm i).map (·.1) = S.cells i) (h1 : ∀ x ∈ es.toList, ∃ k v, x.key = .int .i64 k ∧ x.val = celV v ∧ mm k = some v) (h2 : ∀ k v, mm k = some v → ∃ x ∈ es.toList, x.key = .int .i64 k ∧ x.val = celV v)
    (hall : ∀ x ∈ es.toList, seen.contains x.born = true) : seenKey es seen = S.has := by
  funext i
  rw [seenKey, StS.has, ← heq i, Bool.eq_iff_iff, List.any_eq_true]
  constructor
  · rintro ⟨x, hx, hx2⟩
    obtain ⟨k, v, q1, _, q3⟩ := h1 x hx
    simp only [Bool.and_eq_true, beq_iff_eq] at hx2
    have : k = i := by rw [q1] at hx2; exact hx2.2
    subst this
    rw [q3]; rfl
  · intro hi
    obtain ⟨v, hv⟩ : ∃ v, mm i = some v := by
      cases hm : mm i with
      | none => rw [hm] at hi; cases hi
      | some v => exact ⟨v, rfl⟩
    obtain ⟨x, hx, q1, _⟩ := h2 i v hv
    refine ⟨x, hx, ?_⟩
    rw [hall x hx, q1]
    simp [RowKit.intOf]
/-- a block that holds no cells is none of what a store reads -/
theorem StAt.off2 {w w' : World} {B : Blk} {S : StS} {D : DevS} {g : Nat} (h : StAt w B S D) (hg : ∀ o, w.cell? ⟨g, o, none⟩ = none) (hng : g ∉ B.all) (hc : Chg [g] w w') : StAt w' B S D := by
  simp only [Blk.all, List.mem_cons, List.mem_nil_iff, or_false, not_or] at hng
  obtain ⟨n1, n2, n3, n4, n5, n6⟩ := hng
  obtain ⟨mm, hm⟩ := h.cells
  refine ⟨(hc.block _ (heap_lt h.box) (by simpa using Ne.symm n1)).trans h.box, h.dev.of_touch hc (by simpa using Ne.symm n2) (by simpa using Ne.symm n3) (by simpa using Ne.symm n4), ⟨mm, hm.is.touch hc (by simpa using Ne.symm n5), hm.eq, fun i c a k hi => ?_⟩, h.kept.touch hc (by simpa using Ne.symm n6), h.nd, h.small, fun q hq => Nat.lt_of_lt_of_le (h.low q hq) hc.size⟩
  rcases hm.kids i c a k hi with hk | ⟨b, o, q, e, hp, hl, hcell⟩
  · exact .inl hk
  · by_cases hz : c.kids.length = 0
    · exact .inl ⟨List.length_eq_zero_iff.1 hz, a, k, by rw [hz]⟩
    · have hbg : b ≠ g := by
        rintro rfl
        have := hcell 0 (by omega)
        rw [hg] at this
        cases this
      exact .inr ⟨b, o, q, e, hp, hl, fun j hj => by rw [hc.cell (by simpa using hbg) (hcell j hj)]⟩
end Go.Proofs.YtadmecjdihfmeaaGreat.Sto
