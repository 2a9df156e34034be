/- Layer 6: Open. -/
import Derived.Test.YtanpkghdgdkdlaaGreatStoReach
import Derived.Test.YtanpkghdgdkdlaaGreatStoFree
import Derived.Test.YtanpkghdgdkdlaaGreatBegins
namespace Go.Proofs.YtanpkghdgdkdlaaGreat.Sto
set_option linter.unusedVariables false
set_option linter.unusedSimpArgs false
set_option maxRecDepth 100000
open Go.RowKit Go.Lib Go.Proofs.YtanpkghdgdkdlaaGreat.Mem Go.Proofs.YtanpkghdgdkdlaaGreat.Oct Go.Proofs.YtanpkghdgdkdlaaGreat.Dev Go.MapKept

/-- what is told by a beginning may be -/
def supIn (x : Nat × Nat × ByteArray) (n : Int) : Prop := 1 ≤ (x.1 : Int) ∧ (x.1 : Int) ≤ 1099511627776 ∧ (x.2.1 = 0 ∨ (2 ≤ (x.2.1 : Int) ∧ (x.2.1 : Int) < n)) ∧ x.2.2.size ≤ 3900
theorem textP_size {m : Nat} {s t s' : ByteArray} (h : textP m s = .ok (t, s')) : t.size ≤ m := by
  unfold textP at h
  split at h
  · cases h
  · rename_i k s1 hk
    split at h
    · cases h
    · rename_i hm
      unfold rawP at h
      by_cases hk2 : (0 : Int) ≤ k ∧ (k : Int) ≤ s1.size
      · rw [if_pos hk2] at h
        cases h
        rw [ByteArray.size_extract]
        have := hk2.2
        simp
        omega
      · rw [if_neg hk2] at h; cases h
theorem beginsP_in {s : ByteArray} {n : Int} {x : Nat × Nat × ByteArray} (h : beginsP s n = some x) : supIn x n := by
  unfold beginsP at h
  split at h
  · cases h
  · rename_i b hb
    split at h
    · rename_i y s' hr
      split at h
      · cases h
        unfold beginsR at hr
        split at hr
        · cases hr
        · split at hr
          · split at hr
            · cases hr
            · rename_i gen s2 _
              split at hr
              · cases hr
              · rename_i root s3 _
                split at hr
                · cases hr
                · rename_i sz s4 _
                  split at hr
                  · cases hr
                  · rename_i hbad
                    split at hr
                    · cases hr
                    · rename_i note s5 ht
                      cases hr
                      have hsz := textP_size ht
                      rcases super_cases n gen root sz with ⟨g1, gb⟩ | ⟨g1, g2, gb⟩ | ⟨g1, g2, g3, gb⟩ | ⟨g1, g2, g3, g4, g5, gb⟩ | ⟨g1, g2, g3, g4, g5, g6, gb⟩ | ⟨g1, g2, g3, g4, gb⟩ | ⟨g1, g2, g3, g4, g5, g6, gb⟩
                      · exact absurd gb hbad
                      · exact absurd gb hbad
                      · exact absurd gb hbad
                      · exact absurd gb hbad
                      · exact absurd gb hbad
                      · exact ⟨g2, g3, .inl (by exact_mod_cast g4), hsz⟩
                      · exact ⟨g2, g3, .inr ⟨g5, g6⟩, hsz⟩
          · cases hr
      · cases h
    · cases h
/-- the better of two beginnings -/
def bestOf (o x : Option (Nat × Nat × ByteArray)) : Option (Nat × Nat × ByteArray) := match x with
  | none => o
  | some y => match o with
    | none => some y
    | some z => if z.1 < y.1 then some y else some z
def bestJ (D : DevS) : Nat → Option (Nat × Nat × ByteArray)
  | 0 => none
  | j + 1 => bestOf (bestJ D j) (beginsP (D.read j) D.n)
def genOf (o : Option (Nat × Nat × ByteArray)) : Nat := match o with | some x => x.1 | none => 0
theorem bestJ_in (D : DevS) : ∀ j x, bestJ D j = some x → supIn x D.n
  | 0, x, h => by cases h
  | j + 1, x, h => by
    rw [bestJ] at h
    unfold bestOf at h
    split at h
    · exact bestJ_in D j x h
    · rename_i y hy
      split at h
      · cases h; exact beginsP_in hy
      · rename_i z hz
        split at h
        · cases h; exact beginsP_in hy
        · cases h; exact bestJ_in D j _ hz
def openS (x : Nat × Nat × ByteArray) : StS := ⟨x.1, x.2.1, x.2.2, fun _ => none, fun _ => false⟩
def StS.keepAll (S : StS) : StS := { S with kept := S.has }
/-- Open -/
def openOut (D : DevS) : Except Int StS :=
  if D.off = true then .error 5 else match bestJ D 2 with
  | none => .error 2
  | some x => if x.2.1 = 0 then .ok (openS x).keepAll else match reachF D D.n.toNat (openS x) (fun _ => false) x.2.1 with
    | .error e => .error e
    | .ok (_, S) => .ok (S.hold x.2.1 1).keepAll
def OpenPost (w : World) (b bk bd : Nat) (D : DevS) (r : Except Int StS) (e : Ending) (w' : World) : Prop := match r with
  | .error x => NoStore w b bk bd (x, D) e w'
  | .ok S => AStore w b bk bd S (0, D) e w'
/-- a store that is being opened -/
theorem open_at (w : World) (b bk bd : Nat) (D : DevS) (x : Nat × Nat × ByteArray) (h : At w b bk bd D) (hs : D.small) :
    StAt (((w.alloc (.map #[] 0)).alloc (.map #[] 0)).alloc (.cells #[.int .i64 x.1, .int .i64 x.2.1, .string x.2.2, .pointer (some ⟨b, 0, none⟩), .map (some w.heap.size), .map (some (w.heap.size + 1))] 101)) ⟨w.heap.size + 1 + 1, b, bk, bd, w.heap.size, w.heap.size + 1, []⟩ (openS x) D := by
  have h1 : b < w.heap.size := heap_lt h.heap
  have h2 : bk < w.heap.size := h.kept.lt
  have h3 : bd < w.heap.size := h.dirty.lt
  have hne := h.bk_ne
  have hne2 := h.bd_ne
  have hne3 : bk ≠ bd := h.ne
  have hm1 := (IsI.made (enc := celV) w)
  have hm2 := (IsI.made (enc := keptV) (w.alloc (.map #[] 0)))
  have e1 : (w.alloc (.map #[] 0)).heap.size = w.heap.size + 1 := by simp
  have e2 : ((w.alloc (.map #[] 0)).alloc (.map #[] 0)).heap.size = w.heap.size + 2 := by simp
  rw [e1] at hm2
  refine ⟨?_, ((h.alloc _).alloc _).alloc _, ⟨fun _ => none, ⟨(hm1.alloc _).alloc _, fun i => rfl, fun i c a k hi => by cases hi⟩⟩, ?_, ?_, hs, fun q hq => by cases hq⟩
  · have := heap_alloc_last ((w.alloc (.map #[] 0)).alloc (.map #[] 0)) (.cells #[.int .i64 x.1, .int .i64 x.2.1, .string x.2.2, .pointer (some ⟨b, 0, none⟩), .map (some w.heap.size), .map (some (w.heap.size + 1))] 101)
    rw [e2] at this
    exact this
  · exact (hm2.alloc _).congr (fun i => by simp [openS])
  · simp only [Blk.all, List.nodup_cons, List.mem_cons, List.mem_nil_iff, or_false, not_or, List.nodup_nil, not_false_eq_true, and_true]
    omega
theorem none_wf (n : Nat) (x : Nat × Nat × ByteArray) : WF n (openS x) [] := by
  refine ⟨?_, ?_, ?_, ?_, ?_, ?_, ?_, ?_, ?_⟩ <;> intros <;> simp_all [openS]
def gV (o : Option (Nat × Nat × ByteArray)) : Int := match o with | some x => x.1 | none => 0
def rV (o : Option (Nat × Nat × ByteArray)) : Int := match o with | some x => x.2.1 | none => 0
def nV (o : Option (Nat × Nat × ByteArray)) : ByteArray := match o with | some x => x.2.2 | none => ⟨#[]⟩
theorem best_none (o : Option (Nat × Nat × ByteArray)) : bestOf o none = o := rfl
theorem best_less {o : Option (Nat × Nat × ByteArray)} {y : Nat × Nat × ByteArray} (hy : 1 ≤ (y.1 : Int)) (h : gV o < (y.1 : Int)) : bestOf o (some y) = some y := by
  cases o with
  | none => rfl
  | some z =>
    have : z.1 < y.1 := by have h2 : ((z.1 : Nat) : Int) < y.1 := h; omega
    simp [bestOf, this]
theorem best_more {o : Option (Nat × Nat × ByteArray)} {y : Nat × Nat × ByteArray} (hy : 1 ≤ (y.1 : Int)) (h : ¬ gV o < (y.1 : Int)) : bestOf o (some y) = o := by
  cases o with
  | none => exact absurd (show (0 : Int) < y.1 by omega) h
  | some z =>
    have : ¬ z.1 < y.1 := by have h2 : ¬ ((z.1 : Nat) : Int) < y.1 := h; omega
    simp [bestOf, this]
/-- the best beginning so far, in memory -/
def BestAt (w : World) (bb : Nat) (o : Option (Nat × Nat × ByteArray)) : Prop := w.heap[bb]? = some (.cells #[.int .i64 (gV o), .int .i64 (rV o), .string (nV o)] 93 (0, 0))
theorem BestAt.on {w w' : World} {bb : Nat} {o : Option (Nat × Nat × ByteArray)} (h : BestAt w bb o) (hb : Below w.heap.size w w') : BestAt w' bb o := (hb.block _ (heap_lt h)).trans h
theorem BestAt.put {w : World} {bb : Nat} {o : Option (Nat × Nat × ByteArray)} (h : BestAt w bb o) (y : Nat × Nat × ByteArray) : BestAt (((w.setCell ⟨bb, 0, none⟩ (.int .i64 y.1)).setCell ⟨bb, 1, none⟩ (.int .i64 y.2.1)).setCell ⟨bb, 2, none⟩ (.string y.2.2)) bb (some y) :=
  heap_set_at (heap_set_at (heap_set_at h 0 (.int .i64 y.1)) 1 (.int .i64 y.2.1)) 2 (.string y.2.2)
theorem _root_.Go.Proofs.YtanpkghdgdkdlaaGreat.Dev.At.on6 {w w' : World} {b bk bd : Nat} {D : DevS} (h : At w b bk bd D) (hb : Below w.heap.size w w') : At w' b bk bd D := h.of_below hb (heap_lt h.heap) h.kept.lt h.dirty.lt
/-! ### the keys that were seen -/
def seenKey (es : Array MapEntry) (seen : Array Nat) (i : Int) : Bool := es.toList.any fun e => seen.contains e.born && (RowKit.intOf e.key == i)
theorem seenKey_none (es : Array MapEntry) : seenKey es #[] = fun _ => false := by
  funext i
  simp [seenKey]
theorem seenKey_push {es : Array MapEntry} {seen : Array Nat} {e : MapEntry} (he : e ∈ es.toList) (hnd : (es.toList.map (·.born)).Nodup) {k : Int} (hk : e.key = .int .i64 k) : seenKey es (seen.push e.born) = fun i => if i = k then true else seenKey es seen i := by
  funext i
  have hik : RowKit.intOf e.key = k := by rw [hk]; rfl
  have huniq : ∀ x ∈ es.toList, x.born = e.born → x = e := by
    intro x hx hb
    generalize es.toList = l at he hnd hx
    induction l with
    | nil => simp at hx
    | cons y l ih =>
      simp only [List.map_cons, List.nodup_cons] at hnd
      rcases List.mem_cons.1 hx with h1 | h1
      · rcases List.mem_cons.1 he with h2 | h2
        · rw [h1, h2]
        · exact absurd (List.mem_map.2 ⟨e, h2, by rw [← h1]; exact hb.symm⟩) hnd.1
      · rcases List.mem_cons.1 he with h2 | h2
        · exact absurd (List.mem_map.2 ⟨x, h1, by rw [← h2]; exact hb⟩) hnd.1
        · exact ih h2 hnd.2 h1
  by_cases hi : i = k
  · subst hi
    rw [if_pos rfl, seenKey, List.any_eq_true]
    exact ⟨e, he, by rw [contains_push, hik]; simp⟩
  · rw [if_neg hi, seenKey, seenKey]
    rw [Bool.eq_iff_iff, List.any_eq_true, List.any_eq_true]
    constructor
    · rintro ⟨x, hx, hx2⟩
      refine ⟨x, hx, ?_⟩
      rw [contains_push] at hx2
      simp only [Bool.and_eq_true, Bool.or_eq_true, beq_iff_eq] at hx2 ⊢
      refine ⟨?_, hx2.2⟩
      rcases hx2.1 with h | h
      · exact h
      · have := huniq x hx (by first | exact h | exact h.symm)
        subst this
        rw [hik] at hx2
        exact absurd hx2.2.symm hi
    · rintro ⟨x, hx, hx2⟩
      refine ⟨x, hx, ?_⟩
      rw [contains_push]
      simp only [Bool.and_eq_true, Bool.or_eq_true] at hx2 ⊢
      exact ⟨.inl hx2.1, hx2.2⟩
theorem seenKey_all {w : World} {B : Blk} {S : StS} {mm : Int → Option CV} {es : Array MapEntry} {seen : Array Nat} (heq : ∀ i, (mm i).map (·.1) = S.cells i) (h1 : ∀ x ∈ es.toList, ∃ k v, x.key = .int .i64 k ∧ x.val = celV v ∧ mm k = some v) (h2 : ∀ k v, mm k = some v → ∃ x ∈ es.toList, x.key = .int .i64 k ∧ x.val = celV v)
    (hall : ∀ x ∈ es.toList, seen.contains x.born = true) : seenKey es seen = S.has := by
  funext i
  rw [seenKey, StS.has, ← heq i, Bool.eq_iff_iff, List.any_eq_true]
  constructor
  · rintro ⟨x, hx, hx2⟩
    obtain ⟨k, v, q1, _, q3⟩ := h1 x hx
    simp only [Bool.and_eq_true, beq_iff_eq] at hx2
    have : k = i := by rw [q1] at hx2; exact hx2.2
    subst this
    rw [q3]; rfl
  · intro hi
    obtain ⟨v, hv⟩ : ∃ v, mm i = some v := by
      cases hm : mm i with
      | none => rw [hm] at hi; cases hi
      | some v => exact ⟨v, rfl⟩
    obtain ⟨x, hx, q1, _⟩ := h2 i v hv
    refine ⟨x, hx, ?_⟩
    rw [hall x hx, q1]
    simp [RowKit.intOf]
/-- a block that holds no cells is none of what a store reads -/
theorem StAt.off2 {w w' : World} {B : Blk} {S : StS} {D : DevS} {g : Nat} (h : StAt w B S D) (hg : ∀ o, w.cell? ⟨g, o, none⟩ = none) (hng : g ∉ B.all) (hc : Chg [g] w w') : StAt w' B S D := by
  simp only [Blk.all, List.mem_cons, List.mem_nil_iff, or_false, not_or] at hng
  obtain ⟨n1, n2, n3, n4, n5, n6⟩ := hng
  obtain ⟨mm, hm⟩ := h.cells
  refine ⟨(hc.block _ (heap_lt h.box) (by simpa using Ne.symm n1)).trans h.box, h.dev.of_touch hc (by simpa using Ne.symm n2) (by simpa using Ne.symm n3) (by simpa using Ne.symm n4), ⟨mm, hm.is.touch hc (by simpa using Ne.symm n5), hm.eq, fun i c a k hi => ?_⟩, h.kept.touch hc (by simpa using Ne.symm n6), h.nd, h.small, fun q hq => Nat.lt_of_lt_of_le (h.low q hq) hc.size⟩
  rcases hm.kids i c a k hi with hk | ⟨b, o, q, e, hp, hl, hcell⟩
  · exact .inl hk
  · by_cases hz : c.kids.length = 0
    · exact .inl ⟨List.length_eq_zero_iff.1 hz, a, k, by rw [hz]⟩
    · have hbg : b ≠ g := by
        rintro rfl
        have := hcell 0 (by omega)
        rw [hg] at this
        cases this
      exact .inr ⟨b, o, q, e, hp, hl, fun j hj => by rw [hc.cell (by simpa using hbg) (hcell j hj)]⟩
set_option maxHeartbeats 16000000 in
theorem open_any (w : World) (b bk bd : Nat) (D : DevS) (h : At w b bk bd D) (hs : D.small) :
    Calls Tryz.prog 13 #[.pointer (some ⟨b, 0, none⟩)] w (OpenPost w b bk bd D (openOut D)) := by
  obtain ⟨R, hR⟩ : ∃ R, R = openOut D := ⟨_, rfl⟩
  rw [← hR]
  have HR : Hid (R = openOut D) := hR
  have hdn := h.ok.2.2
  have H : Hid (At w b bk bd D ∧ D.small) := ⟨h, hs⟩
  have hmm := @run_makeMap Tryz.prog
  have hz : (D.n == 0) = false := by simp; omega
  clear h hs hR
  cases hoff : D.off with
  | true =>
    have HR2 : Hid (R = .error 5) := by rw [HR.out, openOut, if_pos hoff]; exact rfl
    have hre : D.readE 0 = 5 ∧ D.read 0 = ⟨#[]⟩ := by simp [DevS.readE, DevS.read, hoff]
    clear HR
    go_enter Tryz.func13, Tryz.ntmps13
    go_wp2_with (first
      | (go_at_call 45; refine (size_any w b bk bd D H.out.1).mono ?_; rintro e w1 ⟨rfl, rfl⟩)
      | fail)
    have hb0 : Below w.heap.size w (w.alloc (.cells #[.int .i64 0, .int .i64 0, .string ⟨#[]⟩] 93)) := (Below.refl _ _).alloc (Nat.le_refl _) _
    have H1 : Hid (Below w.heap.size w (w.alloc (.cells #[.int .i64 0, .int .i64 0, .string ⟨#[]⟩] 93))) := hb0
    generalize w.alloc (.cells #[.int .i64 0, .int .i64 0, .string ⟨#[]⟩] 93) = w1 at H1 ⊢
    clear hb0
    go_loopw [19] (fun v wr => v = .int .i64 0 ∧ Hid (Below w.heap.size w wr)) (fun v _ => 0)
    case atStart => exact ⟨rfl, H1.out⟩
    case round =>
      obtain ⟨rfl, HT⟩ := hrel
      go_wp2_with (first
        | (go_at_call 46; refine (Dev.read_any wr b bk bd D 0 (H.out.1.on6 HT.out)).mono ?_; rintro e w3 ⟨rfl, rfl⟩; rw [hre.1, hre.2])
        | fail)
      go_ret2
      rw [HR2.out]
      exact ⟨rfl, H.out.1.on6 HT.out, H.out.2, Chg.of_below HT.out⟩
  | false =>
    have HR2 : Hid (R = match bestJ D 2 with
      | none => .error 2
      | some x => if x.2.1 = 0 then .ok (openS x).keepAll else match reachF D D.n.toNat (openS x) (fun _ => false) x.2.1 with
        | .error e => .error e
        | .ok (_, S) => .ok (S.hold x.2.1 1).keepAll) := by rw [HR.out, openOut, if_neg (by simp [hoff])]; exact rfl
    have HRE : Hid (∀ j, 0 ≤ j → j < 2 → D.readE j = 0) := fun j h0 h2 => by
      have h1 : D.inside j = true := by simp [DevS.inside]; omega
      simp [DevS.readE, hoff, h1]
    clear HR
    go_enter Tryz.func13, Tryz.ntmps13
    go_wp2_with (first
      | (go_at_call 45; refine (size_any w b bk bd D H.out.1).mono ?_; rintro e w1 ⟨rfl, rfl⟩)
      | fail)
    have hb0 : Below w.heap.size w (w.alloc (.cells #[.int .i64 0, .int .i64 0, .string ⟨#[]⟩] 93)) := (Below.refl _ _).alloc (Nat.le_refl _) _
    have hx0 : BestAt (w.alloc (.cells #[.int .i64 0, .int .i64 0, .string ⟨#[]⟩] 93)) w.heap.size none := heap_alloc_last _ _
    obtain ⟨bb, hbb⟩ : ∃ bb, bb = w.heap.size := ⟨_, rfl⟩
    rw [← hbb] at hx0 ⊢
    have HBB : Hid (bb = w.heap.size) := hbb
    have H1 : Hid (Below w.heap.size w (w.alloc (.cells #[.int .i64 0, .int .i64 0, .string ⟨#[]⟩] 93)) ∧ BestAt (w.alloc (.cells #[.int .i64 0, .int .i64 0, .string ⟨#[]⟩] 93)) bb none) := ⟨hb0, hx0⟩
    generalize w.alloc (.cells #[.int .i64 0, .int .i64 0, .string ⟨#[]⟩] 93) = w1 at H1 ⊢
    clear hb0 hx0 hbb
    go_loopw [19] (fun v wr => ∃ j : Nat, j ≤ 2 ∧ v = .int .i64 j ∧ Hid (Below w.heap.size w wr ∧ BestAt wr bb (bestJ D j))) (fun v _ => 2 - (intOf v).toNat)
    case atStart => exact ⟨0, by omega, rfl, H1.out⟩
    case round =>
      obtain ⟨j, hj, rfl, HT⟩ := hrel
      by_cases hlt : j < 2
      · have hre := HRE.out j (by omega) (by omega)
        obtain ⟨o, ho⟩ : ∃ o, o = bestJ D j := ⟨_, rfl⟩
        have HO : Hid (bestJ D (j + 1) = bestOf o (beginsP (D.read j) D.n)) := by rw [ho, bestJ]; exact rfl
        have HSZ : Hid ((D.read j).size ≤ 140737488351232) := by have := read_size H.out.2 j; show _ ≤ _; omega
        rw [← ho] at HT
        have HDR : Hid (D.read (j : Int) = D.read j) := rfl
        clear ho
        go_wp2_with (first
          | (go_at_call 46; refine (Dev.read_any wr b bk bd D j (H.out.1.on6 HT.out.1)).mono ?_; rintro e w3 ⟨rfl, rfl⟩; rw [hre])
          | fail)
        refine (begins_any (D.read j) D.n wr HSZ.out).mono ?_
        rintro e w3 ⟨g, r, nt, ok, rfl, hb3, his⟩
        have hb0 : Below w.heap.size w (w3.alloc (.cells #[.int .i64 g, .int .i64 r, .string nt] 93)) := (HT.out.1.trans (hb3.mono HT.out.1.size)).alloc (HT.out.1.trans (hb3.mono HT.out.1.size)).size _
        have hx0 : BestAt (w3.alloc (.cells #[.int .i64 g, .int .i64 r, .string nt] 93)) bb o := (HT.out.2.on hb3).on ((Below.refl _ _).alloc (Nat.le_refl _) _)
        have hx3 : (w3.alloc (.cells #[.int .i64 g, .int .i64 r, .string nt] 93)).heap[w3.heap.size]? = some (.cells #[.int .i64 g, .int .i64 r, .string nt] 93 (0, 0)) := heap_alloc_last _ _
        cases hbp : beginsP (D.read j) D.n with
        | none =>
          have hok : ok = false := by rw [BeginsIs, hbp] at his; exact his
          subst hok
          have HN : Hid (bestJ D (j + 1) = o) := by rw [HO.out, hbp]; exact rfl
          have H3 : Hid (Below w.heap.size w (w3.alloc (.cells #[.int .i64 g, .int .i64 r, .string nt] 93)) ∧ BestAt (w3.alloc (.cells #[.int .i64 g, .int .i64 r, .string nt] 93)) bb o) := ⟨hb0, hx0⟩
          clear hb0 hx0 hx3 his hb3 hbp
          go_wp2
          go_roundw
          case rel => exact ⟨j + 1, by omega, by go_num, H3.out.1, by rw [HN.out]; exact H3.out.2⟩
          case measure => simp [intOf]; omega
        | some y =>
          obtain ⟨g0, r0, n0⟩ := y
          obtain ⟨rfl, rfl, rfl, rfl⟩ : ok = true ∧ g = (g0 : Int) ∧ r = (r0 : Int) ∧ nt = n0 := by rw [BeginsIs, hbp] at his; exact his
          have hy := (beginsP_in hbp).1
          have hbest : w.heap.size ≤ bb := by have := HBB.out; omega
          have H4 : Hid (Below w.heap.size w (w3.alloc (.cells #[.int .i64 (g0 : Int), .int .i64 (r0 : Int), .string nt] 93)) ∧ BestAt (w3.alloc (.cells #[.int .i64 (g0 : Int), .int .i64 (r0 : Int), .string nt] 93)) bb o) := ⟨hb0, hx0⟩
          have b0 : (w3.alloc (.cells #[.int .i64 (g0 : Int), .int .i64 (r0 : Int), .string nt] 93)).cell? ⟨bb, 0, none⟩ = some (.int .i64 (gV o)) := cell_at hx0 0
          have b1 : (w3.alloc (.cells #[.int .i64 (g0 : Int), .int .i64 (r0 : Int), .string nt] 93)).cell? ⟨bb, 1, none⟩ = some (.int .i64 (rV o)) := cell_at hx0 1
          have b2 : (w3.alloc (.cells #[.int .i64 (g0 : Int), .int .i64 (r0 : Int), .string nt] 93)).cell? ⟨bb, 2, none⟩ = some (.string (nV o)) := cell_at hx0 2
          have bf : ∀ j, (w3.alloc (.cells #[.int .i64 (g0 : Int), .int .i64 (r0 : Int), .string nt] 93)).frozen? ⟨bb, j, none⟩ = false := frozen_at hx0
          have x0 : (w3.alloc (.cells #[.int .i64 (g0 : Int), .int .i64 (r0 : Int), .string nt] 93)).cell? ⟨w3.heap.size, 0, none⟩ = some (.int .i64 (g0 : Int)) := cell_at hx3 0
          have x1 : (w3.alloc (.cells #[.int .i64 (g0 : Int), .int .i64 (r0 : Int), .string nt] 93)).cell? ⟨w3.heap.size, 1, none⟩ = some (.int .i64 (r0 : Int)) := cell_at hx3 1
          have x2 : (w3.alloc (.cells #[.int .i64 (g0 : Int), .int .i64 (r0 : Int), .string nt] 93)).cell? ⟨w3.heap.size, 2, none⟩ = some (.string nt) := cell_at hx3 2
          by_cases hg : gV o < (g0 : Int)
          · have HN : Hid (bestJ D (j + 1) = some (g0, r0, nt)) := by rw [HO.out, hbp]; exact best_less hy hg
            have hgg : decide ((g0 : Int) > gV o) = true := by simpa using hg
            clear hb0 hx0 hx3 his hb3 hbp hre
            go_wp2
            go_roundw
            case rel => exact ⟨j + 1, by omega, by go_num, ((H4.out.1.setCell (by simpa using hbest) _).setCell (by simpa using hbest) _).setCell (by simpa using hbest) _, by rw [HN.out]; exact H4.out.2.put (g0, r0, nt)⟩
            case measure => simp [intOf]; omega
          · have HN : Hid (bestJ D (j + 1) = o) := by rw [HO.out, hbp]; exact best_more hy hg
            clear hb0 hx0 hx3 his hb3 hbp hre
            go_wp2
            go_roundw
            case rel => exact ⟨j + 1, by omega, by go_num, H4.out.1, by rw [HN.out]; exact H4.out.2⟩
            case measure => simp [intOf]; omega
      · have hj2 : j = 2 := by omega
        subst hj2
        have HIN : Hid (∀ x, bestJ D 2 = some x → supIn x D.n) := bestJ_in D 2
        obtain ⟨o, ho⟩ : ∃ o, o = bestJ D 2 := ⟨_, rfl⟩
        rw [← ho] at HT HR2 HIN
        clear ho HRE H1
        cases o with
        | none =>
          have HR3 : Hid (R = .error 2) := HR2.out
          have b0 : wr.cell? ⟨bb, 0, none⟩ = some (.int .i64 0) := cell_at HT.out.2 0
          clear HR2
          go_wp2
          go_ret2
          rw [HR3.out]
          exact ⟨rfl, H.out.1.on6 HT.out.1, H.out.2, Chg.of_below HT.out.1⟩
        | some x =>
          obtain ⟨g0, r0, nt⟩ := x
          have hin := HIN.out _ rfl
          have hgz : (((g0 : Nat) : Int) == 0) = false := by have h1 : 1 ≤ ((g0 : Nat) : Int) := hin.1; simp; omega
          have HR3 : Hid (R = if r0 = 0 then .ok (openS (g0, r0, nt)).keepAll else match reachF D D.n.toNat (openS (g0, r0, nt)) (fun _ => false) r0 with | .error e => .error e | .ok (_, S) => .ok (S.hold r0 1).keepAll) := HR2.out
          have b0 : wr.cell? ⟨bb, 0, none⟩ = some (.int .i64 (g0 : Nat)) := cell_at HT.out.2 0
          have b1 : wr.cell? ⟨bb, 1, none⟩ = some (.int .i64 (r0 : Nat)) := cell_at HT.out.2 1
          have b2 : wr.cell? ⟨bb, 2, none⟩ = some (.string nt) := cell_at HT.out.2 2
          have hst := open_at wr b bk bd D (g0, r0, nt) (H.out.1.on6 HT.out.1) H.out.2
          obtain ⟨wa, hwa⟩ : ∃ wa, wa = ((wr.alloc (.map #[] 0)).alloc (.map #[] 0)).alloc (.cells #[.int .i64 (g0 : Nat), .int .i64 (r0 : Nat), .string nt, .pointer (some ⟨b, 0, none⟩), .map (some wr.heap.size), .map (some (wr.heap.size + 1))] 101) := ⟨_, rfl⟩
          have hbl : Below w.heap.size w wa := by rw [hwa]; exact ((HT.out.1.alloc HT.out.1.size _).alloc (by have := HT.out.1.size; simp; omega) _).alloc (by have := HT.out.1.size; simp; omega) _
          have hba : BestAt wa bb (some (g0, r0, nt)) := by rw [hwa]; exact HT.out.2.on ((((Below.refl _ _).alloc (Nat.le_refl _) _).alloc (by simp) _).alloc (by simp; omega) _)
          have hst2 : StAt wa ⟨wr.heap.size + 1 + 1, b, bk, bd, wr.heap.size, wr.heap.size + 1, []⟩ (openS (g0, r0, nt)) D := by rw [hwa]; exact hst
          have HWA : Hid (wa = ((wr.alloc (.map #[] 0)).alloc (.map #[] 0)).alloc (.cells #[.int .i64 (g0 : Nat), .int .i64 (r0 : Nat), .string nt, .pointer (some ⟨b, 0, none⟩), .map (some wr.heap.size), .map (some (wr.heap.size + 1))] 101)) := hwa
          have hbo : Blk.Over w b bk bd ⟨wr.heap.size + 1 + 1, b, bk, bd, wr.heap.size, wr.heap.size + 1, []⟩ := by have := HT.out.1.size; exact ⟨rfl, rfl, rfl, by show w.heap.size ≤ wr.heap.size + 1 + 1; omega, by show w.heap.size ≤ wr.heap.size; omega, by show w.heap.size ≤ wr.heap.size + 1; omega⟩
          have HA : Hid (Below w.heap.size w wa ∧ BestAt wa bb (some (g0, r0, nt)) ∧ StAt wa ⟨wr.heap.size + 1 + 1, b, bk, bd, wr.heap.size, wr.heap.size + 1, []⟩ (openS (g0, r0, nt)) D ∧ Blk.Over w b bk bd ⟨wr.heap.size + 1 + 1, b, bk, bd, wr.heap.size, wr.heap.size + 1, []⟩) := ⟨hbl, hba, hst2, hbo⟩
          clear hst hbl hba hst2 hwa HR2 hbo
          by_cases hr0 : r0 = 0
          · subst hr0
            have HR9 : Hid (R = .ok (openS (g0, 0, nt)).keepAll) := by rw [HR3.out, if_pos rfl]; exact rfl
            clear HR3
            have HWA2 : Hid (wa = ((wr.alloc (.map #[] 0)).alloc (.map #[] 0)).alloc (.cells #[.int .i64 (g0 : Nat), .int .i64 0, .string nt, .pointer (some ⟨b, 0, none⟩), .map (some wr.heap.size), .map (some (wr.heap.size + 1))] 101)) := HWA.out
            have b1' : wr.cell? ⟨bb, 1, none⟩ = some (.int .i64 0) := b1
            clear b1 HWA
            have a1 : (((wr.alloc (.map #[] 0)).alloc (.map #[] 0)).alloc (.cells #[.int .i64 (g0 : Nat), .int .i64 0, .string nt, .pointer (some ⟨b, 0, none⟩), .map (some wr.heap.size), .map (some (wr.heap.size + 1))] 101)).cell? ⟨bb, 1, none⟩ = some (.int .i64 0) := by rw [← HWA2.out]; exact cell_at HA.out.2.1 1
            have HT9 : Hid (StAt wa ⟨wr.heap.size + 1 + 1, b, bk, bd, wr.heap.size, wr.heap.size + 1, []⟩ (openS (g0, 0, nt)) D ∧ Chg [b, bk, bd] w wa) := ⟨HA.out.2.2.1, Chg.of_below HA.out.1⟩
            have HOV : Hid (Blk.Over w b bk bd ⟨wr.heap.size + 1 + 1, b, bk, bd, wr.heap.size, wr.heap.size + 1, []⟩) := HA.out.2.2.2
            have HK9 : Hid ((openS (g0, 0, nt)).kept = fun _ => false) := rfl
            have hsz : wa.heap.size = wr.heap.size + 1 + 1 + 1 := by rw [HWA2.out]; simp
            obtain ⟨mm, hm⟩ := HT9.out.1.cells
            obtain ⟨es, clock, hbd, hst, hes1, hes2⟩ := hm.is
            have heq := hm.eq
            have HES : Hid (∀ seen : Array Nat, (∀ x ∈ es.toList, seen.contains x.born = true) → seenKey es seen = (openS (g0, 0, nt)).has) := fun seen hall => seenKey_all (w := wa) (B := (⟨wr.heap.size + 1 + 1, b, bk, bd, wr.heap.size, wr.heap.size + 1, []⟩ : Blk)) heq hes1 hes2 hall
            have HE1 : Hid (∀ x ∈ es.toList, ∃ k v, x.key = .int .i64 k ∧ x.val = celV v) := fun x hx => by
              obtain ⟨k, v, q1, q2, _⟩ := hes1 x hx
              exact ⟨k, v, q1, q2⟩
            have HS : Hid (Stamped es clock) := hst
            have hrange := run_range_map (P := Tryz.prog) wa 98 3 123 wr.heap.size es clock Tryz.underlying98 hbd
            have hblt := heap_lt hbd
            have HB : Hid (wa.heap[wr.heap.size]? = some (.map es clock)) := hbd
            have c4 : wa.cell? ⟨wr.heap.size + 1 + 1, 4, none⟩ = some (.map (some wr.heap.size)) := HT9.out.1.cell.2.2.2.2.1
            have hlt9 := HT9.out.1.lt
            have HNIT : Hid (wa.heap.size ∉ (⟨wr.heap.size + 1 + 1, b, bk, bd, wr.heap.size, wr.heap.size + 1, []⟩ : Blk).all) := fun hmm => by have := hlt9 _ hmm; omega
            have HZ : Hid (w.heap.size ≤ wa.heap.size) := HT9.out.2.size
            clear hm hst hes1 hes2 heq hbd hlt9
            rw [HWA2.out] at hrange c4
            go_wp2_with fail
            clear hrange c4
            rw [← HWA2.out, ← hsz]
            clear hsz a1 b0 b1' b2 HWA2 HT HA
            generalize wr.heap.size = n0 at HT9 HOV HB HNIT hblt ⊢
            go_loopg [] (leftOf es #[]).size (fun g wr => ∃ (seen : Array Nat) (c0 : Nat), Hid (g = (leftOf es seen).size) ∧ Hid (wr.heap[wa.heap.size]? = some (.mapIter (some n0) clock seen c0) ∧ clock ≤ c0 ∧ wr.heap[n0]? = some (.map es clock)) ∧ Hid (StAt wr (⟨n0 + 1 + 1, b, bk, bd, n0, n0 + 1, []⟩ : Blk) { (openS (g0, 0, nt)) with kept := seenKey es seen } D ∧ Chg [b, bk, bd] w wr))
            case atStart =>
              refine ⟨#[], clock, rfl, ⟨heap_alloc_last _ _, Nat.le_refl _, (heap_alloc_other _ hblt).trans HB.out⟩, ?_, HT9.out.2.alloc _⟩
              have hs9 := HT9.out.1.on ((Below.refl _ _).alloc (Nat.le_refl _) (.mapIter (some n0) clock #[] clock))
              have e9 : ({ (openS (g0, 0, nt)) with kept := seenKey es #[] } : StS) = (openS (g0, 0, nt)) := by rw [seenKey_none, ← HK9.out]
              rw [e9]
              exact hs9
            case round =>
              obtain ⟨seen, c0, hg, hwr, ht⟩ := hrel
              obtain ⟨hit, hc0, hbd⟩ := hwr.out
              rcases run_next_at (P := Tryz.prog) wr 0 wa.heap.size n0 clock c0 seen es clock hit hbd HS.out.1 hc0 with ⟨hz9, hrun⟩ | ⟨e, he, w1, hw1, hrun⟩
              · have hnx : ∀ ty, (Instr.next (.pointer (some ⟨wa.heap.size, 0, none⟩)) false ty).run Tryz.prog wr = .ok (.tuple #[.bool false]) wr := fun ty => hrun
                have hall := HES.out seen (all_seen es seen hz9)
                rw [hall] at ht
                clear hrun hit hc0 hbd hz9 hall
                go_wp2
                go_ret2
                rw [HR9.out]
                exact ⟨_, HOV.out, rfl, ht.out.1, ht.out.2⟩
              · obtain ⟨hees, hsn⟩ := mem_left he
                obtain ⟨k, v, q1, q2⟩ := HE1.out e hees
                have hr1 : w1.heap = wr.heap := by rcases hw1 with rfl | rfl <;> rfl
                have t1 : Chg [wa.heap.size] wr (ChangeMaps.setBlock w1 wa.heap.size (.mapIter (some n0) clock (seen.push e.born) clock)) := by
                  have a1 : Chg [wa.heap.size] w1 (ChangeMaps.setBlock w1 wa.heap.size (.mapIter (some n0) clock (seen.push e.born) clock)) := Chg.setBlock _ _
                  rcases hw1 with rfl | rfl
                  · exact a1
                  · exact ((Chg.refl _ _).drew).trans a1
                obtain ⟨w2, hw2⟩ : ∃ w2, w2 = ChangeMaps.setBlock w1 wa.heap.size (.mapIter (some n0) clock (seen.push e.born) clock) := ⟨_, rfl⟩
                have hit2 : w2.heap[wa.heap.size]? = some (.mapIter (some n0) clock (seen.push e.born) clock) := by
                  rw [hw2]
                  exact (MapKept.heap_set (w := w1) (o' := .mapIter (some n0) clock (seen.push e.born) clock) (by rw [hr1]; exact hit)).1
                rw [← hw2] at hrun t1
                clear hw2
                have hncell : ∀ o, wr.cell? ⟨wa.heap.size, o, none⟩ = none := fun o => by simp [World.cell?, hit]
                have hnn : n0 ≠ wa.heap.size := fun e => by have := heap_lt HB.out; omega
                have hbd2 : w2.heap[n0]? = some (.map es clock) := (t1.block n0 (heap_lt hbd) (by simpa using hnn)).trans hbd
                have hent := run_entry_at (P := Tryz.prog) w2 wa.heap.size n0 clock seen es clock e hit2 hbd2 hees HS.out.2.1
                rw [q1, q2] at hrun hent
                have hnx : ∀ ty, (Instr.next (.pointer (some ⟨wa.heap.size, 0, none⟩)) false ty).run Tryz.prog wr = .ok (.tuple #[.bool true, .int .i64 k, celV v]) w2 := fun ty => hrun
                have hs2 := ht.out.1.off2 hncell HNIT.out t1
                obtain ⟨w3, hput, hm3, hc3⟩ := IsI.put hs2.kept (P := Tryz.prog) Tryz.underlying99 Tryz.underlying3 k ()
                have hpush := seenKey_push (seen := seen) hees (born_nodup HS.out) q1
                have hm4 : IsI keptV w3 (n0 + 1) (fun j => if seenKey es (seen.push e.born) j = true then some () else none) := by
                  refine hm3.congr (fun j => ?_)
                  rw [hpush]
                  by_cases hj : j = k
                  · subst hj; rw [upd_same]; simp
                  · rw [upd_other _ _ _ hj]; simp [hj]
                have hs3 : StAt w3 (⟨n0 + 1 + 1, b, bk, bd, n0, n0 + 1, []⟩ : Blk) { (openS (g0, 0, nt)) with kept := seenKey es (seen.push e.born) } D := hs2.setKept hc3 hm4
                have hnd9 := hs2.nd
                have hcp : n0 ≠ n0 + 1 := by omega
                have hip : wa.heap.size ∉ [n0 + 1] := fun hmm => HNIT.out (by simp at hmm; rw [hmm]; simp [Blk.all])
                have H3 : Hid (w3.heap[wa.heap.size]? = some (.mapIter (some n0) clock (seen.push e.born) clock) ∧ clock ≤ clock ∧ w3.heap[n0]? = some (.map es clock)) := ⟨(hc3.block _ (heap_lt hit2) hip).trans hit2, Nat.le_refl _, (hc3.block _ (heap_lt hbd2) (by simp)).trans hbd2⟩
                have hpge : w.heap.size ≤ n0 + 1 := HOV.out.p
                have H4 : Hid (StAt w3 (⟨n0 + 1 + 1, b, bk, bd, n0, n0 + 1, []⟩ : Blk) { (openS (g0, 0, nt)) with kept := seenKey es (seen.push e.born) } D ∧ Chg [b, bk, bd] w w3) := ⟨hs3, (ht.out.2.trans' t1 (fun x hx => .inr (by simp at hx; rw [hx]; exact HZ.out))).trans' hc3 (fun x hx => .inr (by simp at hx; rw [hx]; exact hpge))⟩
                have c5 : w2.cell? ⟨n0 + 1 + 1, 5, none⟩ = some (.map (some (n0 + 1))) := hs2.cell.2.2.2.2.2.1
                have HEE : Hid (e ∈ (leftOf es seen).toList) := he
                clear hrun hit hc0 hbd he hees hsn q1 q2 hr1 hw1 hit2 hbd2 t1 hncell hnn hs2 hm3 hpush hm4 hs3 hnd9 hc3 hip ht hwr
                go_wp2_with fail
                go_roundg (leftOf es (seen.push e.born)).size
                case measure =>
                  rw [hg.out]
                  exact left_shrinks es seen e HEE.out
                case rel => exact ⟨seen.push e.born, clock, rfl, H3.out, H4.out⟩
          · have hrb : (((r0 : Nat) : Int) != 0) = true := by simp; omega
            have HR4 : Hid (R = match reachF D D.n.toNat (openS (g0, r0, nt)) (fun _ => false) r0 with | .error e => .error e | .ok (_, S) => .ok (S.hold r0 1).keepAll) := by rw [HR3.out, if_neg hr0]; exact rfl
            have hroot : 2 ≤ ((r0 : Nat) : Int) ∧ ((r0 : Nat) : Int) < D.n := by rcases hin.2.2.1 with h0 | h0; exact absurd h0 hr0; exact h0
            have a1 : (((wr.alloc (.map #[] 0)).alloc (.map #[] 0)).alloc (.cells #[.int .i64 (g0 : Nat), .int .i64 (r0 : Nat), .string nt, .pointer (some ⟨b, 0, none⟩), .map (some wr.heap.size), .map (some (wr.heap.size + 1))] 101)).cell? ⟨bb, 1, none⟩ = some (.int .i64 (r0 : Nat)) := by rw [← HWA.out]; exact cell_at HA.out.2.1 1
            have hsz : wa.heap.size = wr.heap.size + 1 + 1 + 1 := by rw [HWA.out]; simp
            have hbw : bb < wr.heap.size := heap_lt HT.out.2
            clear HR3 hin
            go_wp2_with fail
            rw [← HWA.out, ← hsz]
            clear a1 b0 b1 b2 HWA HIN hrb
            obtain ⟨n, hnn⟩ : ∃ n, n = D.n.toNat := ⟨_, rfl⟩
            have hD : D.n = (n : Int) := by omega
            rw [← hnn] at HR4
            have hg : wa.heap.size ∉ (⟨wr.heap.size + 1 + 1, b, bk, bd, wr.heap.size, wr.heap.size + 1, []⟩ : Blk).all := fun hm => by have := HA.out.2.2.1.lt _ hm; omega
            have hbl : Below wa.heap.size wa (wa.alloc (.map #[] 0)) := (Below.refl _ _).alloc (Nat.le_refl _) _
            have habove : AboveAt (wa.alloc (.map #[] 0)) wa.heap.size (fun _ => false) := (IsI.made (enc := keptV) wa).congr (fun i => by simp)
            have hcall := reach_any D ⟨wr.heap.size + 1 + 1, b, bk, bd, wr.heap.size, wr.heap.size + 1, []⟩ wa.heap.size n hD (by omega) hg n (wa.alloc (.map #[] 0)) (openS (g0, r0, nt)) (fun _ => false) [] r0 (HA.out.2.2.1.on hbl) habove (none_wf _ _) (unk_le _ _) (by simp; omega) ⟨hroot.1, by omega⟩
            have HC : Hid (Below w.heap.size w (wa.alloc (.map #[] 0)) ∧ BestAt (wa.alloc (.map #[] 0)) bb (some (g0, r0, nt)) ∧ Blk.Over w b bk bd ⟨wr.heap.size + 1 + 1, b, bk, bd, wr.heap.size, wr.heap.size + 1, []⟩ ∧ (∀ x ∈ wa.heap.size :: (⟨wr.heap.size + 1 + 1, b, bk, bd, wr.heap.size, wr.heap.size + 1, []⟩ : Blk).all, (x ∈ [b, bk, bd] ∨ w.heap.size ≤ x) ∧ x ≠ bb)) := by
              refine ⟨HA.out.1.alloc HA.out.1.size _, HA.out.2.1.on hbl, HA.out.2.2.2, fun x hx => ?_⟩
              have hbb := HBB.out
              have hz1 := HA.out.1.size
              have hdb : b < w.heap.size := heap_lt H.out.1.heap
              have hdk : bk < w.heap.size := H.out.1.kept.lt
              have hdy : bd < w.heap.size := H.out.1.dirty.lt
              rcases List.mem_cons.1 hx with rfl | hx
              · exact ⟨.inr hz1, by omega⟩
              · refine ⟨HA.out.2.2.2.dev_mem x hx, ?_⟩
                simp only [Blk.all, List.mem_cons, List.mem_nil_iff, or_false] at hx
                omega
            generalize wa.alloc (.map #[] 0) = wb at hcall HC habove ⊢
            clear hbl habove
            cases hk : reachF D n (openS (g0, r0, nt)) (fun _ => false) r0 with
            | error x =>
              rw [hk] at hcall
              have HR5 : Hid (R = .error x) := by rw [HR4.out, hk]; exact rfl
              have hx := reach_err n (openS (g0, r0, nt)) (fun _ => false) r0 x hk
              have hb : (x != 0) = true := by simp [hx]
              refine hcall.mono ?_
              rintro e wc ⟨rfl, ⟨S', hs'⟩, hc⟩
              have H5 : Hid (At wc b bk bd D ∧ D.small ∧ Chg [b, bk, bd] w wc) := ⟨hs'.dev, hs'.small, (Chg.of_below HC.out.1).trans' hc (fun x hx => (HC.out.2.2.2 x hx).1)⟩
              clear hs' hc hcall HC HR4 hk hx HT HA hD hnn
              go_wp2
              go_ret2
              rw [HR5.out]
              exact ⟨rfl, H5.out⟩
            | ok p =>
              obtain ⟨h, S1⟩ := p
              rw [hk] at hcall
              have HR9 : Hid (R = .ok (S1.hold r0 1).keepAll) := by rw [HR4.out, hk]; exact rfl
              have hre := reach_ok hD (by omega) n (openS (g0, r0, nt)) (fun _ => false) r0 [] h S1 (none_wf _ _) (by simp; omega) ⟨hroot.1, by omega⟩ hk
              have HK9 : Hid ((S1.hold r0 1).kept = fun _ => false) := hre.grow.kept
              have hhold : Hid (-9223372036854775808 ≤ (S1.cel r0).held + 1 ∧ (S1.cel r0).held + 1 ≤ 9223372036854775807) := by
                obtain ⟨ck, hck⟩ := has_iff.1 hre.has
                rw [cel_some hck]
                have := hre.wf.held _ ck hck
                exact ⟨by omega, by omega⟩
              refine hcall.mono ?_
              rintro e wc ⟨rfl, hs1, hg1, hc⟩
              have H5 : Hid (StAt wc ⟨wr.heap.size + 1 + 1, b, bk, bd, wr.heap.size, wr.heap.size + 1, []⟩ S1 D ∧ Chg [b, bk, bd] w wc) := ⟨hs1, (Chg.of_below HC.out.1).trans' hc (fun x hx => (HC.out.2.2.2 x hx).1)⟩
              have hbest : BestAt wc bb (some (g0, r0, nt)) := (hc.block _ (heap_lt HC.out.2.1) (fun hm => (HC.out.2.2.2 bb hm).2 rfl)).trans HC.out.2.1
              have b1 : wc.cell? ⟨bb, 1, none⟩ = some (.int .i64 (r0 : Nat)) := cell_at hbest 1
              have HOV : Hid (Blk.Over w b bk bd ⟨wr.heap.size + 1 + 1, b, bk, bd, wr.heap.size, wr.heap.size + 1, []⟩) := HC.out.2.2.1
              clear hs1 hg1 hc hcall hbest HC HR4 hk hre HT HA hg hsz hbw hD hnn
              generalize wr.heap.size = n0 at H5 HOV ⊢
              go_wp2_with fail
              refine (hold_any wc ⟨n0 + 1 + 1, b, bk, bd, n0, n0 + 1, []⟩ S1 D r0 1 H5.out.1 hhold.out).mono ?_
              rintro e wd ⟨rfl, hs6, hc6⟩
              have HT9 : Hid (StAt wd ⟨n0 + 1 + 1, b, bk, bd, n0, n0 + 1, []⟩ (S1.hold r0 1) D ∧ Chg [b, bk, bd] w wd) := ⟨hs6, H5.out.2.trans' hc6 (fun x hx => HOV.out.dev_mem x hx)⟩
              clear hs6 hc6 H5 hhold b1
              obtain ⟨mm, hm⟩ := HT9.out.1.cells
              obtain ⟨es, clock, hbd, hst, hes1, hes2⟩ := hm.is
              have heq := hm.eq
              have HES : Hid (∀ seen : Array Nat, (∀ x ∈ es.toList, seen.contains x.born = true) → seenKey es seen = (S1.hold r0 1).has) := fun seen hall => seenKey_all (w := wd) (B := (⟨n0 + 1 + 1, b, bk, bd, n0, n0 + 1, []⟩ : Blk)) heq hes1 hes2 hall
              have HE1 : Hid (∀ x ∈ es.toList, ∃ k v, x.key = .int .i64 k ∧ x.val = celV v) := fun x hx => by
                obtain ⟨k, v, q1, q2, _⟩ := hes1 x hx
                exact ⟨k, v, q1, q2⟩
              have HS : Hid (Stamped es clock) := hst
              have hrange := run_range_map (P := Tryz.prog) wd 98 3 123 n0 es clock Tryz.underlying98 hbd
              have hblt := heap_lt hbd
              have HB : Hid (wd.heap[n0]? = some (.map es clock)) := hbd
              have c4 : wd.cell? ⟨n0 + 1 + 1, 4, none⟩ = some (.map (some n0)) := HT9.out.1.cell.2.2.2.2.1
              have hlt9 := HT9.out.1.lt
              have HNIT : Hid (wd.heap.size ∉ (⟨n0 + 1 + 1, b, bk, bd, n0, n0 + 1, []⟩ : Blk).all) := fun hmm => by have := hlt9 _ hmm; omega
              have HZ : Hid (w.heap.size ≤ wd.heap.size) := HT9.out.2.size
              clear hm hst hes1 hes2 heq hbd hlt9
              go_wp2_with fail
              clear hrange c4
              go_loopg [] (leftOf es #[]).size (fun g wr => ∃ (seen : Array Nat) (c0 : Nat), Hid (g = (leftOf es seen).size) ∧ Hid (wr.heap[wd.heap.size]? = some (.mapIter (some n0) clock seen c0) ∧ clock ≤ c0 ∧ wr.heap[n0]? = some (.map es clock)) ∧ Hid (StAt wr (⟨n0 + 1 + 1, b, bk, bd, n0, n0 + 1, []⟩ : Blk) { (S1.hold r0 1) with kept := seenKey es seen } D ∧ Chg [b, bk, bd] w wr))
              case atStart =>
                refine ⟨#[], clock, rfl, ⟨heap_alloc_last _ _, Nat.le_refl _, (heap_alloc_other _ hblt).trans HB.out⟩, ?_, HT9.out.2.alloc _⟩
                have hs9 := HT9.out.1.on ((Below.refl _ _).alloc (Nat.le_refl _) (.mapIter (some n0) clock #[] clock))
                have e9 : ({ (S1.hold r0 1) with kept := seenKey es #[] } : StS) = (S1.hold r0 1) := by rw [seenKey_none, ← HK9.out]
                rw [e9]
                exact hs9
              case round =>
                obtain ⟨seen, c0, hg, hwr, ht⟩ := hrel
                obtain ⟨hit, hc0, hbd⟩ := hwr.out
                rcases run_next_at (P := Tryz.prog) wr 0 wd.heap.size n0 clock c0 seen es clock hit hbd HS.out.1 hc0 with ⟨hz9, hrun⟩ | ⟨e, he, w1, hw1, hrun⟩
                · have hnx : ∀ ty, (Instr.next (.pointer (some ⟨wd.heap.size, 0, none⟩)) false ty).run Tryz.prog wr = .ok (.tuple #[.bool false]) wr := fun ty => hrun
                  have hall := HES.out seen (all_seen es seen hz9)
                  rw [hall] at ht
                  clear hrun hit hc0 hbd hz9 hall
                  go_wp2
                  go_ret2
                  rw [HR9.out]
                  exact ⟨_, HOV.out, rfl, ht.out.1, ht.out.2⟩
                · obtain ⟨hees, hsn⟩ := mem_left he
                  obtain ⟨k, v, q1, q2⟩ := HE1.out e hees
                  have hr1 : w1.heap = wr.heap := by rcases hw1 with rfl | rfl <;> rfl
                  have t1 : Chg [wd.heap.size] wr (ChangeMaps.setBlock w1 wd.heap.size (.mapIter (some n0) clock (seen.push e.born) clock)) := by
                    have a1 : Chg [wd.heap.size] w1 (ChangeMaps.setBlock w1 wd.heap.size (.mapIter (some n0) clock (seen.push e.born) clock)) := Chg.setBlock _ _
                    rcases hw1 with rfl | rfl
                    · exact a1
                    · exact ((Chg.refl _ _).drew).trans a1
                  obtain ⟨w2, hw2⟩ : ∃ w2, w2 = ChangeMaps.setBlock w1 wd.heap.size (.mapIter (some n0) clock (seen.push e.born) clock) := ⟨_, rfl⟩
                  have hit2 : w2.heap[wd.heap.size]? = some (.mapIter (some n0) clock (seen.push e.born) clock) := by
                    rw [hw2]
                    exact (MapKept.heap_set (w := w1) (o' := .mapIter (some n0) clock (seen.push e.born) clock) (by rw [hr1]; exact hit)).1
                  rw [← hw2] at hrun t1
                  clear hw2
                  have hncell : ∀ o, wr.cell? ⟨wd.heap.size, o, none⟩ = none := fun o => by simp [World.cell?, hit]
                  have hnn : n0 ≠ wd.heap.size := fun e => by have := heap_lt HB.out; omega
                  have hbd2 : w2.heap[n0]? = some (.map es clock) := (t1.block n0 (heap_lt hbd) (by simpa using hnn)).trans hbd
                  have hent := run_entry_at (P := Tryz.prog) w2 wd.heap.size n0 clock seen es clock e hit2 hbd2 hees HS.out.2.1
                  rw [q1, q2] at hrun hent
                  have hnx : ∀ ty, (Instr.next (.pointer (some ⟨wd.heap.size, 0, none⟩)) false ty).run Tryz.prog wr = .ok (.tuple #[.bool true, .int .i64 k, celV v]) w2 := fun ty => hrun
                  have hs2 := ht.out.1.off2 hncell HNIT.out t1
                  obtain ⟨w3, hput, hm3, hc3⟩ := IsI.put hs2.kept (P := Tryz.prog) Tryz.underlying99 Tryz.underlying3 k ()
                  have hpush := seenKey_push (seen := seen) hees (born_nodup HS.out) q1
                  have hm4 : IsI keptV w3 (n0 + 1) (fun j => if seenKey es (seen.push e.born) j = true then some () else none) := by
                    refine hm3.congr (fun j => ?_)
                    rw [hpush]
                    by_cases hj : j = k
                    · subst hj; rw [upd_same]; simp
                    · rw [upd_other _ _ _ hj]; simp [hj]
                  have hs3 : StAt w3 (⟨n0 + 1 + 1, b, bk, bd, n0, n0 + 1, []⟩ : Blk) { (S1.hold r0 1) with kept := seenKey es (seen.push e.born) } D := hs2.setKept hc3 hm4
                  have hnd9 := hs2.nd
                  have hcp : n0 ≠ n0 + 1 := by omega
                  have hip : wd.heap.size ∉ [n0 + 1] := fun hmm => HNIT.out (by simp at hmm; rw [hmm]; simp [Blk.all])
                  have H3 : Hid (w3.heap[wd.heap.size]? = some (.mapIter (some n0) clock (seen.push e.born) clock) ∧ clock ≤ clock ∧ w3.heap[n0]? = some (.map es clock)) := ⟨(hc3.block _ (heap_lt hit2) hip).trans hit2, Nat.le_refl _, (hc3.block _ (heap_lt hbd2) (by simp)).trans hbd2⟩
                  have hpge : w.heap.size ≤ n0 + 1 := HOV.out.p
                  have H4 : Hid (StAt w3 (⟨n0 + 1 + 1, b, bk, bd, n0, n0 + 1, []⟩ : Blk) { (S1.hold r0 1) with kept := seenKey es (seen.push e.born) } D ∧ Chg [b, bk, bd] w w3) := ⟨hs3, (ht.out.2.trans' t1 (fun x hx => .inr (by simp at hx; rw [hx]; exact HZ.out))).trans' hc3 (fun x hx => .inr (by simp at hx; rw [hx]; exact hpge))⟩
                  have c5 : w2.cell? ⟨n0 + 1 + 1, 5, none⟩ = some (.map (some (n0 + 1))) := hs2.cell.2.2.2.2.2.1
                  have HEE : Hid (e ∈ (leftOf es seen).toList) := he
                  clear hrun hit hc0 hbd he hees hsn q1 q2 hr1 hw1 hit2 hbd2 t1 hncell hnn hs2 hm3 hpush hm4 hs3 hnd9 hc3 hip ht hwr
                  go_wp2_with fail
                  go_roundg (leftOf es (seen.push e.born)).size
                  case measure =>
                    rw [hg.out]
                    exact left_shrinks es seen e HEE.out
                  case rel => exact ⟨seen.push e.born, clock, rfl, H3.out, H4.out⟩
end Go.Proofs.YtanpkghdgdkdlaaGreat.Sto
