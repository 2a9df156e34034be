/- What the functions of layer 5's program compute, each against the plain one of XDevPure. -/
import Derived.Test.YtadmecjdihfmeaaGreatProg
import Derived.Test.YtadmecjdihfmeaaGreatDevPure
import Derived.Deep.QuietTactic
import Derived.Deep.LoopGhost
import Derived.Deep.RegionWith
import Derived.Deep.RegionHeld3
namespace Go.Proofs.YtadmecjdihfmeaaGreat.Dev
set_option linter.unusedVariables false
set_option linter.unusedSimpArgs false
set_option maxRecDepth 100000
open Go.RowKit Go.Proofs.YtadmecjdihfmeaaGreat.Mem

/-- A device in memory: its own block, and its two maps. -/
structure At (w : World) (b bk bd : Nat) (S : DevS) : Prop where
  heap : w.heap[b]? = some (.cells (S.cells bk bd) 121 (0, 0))
  ok : S.ok
  kept : IsI Value.string w bk S.kept
  dirty : IsI Value.string w bd S.dirty
  ne : bk ≠ bd
  din : ∀ i, S.dirty i ≠ none → 0 ≤ i ∧ i < S.n
section
variable {w w' : World} {b bk bd : Nat} {S S' : DevS}
theorem At.cells (h : At w b bk bd S) : w.cell? ⟨b, 0, none⟩ = some (.int .i64 S.left) ∧ w.cell? ⟨b, 1, none⟩ = some (.bool S.burns) ∧ w.cell? ⟨b, 2, none⟩ = some (.bool S.off) ∧
    w.cell? ⟨b, 3, none⟩ = some (.int .i64 S.n) ∧ w.cell? ⟨b, 4, none⟩ = some (.map (some bk)) ∧ w.cell? ⟨b, 5, none⟩ = some (.map (some bd)) ∧ ∀ j, w.frozen? ⟨b, j, none⟩ = false :=
  ⟨cell_at h.heap 0, cell_at h.heap 1, cell_at h.heap 2, cell_at h.heap 3, cell_at h.heap 4, cell_at h.heap 5, fun j => frozen_at h.heap j⟩
theorem At.bk_ne (h : At w b bk bd S) : b ≠ bk := h.kept.ne_cells h.heap
theorem At.bd_ne (h : At w b bk bd S) : b ≠ bd := h.dirty.ne_cells h.heap
theorem At.store (h : At w b bk bd S) (j : Nat) (v : Value) (hj : (S.cells bk bd).setIfInBounds j v = S'.cells bk bd) (hk : S'.kept = S.kept) (hd : S'.dirty = S.dirty) (ho : S'.ok) (hn : S'.n = S.n := by rfl) : At (w.setCell ⟨b, j, none⟩ v) b bk bd S' :=
  ⟨by rw [heap_set_at h.heap, hj], ho, by rw [hk]; exact h.kept.setCell _ _ (Ne.symm h.bk_ne), by rw [hd]; exact h.dirty.setCell _ _ (Ne.symm h.bd_ne), h.ne, by rw [hd, hn]; exact h.din⟩
theorem At.of_heap (h : At w b bk bd S) (he : w'.heap = w.heap) : At w' b bk bd S :=
  ⟨by rw [he]; exact h.heap, h.ok, h.kept.of_heap (by rw [he]), h.dirty.of_heap (by rw [he]), h.ne, h.din⟩
theorem At.with_dirty (h : At w b bk bd S) {d : Int → Option ByteArray} (ht : Chg [bd] w w') (hm : IsI Value.string w' bd d) (hd : ∀ i, d i ≠ none → 0 ≤ i ∧ i < S.n) : At w' b bk bd { S with dirty := d } :=
  ⟨(ht.block b (heap_lt h.heap) (by simpa using h.bd_ne)).trans h.heap, h.ok, h.kept.touch ht (by simpa using h.ne), hm, h.ne, hd⟩
theorem At.with_kept (h : At w b bk bd S) {d : Int → Option ByteArray} (ht : Chg [bk] w w') (hm : IsI Value.string w' bk d) : At w' b bk bd { S with kept := d } :=
  ⟨(ht.block b (heap_lt h.heap) (by simpa using h.bk_ne)).trans h.heap, h.ok, hm, h.dirty.touch ht (by simpa using h.ne.symm), h.ne, h.din⟩
theorem At.of_touch {T : List Nat} (h : At w b bk bd S) (ht : Chg T w w') (h1 : b ∉ T) (h2 : bk ∉ T) (h3 : bd ∉ T) : At w' b bk bd S :=
  ⟨(ht.block b (heap_lt h.heap) h1).trans h.heap, h.ok, h.kept.touch ht h2, h.dirty.touch ht h3, h.ne, h.din⟩
theorem At.of_below {B : Nat} (h : At w b bk bd S) (ht : Below B w w') (h1 : b < B) (h2 : bk < B) (h3 : bd < B) : At w' b bk bd S :=
  ⟨(ht.block b h1).trans h.heap, h.ok, h.kept.of_heap (ht.block bk h2), h.dirty.of_heap (ht.block bd h3), h.ne, h.din⟩
end

theorem able_any (w : World) (b bk bd : Nat) (S : DevS) (h : At w b bk bd S) :
    Calls Tryz.prog 83 #[.pointer (some ⟨b, 0, none⟩)] w fun e w' => e = .returned (.int .i64 (if S.off then 5 else 0)) ∧ w = w' := by
  obtain ⟨c0, c1, c2, c3, c4, c5, cf⟩ := h.cells
  obtain ⟨ho1, ho2, ho3, ho4⟩ := h.ok
  cases hoff : S.off
  all_goals
    rw [hoff] at c2
    go_enter Tryz.func83, Tryz.ntmps83
    go_wp2
    go_ret
    exact ⟨rfl, rfl⟩

set_option maxHeartbeats 400000 in
theorem spend_any (w : World) (b bk bd : Nat) (S : DevS) (h : At w b bk bd S) :
    Calls Tryz.prog 84 #[.pointer (some ⟨b, 0, none⟩)] w fun e w' => e = .returned (.bool S.spent) ∧ At w' b bk bd S.spend ∧ Chg [b] w w' := by
  obtain ⟨c0, c1, c2, c3, c4, c5, cf⟩ := h.cells
  obtain ⟨ho1, ho2, ho3, ho4⟩ := h.ok
  have H : Hid (At w b bk bd S) := h
  clear h
  cases hoff : S.off
  · cases hburns : S.burns
    · rw [hoff] at c2; rw [hburns] at c1
      go_enter Tryz.func84, Tryz.ntmps84
      go_wp2
      go_ret
      refine ⟨?_, ?_, Chg.refl _ _⟩
      · simp [DevS.spent, hoff, hburns]
      · simp [DevS.spend, hoff, hburns]; exact H.out
    · by_cases hl : S.left = 0
      · rw [hoff] at c2; rw [hburns] at c1; rw [hl] at c0
        go_enter Tryz.func84, Tryz.ntmps84
        go_wp2
        go_ret
        refine ⟨?_, ?_, (Chg.refl _ _).setCell _ _ (.inl (by simp))⟩
        · simp [DevS.spent, hoff, hburns, hl]
        · have e : S.spend = { S with off := true } := by simp [DevS.spend, hoff, hburns, hl]
          rw [e]
          exact H.out.store 2 (.bool true) rfl rfl rfl ⟨ho1, ho2, ho3, ho4⟩
      · rw [hoff] at c2; rw [hburns] at c1
        have hl' : (S.left == 0) = false := by simpa using hl
        have hl1 : 1 ≤ S.left := by omega
        go_enter Tryz.func84, Tryz.ntmps84
        go_wp2
        go_ret
        refine ⟨?_, ?_, (Chg.refl _ _).setCell _ _ (.inl (by simp))⟩
        · simp [DevS.spent, hoff, hburns, hl]
        · have e : S.spend = { S with left := S.left - 1 } := by simp [DevS.spend, hoff, hburns, hl]
          rw [e]
          exact H.out.store 0 (.int .i64 (S.left - 1)) rfl rfl rfl ⟨by show 0 ≤ S.left - 1; omega, by show S.left - 1 ≤ _; omega, ho3, ho4⟩
  · rw [hoff] at c2
    go_enter Tryz.func84, Tryz.ntmps84
    go_wp2
    go_ret
    refine ⟨?_, ?_, Chg.refl _ _⟩
    · simp [DevS.spent, hoff]
    · simp [DevS.spend, hoff]; exact H.out

/-- Write -/
theorem write_any (w : World) (b bk bd : Nat) (S : DevS) (i : Int) (s : ByteArray) (h : At w b bk bd S) :
    Calls Tryz.prog 61 #[.pointer (some ⟨b, 0, none⟩), .int .i64 i, .string s] w fun e w' => e = .returned (.int .i64 (S.writeE i s)) ∧ At w' b bk bd (S.write i s) ∧ Chg [b, bk, bd] w w' := by
  obtain ⟨c0, c1, c2, c3, c4, c5, cf⟩ := h.cells
  obtain ⟨ho1, ho2, ho3, ho4⟩ := h.ok
  have H : Hid (At w b bk bd S) := h
  clear h
  cases hoff : S.off
  · by_cases hin : (S.inside i && decide (s.size ≤ 4096)) = true
    · have hin' := hin
      simp only [DevS.inside, Bool.and_eq_true, decide_eq_true_eq] at hin'
      obtain ⟨⟨hi0, hi1⟩, hs⟩ := hin'
      go_enter Tryz.func61, Tryz.ntmps61
      go_wp2_with fail
      refine (able_any w b bk bd S H.out).mono ?_
      rintro e w' ⟨rfl, rfl⟩
      rw [hoff]
      go_wp2_with fail
      refine (spend_any w b bk bd S H.out).mono ?_
      rintro e w1 ⟨rfl, h1, t1⟩
      cases hsp : S.spent
      · clear c0 c1 c2 c3 c4 c5 cf
        go_wp2_with fail
        go_ret
        refine ⟨?_, ?_, t1.mono (by simp)⟩
        · simp [DevS.writeE, hoff, hin, hsp]
        · simpa [DevS.write, hoff, hin, hsp] using h1
      · clear c0 c1 c2 c3 c4 c5 cf
        obtain ⟨c0, c1, c2, c3, c4, c5, cf⟩ := h1.cells
        obtain ⟨w2, hrun, hm, t2⟩ := h1.dirty.put (P := Tryz.prog) Tryz.underlying117 Tryz.underlying3 i s
        go_wp2_with fail
        go_ret
        refine ⟨?_, ?_, ?_⟩
        · simp [DevS.writeE, hoff, hin, hsp]
        · have e : S.write i s = { S.spend with dirty := upd S.spend.dirty i (some s) } := by simp [DevS.write, hoff, hin, hsp, DevS.spend_dirty]
          rw [e]
          exact h1.with_dirty t2 hm (fun j hj => by
            by_cases hji : j = i
            · subst hji; rw [DevS.spend_n]; exact ⟨hi0, hi1⟩
            · rw [upd_other _ _ _ hji] at hj; exact h1.din j hj)
        · exact (t1.mono (by simp)).trans (t2.mono (by simp))
    · have hin' : (S.inside i && decide (s.size ≤ 4096)) = false := by simpa using hin
      have e1 : S.writeE i s = 22 := by simp [DevS.writeE, hoff, hin']
      have e2 : S.write i s = S := by simp [DevS.write, hoff, hin']
      rw [e1, e2]
      have hcase : i < 0 ∨ (0 ≤ i ∧ S.n ≤ i) ∨ (0 ≤ i ∧ i < S.n ∧ 4096 < s.size) := by
        simp only [DevS.inside, Bool.and_eq_true, decide_eq_true_eq] at hin
        omega
      clear hin hin' e1 e2
      rcases hcase with hc | hc | hc
      all_goals
        go_enter Tryz.func61, Tryz.ntmps61
        go_wp2_with fail
        refine (able_any w b bk bd S H.out).mono ?_
        rintro e w' ⟨rfl, rfl⟩
        rw [hoff]
        go_wp2_with fail
        go_ret
        exact ⟨rfl, H.out, Chg.refl _ _⟩
  · go_enter Tryz.func61, Tryz.ntmps61
    go_wp2_with fail
    refine (able_any w b bk bd S H.out).mono ?_
    rintro e w' ⟨rfl, rfl⟩
    rw [hoff]
    go_wp2_with fail
    go_ret
    refine ⟨?_, ?_, Chg.refl _ _⟩
    · simp [DevS.writeE, hoff]
    · simpa [DevS.write, hoff] using H.out

theorem next_ty (it : Value) (s : Bool) (ty ty' : TypeId) : Instr.next it s ty = Instr.next it s ty' := rfl
set_option maxHeartbeats 1000000 in
/-- maps.Copy -/
theorem copy_any (w : World) (bk bd : Nat) (mk md : Int → Option ByteArray) (hk : IsI Value.string w bk mk) (hd : IsI Value.string w bd md) (hne : bk ≠ bd) :
    Calls Tryz.prog 88 #[.map (some bk), .map (some bd)] w fun e w' => e = .returned (.tuple #[]) ∧ IsI Value.string w' bk (over md mk) ∧ IsI Value.string w' bd md ∧ Chg [bk] w w' := by
  have HD : Hid (IsI Value.string w bd md) := hd
  have HK : Hid (IsI Value.string w bk mk) := hk
  have hklt := hk.lt
  obtain ⟨es, clock, hb, hst, hes1, hes2⟩ := hd
  have hblt := heap_lt hb
  have hrange := run_range_map (P := Tryz.prog) w 117 3 9 bd es clock Tryz.underlying117 hb
  have HB : Hid _ := hb
  have HS : Hid _ := hst
  have H1 : Hid _ := hes1
  have H2 : Hid _ := hes2
  clear hk hb hst hes1 hes2
  go_enter Tryz.func88, Tryz.ntmps88
  go_wp2
  clear hrange
  go_loopg [] (leftOf es #[]).size (fun g wr => ∃ (seen : Array Nat) (c0 : Nat) (m : Int → Option ByteArray), Hid (g = (leftOf es seen).size) ∧ Hid (wr.heap[w.heap.size]? = some (.mapIter (some bd) clock seen c0) ∧ clock ≤ c0 ∧ wr.heap[bd]? = some (.map es clock)) ∧
    Hid (IsI Value.string wr bk m) ∧ Hid (∀ k, m k = mk k ∨ (md k ≠ none ∧ m k = md k)) ∧ Hid (∀ x ∈ es.toList, seen.contains x.born = true → ∀ k, x.key = .int .i64 k → m k = md k) ∧ Hid (Chg [bk] w wr))
  case atStart =>
    exact ⟨#[], clock, mk, rfl, ⟨heap_alloc_last _ _, Nat.le_refl _, (heap_alloc_other _ hblt).trans HB.out⟩, HK.out.alloc _, fun k => .inl rfl, fun x _ hx => by simp at hx, (Chg.refl _ _).alloc _⟩
  case round =>
    obtain ⟨seen, c0, m, hg, ⟨hit, hc0, hbd⟩, hm, hm1, hm2, ht⟩ := hrel
    rcases run_next_at (P := Tryz.prog) wr 0 w.heap.size bd clock c0 seen es clock hit hbd HS.out.1 hc0 with ⟨hz, hrun⟩ | ⟨e, he, w1, hw1, hrun⟩
    · have hnx : ∀ ty, (Instr.next (.pointer (some ⟨w.heap.size, 0, none⟩)) false ty).run Tryz.prog wr = .ok (.tuple #[.bool false]) wr := fun ty => hrun
      have hall := all_seen es seen hz
      have HA : Hid _ := hall
      clear hrun hit hc0 hbd hz hall
      go_wp2
      go_end0
      refine ⟨rfl, ?_, ?_, ht.out⟩
      · refine hm.out.congr fun k => ?_
        unfold over
        cases hmd : md k with
        | none =>
          rcases hm1.out k with h | ⟨h, _⟩
          · exact h.symm
          · exact absurd hmd h
        | some v =>
          obtain ⟨x, hx, q1, q2⟩ := H2.out k v hmd
          rw [hm2.out x hx (HA.out x hx) k q1, hmd]
      · exact HD.out.touch ht.out (by simpa using hne.symm)
    · obtain ⟨hees, hsn⟩ := mem_left he
      obtain ⟨k, v, q1, q2, q3⟩ := H1.out e hees
      have hr1 : w1.heap = wr.heap := by rcases hw1 with rfl | rfl <;> rfl
      have t1 : Chg [w.heap.size] wr (ChangeMaps.setBlock w1 w.heap.size (.mapIter (some bd) clock (seen.push e.born) clock)) := by
        have a1 : Chg [w.heap.size] w1 (ChangeMaps.setBlock w1 w.heap.size (.mapIter (some bd) clock (seen.push e.born) clock)) := Chg.setBlock _ _
        rcases hw1 with rfl | rfl
        · exact a1
        · exact ((Chg.refl _ _).drew).trans a1
      obtain ⟨w2, hw2⟩ : ∃ w2, w2 = ChangeMaps.setBlock w1 w.heap.size (.mapIter (some bd) clock (seen.push e.born) clock) := ⟨_, rfl⟩
      have hit2 : w2.heap[w.heap.size]? = some (.mapIter (some bd) clock (seen.push e.born) clock) := by
        rw [hw2]
        exact (MapKept.heap_set (w := w1) (o' := .mapIter (some bd) clock (seen.push e.born) clock) (by rw [hr1]; exact hit)).1
      rw [← hw2] at hrun t1
      clear hw2
      have hbd2 : w2.heap[bd]? = some (.map es clock) := (t1.block bd (heap_lt hbd) (by simp; omega)).trans hbd
      have hent := run_entry_at (P := Tryz.prog) w2 w.heap.size bd clock seen es clock e hit2 hbd2 hees HS.out.2.1
      rw [q1, q2] at hrun hent
      have hnx : ∀ ty, (Instr.next (.pointer (some ⟨w.heap.size, 0, none⟩)) false ty).run Tryz.prog wr = .ok (.tuple #[.bool true, .int .i64 k, .string v]) w2 := fun ty => hrun
      have hm' : IsI Value.string w2 bk m := hm.out.touch t1 (by simp; omega)
      obtain ⟨w3, hput, hm3, t3⟩ := hm'.put (P := Tryz.prog) Tryz.underlying117 Tryz.underlying3 k v
      have HR : Hid (w3.heap[w.heap.size]? = some (.mapIter (some bd) clock (seen.push e.born) clock) ∧ clock ≤ clock ∧ w3.heap[bd]? = some (.map es clock)) :=
        ⟨(t3.block _ (heap_lt hit2) (by simp; omega)).trans hit2, Nat.le_refl _, (t3.block _ (heap_lt hbd2) (by simpa using hne.symm)).trans hbd2⟩
      have HE : Hid (e ∈ (leftOf es seen).toList) := he
      have HQ : Hid (e.key = .int .i64 k ∧ md k = some v) := ⟨q1, q3⟩
      have HM3 : Hid _ := hm3
      have HT : Hid (Chg [bk] w w3) := (ht.out.trans' t1 (by simp)).trans t3
      clear hrun hit hc0 hbd he hees hsn q1 q2 q3 hr1 hw1 hit2 hbd2 hm' hm3 t1 t3
      go_wp2
      go_roundg (leftOf es (seen.push e.born)).size
      case measure =>
        rw [hg.out]
        exact left_shrinks es seen e HE.out
      case rel =>
        refine ⟨seen.push e.born, clock, upd m k (some v), rfl, HR.out, HM3.out, ?_, ?_, HT.out⟩
        · intro k'
          by_cases hkk : k' = k
          · subst hkk
            right
            rw [upd_same, HQ.out.2]
            exact ⟨by simp, rfl⟩
          · rw [upd_other _ _ _ hkk]
            exact hm1.out k'
        · intro x hx hs k' hk'
          by_cases hkk : k' = k
          · subst hkk
            rw [upd_same, HQ.out.2]
          · rw [upd_other _ _ _ hkk]
            refine hm2.out x hx ?_ k' hk'
            rw [contains_push] at hs
            simp only [Bool.or_eq_true, beq_iff_eq] at hs
            rcases hs with hs | hs
            · exact hs
            · exfalso
              have hxe : x = e := born_inj HS.out.2.1 hx (mem_left HE.out).1 hs
              rw [hxe, HQ.out.1] at hk'
              injection hk' with _ hk'
              exact hkk hk'.symm

/-- Flush -/
theorem flush_any (w : World) (b bk bd : Nat) (S : DevS) (h : At w b bk bd S) :
    Calls Tryz.prog 65 #[.pointer (some ⟨b, 0, none⟩)] w fun e w' => e = .returned (.int .i64 S.flushE) ∧ At w' b bk bd S.flush ∧ Chg [b, bk, bd] w w' := by
  have H : Hid (At w b bk bd S) := h
  clear h
  go_enter Tryz.func65, Tryz.ntmps65
  go_wp2_with fail
  refine (able_any w b bk bd S H.out).mono ?_
  rintro e w' ⟨rfl, rfl⟩
  cases hoff : S.off
  · go_wp2_with fail
    refine (spend_any w b bk bd S H.out).mono ?_
    rintro e w1 ⟨rfl, h1, t1⟩
    cases hsp : S.spent
    · go_wp2_with fail
      go_ret
      refine ⟨?_, ?_, t1.mono (by simp)⟩
      · simp [DevS.flushE, hsp]
      · simpa [DevS.flush, hsp] using h1
    · obtain ⟨c0, c1, c2, c3, c4, c5, cf⟩ := h1.cells
      have H1 : Hid (At w1 b bk bd S.spend) := h1
      have T1 : Hid (Chg [b] w w1) := t1
      clear h1 t1
      go_wp2_with fail
      go_region_with (go_at_call 88; refine (copy_any w1.drew bk bd S.spend.kept S.spend.dirty H1.out.kept.drew H1.out.dirty.drew H1.out.ne).mono ?_; rintro e w2 ⟨rfl, hk2, hd2, t2⟩)
      all_goals
        have h2 : At w2 b bk bd { S.spend with kept := over S.spend.dirty S.spend.kept } := (At.of_heap (w' := w1.drew) H1.out rfl).with_kept t2 hk2
        have T2 : Hid (Chg [b, bk, bd] w w2) := (T1.out.mono (by simp)).trans ((Chg.refl _ _).drew.trans (t2.mono (by simp)))
        clear c0 c1 c2 c3 c4 c5 cf hk2 hd2 t2
        obtain ⟨c0, c1, c2, c3, c4, c5, cf⟩ := h2.cells
        obtain ⟨w3, hrun, hm, t3⟩ := h2.dirty.wipe (P := Tryz.prog) Tryz.underlying117 0
        have hrun' : ∀ ty, (Builtin.clear_ #[117] ty #[.map (some bd)]).run Tryz.prog w2 = .ok (.tuple #[]) w3 := fun ty => hrun
        have H2 : Hid (At w2 b bk bd { S.spend with kept := over S.spend.dirty S.spend.kept }) := h2
        clear hrun h2
        go_wp2
        go_ret
        refine ⟨?_, ?_, T2.out.trans (t3.mono (by simp))⟩
        · simp [DevS.flushE, hsp]
        · have e : S.flush = { S.spend with kept := over S.spend.dirty S.spend.kept, dirty := fun _ => none } := by simp [DevS.flush, hsp, DevS.spend_dirty, DevS.spend_kept]
          rw [e]
          exact H2.out.with_dirty t3 hm (by simp)
  · go_wp2_with fail
    go_ret
    refine ⟨?_, ?_, Chg.refl _ _⟩
    · simp [DevS.flushE, DevS.spent, hoff]
    · have e : S.flush = S := by simp [DevS.flush, DevS.spent, DevS.spend, hoff]
      rw [e]
      exact H.out

/-- Read -/
theorem read_any (w : World) (b bk bd : Nat) (S : DevS) (i : Int) (h : At w b bk bd S) :
    Calls Tryz.prog 99 #[.pointer (some ⟨b, 0, none⟩), .int .i64 i] w fun e w' => e = .returned (.tuple #[.string (S.read i), .int .i64 (S.readE i)]) ∧ w = w' := by
  obtain ⟨c0, c1, c2, c3, c4, c5, cf⟩ := h.cells
  obtain ⟨ho1, ho2, ho3, ho4⟩ := h.ok
  have hz : (zeroValue 9).run Tryz.prog w = .ok (.string ⟨#[]⟩) w := by kernel_rfl
  have hl1 : (Instr.lookup 117 (.map (some bd)) (.int .i64 i) true).run Tryz.prog w = .ok (.tuple #[.string (text (S.dirty i)), .bool (S.dirty i).isSome]) w := by
    rw [h.dirty.look (P := Tryz.prog) Tryz.underlying117 Tryz.underlying3 hz i]
    cases S.dirty i <;> rfl
  have hl2 : (Instr.lookup 117 (.map (some bk)) (.int .i64 i) false).run Tryz.prog w = .ok (.string (text (S.kept i))) w := by
    rw [h.kept.look1 (P := Tryz.prog) Tryz.underlying117 Tryz.underlying3 hz i]
    cases S.kept i <;> rfl
  have H : Hid (At w b bk bd S) := h
  clear h hz
  cases hoff : S.off
  · by_cases hin : S.inside i = true
    · have hin' := hin
      simp only [DevS.inside, Bool.and_eq_true, decide_eq_true_eq] at hin'
      obtain ⟨hi0, hi1⟩ := hin'
      have e1 : S.readE i = 0 := by simp [DevS.readE, hoff, hin]
      have e2 : S.read i = text (over S.dirty S.kept i) := by simp [DevS.read, hoff, hin]
      rw [e1, e2]
      clear e1 e2
      cases hd : (S.dirty i).isSome
      all_goals
        have e3 : text (over S.dirty S.kept i) = if (S.dirty i).isSome then text (S.dirty i) else text (S.kept i) := by
          unfold over
          cases S.dirty i <;> simp
        rw [e3, hd]
        rw [hd] at hl1
        clear e3 hd
        go_enter Tryz.func99, Tryz.ntmps99
        go_wp2_with fail
        refine (able_any w b bk bd S H.out).mono ?_
        rintro e w' ⟨rfl, rfl⟩
        rw [hoff]
        go_wp2_with fail
        go_ret2
        exact ⟨rfl, rfl⟩
    · have hin' : S.inside i = false := by simpa using hin
      have e1 : S.readE i = 22 := by simp [DevS.readE, hoff, hin']
      have e2 : S.read i = ⟨#[]⟩ := by simp [DevS.read, hoff, hin']
      rw [e1, e2]
      have hcase : i < 0 ∨ (0 ≤ i ∧ S.n ≤ i) := by
        simp only [DevS.inside, Bool.and_eq_true, decide_eq_true_eq] at hin
        omega
      clear hin hin' e1 e2
      rcases hcase with hc | hc
      all_goals
        go_enter Tryz.func99, Tryz.ntmps99
        go_wp2_with fail
        refine (able_any w b bk bd S H.out).mono ?_
        rintro e w' ⟨rfl, rfl⟩
        rw [hoff]
        go_wp2_with fail
        go_ret2
        exact ⟨rfl, rfl⟩
  · have e1 : S.readE i = 5 := by simp [DevS.readE, hoff]
    have e2 : S.read i = ⟨#[]⟩ := by simp [DevS.read, hoff]
    rw [e1, e2]
    go_enter Tryz.func99, Tryz.ntmps99
    go_wp2_with fail
    refine (able_any w b bk bd S H.out).mono ?_
    rintro e w' ⟨rfl, rfl⟩
    rw [hoff]
    go_wp2_with fail
    go_ret2
    exact ⟨rfl, rfl⟩
/-- Size -/
theorem size_any (w : World) (b bk bd : Nat) (S : DevS) (h : At w b bk bd S) :
    Calls Tryz.prog 53 #[.pointer (some ⟨b, 0, none⟩)] w fun e w' => e = .returned (.int .i64 S.n) ∧ w = w' := by
  obtain ⟨c0, c1, c2, c3, c4, c5, cf⟩ := h.cells
  go_enter Tryz.func53, Tryz.ntmps53
  go_wp2
  go_ret
  exact ⟨rfl, rfl⟩
/-- New -/
theorem new_no (w : World) (n : Int) (hn : n < 8 ∨ 4096 < n) :
    Calls Tryz.prog 34 #[.int .i64 n] w fun e w' => e = .returned (.tuple #[.pointer none, .int .i64 22]) ∧ w = w' := by
  rcases hn with hn | hn
  · go_enter Tryz.func34, Tryz.ntmps34
    go_wp2
    go_ret2
    exact ⟨rfl, rfl⟩
  · have hn' : ¬ n < 8 := by omega
    go_enter Tryz.func34, Tryz.ntmps34
    go_wp2
    go_ret2
    exact ⟨rfl, rfl⟩
theorem new_yes (w : World) (n : Int) (hn : 8 ≤ n ∧ n ≤ 4096) :
    Calls Tryz.prog 34 #[.int .i64 n] w fun e w' => ∃ b bk bd, e = .returned (.tuple #[.pointer (some ⟨b, 0, none⟩), .int .i64 0]) ∧ At w' b bk bd (DevS.new n) ∧ Below w.heap.size w w' ∧
      w.heap.size ≤ b ∧ w.heap.size ≤ bk ∧ w.heap.size ≤ bd := by
  have hmm := @run_makeMap Tryz.prog
  obtain ⟨hn1, hn2⟩ := hn
  go_enter Tryz.func34, Tryz.ntmps34
  go_wp2
  go_ret2
  obtain ⟨o, ho⟩ : ∃ o, o = Obj.cells #[.int .i64 0, .bool false, .bool false, .int .i64 n, .map (some w.heap.size), .map (some (w.heap.size + 1))] 121 := ⟨_, rfl⟩
  have hs : ((w.alloc (.map #[] 0)).alloc (.map #[] 0)).heap.size = w.heap.size + 1 + 1 := by simp
  have hs1 : (w.alloc (.map #[] 0)).heap.size = w.heap.size + 1 := by simp
  have hl := heap_alloc_last ((w.alloc (.map #[] 0)).alloc (.map #[] 0)) o
  have hm := IsI.made (enc := Value.string) (w.alloc (.map #[] 0))
  rw [hs] at hl
  rw [hs1] at hm
  rw [← ho]
  refine ⟨w.heap.size + 1 + 1, w.heap.size, w.heap.size + 1, rfl, ⟨by rw [hl, ho]; rfl, DevS.new_ok ⟨hn1, hn2⟩, ((IsI.made w).alloc _).alloc _, hm.alloc _, by omega, by simp [DevS.new]⟩, ((((Below.refl _ _).alloc (Nat.le_refl _) _).alloc (by simp) _).alloc (by simp; omega) _), by omega, by omega, by omega⟩
/-- maps.Clone -/
theorem run_eql_map_nil' {P : Program} (w : World) (t k e : TypeId) (p : Option Nat) (h : P.underlying t = some (.map k e)) :
    (binOp .eql t (.map p) (.map none)).run P w = .ok (.bool p.isNone) w := by
  have h1 : ∀ d, (Op.equalIn (d + 1) t (.map p) (.map none)).run P w = .ok p.isNone w := fun d => by cases p <;> simp [Op.equalIn, run_underlying h]
  simp only [binOp]
  simp [show Op.equal t (.map p) (.map none) = Op.equalIn (9999 + 1) t (.map p) (.map none) from rfl, h1 9999]
theorem run_assert_map {P : Program} (w : World) (t xT k e : TypeId) (v : Value) (h : P.underlying t = some (.map k e)) : (Instr.typeAssert (.iface t v) xT t false).run P w = .ok v w := by
  simp [Instr.typeAssert, run_underlying h, go_sem, Result.andThen]
theorem run_clone {P : Program} (w : World) {r : Nat} {es : Array MapEntry} {clock : Nat} (t : TypeId) (hb : w.heap[r]? = some (.map es clock)) :
    (Extern.MapsClone.clone #[.iface t (.map (some r))]).run P w = .ok (.iface t (.map (some w.heap.size))) (w.alloc (.map es clock)) := by
  have e : Extern.MapsClone.clone #[.iface t (.map (some r))] = (getObj r >>= fun o => match o with
      | .map entries clock => (newObj (.map entries clock) >>= fun n => pure (.iface t (.map (some n))))
      | _ => stuck "maps.clone: a map expected") := rfl
  rw [e]
  simp [MapKept.run_getObj_map hb, Result.andThen, go_sem]
theorem At.alloc {w : World} {b bk bd : Nat} {S : DevS} (h : At w b bk bd S) (o : Obj) : At (w.alloc o) b bk bd S :=
  h.of_below ((Below.refl w.heap.size w).alloc (Nat.le_refl _) o) (heap_lt h.heap) h.kept.lt h.dirty.lt
/-- what a drawn region holds of a device -/
theorem At.held {w : World} {b bk bd : Nat} {S : DevS} (h : At w b bk bd S) : w.cell? ⟨b, 0, none⟩ = some (.int .i64 S.left) ∧ w.cell? ⟨b, 1, none⟩ = some (.bool S.burns) ∧ w.cell? ⟨b, 2, none⟩ = some (.bool S.off) ∧
    w.cell? ⟨b, 3, none⟩ = some (.int .i64 S.n) ∧ w.cell? ⟨b, 4, none⟩ = some (.map (some bk)) ∧ w.cell? ⟨b, 5, none⟩ = some (.map (some bd)) ∧ Hid (At w b bk bd S) :=
  ⟨cell_at h.heap 0, cell_at h.heap 1, cell_at h.heap 2, cell_at h.heap 3, cell_at h.heap 4, cell_at h.heap 5, h⟩
end Go.Proofs.YtadmecjdihfmeaaGreat.Dev
