/- What the functions of the reference device compute, each against the same plain device (DevS) as the program's. -/
import Derived.Test.YtanpkghdgdkdlaaGreatProg
import Derived.Test.YtanpkghdgdkdlaaGreatDevPure
import Derived.Test.YtanpkghdgdkdlaaGreatArr
import Derived.Deep.QuietTactic
import Derived.Deep.LoopGhost
import Derived.BigQuiet
import Derived.RegionTactic
import Derived.ChangeAlike
import Derived.Laws.AppendOwn
import Derived.OwnWalk
import Derived.Deep.OwnRows
import Derived.Lib.SmallJoins
namespace Go.Proofs.YtanpkghdgdkdlaaGreat.Dev
set_option linter.unusedVariables false
set_option linter.unusedSimpArgs false
set_option maxRecDepth 100000
open Go.RowKit Go.Proofs.YtanpkghdgdkdlaaGreat.Mem

def DevS.fused (S : DevS) : Int := if S.burns then S.left else -1
def DevS.rcells (S : DevS) (n xk xd xi : Nat) : Array Value := #[.slice (some ⟨xk, 0, none⟩) n n, .slice (some ⟨xd, 0, none⟩) n n, .slice (some ⟨xi, 0, none⟩) n n, .bool S.off, .int .i64 S.fused]
/-- A reference device in memory: its own block, and its three rows. -/
structure RefAt (w : World) (x xk xd xi : Nat) (S : DevS) : Prop where
  heap : w.heap[x]? = some (.cells (S.rcells S.n.toNat xk xd xi) 87 (0, 0))
  ok : S.ok
  kept : Arr Value.string w xk S.n.toNat 9 (fun j => text (S.kept j))
  is : Arr Value.bool w xi S.n.toNat 4 (fun j => (S.dirty j).isSome)
  dirt : ∃ g, Arr Value.string w xd S.n.toNat 9 g ∧ ∀ j s, S.dirty (j : Nat) = some s → g j = s
  din : ∀ i, S.dirty i ≠ none → 0 ≤ i ∧ i < S.n
  ne : x ≠ xk ∧ x ≠ xd ∧ x ≠ xi ∧ xk ≠ xd ∧ xk ≠ xi ∧ xd ≠ xi
section
variable {w w' : World} {x xk xd xi : Nat} {S S' : DevS}
theorem RefAt.cells (h : RefAt w x xk xd xi S) : w.cell? ⟨x, 0, none⟩ = some (.slice (some ⟨xk, 0, none⟩) S.n.toNat S.n.toNat) ∧ w.cell? ⟨x, 1, none⟩ = some (.slice (some ⟨xd, 0, none⟩) S.n.toNat S.n.toNat) ∧
    w.cell? ⟨x, 2, none⟩ = some (.slice (some ⟨xi, 0, none⟩) S.n.toNat S.n.toNat) ∧ w.cell? ⟨x, 3, none⟩ = some (.bool S.off) ∧ w.cell? ⟨x, 4, none⟩ = some (.int .i64 S.fused) ∧ ∀ j, w.frozen? ⟨x, j, none⟩ = false :=
  ⟨cell_at h.heap 0, cell_at h.heap 1, cell_at h.heap 2, cell_at h.heap 3, cell_at h.heap 4, fun j => frozen_at h.heap j⟩
theorem RefAt.nat (h : RefAt w x xk xd xi S) : (S.n.toNat : Int) = S.n ∧ 8 ≤ S.n.toNat ∧ S.n.toNat ≤ 4096 := by have := h.ok.2.2; exact ⟨by omega, by omega, by omega⟩
theorem RefAt.on (h : RefAt w x xk xd xi S) (hb : Below w.heap.size w w') : RefAt w' x xk xd xi S :=
  ⟨(hb.block x (heap_lt h.heap)).trans h.heap, h.ok, h.kept.on hb, h.is.on hb, by obtain ⟨g, h1, h2⟩ := h.dirt; exact ⟨g, h1.on hb, h2⟩, h.din, h.ne⟩
theorem RefAt.chg {T : List Nat} (h : RefAt w x xk xd xi S) (ht : Chg T w w') (h1 : x ∉ T) (h2 : xk ∉ T) (h3 : xd ∉ T) (h4 : xi ∉ T) : RefAt w' x xk xd xi S :=
  ⟨(ht.block x (heap_lt h.heap) h1).trans h.heap, h.ok, h.kept.chg ht h2, h.is.chg ht h4, by obtain ⟨g, g1, g2⟩ := h.dirt; exact ⟨g, g1.chg ht h3, g2⟩, h.din, h.ne⟩
/-- a store into the device's own block -/
theorem RefAt.store (h : RefAt w x xk xd xi S) (j : Nat) (v : Value) (hj : (S.rcells S.n.toNat xk xd xi).setIfInBounds j v = S'.rcells S.n.toNat xk xd xi) (hn : S'.n = S.n) (hk : S'.kept = S.kept) (hd : S'.dirty = S.dirty) (ho : S'.ok) :
    RefAt (w.setCell ⟨x, j, none⟩ v) x xk xd xi S' := by
  obtain ⟨n1, n2, n3, n4, n5, n6⟩ := h.ne
  refine ⟨by rw [heap_set_at h.heap, hj, hn], ho, ?_, ?_, ?_, by rw [hd, hn]; exact h.din, h.ne⟩
  · rw [hn, hk]; exact h.kept.setOther _ _ (Ne.symm n1)
  · rw [hn, hd]; exact h.is.setOther _ _ (Ne.symm n3)
  · obtain ⟨g, g1, g2⟩ := h.dirt
    rw [hn, hd]
    exact ⟨g, g1.setOther _ _ (Ne.symm n2), g2⟩
theorem RefAt.lt (h : RefAt w x xk xd xi S) : x < w.heap.size ∧ xk < w.heap.size ∧ xd < w.heap.size ∧ xi < w.heap.size := by
  obtain ⟨g, g1, _⟩ := h.dirt
  exact ⟨heap_lt h.heap, h.kept.lt, g1.lt, h.is.lt⟩
end

/-- act -/
theorem ract_any (w : World) (x xk xd xi : Nat) (S : DevS) (h : RefAt w x xk xd xi S) (ho : S.off = false) :
    Calls Tryz.prog 44 #[.pointer (some ⟨x, 0, none⟩)] w fun e w' => e = .returned (.bool S.spent) ∧ RefAt w' x xk xd xi S.spend ∧ Chg [x] w w' := by
  obtain ⟨c0, c1, c2, c3, c4, cf⟩ := h.cells
  obtain ⟨ho1, ho2, ho3, ho4⟩ := h.ok
  have H : Hid (RefAt w x xk xd xi S) := h
  clear h
  cases hburns : S.burns
  · have e4 : S.fused = -1 := by simp [DevS.fused, hburns]
    rw [e4] at c4
    rw [ho] at c3
    go_enter Tryz.func44, Tryz.ntmps44
    go_wp2
    go_ret
    refine ⟨?_, ?_, Chg.refl _ _⟩
    · simp [DevS.spent, ho, hburns]
    · simp [DevS.spend, ho, hburns]; exact H.out
  · have e4 : S.fused = S.left := by simp [DevS.fused, hburns]
    rw [e4] at c4
    rw [ho] at c3
    by_cases hl : S.left = 0
    · rw [hl] at c4
      go_enter Tryz.func44, Tryz.ntmps44
      go_wp2
      go_ret
      refine ⟨?_, ?_, (Chg.refl _ _).setCell _ _ (.inl (by simp))⟩
      · simp [DevS.spent, ho, hburns, hl]
      · have e : S.spend = { S with off := true } := by simp [DevS.spend, ho, hburns, hl]
        rw [e]
        exact H.out.store 3 (.bool true) rfl rfl rfl rfl ⟨ho1, ho2, ho3, ho4⟩
    · have hl' : (S.left == 0) = false := by simpa using hl
      have hl1 : 1 ≤ S.left := by omega
      go_enter Tryz.func44, Tryz.ntmps44
      go_wp2
      go_ret
      refine ⟨?_, ?_, (Chg.refl _ _).setCell _ _ (.inl (by simp))⟩
      · simp [DevS.spent, ho, hburns, hl]
      · have e : S.spend = { S with left := S.left - 1 } := by simp [DevS.spend, ho, hburns, hl]
        rw [e]
        refine H.out.store 4 (.int .i64 (S.left - 1)) ?_ rfl rfl rfl ⟨by show 0 ≤ S.left - 1; omega, by show S.left - 1 ≤ _; omega, ho3, ho4⟩
        simp [DevS.rcells, DevS.fused, hburns]

/-- what is written at i -/
theorem RefAt.put {w : World} {x xk xd xi : Nat} {S : DevS} (h : RefAt w x xk xd xi S) (i : Nat) (hi : i < S.n.toNat) (s : ByteArray) :
    RefAt ((w.setCell ⟨xd, i, none⟩ (.string s)).setCell ⟨xi, i, none⟩ (.bool true)) x xk xd xi { S with dirty := upd S.dirty i (some s) } := by
  obtain ⟨n1, n2, n3, n4, n5, n6⟩ := h.ne
  obtain ⟨g, g1, g2⟩ := h.dirt
  refine ⟨?_, h.ok, ?_, ?_, ?_, fun j hj => by
    by_cases hji : j = i
    · subst hji; show 0 ≤ (i : Int) ∧ (i : Int) < S.n; omega
    · have hj' : upd S.dirty i (some s) j ≠ none := hj
      rw [upd_other _ _ _ hji] at hj'; exact h.din j hj', h.ne⟩
  · rw [heap_set_other _ _ n3, heap_set_other _ _ n2]
    exact h.heap
  · exact (h.kept.setOther _ _ n4).setOther _ _ n5
  · refine Arr.congr ((h.is.setOther _ _ (Ne.symm n6)).set i true) ?_
    intro j hj
    show (upd S.dirty i (some s) (j : Int)).isSome = _
    by_cases hji : j = i
    · subst hji; rw [upd_same, updN_same]; rfl
    · rw [upd_other _ _ _ (by omega), updN_other _ _ _ hji]
  · refine ⟨updN g i s, (g1.set i s).setOther _ _ n6, ?_⟩
    intro j t ht
    have ht' : upd S.dirty i (some s) (j : Int) = some t := ht
    by_cases hji : j = i
    · subst hji; rw [upd_same] at ht'; rw [updN_same]; exact Option.some.inj ht'
    · rw [upd_other _ _ _ (by omega)] at ht'; rw [updN_other _ _ _ hji]; exact g2 j t ht'
set_option maxHeartbeats 1000000 in
/-- Write -/
theorem rwrite_any (w : World) (x xk xd xi : Nat) (S : DevS) (i : Int) (s : ByteArray) (h : RefAt w x xk xd xi S) :
    Calls Tryz.prog 12 #[.pointer (some ⟨x, 0, none⟩), .int .i64 i, .string s] w fun e w' => e = .returned (.int .i64 (S.writeE i s)) ∧ RefAt w' x xk xd xi (S.write i s) ∧ Chg [x, xk, xd, xi] w w' := by
  obtain ⟨c0, c1, c2, c3, c4, cf⟩ := h.cells
  obtain ⟨hn0, hn1, hn2⟩ := h.nat
  have H : Hid (RefAt w x xk xd xi S) := h
  clear h
  cases hoff : S.off
  · rw [hoff] at c3
    by_cases hin : (S.inside i && decide (s.size ≤ 4096)) = true
    · have hin' := hin
      simp only [DevS.inside, Bool.and_eq_true, decide_eq_true_eq] at hin'
      obtain ⟨⟨hi0, hi1⟩, hs⟩ := hin'
      obtain ⟨m, rfl⟩ := Int.eq_ofNat_of_zero_le hi0
      have hm : m < S.n.toNat := by omega
      clear hi0 hi1
      go_enter Tryz.func12, Tryz.ntmps12
      go_wp2_with fail
      refine (ract_any w x xk xd xi S H.out hoff).mono ?_
      rintro e w1 ⟨rfl, h1, t1⟩
      have H1 : Hid (RefAt w1 x xk xd xi S.spend ∧ Chg [x, xk, xd, xi] w w1) := ⟨h1, t1.mono (by simp)⟩
      clear c0 c1 c2 c3 c4 cf h1 t1
      cases hsp : S.spent
      · go_wp2_with fail
        go_ret
        refine ⟨?_, ?_, H1.out.2⟩
        · simp [DevS.writeE, hoff, hin, hsp]
        · simpa [DevS.write, hoff, hin, hsp] using H1.out.1
      · obtain ⟨c0, c1, c2, c3, c4, cf⟩ := H1.out.1.cells
        obtain ⟨n1, n2, n3, n4, n5, n6⟩ := H1.out.1.ne
        obtain ⟨g, g1, g2⟩ := H1.out.1.dirt
        have hmm : m < S.spend.n.toNat := by rw [DevS.spend_n]; exact hm
        have d1 := g1.cell m hmm
        have d2 := g1.frozen m
        have d3 := H1.out.1.is.cell m hmm
        have d4 := H1.out.1.is.frozen m
        rw [DevS.spend_n] at c0 c1 c2
        clear g1 g2
        go_wp2_with fail
        go_ret
        refine ⟨?_, ?_, ?_⟩
        · simp [DevS.writeE, hoff, hin, hsp]
        · have e : S.write m s = { S.spend with dirty := upd S.spend.dirty m (some s) } := by simp [DevS.write, hoff, hin, hsp, DevS.spend_dirty]
          rw [e]
          exact H1.out.1.put m hmm s
        · exact (H1.out.2.setCell _ _ (.inl (by simp))).setCell _ _ (.inl (by simp))
    · have hin' : (S.inside i && decide (s.size ≤ 4096)) = false := by simpa using hin
      have e1 : S.writeE i s = 22 := by simp [DevS.writeE, hoff, hin']
      have e2 : S.write i s = S := by simp [DevS.write, hoff, hin']
      rw [e1, e2]
      have hcase : i < 0 ∨ (0 ≤ i ∧ S.n.toNat ≤ i) ∨ (0 ≤ i ∧ i < S.n.toNat ∧ 4096 < s.size) := by
        simp only [DevS.inside, Bool.and_eq_true, decide_eq_true_eq] at hin
        omega
      clear hin hin' e1 e2
      rcases hcase with hc | hc | hc
      all_goals
        go_enter Tryz.func12, Tryz.ntmps12
        go_wp2_with fail
        go_ret
        exact ⟨rfl, H.out, Chg.refl _ _⟩
  · rw [hoff] at c3
    go_enter Tryz.func12, Tryz.ntmps12
    go_wp2_with fail
    go_ret
    refine ⟨?_, ?_, Chg.refl _ _⟩
    · simp [DevS.writeE, hoff]
    · simpa [DevS.write, hoff] using H.out
/-- Read -/
theorem rread_any (w : World) (x xk xd xi : Nat) (S : DevS) (i : Int) (h : RefAt w x xk xd xi S) :
    Calls Tryz.prog 50 #[.pointer (some ⟨x, 0, none⟩), .int .i64 i] w fun e w' => e = .returned (.tuple #[.string (S.read i), .int .i64 (S.readE i)]) ∧ w = w' := by
  obtain ⟨c0, c1, c2, c3, c4, cf⟩ := h.cells
  obtain ⟨hn0, hn1, hn2⟩ := h.nat
  have H : Hid (RefAt w x xk xd xi S) := h
  clear h
  cases hoff : S.off
  · rw [hoff] at c3
    by_cases hin : S.inside i = true
    · have hin' := hin
      simp only [DevS.inside, Bool.and_eq_true, decide_eq_true_eq] at hin'
      obtain ⟨hi0, hi1⟩ := hin'
      obtain ⟨m, rfl⟩ := Int.eq_ofNat_of_zero_le hi0
      have hm : m < S.n.toNat := by omega
      obtain ⟨g, g1, g2⟩ := H.out.dirt
      have d1 := g1.cell m hm
      have d3 := H.out.is.cell m hm
      have d5 := H.out.kept.cell m hm
      have e1 : S.readE m = 0 := by simp [DevS.readE, hoff, hin]
      rw [e1]
      cases hd : S.dirty (m : Int) with
      | none =>
        have e2 : S.read m = text (S.kept m) := by simp [DevS.read, hoff, hin, over, hd]
        rw [e2]
        rw [hd] at d3
        have d3' : w.cell? ⟨xi, m, none⟩ = some (.bool false) := d3
        clear hi0 hi1 hin e1 e2 hd g1 g2 d3
        generalize text (S.kept m) = tx at d5 ⊢
        go_enter Tryz.func50, Tryz.ntmps50
        go_wp2_with fail
        go_ret2
        exact ⟨rfl, rfl⟩
      | some s =>
        have e2 : S.read m = s := by simp [DevS.read, hoff, hin, over, hd, text]
        rw [e2]
        rw [hd] at d3
        rw [g2 m s hd] at d1
        have d3' : w.cell? ⟨xi, m, none⟩ = some (.bool true) := d3
        clear hi0 hi1 hin e1 e2 hd g1 g2 d3 d5
        go_enter Tryz.func50, Tryz.ntmps50
        go_wp2_with fail
        go_ret2
        exact ⟨rfl, rfl⟩
    · have hin' : S.inside i = false := by simpa using hin
      have e1 : S.readE i = 22 := by simp [DevS.readE, hoff, hin']
      have e2 : S.read i = ⟨#[]⟩ := by simp [DevS.read, hoff, hin']
      rw [e1, e2]
      have hcase : i < 0 ∨ (0 ≤ i ∧ S.n.toNat ≤ i) := by
        simp only [DevS.inside, Bool.and_eq_true, decide_eq_true_eq] at hin
        omega
      clear hin hin' e1 e2
      rcases hcase with hc | hc
      all_goals
        go_enter Tryz.func50, Tryz.ntmps50
        go_wp2_with fail
        go_ret2
        exact ⟨rfl, rfl⟩
  · rw [hoff] at c3
    have e1 : S.readE i = 5 := by simp [DevS.readE, hoff]
    have e2 : S.read i = ⟨#[]⟩ := by simp [DevS.read, hoff]
    rw [e1, e2]
    go_enter Tryz.func50, Tryz.ntmps50
    go_wp2_with fail
    go_ret2
    exact ⟨rfl, rfl⟩
/-- Fuse -/
theorem rfuse_any (w : World) (x xk xd xi : Nat) (S : DevS) (n : Int) (h : RefAt w x xk xd xi S) (hn : n ≤ 9223372036854775807) :
    Calls Tryz.prog 70 #[.pointer (some ⟨x, 0, none⟩), .int .i64 n] w fun e w' => e = .returned (.int .i64 S.fuseE) ∧ RefAt w' x xk xd xi (S.fuse n) ∧ Chg [x, xk, xd, xi] w w' := by
  obtain ⟨c0, c1, c2, c3, c4, cf⟩ := h.cells
  obtain ⟨ho1, ho2, ho3, ho4⟩ := h.ok
  have H : Hid (RefAt w x xk xd xi S) := h
  clear h
  cases hoff : S.off
  · rw [hoff] at c3
    go_enter Tryz.func70, Tryz.ntmps70
    go_wp2_with fail
    all_goals
      go_ret
      refine ⟨by simp [DevS.fuseE, hoff], ?_, (Chg.refl _ _).setCell _ _ (.inl (by simp))⟩
      have e : S.fuse n = { S with left := (if n ≤ 0 then 0 else n), burns := decide (0 ≤ n) } := by simp [DevS.fuse, hoff]
      rw [e]
      refine H.out.store 4 (.int .i64 _) ?_ rfl rfl rfl ⟨by show 0 ≤ (if n ≤ 0 then (0 : Int) else n); split <;> omega, by show (if n ≤ 0 then (0 : Int) else n) ≤ _; split <;> omega, ho3, ho4⟩
      simp only [DevS.rcells, DevS.fused, decide_eq_true_eq]
      have e2 : (if 0 ≤ n then (if n ≤ 0 then (0 : Int) else n) else -1) = (if n < -1 then -1 else n) := by (repeat' split) <;> omega
      rw [e2]
      simp [*] <;> omega
  · rw [hoff] at c3
    go_enter Tryz.func70, Tryz.ntmps70
    go_wp2_with fail
    go_ret
    refine ⟨?_, ?_, Chg.refl _ _⟩
    · simp [DevS.fuseE, hoff]
    · simpa [DevS.fuse, hoff] using H.out

/-! ### parts of what a flush, a crash do at one place -/
/-- the same device, as far as the rows tell -/
theorem RefAt.congr {w : World} {x xk xd xi : Nat} {S S' : DevS} (h : RefAt w x xk xd xi S) (hn : S'.n = S.n) (ho : S'.off = S.off) (hf : S'.fused = S.fused) (hok : S'.ok) (hin : ∀ i, S'.dirty i ≠ none → 0 ≤ i ∧ i < S'.n)
    (hj : ∀ j : Nat, j < S.n.toNat → text (S'.kept j) = text (S.kept j) ∧ S'.dirty j = S.dirty j) : RefAt w x xk xd xi S' := by
  refine ⟨?_, hok, ?_, ?_, ?_, hin, h.ne⟩
  · have : S'.rcells S'.n.toNat xk xd xi = S.rcells S.n.toNat xk xd xi := by unfold DevS.rcells; rw [hn, ho, hf]
    rw [this]; exact h.heap
  · rw [hn]; exact h.kept.congr (fun j hlt => (hj j hlt).1)
  · rw [hn]; exact h.is.congr (fun j hlt => by rw [(hj j hlt).2])
  · obtain ⟨g, g1, g2⟩ := h.dirt
    rw [hn]
    refine ⟨g, g1, fun j s hs => g2 j s ?_⟩
    have h1 := hin j (by rw [hs]; simp)
    rw [← (hj j (by rw [← hn]; omega)).2]
    exact hs
/-- a text is kept at j -/
theorem RefAt.keep {w : World} {x xk xd xi : Nat} {S : DevS} (h : RefAt w x xk xd xi S) (j : Nat) (s : ByteArray) : RefAt (w.setCell ⟨xk, j, none⟩ (.string s)) x xk xd xi { S with kept := upd S.kept j (some s) } := by
  obtain ⟨n1, n2, n3, n4, n5, n6⟩ := h.ne
  refine ⟨by rw [heap_set_other _ _ n1]; exact h.heap, h.ok, ?_, h.is.setOther _ _ (Ne.symm n5), ?_, h.din, h.ne⟩
  · refine Arr.congr (h.kept.set j s) ?_
    intro i hi
    show text (upd S.kept j (some s) (i : Int)) = _
    by_cases hij : i = j
    · subst hij; rw [upd_same, updN_same]; rfl
    · rw [upd_other _ _ _ (by omega), updN_other _ _ _ hij]
  · obtain ⟨g, g1, g2⟩ := h.dirt
    exact ⟨g, g1.setOther _ _ (Ne.symm n4), g2⟩
/-- the mark at j is taken away -/
theorem RefAt.drop {w : World} {x xk xd xi : Nat} {S : DevS} (h : RefAt w x xk xd xi S) (j : Nat) : RefAt (w.setCell ⟨xi, j, none⟩ (.bool false)) x xk xd xi { S with dirty := upd S.dirty j none } := by
  obtain ⟨n1, n2, n3, n4, n5, n6⟩ := h.ne
  refine ⟨by rw [heap_set_other _ _ n3]; exact h.heap, h.ok, h.kept.setOther _ _ n5, ?_, ?_, ?_, h.ne⟩
  · refine Arr.congr (h.is.set j false) ?_
    intro i hi
    show (upd S.dirty j none (i : Int)).isSome = _
    by_cases hij : i = j
    · subst hij; rw [upd_same, updN_same]; rfl
    · rw [upd_other _ _ _ (by omega), updN_other _ _ _ hij]
  · obtain ⟨g, g1, g2⟩ := h.dirt
    refine ⟨g, g1.setOther _ _ n6, fun i s hs => ?_⟩
    have hs' : upd S.dirty j none (i : Int) = some s := hs
    by_cases hij : i = j
    · subst hij; rw [upd_same] at hs'; cases hs'
    · rw [upd_other _ _ _ (by omega)] at hs'; exact g2 i s hs'
  · intro i hi
    have hi' : upd S.dirty j none i ≠ none := hi
    by_cases hij : i = j
    · subst hij; rw [upd_same] at hi'; exact absurd rfl hi'
    · rw [upd_other _ _ _ hij] at hi'; exact h.din i hi'

/-- in the midst of a flush -/
def DevS.mid (S : DevS) (j : Nat) : DevS := { S with kept := fun i => if i < (j : Int) then over S.dirty S.kept i else S.kept i, dirty := fun i => if i < (j : Int) then none else S.dirty i }
theorem mid_din {S : DevS} (h : ∀ i, S.dirty i ≠ none → 0 ≤ i ∧ i < S.n) (j : Nat) : ∀ i, (S.mid j).dirty i ≠ none → 0 ≤ i ∧ i < (S.mid j).n := by
  intro i hi
  refine h i ?_
  have hi' : (if i < (j : Int) then none else S.dirty i) ≠ none := hi
  split at hi'
  · exact absurd rfl hi'
  · exact hi'
theorem mid_at (S : DevS) (j : Nat) : (S.mid j).dirty j = S.dirty j ∧ (S.mid j).kept j = S.kept j := by
  constructor
  · show (if (j : Int) < j then none else S.dirty j) = _
    simp
  · show (if (j : Int) < j then over S.dirty S.kept j else S.kept j) = _
    simp
theorem RefAt.mid_none {w : World} {x xk xd xi : Nat} {S : DevS} {j : Nat} (h : RefAt w x xk xd xi (S.mid j)) (hdin : ∀ i, S.dirty i ≠ none → 0 ≤ i ∧ i < S.n) (hd : S.dirty j = none) : RefAt w x xk xd xi (S.mid (j + 1)) := by
  refine h.congr rfl rfl rfl h.ok (mid_din hdin _) (fun i hi => ?_)
  constructor
  · show text (if (i : Int) < ((j + 1 : Nat) : Int) then over S.dirty S.kept i else S.kept i) = text (if (i : Int) < (j : Int) then over S.dirty S.kept i else S.kept i)
    by_cases hij : i = j
    · subst hij
      rw [if_pos (by omega), if_neg (by omega)]
      unfold over
      rw [hd]
    · by_cases hlt : i < j
      · rw [if_pos (by omega), if_pos (by omega)]
      · rw [if_neg (by omega), if_neg (by omega)]
  · show (if (i : Int) < ((j + 1 : Nat) : Int) then none else S.dirty i) = (if (i : Int) < (j : Int) then none else S.dirty i)
    by_cases hij : i = j
    · subst hij
      rw [if_pos (by omega), if_neg (by omega), hd]
    · by_cases hlt : i < j
      · rw [if_pos (by omega), if_pos (by omega)]
      · rw [if_neg (by omega), if_neg (by omega)]
theorem RefAt.mid_some {w : World} {x xk xd xi : Nat} {S : DevS} {j : Nat} {s : ByteArray} (h : RefAt w x xk xd xi (S.mid j)) (hdin : ∀ i, S.dirty i ≠ none → 0 ≤ i ∧ i < S.n) (hd : S.dirty j = some s) :
    RefAt ((w.setCell ⟨xk, j, none⟩ (.string s)).setCell ⟨xi, j, none⟩ (.bool false)) x xk xd xi (S.mid (j + 1)) := by
  refine ((h.keep j s).drop j).congr rfl rfl rfl h.ok (mid_din hdin _) (fun i hi => ?_)
  constructor
  · show text (if (i : Int) < ((j + 1 : Nat) : Int) then over S.dirty S.kept i else S.kept i) = text (upd (S.mid j).kept j (some s) i)
    by_cases hij : i = j
    · subst hij
      rw [if_pos (by omega), upd_same]
      unfold over
      rw [hd]
    · rw [upd_other _ _ _ (by omega)]
      show _ = text (if (i : Int) < (j : Int) then over S.dirty S.kept i else S.kept i)
      by_cases hlt : i < j
      · rw [if_pos (by omega), if_pos (by omega)]
      · rw [if_neg (by omega), if_neg (by omega)]
  · show (if (i : Int) < ((j + 1 : Nat) : Int) then none else S.dirty i) = upd (S.mid j).dirty j none i
    by_cases hij : i = j
    · subst hij
      rw [if_pos (by omega), upd_same]
    · rw [upd_other _ _ _ (by omega)]
      show _ = (if (i : Int) < (j : Int) then none else S.dirty i)
      by_cases hlt : i < j
      · rw [if_pos (by omega), if_pos (by omega)]
      · rw [if_neg (by omega), if_neg (by omega)]
set_option maxHeartbeats 1000000 in
/-- Flush -/
theorem rflush_any (w : World) (x xk xd xi : Nat) (S : DevS) (h : RefAt w x xk xd xi S) :
    Calls Tryz.prog 61 #[.pointer (some ⟨x, 0, none⟩)] w fun e w' => e = .returned (.int .i64 S.flushE) ∧ RefAt w' x xk xd xi S.flush ∧ Chg [x, xk, xd, xi] w w' := by
  obtain ⟨c0, c1, c2, c3, c4, cf⟩ := h.cells
  have H : Hid (RefAt w x xk xd xi S) := h
  clear h
  cases hoff : S.off
  · rw [hoff] at c3
    go_enter Tryz.func61, Tryz.ntmps61
    go_wp2_with fail
    refine (ract_any w x xk xd xi S H.out hoff).mono ?_
    rintro e w1 ⟨rfl, h1, t1⟩
    have H1 : Hid (RefAt w1 x xk xd xi S.spend ∧ Chg [x, xk, xd, xi] w w1) := ⟨h1, t1.mono (by simp)⟩
    clear c0 c1 c2 c3 c4 cf h1 t1
    cases hsp : S.spent
    · go_wp2_with fail
      go_ret
      refine ⟨?_, ?_, H1.out.2⟩
      · simp [DevS.flushE, hsp]
      · simpa [DevS.flush, hsp] using H1.out.1
    · have e1 : S.flushE = 0 := by simp [DevS.flushE, hsp]
      have e2 : S.flush = { S.spend with kept := over S.spend.dirty S.spend.kept, dirty := fun _ => none } := by simp [DevS.flush, hsp, DevS.spend_dirty, DevS.spend_kept]
      have E : Hid (S.flushE = 0 ∧ S.flush = { S.spend with kept := over S.spend.dirty S.spend.kept, dirty := fun _ => none }) := ⟨e1, e2⟩
      clear e1 e2 hsp hoff H
      generalize S.spend = U at H1 E
      obtain ⟨c0, c1, c2, c3, c4, cf⟩ := H1.out.1.cells
      obtain ⟨hn0, hn1, hn2⟩ := H1.out.1.nat
      go_wp2_with fail
      clear c0 c1 c2 c3 c4 cf
      go_loopw [18] (fun q wr => ∃ (j : Nat), j ≤ U.n.toNat ∧ q = .int .i64 j ∧ Hid (RefAt wr x xk xd xi (U.mid j) ∧ Chg [x, xk, xd, xi] w wr)) (fun q _ => U.n.toNat - (intOf q).toNat)
      case atStart =>
        refine ⟨0, by omega, rfl, ?_, H1.out.2⟩
        refine H1.out.1.congr rfl rfl rfl H1.out.1.ok (mid_din H1.out.1.din 0) (fun i hi => ?_)
        constructor
        · show text (if (i : Int) < ((0 : Nat) : Int) then over U.dirty U.kept i else U.kept i) = _
          rw [if_neg (by omega)]
        · show (if (i : Int) < ((0 : Nat) : Int) then none else U.dirty i) = _
          rw [if_neg (by omega)]
      case round =>
        obtain ⟨j, hj, rfl, hA⟩ := hrel
        obtain ⟨c0, c1, c2, c3, c4, cf⟩ := hA.out.1.cells
        obtain ⟨n1, n2, n3, n4, n5, n6⟩ := hA.out.1.ne
        have hUn : (U.mid j).n.toNat = U.n.toNat := rfl
        rw [hUn] at c0 c1 c2
        by_cases hlt : j < U.n.toNat
        · have d3 := hA.out.1.is.cell j hlt
          rw [(mid_at U j).1] at d3
          cases hd : U.dirty (j : Int) with
          | none =>
            rw [hd] at d3
            have d3' : wr.cell? ⟨xi, j, none⟩ = some (.bool false) := d3
            have HD : Hid (U.dirty (j : Int) = none) := hd
            clear d3 hd c3 c4
            go_wp2_with fail
            go_roundw
            case rel => exact ⟨j + 1, by omega, by go_num, hA.out.1.mid_none H1.out.1.din HD.out, hA.out.2⟩
            case measure => simp [intOf]; omega
          | some s =>
            rw [hd] at d3
            have d3' : wr.cell? ⟨xi, j, none⟩ = some (.bool true) := d3
            obtain ⟨g, g1, g2⟩ := hA.out.1.dirt
            have d1 := g1.cell j hlt
            rw [g2 j s (by rw [(mid_at U j).1]; exact hd)] at d1
            have d5 := hA.out.1.kept.cell j hlt
            have d6 := hA.out.1.kept.frozen j
            have d7 := hA.out.1.is.frozen j
            have HD : Hid (U.dirty (j : Int) = some s) := hd
            clear d3 hd c3 c4 g1 g2
            go_wp2_with fail
            go_region
            go_wp2
            go_roundw
            case rel => exact ⟨j + 1, by omega, by go_num, RefAt.on (hA.out.1.mid_some H1.out.1.din HD.out) ((Below.refl _ _).drew), ((hA.out.2.setCell _ _ (.inl (by simp))).setCell _ _ (.inl (by simp))).drew⟩
            case measure => simp [intOf]; omega
        · have HF : Hid (RefAt wr x xk xd xi { U with kept := over U.dirty U.kept, dirty := fun _ => none }) := by
            refine hA.out.1.congr rfl rfl rfl H1.out.1.ok (by simp) (fun i hi => ?_)
            have hi' : i < U.n.toNat := hi
            constructor
            · show text (over U.dirty U.kept i) = text (if (i : Int) < (j : Int) then over U.dirty U.kept i else U.kept i)
              rw [if_pos (by omega)]
            · show none = (if (i : Int) < (j : Int) then none else U.dirty i)
              rw [if_pos (by omega)]
          clear c0 c1 c2 c3 c4 cf
          go_wp2_with fail
          go_ret
          exact ⟨by rw [E.out.1]; rfl, by rw [E.out.2]; exact HF.out, hA.out.2⟩
  · rw [hoff] at c3
    go_enter Tryz.func61, Tryz.ntmps61
    go_wp2_with fail
    go_ret
    refine ⟨?_, ?_, Chg.refl _ _⟩
    · simp [DevS.flushE, DevS.spent, hoff]
    · simpa [DevS.flush, DevS.spent, DevS.spend, hoff] using H.out

/-- in the midst of a crash: place j, q of those that are to be kept were looked at -/
def DevS.midc (S : DevS) (keep : List Int) (j q : Nat) : DevS :=
  { S with kept := fun i => if i < (j : Int) then saved keep S.dirty S.kept i else if i = (j : Int) then saved (keep.take q) S.dirty S.kept i else S.kept i, dirty := fun i => if i < (j : Int) then none else S.dirty i }
theorem midc_din {S : DevS} (h : ∀ i, S.dirty i ≠ none → 0 ≤ i ∧ i < S.n) (keep : List Int) (j q : Nat) : ∀ i, (S.midc keep j q).dirty i ≠ none → 0 ≤ i ∧ i < (S.midc keep j q).n := by
  intro i hi
  refine h i ?_
  have hi' : (if i < (j : Int) then none else S.dirty i) ≠ none := hi
  split at hi'
  · exact absurd rfl hi'
  · exact hi'
theorem midc_at (S : DevS) (keep : List Int) (j q : Nat) : (S.midc keep j q).dirty j = S.dirty j := by
  show (if (j : Int) < j then none else S.dirty j) = _
  simp
section
variable {w : World} {x xk xd xi : Nat} {S : DevS} {keep : List Int} {j q : Nat}
theorem RefAt.midc_zero (h : RefAt w x xk xd xi S) : RefAt w x xk xd xi (S.midc keep 0 0) := by
  refine h.congr rfl rfl rfl h.ok (midc_din h.din _ _ _) (fun i hi => ?_)
  constructor
  · show text (if (i : Int) < ((0 : Nat) : Int) then saved keep S.dirty S.kept i else if (i : Int) = ((0 : Nat) : Int) then saved (keep.take 0) S.dirty S.kept i else S.kept i) = _
    rw [if_neg (by omega), List.take_zero, saved_nil]
    split <;> rfl
  · show (if (i : Int) < ((0 : Nat) : Int) then none else S.dirty i) = _
    rw [if_neg (by omega)]
/-- nothing to keep for it -/
theorem RefAt.midc_miss (h : RefAt w x xk xd xi (S.midc keep j q)) (hdin : ∀ i, S.dirty i ≠ none → 0 ≤ i ∧ i < S.n) {k : Int} (hk : keep.take (q + 1) = keep.take q ++ [k]) (hm : k ≠ j ∨ S.dirty j = none) : RefAt w x xk xd xi (S.midc keep j (q + 1)) := by
  refine h.congr rfl rfl rfl h.ok (midc_din hdin _ _ _) (fun i hi => ?_)
  constructor
  · show text (if (i : Int) < (j : Int) then saved keep S.dirty S.kept i else if (i : Int) = (j : Int) then saved (keep.take (q + 1)) S.dirty S.kept i else S.kept i) = text (if (i : Int) < (j : Int) then saved keep S.dirty S.kept i else if (i : Int) = (j : Int) then saved (keep.take q) S.dirty S.kept i else S.kept i)
    by_cases h1 : (i : Int) < (j : Int)
    · rw [if_pos h1, if_pos h1]
    · rw [if_neg h1, if_neg h1]
      by_cases h2 : (i : Int) = (j : Int)
      · rw [if_pos h2, if_pos h2, h2, hk]
        congr 1
        unfold saved
        rcases hm with hm | hm
        · have : (j : Int) ∈ keep.take q ++ [k] ↔ (j : Int) ∈ keep.take q := by
            simp only [List.mem_append, List.mem_singleton]
            constructor
            · rintro (h | h)
              · exact h
              · exact absurd h.symm hm
            · exact .inl
          simp only [this]
        · have : over S.dirty S.kept j = S.kept j := by unfold over; rw [hm]
          rw [this]
          split <;> split <;> rfl
      · rw [if_neg h2, if_neg h2]
  · rfl
/-- what was written there is kept -/
theorem RefAt.midc_hit (h : RefAt w x xk xd xi (S.midc keep j q)) (hdin : ∀ i, S.dirty i ≠ none → 0 ≤ i ∧ i < S.n) (hk : keep.take (q + 1) = keep.take q ++ [(j : Int)]) {s : ByteArray} (hs : S.dirty j = some s) :
    RefAt (w.setCell ⟨xk, j, none⟩ (.string s)) x xk xd xi (S.midc keep j (q + 1)) := by
  refine (h.keep j s).congr rfl rfl rfl h.ok (midc_din hdin _ _ _) (fun i hi => ?_)
  constructor
  · show text (if (i : Int) < (j : Int) then saved keep S.dirty S.kept i else if (i : Int) = (j : Int) then saved (keep.take (q + 1)) S.dirty S.kept i else S.kept i) = text (upd (S.midc keep j q).kept j (some s) i)
    by_cases h1 : (i : Int) < (j : Int)
    · rw [if_pos h1, upd_other _ _ _ (by omega)]
      show _ = text (if (i : Int) < (j : Int) then saved keep S.dirty S.kept i else if (i : Int) = (j : Int) then saved (keep.take q) S.dirty S.kept i else S.kept i)
      rw [if_pos h1]
    · rw [if_neg h1]
      by_cases h2 : (i : Int) = (j : Int)
      · rw [if_pos h2, h2, hk, upd_same]
        congr 1
        unfold saved over
        rw [hs]
        simp
      · rw [if_neg h2, upd_other _ _ _ h2]
        show _ = text (if (i : Int) < (j : Int) then saved keep S.dirty S.kept i else if (i : Int) = (j : Int) then saved (keep.take q) S.dirty S.kept i else S.kept i)
        rw [if_neg h1, if_neg h2]
  · rfl
/-- the next place -/
theorem RefAt.midc_next (h : RefAt w x xk xd xi (S.midc keep j keep.length)) (hdin : ∀ i, S.dirty i ≠ none → 0 ≤ i ∧ i < S.n) : RefAt (w.setCell ⟨xi, j, none⟩ (.bool false)) x xk xd xi (S.midc keep (j + 1) 0) := by
  refine (h.drop j).congr rfl rfl rfl h.ok (midc_din hdin _ _ _) (fun i hi => ?_)
  constructor
  · show text (if (i : Int) < ((j + 1 : Nat) : Int) then saved keep S.dirty S.kept i else if (i : Int) = ((j + 1 : Nat) : Int) then saved (keep.take 0) S.dirty S.kept i else S.kept i) = text (if (i : Int) < (j : Int) then saved keep S.dirty S.kept i else if (i : Int) = (j : Int) then saved (keep.take keep.length) S.dirty S.kept i else S.kept i)
    rw [List.take_zero, saved_nil, List.take_length]
    by_cases h1 : (i : Int) < (j : Int)
    · rw [if_pos (by omega), if_pos h1]
    · rw [if_neg h1]
      by_cases h2 : (i : Int) = (j : Int)
      · rw [if_pos (by omega), if_pos h2]
      · rw [if_neg (by omega), if_neg h2]
        split <;> rfl
  · show (if (i : Int) < ((j + 1 : Nat) : Int) then none else S.dirty i) = upd (S.midc keep j keep.length).dirty j none i
    by_cases h2 : (i : Int) = (j : Int)
    · rw [if_pos (by omega), h2, upd_same]
    · rw [upd_other _ _ _ h2]
      show _ = (if (i : Int) < (j : Int) then none else S.dirty i)
      by_cases h1 : (i : Int) < (j : Int)
      · rw [if_pos (by omega), if_pos h1]
      · rw [if_neg (by omega), if_neg h1]
theorem RefAt.midc_end (h : RefAt w x xk xd xi (S.midc keep j q)) (hj : S.n.toNat ≤ j) : RefAt w x xk xd xi { S with kept := saved keep S.dirty S.kept, dirty := fun _ => none } := by
  refine h.congr rfl rfl rfl h.ok (by simp) (fun i hi => ?_)
  have hi' : i < S.n.toNat := hi
  constructor
  · show text (saved keep S.dirty S.kept i) = text (if (i : Int) < (j : Int) then saved keep S.dirty S.kept i else if (i : Int) = (j : Int) then saved (keep.take q) S.dirty S.kept i else S.kept i)
    rw [if_pos (by omega)]
  · show none = (if (i : Int) < (j : Int) then none else S.dirty i)
    rw [if_pos (by omega)]
end
set_option maxHeartbeats 1000000 in
/-- Crash -/
theorem rcrash_any (w : World) (x xk xd xi : Nat) (S : DevS) (v : Value) (keep : List Int) (h : RefAt w x xk xd xi S) (hv : Ints (fun k => k ≠ x ∧ k ≠ xk ∧ k ≠ xd ∧ k ≠ xi) w v keep) :
    Calls Tryz.prog 21 #[.pointer (some ⟨x, 0, none⟩), v] w fun e w' => e = .returned (.int .i64 0) ∧ RefAt w' x xk xd xi (S.crash keep) ∧ Chg [x, xk, xd, xi] w w' := by
  obtain ⟨c0, c1, c2, c3, c4, cf⟩ := h.cells
  obtain ⟨hn0, hn1, hn2⟩ := h.nat
  obtain ⟨a, c, rfl, hlen, _⟩ := hv.form
  have H : Hid (RefAt w x xk xd xi S) := h
  have HV : Hid (Ints (fun k => k ≠ x ∧ k ≠ xk ∧ k ≠ xd ∧ k ≠ xi) w (.slice a keep.length c) keep) := hv
  clear h hv
  go_enter Tryz.func21, Tryz.ntmps21
  go_wp2_with fail
  clear c0 c1 c2 c3 c4 cf
  go_loopw [13] (fun i wr => ∃ (j : Nat), j ≤ S.n.toNat ∧ i = .int .i64 j ∧ Hid (RefAt wr x xk xd xi (S.midc keep j 0) ∧ Chg [x, xk, xd, xi] w wr)) (fun i _ => S.n.toNat - (intOf i).toNat)
  case atStart => exact ⟨0, by omega, rfl, H.out.midc_zero, Chg.refl _ _⟩
  case round =>
    obtain ⟨j, hj, rfl, hA⟩ := hrel
    obtain ⟨c0, c1, c2, c3, c4, cf⟩ := hA.out.1.cells
    by_cases hlt : j < S.n.toNat
    · go_wp2_with fail
      clear c0 c1 c2 c3 c4 cf
      simp only [show decide ((j : Int) < S.n) = true from decide_eq_true (by omega)]
      go_loopw [18] (fun i wq => ∃ (q : Nat), q ≤ keep.length ∧ i = .int .i64 q ∧ Hid (RefAt wq x xk xd xi (S.midc keep j q) ∧ Chg [x, xk, xd, xi] w wq)) (fun i _ => keep.length - (intOf i).toNat)
      case atStart => exact ⟨0, by omega, rfl, hA.out⟩
      case round =>
        obtain ⟨q, hq, rfl, hB⟩ := hrel
        obtain ⟨c0, c1, c2, c3, c4, cf⟩ := hB.out.1.cells
        obtain ⟨n1, n2, n3, n4, n5, n6⟩ := hB.out.1.ne
        have hmn : (S.midc keep j q).n.toNat = S.n.toNat := rfl
        rw [hmn] at c0 c1 c2
        clear hmn c3 c4
        have HD0 : Hid (∀ i, S.dirty i ≠ none → 0 ≤ i ∧ i < S.n) := H.out.din
        by_cases hql : q < keep.length
        · have hV : Ints (fun k => k ≠ x ∧ k ≠ xk ∧ k ≠ xd ∧ k ≠ xi) wr (.slice a keep.length c) keep := HV.out.chg hB.out.2 (fun k hk => by simp [hk])
          obtain ⟨a', c', e', _, hcells⟩ := hV.form
          injection e' with e1 e2 e3
          subst e1 e3
          obtain ⟨bb, oo, ha, hcell⟩ := hcells q hql
          have HS : Hid (keep.take (q + 1) = keep.take q ++ [keep[q]]) := by rw [List.take_add_one, List.getElem?_eq_getElem hql]; rfl
          obtain ⟨y, hy⟩ : ∃ y, y = keep[q] := ⟨_, rfl⟩
          rw [← hy] at hcell HS
          clear hy hcells hV
          subst ha
          by_cases hyj : y = j
          · subst hyj
            have d3 := hB.out.1.is.cell j hlt
            rw [midc_at] at d3
            cases hd : S.dirty (j : Int) with
            | none =>
              rw [hd] at d3
              have d3' : wr.cell? ⟨xi, j, none⟩ = some (.bool false) := d3
              have HD : Hid (S.dirty (j : Int) = none) := hd
              clear d3 hd
              go_wp2_with fail
              go_roundw
              case rel => exact ⟨q + 1, by omega, by go_num, hB.out.1.midc_miss HD0.out HS.out (.inr HD.out), hB.out.2⟩
              case measure => simp [intOf]; omega
            | some s =>
              rw [hd] at d3
              have d3' : wr.cell? ⟨xi, j, none⟩ = some (.bool true) := d3
              obtain ⟨g, g1, g2⟩ := hB.out.1.dirt
              have d1 := g1.cell j hlt
              rw [g2 j s (by rw [midc_at]; exact hd)] at d1
              have d5 := hB.out.1.kept.cell j hlt
              have d6 := hB.out.1.kept.frozen j
              have HD : Hid (S.dirty (j : Int) = some s) := hd
              clear d3 hd g1 g2
              go_wp2_with fail
              go_region
              go_wp2
              go_roundw
              case rel => exact ⟨q + 1, by omega, by go_num, RefAt.on (hB.out.1.midc_hit HD0.out HS.out HD.out) ((Below.refl _ _).drew), (hB.out.2.setCell _ _ (.inl (by simp))).drew⟩
              case measure => simp [intOf]; omega
          · have hyj' : (y == (j : Int)) = false := by simpa using hyj
            have HY : Hid (y ≠ j) := hyj
            clear hyj
            go_wp2_with fail
            go_roundw
            case rel => exact ⟨q + 1, by omega, by go_num, hB.out.1.midc_miss HD0.out HS.out (.inl HY.out), hB.out.2⟩
            case measure => simp [intOf]; omega
        · have hqe : q = keep.length := by omega
          subst hqe
          have d3 := hB.out.1.is.cell j hlt
          have d7 := hB.out.1.is.frozen j
          go_wp2_with fail
          go_roundw
          case rel => exact ⟨j + 1, by omega, by go_num, hB.out.1.midc_next HD0.out, hB.out.2.setCell _ _ (.inl (by simp))⟩
          case measure => simp [intOf]; omega
    · have HF := hA.out.1.midc_end (by omega : S.n.toNat ≤ j)
      have HF' : Hid _ := HF
      have ho := H.out.ok
      clear HF
      go_wp2_with fail
      go_ret
      refine ⟨rfl, ?_, (hA.out.2.setCell _ _ (.inl (by simp))).setCell _ _ (.inl (by simp))⟩
      have a1 := HF'.out.store (S' := { S with off := true, kept := saved keep S.dirty S.kept, dirty := fun _ => none }) 3 (.bool true) rfl rfl rfl rfl ho
      exact a1.store (S' := S.crash keep) 4 (.int .i64 (-1)) rfl rfl rfl rfl ⟨by show (0 : Int) ≤ 0; omega, by show (0 : Int) ≤ _; omega, ho.2.2⟩
/-- Start -/
theorem rstart_any (w : World) (x xk xd xi : Nat) (S : DevS) (h : RefAt w x xk xd xi S) :
    Calls Tryz.prog 23 #[.pointer (some ⟨x, 0, none⟩)] w fun e w' => e = .returned (.int .i64 0) ∧ RefAt w' x xk xd xi S.start ∧ Chg [x, xk, xd, xi] w w' := by
  obtain ⟨c0, c1, c2, c3, c4, cf⟩ := h.cells
  have H : Hid (RefAt w x xk xd xi S) := h
  clear h
  cases hoff : S.off
  · rw [hoff] at c3
    go_enter Tryz.func23, Tryz.ntmps23
    go_wp2_with fail
    go_ret
    refine ⟨rfl, ?_, Chg.refl _ _⟩
    simpa [DevS.start, hoff] using H.out
  · rw [hoff] at c3
    go_enter Tryz.func23, Tryz.ntmps23
    go_wp2_with fail
    refine (rcrash_any w x xk xd xi S (.slice none 0 0) [] H.out (.inl ⟨rfl, _, _, rfl⟩)).mono ?_
    rintro e w1 ⟨rfl, h1, t1⟩
    have H1 : Hid (RefAt w1 x xk xd xi (S.crash []) ∧ Chg [x, xk, xd, xi] w w1) := ⟨h1, t1⟩
    clear c0 c1 c2 c3 c4 cf h1 t1
    obtain ⟨c0, c1, c2, c3, c4, cf⟩ := H1.out.1.cells
    go_wp2_with fail
    go_ret
    refine ⟨rfl, ?_, H1.out.2.setCell _ _ (.inl (by simp))⟩
    have e : S.start = { S.crash [] with off := false } := by
      unfold DevS.start DevS.crash
      rw [hoff, saved_nil]
      rfl
    rw [e]
    exact H1.out.1.store 3 (.bool false) rfl rfl rfl rfl H1.out.1.ok

theorem info_int : (Tryz.prog.info? 3).map (fun i => (i.zero, i.size, i.bytes)) = some (some (.int .i64 0), 1, 8) := by kernel_rfl
theorem Ints.of_own {w : World} {base : Nat} {v : Value} {l : List Int} {t : TypeId} (h : w.ownsRow base t 1 v l.length (l.map (Value.int .i64))) (hl : l.length ≤ 9223372036854775807) : Ints (base ≤ ·) w v l := by
  rcases h.2 with ⟨rfl, h0⟩ | ⟨g, cap, cur, rfl, hb, hg, hn, hm, hs, ht⟩
  · exact .inl ⟨List.eq_nil_of_length_eq_zero h0, _, _, rfl⟩
  · refine .inr ⟨g, 0, cap, rfl, hb, hl, fun j hj => ?_⟩
    rw [Nat.zero_add, cell_at hg j]
    have h2 : (cur.toList.take (l.length * 1))[j]? = some (Value.int .i64 l[j]) := by rw [ht]; simp [hj]
    rw [List.getElem?_take] at h2
    split at h2
    · simpa using h2
    · cases h2
theorem below_of_grown' {w w' : World} {B : Nat} {row : Option Nat} (h : w.grownBy w' row) (hr : ∀ k, row = some k → B ≤ k) (hB : B ≤ w.heap.size) : Below B w w' :=
  ⟨h.os, h.tape, h.output, h.size, fun k hk => h.block k (by omega) (fun e => by have := hr k e.symm; omega)⟩
/-- the marked places below j -/
def DevS.marks (S : DevS) (j : Nat) : List Int := List.map (fun (i : Nat) => (i : Int)) (List.filter (fun (i : Nat) => (S.dirty (i : Int)).isSome) (List.range j))
theorem marks_succ (S : DevS) (j : Nat) : S.marks (j + 1) = S.marks j ++ (if (S.dirty (j : Int)).isSome then [(j : Int)] else []) := by
  unfold DevS.marks
  rw [List.range_succ, List.filter_append, List.map_append]
  congr 1
  by_cases h : (S.dirty (j : Int)).isSome = true
  · simp [h]
  · simp [h]
theorem marks_len (S : DevS) (j : Nat) : (S.marks j).length ≤ j := by
  unfold DevS.marks
  rw [List.length_map]
  exact Nat.le_trans (List.length_filter_le _ _) (by simp)
theorem marks_sorted (S : DevS) : ∀ j, (S.marks j).Pairwise (· < ·) ∧ ∀ k ∈ S.marks j, k < j
  | 0 => by simp [DevS.marks]
  | j + 1 => by
    obtain ⟨h1, h2⟩ := marks_sorted S j
    rw [marks_succ]
    split
    · refine ⟨List.pairwise_append.2 ⟨h1, by simp, fun a ha b hb => by simp at hb; subst hb; exact h2 a ha⟩, fun k hk => ?_⟩
      rcases List.mem_append.1 hk with h | h
      · have := h2 k h; omega
      · simp at h; omega
    · rw [List.append_nil]
      exact ⟨h1, fun k hk => by have := h2 k hk; omega⟩
theorem marks_mem (S : DevS) (hin : ∀ i, S.dirty i ≠ none → 0 ≤ i ∧ i < S.n) (k : Int) : k ∈ S.marks S.n.toNat ↔ S.dirty k ≠ none := by
  unfold DevS.marks
  simp only [List.mem_map, List.mem_filter, List.mem_range]
  constructor
  · rintro ⟨i, ⟨_, h⟩, rfl⟩
    intro e
    rw [e] at h
    cases h
  · intro h
    have hk := hin k h
    refine ⟨k.toNat, ⟨by omega, ?_⟩, by omega⟩
    have e : ((k.toNat : Nat) : Int) = k := by omega
    rw [e]
    cases hd : S.dirty k with
    | none => exact absurd hd h
    | some s => rfl
/-- New refuses -/
theorem rnew_no (w : World) (n : Int) (hn : n < 8 ∨ 4096 < n) :
    Calls Tryz.prog 9 #[.int .i64 n] w fun e w' => e = .returned (.tuple #[.pointer none, .int .i64 22]) ∧ w = w' := by
  rcases hn with hn | hn
  all_goals
    go_enter Tryz.func9, Tryz.ntmps9
    go_wp2
    go_ret2
    exact ⟨rfl, rfl⟩
theorem info_bool : (Tryz.prog.info? 4).map (fun i => (i.zero, i.size, i.bytes)) = some (some (.bool false), 1, 1) := by kernel_rfl
theorem rinfo_string : (Tryz.prog.info? 9).map (fun i => (i.zero, i.size, i.bytes)) = some (some (.string ⟨#[]⟩), 1, 16) := by kernel_rfl
theorem four_at (w : World) (a b c d : Obj) : ((((w.alloc a).alloc b).alloc c).alloc d).drew.heap[w.heap.size]? = some a ∧ ((((w.alloc a).alloc b).alloc c).alloc d).drew.heap[w.heap.size + 1]? = some b ∧
    ((((w.alloc a).alloc b).alloc c).alloc d).drew.heap[w.heap.size + 1 + 1]? = some c ∧ ((((w.alloc a).alloc b).alloc c).alloc d).drew.heap[w.heap.size + 1 + 1 + 1]? = some d ∧ Below w.heap.size w ((((w.alloc a).alloc b).alloc c).alloc d).drew := by
  have hd : ((((w.alloc a).alloc b).alloc c).alloc d).drew.heap = ((((w.alloc a).alloc b).alloc c).alloc d).heap := rfl
  have s1 : (w.alloc a).heap.size = w.heap.size + 1 := by simp
  have s2 : ((w.alloc a).alloc b).heap.size = w.heap.size + 1 + 1 := by simp
  have s3 : (((w.alloc a).alloc b).alloc c).heap.size = w.heap.size + 1 + 1 + 1 := by simp
  rw [hd]
  refine ⟨?_, ?_, ?_, ?_, ((Joins.below_alloc3 w a b c).alloc (by simp; omega) d).drew⟩
  · rw [heap_alloc_other d (by omega), heap_alloc_other c (by omega), heap_alloc_other b (by omega)]; exact heap_alloc_last w a
  · rw [heap_alloc_other d (by omega), heap_alloc_other c (by omega), ← s1]; exact heap_alloc_last _ b
  · rw [heap_alloc_other d (by omega), ← s2]; exact heap_alloc_last _ c
  · rw [← s3]; exact heap_alloc_last _ d
theorem made_arr {α : Type} {enc : α → Value} {w : World} {b m : Nat} {t : TypeId} {z : α} {f : Nat → α} (h : w.heap[b]? = some (.cells (madeCells #[enc z] m) t (0, 0))) (hf : ∀ j, j < m → f j = z) : Arr enc w b m t f := by
  unfold Arr
  rw [h]
  congr 2
  apply Array.ext
  · simp [madeCells]
  · intro i h1 h2
    have hi : i < m := by simpa [madeCells] using h1
    simp [madeCells, hf i hi, Nat.mod_one]
theorem rnew_made (w : World) (m x xk xd xi : Nat) (h8 : 8 ≤ m) (h4 : m ≤ 4096) (hx : w.heap[x]? = some (.cells #[.slice (some ⟨xk, 0, none⟩) m m, .slice (some ⟨xd, 0, none⟩) m m, .slice (some ⟨xi, 0, none⟩) m m, .bool false, .int .i64 (-1)] 87 (0, 0)))
    (hk : w.heap[xk]? = some (.cells (madeCells #[.string ⟨#[]⟩] m) 9 (0, 0))) (hd : w.heap[xd]? = some (.cells (madeCells #[.string ⟨#[]⟩] m) 9 (0, 0))) (hi : w.heap[xi]? = some (.cells (madeCells #[.bool false] m) 4 (0, 0)))
    (hne : x ≠ xk ∧ x ≠ xd ∧ x ≠ xi ∧ xk ≠ xd ∧ xk ≠ xi ∧ xd ≠ xi) : RefAt w x xk xd xi (DevS.new m) :=
  ⟨hx, DevS.new_ok (by omega), made_arr (enc := Value.string) (z := ⟨#[]⟩) hk (fun _ _ => rfl), made_arr (enc := Value.bool) (z := false) hi (fun _ _ => rfl), ⟨_, made_arr (enc := Value.string) (z := ⟨#[]⟩) (f := fun _ => ⟨#[]⟩) hd (fun _ _ => rfl), fun j s hs => by cases hs⟩, fun i hi => absurd rfl hi, hne⟩
set_option maxHeartbeats 1000000 in
/-- New -/
theorem rnew_yes (w : World) (n : Int) (hn : 8 ≤ n ∧ n ≤ 4096) :
    Calls Tryz.prog 9 #[.int .i64 n] w fun e w' => ∃ x xk xd xi, e = .returned (.tuple #[.pointer (some ⟨x, 0, none⟩), .int .i64 0]) ∧ RefAt w' x xk xd xi (DevS.new n) ∧ Below w.heap.size w w' ∧
      w.heap.size ≤ x ∧ w.heap.size ≤ xk ∧ w.heap.size ≤ xd ∧ w.heap.size ≤ xi := by
  obtain ⟨hn1, hn2⟩ := hn
  obtain ⟨m, rfl⟩ := Int.eq_ofNat_of_zero_le (by omega : 0 ≤ n)
  have hm1 := run_make_row' (P := Tryz.prog) 84 9 (.string ⟨#[]⟩) 16 Tryz.underlying84 rinfo_string rfl .i64 .i64 m (by omega) (by omega)
  have hm2 := run_make_row' (P := Tryz.prog) 85 4 (.bool false) 1 Tryz.underlying85 info_bool rfl .i64 .i64 m (by omega) (by omega)
  go_enter Tryz.func9, Tryz.ntmps9
  go_wp2_with fail
  go_region
  all_goals go_wp2
  all_goals
    go_ret2
    obtain ⟨q1, q2, q3, q4, hb⟩ := four_at w _ _ _ _
    exact ⟨_, _, _, _, rfl, rnew_made _ m _ _ _ _ (by omega) (by omega) q4 (by first | exact q1 | exact q2 | exact q3) (by first | exact q1 | exact q2 | exact q3) (by first | exact q1 | exact q2 | exact q3) (by omega), hb, by omega, by omega, by omega, by omega⟩
end Go.Proofs.YtanpkghdgdkdlaaGreat.Dev
