/- Layer 6: reach. -/
import Derived.Test.YtadmecjdihfmeaaGreatStoGrow
import Derived.Test.YtadmecjdihfmeaaGreatStoFormat
import Derived.Lib.MinMax
namespace Go.Proofs.YtadmecjdihfmeaaGreat.Sto
set_option linter.unusedVariables false
set_option linter.unusedSimpArgs false
set_option maxRecDepth 100000
open Go.RowKit Go.Lib Go.Proofs.YtadmecjdihfmeaaGreat.Mem Go.Proofs.YtadmecjdihfmeaaGreat.Oct Go.Proofs.YtadmecjdihfmeaaGreat.Dev

/-- the set of those above -/
def AboveAt (w : World) (g : Nat) (A : Int → Bool) : Prop := IsI keptV w g (fun i => if A i = true then some () else none)
theorem AboveAt.look {w : World} {g : Nat} {A : Int → Bool} (h : AboveAt w g A) (i : Int) : (Instr.lookup 95 (.map (some g)) (.int .i64 i) false).run Tryz.prog w = .ok (.bool (A i)) w := by
  have hl := IsI.look1 h (P := Tryz.prog) Tryz.underlying95 Tryz.underlying3 (zero_bool w) i
  rw [hl]
  cases hk : A i <;> simp [hk]
theorem AboveAt.put {w : World} {g : Nat} {A : Int → Bool} (h : AboveAt w g A) (i : Int) : ∃ w', (Instr.mapUpdate 95 (.map (some g)) (.int .i64 i) (.bool true)).run Tryz.prog w = .ok () w' ∧ AboveAt w' g (fun j => if j = i then true else A j) ∧ Chg [g] w w' := by
  obtain ⟨w1, hrun, hm1, hc1⟩ := IsI.put h (P := Tryz.prog) Tryz.underlying95 Tryz.underlying3 i ()
  refine ⟨w1, hrun, hm1.congr (fun j => ?_), hc1⟩
  by_cases hj : j = i
  · subst hj; rw [upd_same]; simp
  · rw [upd_other _ _ _ hj]; simp [hj]
theorem AboveAt.del {w : World} {g : Nat} {A : Int → Bool} {i : Int} (h : AboveAt w g (fun j => if j = i then true else A j)) (hi : A i = false) : ∃ w', (∀ ty, (Builtin.delete_ #[95, 3] ty #[.map (some g), .int .i64 i]).run Tryz.prog w = .ok (.tuple #[]) w') ∧ AboveAt w' g A ∧ Chg [g] w w' := by
  obtain ⟨w1, hrun, hm1, hc1⟩ := IsI.del h (P := Tryz.prog) Tryz.underlying95 Tryz.underlying3 i 0 3
  refine ⟨w1, fun ty => hrun, hm1.congr (fun j => ?_), hc1⟩
  by_cases hj : j = i
  · subst hj; rw [upd_same, hi]; simp
  · rw [upd_other _ _ _ hj]; simp [hj]
theorem AboveAt.chg {w w' : World} {g : Nat} {A : Int → Bool} {T : List Nat} (h : AboveAt w g A) (hc : Chg T w w') (hT : g ∉ T) : AboveAt w' g A := IsI.touch h hc hT
/-- a map that is none of a store's turns -/
theorem StAt.off {w w' : World} {B : Blk} {S : StS} {D : DevS} {g : Nat} {A : Int → Bool} (h : StAt w B S D) (hg : AboveAt w g A) (hng : g ∉ B.all) (hc : Chg [g] w w') : StAt w' B S D := by
  simp only [Blk.all, List.mem_cons, List.mem_nil_iff, or_false, not_or] at hng
  obtain ⟨n1, n2, n3, n4, n5, n6⟩ := hng
  obtain ⟨mm, hm⟩ := h.cells
  refine ⟨(hc.block _ (heap_lt h.box) (by simpa using Ne.symm n1)).trans h.box, h.dev.of_touch hc (by simpa using Ne.symm n2) (by simpa using Ne.symm n3) (by simpa using Ne.symm n4), ⟨mm, hm.is.touch hc (by simpa using Ne.symm n5), hm.eq, fun i c a k hi => ?_⟩, h.kept.touch hc (by simpa using Ne.symm n6), h.nd, h.small, fun q hq => Nat.lt_of_lt_of_le (h.low q hq) hc.size⟩
  obtain ⟨es, clock, hb, _⟩ := hg
  rcases hm.kids i c a k hi with hk | ⟨b, o, q, e, hp, hl, hcell⟩
  · exact .inl hk
  · by_cases hz : c.kids.length = 0
    · exact .inl ⟨List.length_eq_zero_iff.1 hz, a, k, by rw [hz]⟩
    · have hbg : b ≠ g := by
        rintro rfl
        have := hcell 0 (by omega)
        simp [World.cell?, hb] at this
      exact .inr ⟨b, o, q, e, hp, hl, fun j hj => by rw [hc.cell (by simpa using hbg) (hcell j hj)]⟩
def ReachPost (w : World) (B : Blk) (g : Nat) (D : DevS) (A : Int → Bool) (r : Except Int (Int × StS)) (e : Ending) (w' : World) : Prop := match r with
  | .ok (h, S') => e = .returned (.tuple #[.int .i64 h, .int .i64 0]) ∧ StAt w' B S' D ∧ AboveAt w' g A ∧ Chg (g :: B.all) w w'
  | .error x => e = .returned (.tuple #[.int .i64 0, .int .i64 x]) ∧ (∃ S', StAt w' B S' D) ∧ Chg (g :: B.all) w w'
theorem unk_none {K : Int → Bool} {n : Nat} {i : Int} (h : unk K n = 0) (hi : 0 ≤ i ∧ i < n) : K i = true := by
  cases hk : K i with
  | true => rfl
  | false =>
    obtain ⟨q, rfl⟩ := Int.eq_ofNat_of_zero_le hi.1
    have := unk_pos n q (by omega) hk
    omega
abbrev above1 (A : Int → Bool) (i : Int) : Int → Bool := fun j => if j = i then true else A j
end Go.Proofs.YtadmecjdihfmeaaGreat.Sto
