/- The script's loop of layer 6's laws. -/
import Derived.Test.YtanpkghdgdkdlaaGreatStoSame
namespace Go.Proofs.YtanpkghdgdkdlaaGreat.Sto
set_option linter.unusedVariables false
set_option linter.unusedSimpArgs false
set_option maxRecDepth 100000
open Go.RowKit Go.Lib Go.Proofs.YtanpkghdgdkdlaaGreat.Mem Go.Proofs.YtanpkghdgdkdlaaGreat.Oct Go.Proofs.YtanpkghdgdkdlaaGreat.Dev

/-- a store, some acts on -/
def Lp (w0 : World) (n s d j : Nat) (w : World) : Prop := ∃ B S D, B.s = s ∧ B.d = d ∧ Sc w0 B S D w ∧ Run n j S D
theorem Lp.on {w0 w w' : World} {n s d j : Nat} (h : Lp w0 n s d j w) (hb : Below w.heap.size w w') : Lp w0 n s d j w' := by
  obtain ⟨B, S, D, h1, h2, h3, h4⟩ := h
  exact ⟨B, S, D, h1, h2, h3.on hb, h4⟩
theorem Lp.below {w0 w : World} {n s d j : Nat} (h : Lp w0 n s d j w) : Below w0.heap.size w0 w := by
  obtain ⟨B, S, D, h1, h2, h3, h4⟩ := h
  exact h3.below
theorem Lp.more {w0 w : World} {n s d j : Nat} (h : Lp w0 n s d j w) : Lp w0 n s d (j + 1) w := by
  obtain ⟨B, S, D, h1, h2, h3, h4⟩ := h
  exact ⟨B, S, D, h1, h2, h3, h4.good, h4.inv.more (by omega), h4.pow⟩
/-- one round of a script -/
theorem Lp.does {w0 w : World} {n s d j : Nat} (h : Lp w0 n s d j w) (hn : 8 ≤ n ∧ n ≤ 4096) (hj : j < 1099511627776) {k : DoT} {kv : Value} (hk : k.fits) (hv : Ints (· < w0.heap.size) w kv k.kids) (h11 : k.opn < 11) :
    Calls Tryz.prog 25 #[.pointer (some ⟨s, 0, none⟩), .pointer (some ⟨d, 0, none⟩), .agg #[.int .i64 k.op, .int .i64 k.i, kv, .string k.s]] w fun e w' => ∃ v, e = .returned v ∧ Lp w0 n s d (j + 1) w' := by
  obtain ⟨B, S, D, rfl, rfl, h3, h4⟩ := h
  refine (does_any w B S D n j k kv h3.st h4.inv h4.good.dn hj hn.2 hk (hv.mono (fun q hq hm => by have := h3.base q hm; omega)) (by omega)).mono ?_
  rintro e w' ⟨B', a, m, c, dd, hnx, rfl, _, hs, hc⟩
  exact ⟨_, rfl, B', _, _, hnx.s, hnx.d, h3.turn hnx hs hc, h4.does hn hj h11⟩
theorem size_nat (n : Int) : ∃ N : Nat, sizeOf n = N ∧ 8 ≤ N ∧ N ≤ 40 := ⟨(sizeOf n).toNat, by have := sizeOf_range n; omega, by have := sizeOf_range n; omega, by have := sizeOf_range n; omega⟩
theorem op_fn' (k : DoT) (kv : Value) (w : World) : Calls Tryz.prog 19 #[.agg #[.int .i64 k.op, .int .i64 k.i, kv, .string k.s]] w fun e w' => e = .returned (.int .i64 k.opn) ∧ Below w.heap.size w w' := op_fn k kv w
theorem short_one (p : Nat → Prop) (w : World) (a : Option Addr) (c : Nat) (l : List DoT) (h : Dos p w (.slice a l.length c) l) :
    Calls Tryz.prog 16 #[.slice (some ⟨w.heap.size, 0, none⟩) 1 1] (w.alloc (.cells #[.slice a l.length c] 46)) fun e w' => ∃ x, e = .returned (.bool x) ∧ (x = true → l.length ≤ 60) ∧ Below w.heap.size w w' := by
  have hb : Below w.heap.size w (w.alloc (.cells #[.slice a l.length c] 46)) := (Below.refl _ _).alloc (Nat.le_refl _) _
  refine (short_any _ w.heap.size 1 1 (fun _ => l.length) (by decide) (fun i hi => ?_)).mono ?_
  · have : i = 0 := by omega
    subst this
    exact ⟨a, c, cell_at (heap_alloc_last w _) 0, (h.on hb).rd⟩
  · rintro e w' ⟨x, rfl, hx, hb2⟩
    exact ⟨x, rfl, fun ht => hx ht 0 (by omega), hb.trans (hb2.mono hb.size)⟩
theorem keptOnly_le (S : StS) (n : Nat) : S.keptOnly n ≤ n := by
  unfold StS.keptOnly
  refine Nat.le_trans (List.length_filter_le _ _) ?_
  simp
theorem freeN_range (S : StS) {n : Nat} (hn : n ≤ 4096) : -10000 ≤ S.freeN n ∧ S.freeN n ≤ 10000 := by
  have h1 := keptOnly_le S n
  have h2 := num_le S.cells n
  unfold StS.freeN
  omega
/-- whom a store keeps, and how many blocks are free -/
theorem Sc.free {w0 w : World} {B : Blk} {S : StS} {D : DevS} {n m : Nat} (h : Sc w0 B S D w) (hi : Inv n m S) (hD : D.n = n) :
    Calls Tryz.prog 36 #[.pointer (some ⟨B.s, 0, none⟩)] w fun e w' => e = .returned (.int .i64 (S.freeN n)) ∧ Below w.heap.size w w' := by
  have e : D.n.toNat = n := by omega
  have := storeFree_any w B S D h.st (by rw [e]; exact hi.wf) (fun i hk => by have := hi.kept i hk; omega)
  rw [e] at this
  exact this
end Go.Proofs.YtanpkghdgdkdlaaGreat.Sto
