/- A store under a law's walk; the example of layer 6 holds. -/
import Derived.Test.YtadmecjdihfmeaaGreatStoStart
import Derived.Test.YtadmecjdihfmeaaGreatStoDoes
import Derived.Test.YtadmecjdihfmeaaGreatStoFree
import Derived.Test.YtadmecjdihfmeaaGreatStoPut
namespace Go.Proofs.YtadmecjdihfmeaaGreat.Sto
set_option linter.unusedVariables false
set_option linter.unusedSimpArgs false
set_option maxRecDepth 100000
open Go.RowKit Go.Lib Go.Proofs.YtadmecjdihfmeaaGreat.Mem Go.Proofs.YtadmecjdihfmeaaGreat.Oct Go.Proofs.YtadmecjdihfmeaaGreat.Dev

/-- a store that the walk has made -/
structure Sc (w0 : World) (B : Blk) (S : StS) (D : DevS) (w : World) : Prop where
  below : Below w0.heap.size w0 w
  st : StAt w B S D
  base : ∀ x ∈ B.all, w0.heap.size ≤ x
theorem Sc.on {w0 w w' : World} {B : Blk} {S : StS} {D : DevS} (h : Sc w0 B S D w) (hb : Below w.heap.size w w') : Sc w0 B S D w' := ⟨h.below.trans (hb.mono h.below.size), h.st.on hb, h.base⟩
theorem Sc.turn {w0 w w' : World} {B B' : Blk} {S S' : StS} {D D' : DevS} (h : Sc w0 B S D w) (hn : Blk.Next w B B') (hs : StAt w' B' S' D') (hc : Chg B.all w w') : Sc w0 B' S' D' w' :=
  ⟨h.below.trans (hc.below h.below.size h.base), hs, fun x hx => by
    rcases hn.mem x hx with h1 | h1
    · exact h.base x h1
    · have := h.below.size; omega⟩
theorem new_small (n : Int) : (DevS.new n).small := ⟨fun i s h => (by cases h), fun i s h => (by cases h)⟩
/-- Format on a new device -/
theorem format_sc {w0 w : World} {b bk bd n : Nat} (hn : 8 ≤ n ∧ n ≤ 4096) {note : ByteArray} (hnt : note.size ≤ 3900) (h : At w b bk bd (DevS.new n)) (hb : Below w0.heap.size w0 w) (h1 : w0.heap.size ≤ b) (h2 : w0.heap.size ≤ bk) (h3 : w0.heap.size ≤ bd) :
    Calls Tryz.prog 35 #[.pointer (some ⟨b, 0, none⟩), .string note] w fun e w' => ∃ B D, e = .returned (.tuple #[.pointer (some ⟨B.s, 0, none⟩), .int .i64 0]) ∧ B.d = b ∧ Sc w0 B (StS.fresh note) D w' ∧ Run n 0 (StS.fresh note) D := by
  obtain ⟨D, e1, hr⟩ := format_run n hn hnt
  refine (format_any w b bk bd _ note h (new_small _)).mono ?_
  rintro e w' hp
  rw [e1] at hp
  unfold FormatPost at hp
  rw [if_pos rfl] at hp
  obtain ⟨B, ho, rfl, hs, hc⟩ := hp
  refine ⟨B, D, rfl, ho.d, ⟨hb.trans (hc.below hb.size (by simp; omega)), hs, fun x hx => ?_⟩, hr⟩
  rcases ho.dev_mem x hx with h4 | h4
  · simp at h4; omega
  · have := hb.size; omega
/-- a store's device, crashed, with power again -/
theorem Sc.devs {w0 w w' : World} {B : Blk} {S : StS} {D D' : DevS} (h : Sc w0 B S D w) (ha : At w' B.d B.k B.y D') (hc : Chg [B.d, B.k, B.y] w w') : At w' B.d B.k B.y D' ∧ Below w0.heap.size w0 w' ∧ w0.heap.size ≤ B.d ∧ w0.heap.size ≤ B.k ∧ w0.heap.size ≤ B.y := by
  have hm := h.base
  have h1 := hm B.d (by simp [Blk.all])
  have h2 := hm B.k (by simp [Blk.all])
  have h3 := hm B.y (by simp [Blk.all])
  exact ⟨ha, h.below.trans (hc.below h.below.size (by simp; omega)), h1, h2, h3⟩

theorem ex_has2 : ex3.has 3 = true := by decide
end Go.Proofs.YtadmecjdihfmeaaGreat.Sto
