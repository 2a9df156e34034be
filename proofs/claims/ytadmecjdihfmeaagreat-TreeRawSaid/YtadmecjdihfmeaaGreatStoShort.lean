/- The law's own small functions of layer 6: size, short, op. -/
import Derived.Test.YtadmecjdihfmeaaGreatStoInv
import Derived.Deep.LoopGhost
import Derived.Deep.QuietTactic
import Derived.BigQuiet
import Derived.Lib.SmallJoins
namespace Go.Proofs.YtadmecjdihfmeaaGreat.Sto
set_option linter.unusedVariables false
set_option linter.unusedSimpArgs false
set_option maxRecDepth 100000
open Go.RowKit Go.Lib Go.Proofs.YtadmecjdihfmeaaGreat.Mem Go.Proofs.YtadmecjdihfmeaaGreat.Oct Go.Proofs.YtadmecjdihfmeaaGreat.Dev

def DoT.fits (k : DoT) : Prop := (Lit.int .i64 k.op).wf = true ∧ (Lit.int .i64 k.i).wf = true ∧ k.s.size ≤ 140737488351232 ∧ k.kids.length * 8 ≤ 140737488351232
def DoT.val (k : DoT) (kv : Value) : Value := .agg #[.int .i64 k.op, .int .i64 k.i, kv, .string k.s]
def DoIs (p : Nat → Prop) (w : World) (cs : List Value) (k : DoT) : Prop := ∃ kv, cs = [.int .i64 k.op, .int .i64 k.i, kv, .string k.s] ∧ k.fits ∧ Ints p w kv k.kids
def Dos (p : Nat → Prop) (w : World) (v : Value) (l : List DoT) : Prop := SliceOf 4 (DoIs p) p w v l
theorem Dos.below {B : Nat} {w w' : World} {v : Value} {l : List DoT} (h : Dos (· < B) w v l) (hb : Below B w w') : Dos (· < B) w' v l :=
  SliceOf.below h hb (fun cs k ⟨kv, h1, h2, h3⟩ => ⟨kv, h1, h2, h3.below hb⟩)
theorem cell_on {w w' : World} {p : Addr} {v : Value} (h : Below w.heap.size w w') (hc : w.cell? p = some v) : w'.cell? p = some v := (h.cell (World.block_lt_of_cell? w p hc)).trans hc
theorem Ints.on {p : Nat → Prop} {w w' : World} {v : Value} {l : List Int} (h : Ints p w v l) (hb : Below w.heap.size w w') : Ints p w' v l := by
  rcases h with h | ⟨b, o, c, e, hp, hm, hc⟩
  · exact .inl h
  · exact .inr ⟨b, o, c, e, hp, hm, fun j hj => cell_on hb (hc j hj)⟩
theorem Dos.on {p : Nat → Prop} {w w' : World} {v : Value} {l : List DoT} (h : Dos p w v l) (hb : Below w.heap.size w w') : Dos p w' v l := by
  rcases h with h | ⟨b, o, c, e, hp, hm, hc⟩
  · exact .inl h
  · refine .inr ⟨b, o, c, e, hp, hm, fun j hj => ?_⟩
    obtain ⟨cs, h1, h2, kv, h3, h4, h5⟩ := hc j hj
    refine ⟨cs, h1, fun q hq => ?_, kv, h3, h4, Ints.on h5 hb⟩
    have h6 := h2 q hq
    rw [List.getElem?_eq_getElem (by omega)] at h6 ⊢
    exact cell_on hb h6
theorem Dos.item {p : Nat → Prop} {w : World} {a : Option Addr} {c : Nat} {l : List DoT} (h : Dos p w (.slice a l.length c) l) (j : Nat) (hj : j < l.length) : ∃ (k : DoT) (b o : Nat) (kv : Value), l.take (j + 1) = l.take j ++ [k] ∧ l[j]? = some k ∧ a = some ⟨b, o, none⟩ ∧
    w.cell? ⟨b, o + j * 4, none⟩ = some (.int .i64 k.op) ∧ w.cell? ⟨b, o + j * 4 + 1, none⟩ = some (.int .i64 k.i) ∧ w.cell? ⟨b, o + j * 4 + 2, none⟩ = some kv ∧
      w.cell? ⟨b, o + j * 4 + 3, none⟩ = some (.string k.s) ∧ k.fits ∧ Ints p w kv k.kids := by
  obtain ⟨a', c', e, _, hc⟩ := SliceOf.form h
  injection e with e _ _
  subst e
  obtain ⟨b, o, h1, h2, cs, h3, h4, kv, h5, h6, h7⟩ := hc j hj
  subst h5
  exact ⟨l[j], b, o, kv, by rw [List.take_add_one, List.getElem?_eq_getElem hj]; rfl, List.getElem?_eq_getElem hj, h1, h4 0 (by omega), h4 1 (by omega), h4 2 (by omega), h4 3 (by omega), h6, h7⟩
theorem Dos.len {p : Nat → Prop} {w : World} {v : Value} {l : List DoT} (h : Dos p w v l) : ∃ a c, v = .slice a l.length c ∧ l.length ≤ 9223372036854775807 := by
  obtain ⟨a, c, e, hm, _⟩ := SliceOf.form h
  exact ⟨a, c, e, hm⟩

def sizeOf (n : Int) : Int := 8 + IntKind.u64.wrap n % 33
theorem sizeOf_range (n : Int) : 8 ≤ sizeOf n ∧ sizeOf n ≤ 40 := by unfold sizeOf; omega
theorem opn_range (k : DoT) : 0 ≤ k.opn ∧ k.opn < 13 := by unfold DoT.opn; omega
/-! ### short -/
/-- a list of things, as 'short' reads it -/
def Rd (w : World) (a : Option Addr) (n : Nat) : Prop := n ≤ 9223372036854775807 ∧ ∀ j, j < n → ∃ (b o : Nat) (s : ByteArray) (ka : Option Addr) (kn kc : Nat), a = some ⟨b, o, none⟩ ∧ w.cell? ⟨b, o + j * 4 + 2, none⟩ = some (.slice ka kn kc) ∧ w.cell? ⟨b, o + j * 4 + 3, none⟩ = some (.string s)
theorem Rd.below {w w' : World} {a : Option Addr} {n : Nat} (h : Rd w a n) (hb : Below w.heap.size w w') : Rd w' a n :=
  ⟨h.1, fun j hj => by
    obtain ⟨b, o, s, ka, kn, kc, h1, h2, h3⟩ := h.2 j hj
    exact ⟨b, o, s, ka, kn, kc, h1, cell_on hb h2, cell_on hb h3⟩⟩
theorem Dos.rd {p : Nat → Prop} {w : World} {a : Option Addr} {c : Nat} {l : List DoT} (h : Dos p w (.slice a l.length c) l) : Rd w a l.length := by
  obtain ⟨a', c', e, hm⟩ := h.len
  refine ⟨hm, fun j hj => ?_⟩
  obtain ⟨k, b, o, kv, _, _, h1, _, _, h2, h3, _, h4⟩ := h.item j hj
  obtain ⟨ka, kc, rfl, _⟩ := h4.form
  exact ⟨b, o, _, ka, _, kc, h1, h2, h3⟩
/-- few enough, as far as was counted -/
def Few (f : Nat → Nat) (j : Nat) (x y : Int) : Prop := 0 ≤ y ∧ ∀ q, q < j → f q ≤ 60 ∨ 60 < y ∨ 8192 < x
theorem Few.start (f : Nat → Nat) (x : Int) : Few f 0 x 0 := ⟨by omega, fun q hq => by omega⟩
def ShortIs (w : World) (m : Nat) (f : Nat → Nat) (e : Ending) (w' : World) : Prop := ∃ x, e = .returned (.bool x) ∧ (x = true → ∀ i, i < m → f i ≤ 60) ∧ Below w.heap.size w w'
end Go.Proofs.YtadmecjdihfmeaaGreat.Sto
