/- The law's own small functions of layer 6: size, short, op. -/
import Derived.Test.YtanpkghdgdkdlaaGreatStoInv
import Derived.Deep.LoopGhost
import Derived.Deep.QuietTactic
import Derived.BigQuiet
import Derived.Lib.SmallJoins
namespace Go.Proofs.YtanpkghdgdkdlaaGreat.Sto
set_option linter.unusedVariables false
set_option linter.unusedSimpArgs false
set_option maxRecDepth 100000
open Go.RowKit Go.Lib Go.Proofs.YtanpkghdgdkdlaaGreat.Mem Go.Proofs.YtanpkghdgdkdlaaGreat.Oct Go.Proofs.YtanpkghdgdkdlaaGreat.Dev

def DoT.fits (k : DoT) : Prop := (Lit.int .i64 k.op).wf = true ∧ (Lit.int .i64 k.i).wf = true ∧ k.s.size ≤ 140737488351232 ∧ k.kids.length * 8 ≤ 140737488351232
def DoT.val (k : DoT) (kv : Value) : Value := .agg #[.int .i64 k.op, .int .i64 k.i, kv, .string k.s]
def DoIs (p : Nat → Prop) (w : World) (cs : List Value) (k : DoT) : Prop := ∃ kv, cs = [.int .i64 k.op, .int .i64 k.i, kv, .string k.s] ∧ k.fits ∧ Ints p w kv k.kids
def Dos (p : Nat → Prop) (w : World) (v : Value) (l : List DoT) : Prop := SliceOf 4 (DoIs p) p w v l
theorem Dos.below {B : Nat} {w w' : World} {v : Value} {l : List DoT} (h : Dos (· < B) w v l) (hb : Below B w w') : Dos (· < B) w' v l :=
  SliceOf.below h hb (fun cs k ⟨kv, h1, h2, h3⟩ => ⟨kv, h1, h2, h3.below hb⟩)
theorem cell_on {w w' : World} {p : Addr} {v : Value} (h : Below w.heap.size w w') (hc : w.cell? p = some v) : w'.cell? p = some v := (h.cell (World.block_lt_of_cell? w p hc)).trans hc
theorem Ints.on {p : Nat → Prop} {w w' : World} {v : Value} {l : List Int} (h : Ints p w v l) (hb : Below w.heap.size w w') : Ints p w' v l := by
  rcases h with h | ⟨b, o, c, e, hp, hm, hc⟩
  · exact .inl h
  · exact .inr ⟨b, o, c, e, hp, hm, fun j hj => cell_on hb (hc j hj)⟩
theorem Dos.on {p : Nat → Prop} {w w' : World} {v : Value} {l : List DoT} (h : Dos p w v l) (hb : Below w.heap.size w w') : Dos p w' v l := by
  rcases h with h | ⟨b, o, c, e, hp, hm, hc⟩
  · exact .inl h
  · refine .inr ⟨b, o, c, e, hp, hm, fun j hj => ?_⟩
    obtain ⟨cs, h1, h2, kv, h3, h4, h5⟩ := hc j hj
    refine ⟨cs, h1, fun q hq => ?_, kv, h3, h4, Ints.on h5 hb⟩
    have h6 := h2 q hq
    rw [List.getElem?_eq_getElem (by omega)] at h6 ⊢
    exact cell_on hb h6
theorem Dos.item {p : Nat → Prop} {w : World} {a : Option Addr} {c : Nat} {l : List DoT} (h : Dos p w (.slice a l.length c) l) (j : Nat) (hj : j < l.length) : ∃ (k : DoT) (b o : Nat) (kv : Value), l.take (j + 1) = l.take j ++ [k] ∧ l[j]? = some k ∧ a = some ⟨b, o, none⟩ ∧
    w.cell? ⟨b, o + j * 4, none⟩ = some (.int .i64 k.op) ∧ w.cell? ⟨b, o + j * 4 + 1, none⟩ = some (.int .i64 k.i) ∧ w.cell? ⟨b, o + j * 4 + 2, none⟩ = some kv ∧
      w.cell? ⟨b, o + j * 4 + 3, none⟩ = some (.string k.s) ∧ k.fits ∧ Ints p w kv k.kids := by
  obtain ⟨a', c', e, _, hc⟩ := SliceOf.form h
  injection e with e _ _
  subst e
  obtain ⟨b, o, h1, h2, cs, h3, h4, kv, h5, h6, h7⟩ := hc j hj
  subst h5
  exact ⟨l[j], b, o, kv, by rw [List.take_add_one, List.getElem?_eq_getElem hj]; rfl, List.getElem?_eq_getElem hj, h1, h4 0 (by omega), h4 1 (by omega), h4 2 (by omega), h4 3 (by omega), h6, h7⟩
theorem Dos.len {p : Nat → Prop} {w : World} {v : Value} {l : List DoT} (h : Dos p w v l) : ∃ a c, v = .slice a l.length c ∧ l.length ≤ 9223372036854775807 := by
  obtain ⟨a, c, e, hm, _⟩ := SliceOf.form h
  exact ⟨a, c, e, hm⟩

def sizeOf (n : Int) : Int := 8 + IntKind.u64.wrap n % 33
theorem sizeOf_range (n : Int) : 8 ≤ sizeOf n ∧ sizeOf n ≤ 40 := by unfold sizeOf; omega
theorem size_fn (n : Int) (w : World) : Calls Tryz.prog 8 #[.int .i64 n] w fun e w' => e = .returned (.int .i64 (sizeOf n)) ∧ w = w' := by
  obtain ⟨h0, h1⟩ : 0 ≤ IntKind.u64.wrap n % 33 ∧ IntKind.u64.wrap n % 33 < 33 := by omega
  unfold sizeOf
  obtain ⟨x, hx⟩ : ∃ x, x = IntKind.u64.wrap n % 33 := ⟨_, rfl⟩
  rw [← hx] at h0 h1 ⊢
  go_enter Tryz.func8, Tryz.ntmps8
  go_wp2_with fail
  go_ret
  refine ⟨?_, rfl⟩
  have e1 : wrap64 (8 + wrap64 ((IntKind.u64.wrap n).tmod 33)) = 8 + x := by
    have hu : 0 ≤ IntKind.u64.wrap n := by rw [IntKind.wrap_u64]; omega
    rw [Int.tmod_eq_emod_of_nonneg hu, ← hx]
    have e2 : wrap64 x = x := by unfold wrap64; omega
    rw [e2]
    unfold wrap64; omega
  rw [e1]; rfl
theorem opn_range (k : DoT) : 0 ≤ k.opn ∧ k.opn < 13 := by unfold DoT.opn; omega
theorem op_fn (k : DoT) (kv : Value) (w : World) : Calls Tryz.prog 19 #[k.val kv] w fun e w' => e = .returned (.int .i64 k.opn) ∧ Below w.heap.size w w' := by
  obtain ⟨h0, h1⟩ := opn_range k
  obtain ⟨op, i, kids, s⟩ := k
  unfold DoT.val
  unfold DoT.opn at h0 h1 ⊢
  dsimp only at h0 h1 ⊢
  obtain ⟨x, hx⟩ : ∃ x, x = IntKind.u64.wrap op % 13 := ⟨_, rfl⟩
  rw [← hx] at h0 h1 ⊢
  have hb : Below w.heap.size w (w.alloc (.cells #[.int .i64 op, .int .i64 i, kv, .string s] 51)) := (Below.refl _ _).alloc (Nat.le_refl _) _
  have HB : Hid _ := hb
  clear hb
  go_enter Tryz.func19, Tryz.ntmps19
  go_wp2_with fail
  go_ret
  refine ⟨?_, HB.out⟩
  have e1 : wrap64 ((IntKind.u64.wrap op).tmod 13) = x := by
    have hu : 0 ≤ IntKind.u64.wrap op := by rw [IntKind.wrap_u64]; omega
    rw [Int.tmod_eq_emod_of_nonneg hu, ← hx]
    unfold wrap64; omega
  rw [e1]; rfl

/-! ### short -/
/-- a list of things, as 'short' reads it -/
def Rd (w : World) (a : Option Addr) (n : Nat) : Prop := n ≤ 9223372036854775807 ∧ ∀ j, j < n → ∃ (b o : Nat) (s : ByteArray) (ka : Option Addr) (kn kc : Nat), a = some ⟨b, o, none⟩ ∧ w.cell? ⟨b, o + j * 4 + 2, none⟩ = some (.slice ka kn kc) ∧ w.cell? ⟨b, o + j * 4 + 3, none⟩ = some (.string s)
theorem Rd.below {w w' : World} {a : Option Addr} {n : Nat} (h : Rd w a n) (hb : Below w.heap.size w w') : Rd w' a n :=
  ⟨h.1, fun j hj => by
    obtain ⟨b, o, s, ka, kn, kc, h1, h2, h3⟩ := h.2 j hj
    exact ⟨b, o, s, ka, kn, kc, h1, cell_on hb h2, cell_on hb h3⟩⟩
theorem Dos.rd {p : Nat → Prop} {w : World} {a : Option Addr} {c : Nat} {l : List DoT} (h : Dos p w (.slice a l.length c) l) : Rd w a l.length := by
  obtain ⟨a', c', e, hm⟩ := h.len
  refine ⟨hm, fun j hj => ?_⟩
  obtain ⟨k, b, o, kv, _, _, h1, _, _, h2, h3, _, h4⟩ := h.item j hj
  obtain ⟨ka, kc, rfl, _⟩ := h4.form
  exact ⟨b, o, _, ka, _, kc, h1, h2, h3⟩
/-- few enough, as far as was counted -/
def Few (f : Nat → Nat) (j : Nat) (x y : Int) : Prop := 0 ≤ y ∧ ∀ q, q < j → f q ≤ 60 ∨ 60 < y ∨ 8192 < x
theorem Few.start (f : Nat → Nat) (x : Int) : Few f 0 x 0 := ⟨by omega, fun q hq => by omega⟩
def ShortIs (w : World) (m : Nat) (f : Nat → Nat) (e : Ending) (w' : World) : Prop := ∃ x, e = .returned (.bool x) ∧ (x = true → ∀ i, i < m → f i ≤ 60) ∧ Below w.heap.size w w'
set_option maxHeartbeats 1000000 in
theorem short_any (w : World) (g m c : Nat) (f : Nat → Nat) (hm : m ≤ 9223372036854775807) (hs : ∀ i, i < m → ∃ a c, w.cell? ⟨g, i, none⟩ = some (.slice a (f i) c) ∧ Rd w a (f i)) :
    Calls Tryz.prog 16 #[.slice (some ⟨g, 0, none⟩) m c] w (ShortIs w m f) := by
  have HS : Hid _ := hs
  clear hs
  go_enter Tryz.func16, Tryz.ntmps16
  go_wp2
  go_loopw [3, 4, 10] (fun x y i wr => ∃ (j : Nat) (xi yi : Int), j ≤ m ∧ i = .int .i64 j ∧ x = .int .i64 xi ∧ y = .int .i64 yi ∧ Hid (Below w.heap.size w wr ∧ Few f j xi yi)) (fun _ _ i _ => m - (intOf i).toNat)
  case atStart => exact ⟨0, _, _, by omega, rfl, rfl, rfl, Below.refl _ _, Few.start _ _⟩
  case round =>
    obtain ⟨j, xi, yi, hj, rfl, rfl, rfl, hT⟩ := hrel
    by_cases hlt : j < m
    · obtain ⟨a, c', hcell, hrd⟩ := HS.out j hlt
      have hcell' := cell_on hT.out.1 hcell
      have HR : Hid (Rd w a (f j)) := hrd
      have hn := hrd.1
      clear hcell hrd
      go_wp2
      clear hcell'
      go_loopw [3, 4, 7] (fun x y i wr' => ∃ (q : Nat) (xi yi : Int), q ≤ f j ∧ i = .int .i64 q ∧ x = .int .i64 xi ∧ y = .int .i64 yi ∧ Hid (Below w.heap.size w wr' ∧ Few f j xi yi ∧ (q : Int) ≤ yi)) (fun _ _ i _ => f j - (intOf i).toNat)
      case atStart => exact ⟨0, _, _, by omega, rfl, rfl, rfl, hT.out.1, hT.out.2, by have := hT.out.2.1; omega⟩
      case round =>
        obtain ⟨q, xq, yq, hq, rfl, rfl, rfl, hT2⟩ := hrel
        have hy0 := hT2.out.2.1.1
        have hend : Hid ((¬ (q < f j)) ∨ 60 < yq ∨ 8192 < xq → Few f (j + 1) xq yq) := fun h => ⟨hy0, fun p hp => by
          by_cases hpj : p < j
          · exact hT2.out.2.1.2 p hpj
          · have : p = j := by omega
            subst this
            have := hT2.out.2.2
            omega⟩
        by_cases hqn : q < f j
        · by_cases h80 : yq ≤ 60
          · by_cases h8192 : xq ≤ 8192
            · obtain ⟨b, o, s, ka, kn, kc, rfl, h1, h2⟩ := HR.out.2 q hqn
              have h1' := cell_on hT2.out.1 h1
              have h2' := cell_on hT2.out.1 h2
              have hw1 : wrap64 (yq + 1) = yq + 1 := by unfold wrap64; omega
              have hnext : Hid (∀ x', Few f j x' (yq + 1) ∧ ((q + 1 : Nat) : Int) ≤ yq + 1) := fun x' => ⟨⟨by omega, fun p hp => by have := hT2.out.2.1.2 p hp; omega⟩, by have := hT2.out.2.2; omega⟩
              clear h1 h2 hend
              go_wp2_with fail
              go_quiet (fail)
              go_wp2
              go_roundw
              case rel => exact ⟨q + 1, _, yq + 1, by omega, by go_num, rfl, by first | rfl | (rw [hw1]; done) | go_num, hT2.out.1.trans (Joins.below_draws _ _ _), hnext.out _⟩
              case measure => simp [intOf]; omega
            · go_wp2
              go_roundw
              case rel => exact ⟨j + 1, _, _, by omega, by go_num, rfl, rfl, hT2.out.1, hend.out (.inr (.inr (by omega)))⟩
              case measure => simp [intOf]; omega
          · go_wp2
            go_roundw
            case rel => exact ⟨j + 1, _, _, by omega, by go_num, rfl, rfl, hT2.out.1, hend.out (.inr (.inl (by omega)))⟩
            case measure => simp [intOf]; omega
        · go_wp2
          go_roundw
          case rel => exact ⟨j + 1, _, _, by omega, by go_num, rfl, rfl, hT2.out.1, hend.out (.inl hqn)⟩
          case measure => simp [intOf]; omega
    · by_cases h80 : yi ≤ 60
      · by_cases h8192 : xi ≤ 8192
        · go_wp2
          go_ret
          exact ⟨_, rfl, fun _ i hi => by have := hT.out.2.2 i (by omega); omega, hT.out.1⟩
        · go_wp2
          go_ret
          exact ⟨_, rfl, fun h => absurd h (by decide), hT.out.1⟩
      · go_wp2
        go_ret
        exact ⟨_, rfl, fun h => absurd h (by decide), hT.out.1⟩
end Go.Proofs.YtanpkghdgdkdlaaGreat.Sto
