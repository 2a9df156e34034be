/- What the law's own functions of layer 5 compute: size, does, made, offs. -/
import Derived.Test.YtecnfhfofnbieaaDevDirty
import Derived.Test.YtecnfhfofnbieaaRead
import Derived.Lib.SmallJoins
namespace Go.Proofs.Ytecnfhfofnbieaa.Dev
set_option linter.unusedVariables false
set_option linter.unusedSimpArgs false
set_option maxRecDepth 100000
open Go.RowKit Go.Proofs.Ytecnfhfofnbieaa.Mem

/-- something that befalls a device -/
structure DoS where
  op : Int
  i : Int
  s : ByteArray
  keep : List Int
def DoS.fits (k : DoS) : Prop := (Lit.int .i64 k.op).wf = true ∧ (Lit.int .i64 k.i).wf = true ∧ k.s.size ≤ 140737488351232 ∧ k.keep.length * 8 ≤ 140737488351232
def DoS.val (k : DoS) (kv : Value) : Value := .agg #[.int .i64 k.op, .int .i64 k.i, .string k.s, kv]
def DevS.doesS (S : DevS) (k : DoS) : ByteArray := if k.op % 8 = 4 then S.read k.i else ⟨#[]⟩
def DevS.doesE (S : DevS) (k : DoS) : Int :=
  if k.op % 8 ≤ 2 then S.writeE k.i k.s else if k.op % 8 = 3 then S.flushE else if k.op % 8 = 4 then S.readE k.i else if k.op % 8 = 5 then S.fuseE else 0
def DevS.does (S : DevS) (k : DoS) : DevS :=
  if k.op % 8 ≤ 2 then S.write k.i k.s else if k.op % 8 = 3 then S.flush else if k.op % 8 = 4 then S else if k.op % 8 = 5 then S.fuse k.i else if k.op % 8 = 6 then S.crash k.keep else S.start
def DevS.run (S : DevS) (l : List DoS) : DevS := l.foldl DevS.does S

theorem bits_and7 (n : Int) : bits .and .i64 n 7 = n % 8 := by
  have h7 : (BitVec.ofInt 64 7).toNat = 2 ^ 3 - 1 := by decide
  have key : (BitVec.ofInt 64 n &&& BitVec.ofInt 64 7).toNat = (n % ((2 ^ 64 : Nat) : Int)).toNat % 2 ^ 3 := by
    rw [BitVec.toNat_and, BitVec.toNat_ofInt, h7, Nat.and_two_pow_sub_one_eq_mod]
  show IntKind.i64.wrap ((BitVec.ofInt 64 n &&& BitVec.ofInt 64 7).toNat : Nat) = n % 8
  rw [key, IntKind.wrap_i64]
  omega
theorem size_range (n : Int) : 0 ≤ IntKind.u64.wrap n % 33 ∧ IntKind.u64.wrap n % 33 < 33 := by omega
def sizeOf (n : Int) : Int := 8 + IntKind.u64.wrap n % 33
theorem sizeOf_range (n : Int) : 8 ≤ sizeOf n ∧ sizeOf n ≤ 40 := by unfold sizeOf; omega
theorem size_fn (n : Int) (w : World) : Calls Try.prog 13 #[.int .i64 n] w fun e w' => e = .returned (.int .i64 (sizeOf n)) ∧ w = w' := by
  obtain ⟨h0, h1⟩ := size_range n
  unfold sizeOf
  obtain ⟨x, hx⟩ : ∃ x, x = IntKind.u64.wrap n % 33 := ⟨_, rfl⟩
  rw [← hx] at h0 h1 ⊢
  go_enter Try.func13, Try.ntmps13
  go_wp2_with fail
  go_ret
  refine ⟨?_, rfl⟩
  have e1 : wrap64 (8 + wrap64 ((IntKind.u64.wrap n).tmod 33)) = 8 + x := by
    have hu : 0 ≤ IntKind.u64.wrap n := by rw [IntKind.wrap_u64]; omega
    rw [Int.tmod_eq_emod_of_nonneg hu, ← hx]
    have e2 : wrap64 x = x := by unfold wrap64; omega
    rw [e2]
    unfold wrap64; omega
  rw [e1]; rfl
set_option maxHeartbeats 1000000 in
theorem does_any (w : World) (b bk bd : Nat) (S : DevS) (k : DoS) (kv : Value) (h : At w b bk bd S) (hk : k.fits) (hv : Ints (fun k => k ≠ b ∧ k ≠ bk ∧ k ≠ bd) w kv k.keep) :
    Calls Try.prog 15 #[.pointer (some ⟨b, 0, none⟩), k.val kv] w fun e w' => e = .returned (.tuple #[.string (S.doesS k), .int .i64 (S.doesE k)]) ∧ At w' b bk bd (S.does k) ∧ Chg [b, bk, bd] w w' := by
  unfold DoS.val
  obtain ⟨op, i, s, keep⟩ := k
  have hr : op % 8 = 0 ∨ op % 8 = 1 ∨ op % 8 = 2 ∨ op % 8 = 3 ∨ op % 8 = 4 ∨ op % 8 = 5 ∨ op % 8 = 6 ∨ op % 8 = 7 := by omega
  rw [← bits_and7] at hr
  unfold DevS.doesS DevS.doesE DevS.does
  simp only [← bits_and7]
  have hi : i ≤ 9223372036854775807 := by
    have := hk.2.1
    simp only [Lit.wf, IntKind.min, IntKind.max, IntKind.signed, IntKind.bits, Bool.and_eq_true] at this
    simp at this
    omega
  simp only at hv
  clear hk
  have hA := h.alloc (Obj.cells #[Value.int IntKind.i64 op, Value.int IntKind.i64 i, Value.string s, kv] 34)
  have hT : Chg [b, bk, bd] w (w.alloc (Obj.cells #[Value.int IntKind.i64 op, Value.int IntKind.i64 i, Value.string s, kv] 34)) := (Chg.refl _ _).alloc _
  have hV := hv.chg hT (fun k hk => by simp [hk.1, hk.2.1, hk.2.2])
  have H : Hid _ := hA
  have T : Hid _ := hT
  have V : Hid _ := hV
  clear h hv hA hT hV
  rcases hr with hr | hr | hr | hr | hr | hr | hr | hr
  iterate 3
    · go_enter Try.func15, Try.ntmps15
      go_wp2_with fail
      refine (write_any _ b bk bd S i s H.out).mono ?_
      rintro e w1 ⟨rfl, h1, t1⟩
      go_wp2_with fail
      go_ret2
      simp only [hr]
      exact ⟨rfl, h1, T.out.trans t1⟩
  · go_enter Try.func15, Try.ntmps15
    go_wp2_with fail
    refine (flush_any _ b bk bd S H.out).mono ?_
    rintro e w1 ⟨rfl, h1, t1⟩
    go_wp2_with fail
    go_ret2
    simp only [hr]
    exact ⟨rfl, h1, T.out.trans t1⟩
  · go_enter Try.func15, Try.ntmps15
    go_wp2_with fail
    refine (read_any _ b bk bd S i H.out).mono ?_
    rintro e w1 ⟨rfl, rfl⟩
    go_wp2_with fail
    go_ret2
    simp only [hr]
    exact ⟨rfl, H.out, T.out⟩
  · go_enter Try.func15, Try.ntmps15
    go_wp2_with fail
    refine (fuse_any _ b bk bd S i H.out hi).mono ?_
    rintro e w1 ⟨rfl, h1, t1⟩
    go_wp2_with fail
    go_ret2
    simp only [hr]
    exact ⟨rfl, h1, T.out.trans t1⟩
  · go_enter Try.func15, Try.ntmps15
    go_wp2_with fail
    refine (crash_any _ b bk bd S kv keep H.out V.out).mono ?_
    rintro e w1 ⟨rfl, h1, t1⟩
    go_wp2_with fail
    go_ret2
    simp only [hr]
    exact ⟨rfl, h1, T.out.trans t1⟩
  · go_enter Try.func15, Try.ntmps15
    go_wp2_with fail
    refine (start_any _ b bk bd S H.out).mono ?_
    rintro e w1 ⟨rfl, h1, t1⟩
    go_wp2_with fail
    go_ret2
    simp only [hr]
    exact ⟨rfl, h1, T.out.trans t1⟩

/-- the lists of things that came in, or that the law makes itself; p: where their blocks may lie -/
def DoIs (p : Nat → Prop) (w : World) (cs : List Value) (k : DoS) : Prop := ∃ kv, cs = [.int .i64 k.op, .int .i64 k.i, .string k.s, kv] ∧ k.fits ∧ Ints p w kv k.keep
def Dos (p : Nat → Prop) (w : World) (v : Value) (l : List DoS) : Prop := SliceOf 4 (DoIs p) p w v l
theorem Dos.below {B : Nat} {w w' : World} {v : Value} {l : List DoS} (h : Dos (· < B) w v l) (hb : Below B w w') : Dos (· < B) w' v l :=
  SliceOf.below h hb (fun cs k ⟨kv, h1, h2, h3⟩ => ⟨kv, h1, h2, h3.below hb⟩)
/-- what one of them is, for a walk -/
theorem Dos.at {p : Nat → Prop} {w : World} {v : Value} {l : List DoS} (h : Dos p w v l) : ∃ a c, v = .slice a l.length c ∧ l.length ≤ 9223372036854775807 ∧ ∀ j (h : j < l.length), ∃ b o, a = some ⟨b, o, none⟩ ∧ p b ∧
    ∃ kv, w.cell? ⟨b, o + j * 4, none⟩ = some (.int .i64 l[j].op) ∧ w.cell? ⟨b, o + j * 4 + 1, none⟩ = some (.int .i64 l[j].i) ∧ w.cell? ⟨b, o + j * 4 + 2, none⟩ = some (.string l[j].s) ∧
      w.cell? ⟨b, o + j * 4 + 3, none⟩ = some kv ∧ l[j].fits ∧ Ints p w kv l[j].keep := by
  obtain ⟨a, c, e, hm, hj⟩ := SliceOf.form h
  refine ⟨a, c, e, hm, fun j hlt => ?_⟩
  obtain ⟨b, o, h1, h2, cs, h3, h4, kv, h5, h6, h7⟩ := hj j hlt
  subst h5
  exact ⟨b, o, h1, h2, kv, h4 0 (by omega), h4 1 (by omega), h4 2 (by omega), h4 3 (by omega), h6, h7⟩
theorem Dos.item {p : Nat → Prop} {w : World} {a : Option Addr} {c : Nat} {l : List DoS} (h : Dos p w (.slice a l.length c) l) (j : Nat) (hj : j < l.length) : ∃ (k : DoS) (b o : Nat) (kv : Value), l.take (j + 1) = l.take j ++ [k] ∧ a = some ⟨b, o, none⟩ ∧
    w.cell? ⟨b, o + j * 4, none⟩ = some (.int .i64 k.op) ∧ w.cell? ⟨b, o + j * 4 + 1, none⟩ = some (.int .i64 k.i) ∧ w.cell? ⟨b, o + j * 4 + 2, none⟩ = some (.string k.s) ∧
      w.cell? ⟨b, o + j * 4 + 3, none⟩ = some kv ∧ k.fits ∧ Ints p w kv k.keep := by
  obtain ⟨a', c', e, _, hc⟩ := h.at
  injection e with e _ _
  subst e
  obtain ⟨b, o, h1, _, kv, h2⟩ := hc j hj
  exact ⟨l[j], b, o, kv, by rw [List.take_add_one, List.getElem?_eq_getElem hj]; rfl, h1, h2⟩
end Go.Proofs.Ytecnfhfofnbieaa.Dev
