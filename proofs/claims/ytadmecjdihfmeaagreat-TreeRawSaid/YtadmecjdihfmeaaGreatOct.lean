/- Layer 1: numbers and texts as bytes, and back. -/
import Derived.Test.YtadmecjdihfmeaaGreatProg
import Derived.Test.YtadmecjdihfmeaaGreatMem
import Derived.Lib.AppendStr
import Derived.Laws.AppendOwnNone
import Derived.Lib.MinMax
import Derived.Deep.LoopGhost
import Derived.Deep.QuietTactic
namespace Go.Proofs.YtadmecjdihfmeaaGreat.Oct
set_option linter.unusedVariables false
set_option linter.unusedSimpArgs false
set_option maxRecDepth 100000
open Go.RowKit Go.Lib Go.Proofs.YtadmecjdihfmeaaGreat.Mem

/-! ### plain -/
abbrev u8v (b : UInt8) : Value := .int .u8 (b.toNat : Int)
/-- a number's lowest bytes, the highest first -/
def be : Nat → Nat → List UInt8
  | 0, _ => []
  | k + 1, n => UInt8.ofNat (n / 256 ^ k) :: be k n
theorem be_length : ∀ (k n : Nat), (be k n).length = k
  | 0, _ => rfl
  | k + 1, n => by simp [be, be_length k n]
theorem be_get : ∀ (k n i : Nat) (h : i < k), (be k n)[i]? = some (UInt8.ofNat (n / 256 ^ (k - 1 - i)))
  | k + 1, n, 0, _ => by simp [be]
  | k + 1, n, i + 1, h => by
    have := be_get k n i (by omega)
    simp only [be, List.getElem?_cons_succ, this]
    congr 4
    omega
theorem be_take (k n i : Nat) (h : i < k) : (be k n).take (i + 1) = (be k n).take i ++ [UInt8.ofNat (n / 256 ^ (k - 1 - i))] := by
  have hl : i < (be k n).length := by rw [be_length]; exact h
  rw [List.take_succ_eq_append_getElem hl]
  have := be_get k n i h
  rw [List.getElem?_eq_getElem hl] at this
  rw [Option.some.inj this]

/-- bytes that are read, in blocks below B -/
def U8s (B : Nat) (w : World) (v : Value) (l : List UInt8) : Prop :=
  (l = [] ∧ v = .slice none 0 0) ∨ ∃ b o c, v = .slice (some ⟨b, o, none⟩) l.length c ∧ b < B ∧ ∀ j u, (l.map u8v)[j]? = some u → w.cell? ⟨b, o + j, none⟩ = some u
theorem U8s.nil (B : Nat) (w : World) : U8s B w (.slice none 0 0) [] := .inl ⟨rfl, rfl⟩
theorem U8s.below {B : Nat} {w w' : World} {v : Value} {l : List UInt8} (h : U8s B w v l) (hb : Below B w w') : U8s B w' v l := by
  rcases h with h | ⟨b, o, c, e, h1, h2⟩
  · exact .inl h
  · exact .inr ⟨b, o, c, e, h1, fun j u hj => (hb.cell (p := ⟨b, o + j, none⟩) h1).trans (h2 j u hj)⟩
theorem U8s.mono {B B' : Nat} {w : World} {v : Value} {l : List UInt8} (h : U8s B w v l) (hb : B ≤ B') : U8s B' w v l := by
  rcases h with h | ⟨b, o, c, e, h1, h2⟩
  · exact .inl h
  · exact .inr ⟨b, o, c, e, Nat.lt_of_lt_of_le h1 hb, h2⟩
theorem add_at (b o j : Nat) : (⟨b, o, none⟩ : Addr).add j = ⟨b, o + j, none⟩ := by unfold Addr.add; split <;> simp_all
theorem U8s.own {w : World} {base : Nat} {v : Value} {l : List UInt8} (h : w.ownsRow base 5 1 v l.length (l.map u8v)) : U8s w.heap.size w v l := by
  have h2 := h.2
  rcases h2 with ⟨rfl, h0⟩ | ⟨g, cap, cur, rfl, _, h1, _⟩
  · exact .inl ⟨List.length_eq_zero_iff.1 h0, rfl⟩
  · exact .inr ⟨g, 0, cap, rfl, heap_lt h1, fun j u hj => by rw [← add_at]; exact World.ownsRow.cells h rfl j u hj⟩
theorem info_u8 : (Tryz.prog.info? 5).map (fun i => (i.zero, i.size, i.bytes)) = some (some (.int .u8 0), 1, 1) := by kernel_rfl
theorem info_parts {t : TypeId} {z : Value} {s b : Nat} (h : (Tryz.prog.info? t).map (fun i => (i.zero, i.size, i.bytes)) = some (some z, s, b)) : ∃ i, Tryz.prog.info? t = some i ∧ i.zero = some z ∧ i.size = s ∧ i.bytes = b := by
  cases hx : Tryz.prog.info? t with
  | none => rw [hx] at h; simp at h
  | some i => rw [hx] at h; simp at h; exact ⟨i, rfl, h.1, h.2.1, h.2.2⟩
theorem below_of_grown' {B : Nat} {w w' : World} {row : Option Nat} (h : w.grownBy w' row) (hr : ∀ k, row = some k → B ≤ k) (hB : B ≤ w.heap.size) : Below B w w' :=
  ⟨h.os, h.tape, h.output, h.size, fun k hk => h.block k (Nat.lt_of_lt_of_le hk hB) (fun e => by have := hr k e.symm; omega)⟩
theorem byte_at (n m : Nat) : (n : Int) / 2 ^ (8 * m) % 256 = ((UInt8.ofNat (n / 256 ^ m)).toNat : Int) := by
  have e2 : (2 : Int) ^ (8 * m) = ((256 ^ m : Nat) : Int) := by
    rw [Int.natCast_pow, Int.pow_mul]
    rfl
  rw [e2, UInt8.toNat_ofNat', Int.natCast_emod, Int.natCast_ediv]
  try rfl
theorem wide_any (k : Int) (w : World) (h1 : 1 ≤ k) (h8 : k ≤ 8) : Calls Tryz.prog 92 #[.int .i64 k] w fun e w' => e = .returned (.bool true) ∧ w = w' := by
  go_enter Tryz.func92, Tryz.ntmps92
  go_wp2
  go_ret
  refine ⟨?_, rfl⟩
  first | rfl | (simp; done) | (simp; omega)
/-- bytes of the call's own -/
def Own8 (base : Nat) (w : World) (v : Value) (l : List UInt8) : Prop := w.ownsRow base 5 1 v l.length (l.map u8v)
theorem Own8.u8s {base : Nat} {w : World} {v : Value} {l : List UInt8} (h : Own8 base w v l) : U8s w.heap.size w v l := U8s.own h
theorem Own8.alloc {base : Nat} {w : World} {v : Value} {l : List UInt8} (h : Own8 base w v l) (o : Obj) : Own8 base (w.alloc o) v l := World.ownsRow.alloc h o
theorem Own8.made (w : World) : Own8 w.heap.size (w.alloc (.cells #[] 5)) (.slice (some ⟨w.heap.size, 0, none⟩) 0 0) [] := World.ownsRow_made w #[] 0 (Nat.le_refl _) (by decide) rfl
theorem Own8.mono {base base' : Nat} {w : World} {v : Value} {l : List UInt8} (h : Own8 base w v l) (hb : base' ≤ base) : Own8 base' w v l := by
  refine ⟨h.1, ?_⟩
  rcases h.2 with h | ⟨g, cap, cur, e, hg, r⟩
  · exact .inl h
  · exact .inr ⟨g, cap, cur, e, Nat.le_trans hb hg, r⟩
/-- 'append(out, src...)', out the call's own -/
theorem wpList_append_u8 {w : World} {ops : Array Oper} {rest : List Oper} {o : Oper} {a : Act} {Q : Exit → Act → World → Prop} (hgd : o.guard = none) (s x : Operand)
    (ho : o.op = .call { callee := .builtin .append, args := #[s, x], argTypes := #[71, 71] }) (base : Nat) (hbase : base ≤ w.heap.size)
    (v : Value) (l : List UInt8) (hs : a.eval s = v) (hown : Own8 base w v l) (l2 : List UInt8) (hx : U8s w.heap.size w (a.eval x) l2) (hl : l.length + l2.length ≤ 140737488355328)
    (h : ∀ v' w', Own8 base w' v' (l ++ l2) → Below base w w' → wpList Tryz.prog ops Q rest (a.put o.dst v') w') : wpList Tryz.prog ops Q (o :: rest) a w := by
  obtain ⟨i0, hi, hz0, hz1, hz2⟩ := info_parts info_u8
  generalize hxe : a.eval x = xv at hx
  rcases hx with ⟨rfl, rfl⟩ | ⟨b, o2, c, rfl, _, hc⟩
  · refine wpList_append_own_none hgd s x 71 ho base 5 i0 1 Tryz.underlying71 hi v _ _ hs hown hxe ?_
    refine h _ _ (by rw [List.append_nil]; exact hown) ?_
    exact Below.refl _ _
  · refine wpList_append_own _ hgd s x 71 ho base 5 i0 (.int .u8 0) 1 1 Tryz.underlying71 hi hz0 hz1 hz2 rfl (by decide) v _ _ hs hown ⟨b, o2, none⟩ l2.length c (l2.map u8v) hxe (by simp) (fun j u hj => by rw [add_at]; exact hc j u hj) (fun u hu => ?_) (by unfold maxLen; omega) (by omega) hbase (fun v' w' h1 h2 _ => ?_)
    · obtain ⟨b, _, rfl⟩ := List.mem_map.1 hu
      rfl
    · refine h _ _ (by unfold Own8; simpa using h1) (below_of_grown' h2 (fun k hk => (World.ownsRow.lt hown k hk).1) hbase)
theorem U8s.one (w : World) (b : UInt8) (z : Value) (hz : z = u8v b) : U8s (w.alloc (.cells #[z] 5)).heap.size (w.alloc (.cells #[z] 5)) (.slice (some ⟨w.heap.size, 0, none⟩) 1 1) [b] := by
  subst hz
  refine .inr ⟨_, 0, 1, rfl, by simp, fun j u hj => ?_⟩
  match j, hj with
  | 0, hj => simp at hj; subst hj; simp
set_option maxHeartbeats 1000000 in
theorem put_any (v : Value) (l : List UInt8) (n k : Nat) (w : World) (h : U8s w.heap.size w v l) (h1 : 1 ≤ k) (h8 : k ≤ 8) (hn : n < 9223372036854775808) (hl : l.length ≤ 70368744177664) :
    Calls Tryz.prog 85 #[v, .int .i64 n, .int .i64 k] w fun e w' => ∃ v', e = .returned v' ∧ Own8 w.heap.size w' v' (l ++ be k n) ∧ Below w.heap.size w w' := by
  have H : Hid (U8s w.heap.size w v l) := h
  clear h
  go_enter Tryz.func85, Tryz.ntmps85
  go_wp2_with (first
    | (at_builtin; (refine wpList_append_u8 rfl _ _ rfl w.heap.size (by simp) _ [] rfl (Own8.made w) l ((H.out.below ((Below.refl _ _).alloc (Nat.le_refl _) _)).mono (by simp)) (by simp; omega) ?_))
    | fail)
  intro v1 w1 hown hb
  have HX : Hid (Own8 w.heap.size w1 v1 l ∧ Below w.heap.size w w1) := ⟨hown, ((Below.refl _ _).alloc (Nat.le_refl _) _).trans hb⟩
  clear hown hb H
  go_wp2_with (first
    | (go_at_call 92; refine (wide_any _ _ (by omega) (by omega)).mono ?_; rintro e w' ⟨rfl, rfl⟩)
    | fail)
  have hk0 : ((k : Int) - 1) = ((k : Nat) : Int) - 1 := rfl
  go_loopw [7, 8] (fun v i wr => ∃ q : Nat, q ≤ k ∧ i = .int .i64 ((q : Int) - 1) ∧ Own8 w.heap.size wr v (l ++ (be k n).take (k - q)) ∧ Hid (Below w.heap.size w wr)) (fun _ i _ => (intOf i + 1).toNat)
  case atStart => exact ⟨k, by omega, rfl, by rw [Nat.sub_self, List.take_zero, List.append_nil]; exact HX.out.1, HX.out.2⟩
  case round =>
    obtain ⟨q, hm, rfl, hown, hT⟩ := hrel
    match q, hm with
    | q + 1, hm =>
      have e1 : ((q + 1 : Nat) : Int) - 1 = (q : Int) := by omega
      rw [e1]
      have HO : Hid (Own8 w.heap.size wr u7 (l ++ (be k n).take (k - (q + 1)))) := hown
      have hbt := be_take k n (k - (q + 1)) (by omega)
      have eq : k - 1 - (k - (q + 1)) = q := by omega
      have eq2 : k - (q + 1) + 1 = k - q := by omega
      rw [eq, eq2] at hbt
      have HB : Hid ((be k n).take (k - q) = (be k n).take (k - (q + 1)) ++ [UInt8.ofNat (n / 256 ^ q)]) := hbt
      have hlen : (l ++ (be k n).take (k - (q + 1))).length ≤ l.length + 8 := by simp [be_length]; omega
      have HL : Hid _ := hlen
      clear hown hbt eq eq2 e1 HX hlen
      go_wp2_with (first
        | (at_builtin; (refine wpList_append_u8 rfl _ _ rfl w.heap.size (by have := hT.out.size; simp; omega) _ (l ++ (be k n).take (k - (q + 1))) rfl (HO.out.alloc _) [UInt8.ofNat (n / 256 ^ q)] (U8s.one wr _ _ (by rw [u8v, byte_at])) (by have := HL.out; simp only [List.length_singleton]; omega) ?_))
        | fail)
      intro v2 w2 hown hb
      have HY : Hid (Own8 w.heap.size w2 v2 (l ++ (be k n).take (k - q)) ∧ Below w.heap.size w w2) := by
        refine ⟨?_, hT.out.trans (((Below.refl _ _).alloc hT.out.size _).trans hb)⟩
        rw [HB.out]
        exact hown
      clear hown hb HO hT HB
      go_wp2
      go_roundw
      case rel => exact ⟨q, by omega, by first | rfl | go_num, HY.out.1, HY.out.2⟩
      case measure => simp [intOf]
    | 0, hm =>
      have HO : Hid (Own8 w.heap.size wr u7 (l ++ be k n)) := by
        have e : (be k n).take (k - 0) = be k n := List.take_of_length_le (by rw [be_length]; omega)
        rw [e] at hown
        exact hown
      clear hown HX
      go_wp2
      go_ret
      exact ⟨u7, rfl, HO.out, hT.out⟩
theorem put_k (kk nn : Int) (k n : Nat) (hk : kk = (k : Int)) (hnn : nn = (n : Int)) (v : Value) (l : List UInt8) (w : World) (h : U8s w.heap.size w v l) (h1 : 1 ≤ k) (h8 : k ≤ 8) (hn : n < 9223372036854775808) (hl : l.length ≤ 70368744177664) :
    Calls Tryz.prog 85 #[v, .int .i64 nn, .int .i64 kk] w fun e w' => ∃ v', e = .returned v' ∧ Own8 w.heap.size w' v' (l ++ be k n) ∧ Below w.heap.size w w' := by
  subst hk hnn
  exact put_any v l n k w h h1 h8 hn hl
/-- 'append(out, text...)' -/
theorem wpList_append_str {w : World} {ops : Array Oper} {rest : List Oper} {o : Oper} {a : Act} {Q : Exit → Act → World → Prop} (hgd : o.guard = none) (s x : Operand)
    (ho : o.op = .call { callee := .builtin .append, args := #[s, x], argTypes := #[71, 9] }) (base : Nat) (hbase : base ≤ w.heap.size)
    (v : Value) (l : List UInt8) (hs : a.eval s = v) (hown : Own8 base w v l) (tx : ByteArray) (hx : a.eval x = .string tx) (hl : l.length + tx.size ≤ 140737488355328)
    (h : ∀ v' w', Own8 base w' v' (l ++ tx.data.toList) → Below base w w' → wpList Tryz.prog ops Q rest (a.put o.dst v') w') : wpList Tryz.prog ops Q (o :: rest) a w := by
  obtain ⟨i0, hi, hz0, hz1, hz2⟩ := info_parts info_u8
  refine wpList_append_own_string _ hgd s x 71 9 ho base 5 i0 Tryz.underlying71 Tryz.underlying9 hi hz0 hz1 hz2 v _ _ hs hown tx hx (by unfold maxLen; omega) (by omega) hbase (fun v' w' h1 h2 _ => ?_)
  refine h _ _ ?_ (below_of_grown' h2 (fun k hk => (World.ownsRow.lt hown k hk).1) hbase)
  have e : (l ++ tx.data.toList).length = l.length + tx.size := by simp
  have e2 : (l ++ tx.data.toList).map u8v = l.map u8v ++ strCells tx := by simp [strCells]
  unfold Own8
  rw [e, e2]
  exact h1
set_option maxHeartbeats 1000000 in
theorem puttext_any (v : Value) (l : List UInt8) (s : ByteArray) (w : World) (h : U8s w.heap.size w v l) (hn : s.size ≤ 65535) (hl : l.length ≤ 70368744177664) :
    Calls Tryz.prog 87 #[v, .string s] w fun e w' => ∃ v', e = .returned v' ∧ Own8 w.heap.size w' v' (l ++ be 2 s.size ++ s.data.toList) ∧ Below w.heap.size w w' := by
  have H : Hid (U8s w.heap.size w v l) := h
  clear h
  have hm : min (s.size : Int) 65535 = (s.size : Int) := by omega
  go_enter Tryz.func87, Tryz.ntmps87
  go_wp2_with (first
    | (go_at_call 85; refine (put_k 2 _ 2 s.size rfl rfl v l _ H.out (by omega) (by omega) (by omega) hl).mono ?_; rintro e w1 ⟨v1, rfl, hown, hb⟩)
    | (at_builtin; (refine wpList_append_str rfl _ _ rfl w.heap.size hb.size _ (l ++ be 2 s.size) rfl hown s rfl (by simp [be_length]; omega) ?_))
    | fail)
  intro v2 w2 hown2 hb2
  have HX : Hid (Own8 w.heap.size w2 v2 (l ++ be 2 s.size ++ s.data.toList) ∧ Below w.heap.size w w2) := ⟨by rw [List.append_assoc]; exact hown2, hb.trans hb2⟩
  clear hown2 hb2 hown hb
  go_wp2
  go_ret
  exact ⟨v2, rfl, HX.out⟩
end Go.Proofs.YtadmecjdihfmeaaGreat.Oct
