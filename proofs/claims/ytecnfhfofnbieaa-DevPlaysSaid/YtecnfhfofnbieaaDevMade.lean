/- What the law's own functions of layer 5 compute, on: made, offs, short, blocks; slices.Index, Contains, Equal. -/
import Derived.Test.YtecnfhfofnbieaaDevDoes
import Derived.Deep.LoopGhost
import Derived.Laws.AppendOwn
import Derived.OwnWalk
namespace Go.Proofs.Ytecnfhfofnbieaa.Dev
set_option linter.unusedVariables false
set_option linter.unusedSimpArgs false
set_option maxRecDepth 100000
open Go.RowKit Go.Proofs.Ytecnfhfofnbieaa.Mem

theorem DevS.run_snoc (S : DevS) (l : List DoS) (k : DoS) : S.run (l ++ [k]) = (S.run l).does k := by simp [DevS.run]
theorem take_snoc {α : Type} (l : List α) (j : Nat) (h : j < l.length) : l.take (j + 1) = l.take j ++ [l[j]] := by rw [List.take_add_one, List.getElem?_eq_getElem h]; rfl

/-- one round of a script: the device is what it was, and k befell it -/
theorem does_step {base B : Nat} {w wr : World} {b bk bd : Nat} {S : DevS} {k : DoS} {kv : Value} (hA : At wr b bk bd S) (hT : Below base w wr) (hB : B ≤ base) (hw : base ≤ w.heap.size) (h1 : base ≤ b) (h2 : base ≤ bk) (h3 : base ≤ bd)
    (hk : k.fits) (hv : Ints (· < B) wr kv k.keep) (o : Obj) :
    Calls Try.prog 15 #[.pointer (some ⟨b, 0, none⟩), .agg #[.int .i64 k.op, .int .i64 k.i, .string k.s, kv]] (wr.alloc o) fun e w' =>
      e = .returned (.tuple #[.string (S.doesS k), .int .i64 (S.doesE k)]) ∧ At w' b bk bd (S.does k) ∧ Below base w w' := by
  have hbw := hT.size
  have hb2 : Below base wr (wr.alloc o) := (Below.refl _ _).alloc (by omega) o
  refine (does_any (wr.alloc o) b bk bd S k kv (hA.alloc o) hk ?_).mono ?_
  · exact (hv.below (hb2.mono hB)).mono (fun k hk => by omega)
  · rintro e w' ⟨rfl, q1, q2⟩
    exact ⟨rfl, q1, (hT.trans hb2).trans (q2.below (by simp; omega) (by simp; omega))⟩
set_option maxHeartbeats 1000000 in
/-- made -/
theorem made_any (B : Nat) (w : World) (n : Int) (v : Value) (l : List DoS) (h : Dos (· < B) w v l) (hB : B ≤ w.heap.size) :
    Calls Try.prog 16 #[.int .i64 n, v] w fun e w' => ∃ b bk bd, e = .returned (.pointer (some ⟨b, 0, none⟩)) ∧ At w' b bk bd ((DevS.new (sizeOf n)).run l) ∧ Below w.heap.size w w' ∧
      w.heap.size ≤ b ∧ w.heap.size ≤ bk ∧ w.heap.size ≤ bd := by
  obtain ⟨a, c, rfl, hlen, hx⟩ := h.at
  clear hx
  have H : Hid (Dos (· < B) w (.slice a l.length c) l) := h
  clear h
  go_enter Try.func16, Try.ntmps16
  go_wp2_with fail
  refine (size_fn n w).mono ?_
  rintro e w1 ⟨rfl, rfl⟩
  go_wp2_with fail
  refine (new_yes w (sizeOf n) (by have := sizeOf_range n; omega)).mono ?_
  rintro e w1 ⟨b, bk, bd, rfl, hA, hb, hb1, hb2, hb3⟩
  have HA : Hid (At w1 b bk bd (DevS.new (sizeOf n)) ∧ Below w.heap.size w w1 ∧ w.heap.size ≤ b ∧ w.heap.size ≤ bk ∧ w.heap.size ≤ bd) := ⟨hA, hb, hb1, hb2, hb3⟩
  clear hA hb hb1 hb2 hb3
  go_wp2_with fail
  go_loopw [17] (fun i wr => ∃ j : Nat, j ≤ l.length ∧ i = .int .i64 j ∧ Hid (At wr b bk bd ((DevS.new (sizeOf n)).run (l.take j))) ∧ Hid (Below w.heap.size w wr)) (fun i _ => l.length - (intOf i).toNat)
  case atStart => exact ⟨0, by omega, rfl, HA.out.1, HA.out.2.1⟩
  case round =>
    obtain ⟨j, hj, rfl, hA, hT⟩ := hrel
    by_cases hlt : j < l.length
    · have hd : Dos (· < B) wr (.slice a l.length c) l := H.out.below (hT.out.mono hB)
      obtain ⟨k, bb, oo, kv, HS, ha, q0, q1, q2, q3, hf, hkv⟩ := hd.item j hlt
      obtain ⟨ka, kc, rfl, hkl, hkc⟩ := hkv.form
      have HK : Hid (k.fits ∧ Ints (· < B) wr (.slice ka k.keep.length kc) k.keep) := ⟨hf, hkv⟩
      have HT : Hid (l.take (j + 1) = l.take j ++ [k]) := HS
      clear hf hkv hd hkl hkc HS
      subst ha
      go_wp2_with fail
      refine (does_step hA.out hT.out hB (Nat.le_refl _) HA.out.2.2.1 HA.out.2.2.2.1 HA.out.2.2.2.2 HK.out.1 HK.out.2 _).mono ?_
      rintro e w2 ⟨rfl, h2, t2⟩
      have H2 : Hid (At w2 b bk bd (((DevS.new (sizeOf n)).run (l.take j)).does k) ∧ Below w.heap.size w w2) := ⟨h2, t2⟩
      clear h2 t2
      go_wp2
      go_roundw
      case rel => exact ⟨j + 1, by omega, by go_num, by rw [HT.out, DevS.run_snoc]; exact H2.out.1, H2.out.2⟩
      case measure => simp [intOf]; omega
    · have he : l.take j = l := List.take_of_length_le (by omega)
      have HE : Hid (l.take j = l) := he
      clear he
      go_wp2_with fail
      go_ret
      rw [HE.out] at hA
      exact ⟨b, bk, bd, rfl, hA.out, hT.out, HA.out.2.2⟩
/-- offs -/
theorem offs_any (w : World) (b bk bd : Nat) (S : DevS) (h : At w b bk bd S) :
    Calls Try.prog 32 #[.pointer (some ⟨b, 0, none⟩)] w fun e w' => e = .returned (.bool S.off) ∧ w = w' := by
  have hr : S.readE 0 = if S.off then 5 else 0 := by
    have := h.ok.2.2
    unfold DevS.readE DevS.inside
    split
    · rfl
    · rw [if_pos (by simp; omega)]
  go_enter Try.func32, Try.ntmps32
  go_wp2_with fail
  refine (read_any w b bk bd S 0 h).mono ?_
  rintro e w1 ⟨rfl, rfl⟩
  rw [hr]
  cases hoff : S.off
  all_goals
    go_wp2_with fail
    go_ret
    rw [hoff]
    exact ⟨rfl, rfl⟩

theorem info_string : (Try.prog.info? 9).map (fun i => (i.zero, i.size, i.bytes)) = some (some (.string ⟨#[]⟩), 1, 16) := by kernel_rfl
theorem below_of_grown {w w' : World} {B : Nat} {row : Option Nat} (h : w.grownBy w' row) (hr : ∀ k, row = some k → B ≤ k) (hB : B ≤ w.heap.size) : Below B w w' :=
  ⟨h.os, h.tape, h.output, h.size, fun k hk => h.block k (by omega) (fun e => by have := hr k e.symm; omega)⟩
theorem Strs.of_own {w : World} {base : Nat} {v : Value} {l : List ByteArray} {t : TypeId} (h : w.ownsRow base t 1 v l.length (l.map Value.string)) (hl : l.length ≤ 9223372036854775807) : Strs (base ≤ ·) w v l := by
  rcases h.2 with ⟨rfl, h0⟩ | ⟨g, cap, cur, rfl, hb, hg, hn, hm, hs, ht⟩
  · exact .inl ⟨List.eq_nil_of_length_eq_zero h0, _, _, rfl⟩
  · refine .inr ⟨g, 0, cap, rfl, hb, hl, fun j hj => ?_⟩
    rw [Nat.zero_add, cell_at hg j]
    have h2 : (cur.toList.take (l.length * 1))[j]? = some (Value.string l[j]) := by rw [ht]; simp [hj]
    rw [List.getElem?_take] at h2
    split at h2
    · simpa using h2
    · cases h2

set_option maxHeartbeats 1000000 in
/-- blocks -/
theorem blocks_any (w : World) (b bk bd : Nat) (S : DevS) (h : At w b bk bd S) :
    Calls Try.prog 21 #[.pointer (some ⟨b, 0, none⟩)] w fun e w' => ∃ v, e = .returned v ∧ Strs (w.heap.size ≤ ·) w' v S.blocks ∧ Below w.heap.size w w' := by
  have H : Hid (At w b bk bd S) := h
  have hn : S.n.toNat ≤ 4096 ∧ (S.n.toNat : Int) = S.n := by have := h.ok.2.2; exact ⟨by omega, by omega⟩
  obtain ⟨hn1, hn2⟩ := hn
  clear h
  go_enter Try.func21, Try.ntmps21
  go_wp2_with fail
  refine (clone_any w b bk bd S H.out).mono ?_
  rintro e w1 ⟨b', bk', bd', rfl, h1, t1, g1, g2, g3⟩
  have H1 : Hid (At w1 b' bk' bd' S ∧ Below w.heap.size w w1 ∧ w.heap.size ≤ b' ∧ w.heap.size ≤ bk' ∧ w.heap.size ≤ bd') := ⟨h1, t1, g1, g2, g3⟩
  clear h1 t1 g1 g2 g3
  go_wp2_with fail
  refine (start_any w1 b' bk' bd' S H1.out.1).mono ?_
  rintro e w2 ⟨rfl, h2, t2⟩
  have H2 : Hid (At w2 b' bk' bd' S.start ∧ Below w.heap.size w w2 ∧ b' < w2.heap.size ∧ bk' < w2.heap.size ∧ bd' < w2.heap.size) :=
    ⟨h2, H1.out.2.1.trans (t2.below H1.out.2.1.size (by have := H1.out.2.2; simp; omega)), heap_lt h2.heap, h2.kept.lt, h2.dirty.lt⟩
  clear h2 t2
  go_wp2_with fail
  refine (size_any w2 b bk bd S (H.out.of_below H2.out.2.1 (heap_lt H.out.heap) H.out.kept.lt H.out.dirty.lt)).mono ?_
  rintro e w3 ⟨rfl, rfl⟩
  go_wp2_with fail
  obtain ⟨N, hN⟩ : ∃ N, N = S.n.toNat := ⟨_, rfl⟩
  rw [← hN] at hn1 hn2
  have HBL : Hid (S.blocks = (List.range N).map fun (i : Nat) => S.start.read (i : Int)) := by rw [hN]; rfl
  rw [← hn2]
  clear hN hn2
  obtain ⟨i0, hi, hz0, hz1, hz2⟩ := info_parts info_string
  go_loopw [4, 14] (fun v i wr => ∃ j : Nat, j ≤ N ∧ i = .int .i64 j ∧ wr.ownsRow w2.heap.size 9 1 v j (((List.range j).map fun (i : Nat) => S.start.read (i : Int)).map Value.string) ∧ Hid (At wr b' bk' bd' S.start ∧ Below w2.heap.size w2 wr)) (fun _ i _ => N - (intOf i).toNat)
  case atStart => exact ⟨0, by omega, rfl, World.ownsRow_nil _ _ _ _, H2.out.1, Below.refl _ _⟩
  case round =>
    obtain ⟨j, hj, rfl, hown, hA⟩ := hrel
    by_cases hlt : j < N
    · have HO : Hid (wr.ownsRow w2.heap.size 9 1 u4 j (((List.range j).map fun (i : Nat) => S.start.read (i : Int)).map Value.string)) := hown
      clear hown
      go_wp2_with fail
      refine (read_any wr b' bk' bd' S.start j hA.out.1).mono ?_
      rintro e w3 ⟨rfl, rfl⟩
      go_wp2_with (first
        | (at_builtin; refine wpList_append_own _ rfl _ _ 42 rfl w2.heap.size 9 i0 (.string ⟨#[]⟩) 1 16 Try.underlying42 hi hz0 hz1 hz2 rfl (by decide) _ _ _ rfl (World.ownsRow.alloc HO.out _) ⟨wr.heap.size, 0, none⟩ 1 1 [.string (S.start.read j)] rfl rfl ?c1 ?c2 ?c3 ?c4 ?c5 ?_)
        | fail)
      case c1 =>
        intro j u hj
        match j, hj with
        | 0, hj => simp at hj; subst hj; simp [Addr.add]
      case c2 => intro u hu; simp at hu; subst hu; rfl
      case c3 => unfold maxLen; omega
      case c4 => omega
      case c5 => have := hA.out.2.size; simp; omega
      · intro v' w4 hown' hgrow _
        have hb4 : Below w2.heap.size wr w4 := ((Below.refl _ _).alloc hA.out.2.size _).trans (below_of_grown hgrow (fun k hk => (World.ownsRow.lt HO.out k hk).1) (by have := hA.out.2.size; simp; omega))
        have HX : Hid (w4.ownsRow w2.heap.size 9 1 v' (j + 1) (((List.range (j + 1)).map fun (i : Nat) => S.start.read (i : Int)).map Value.string) ∧ Below w2.heap.size wr w4) := by
          refine ⟨?_, hb4⟩
          rw [List.range_succ]
          simpa using hown'
        clear hown' hgrow hb4
        go_wp2
        go_roundw
        case rel => exact ⟨j + 1, by omega, by go_num, HX.out.1, hA.out.1.of_below HX.out.2 H2.out.2.2.1 H2.out.2.2.2.1 H2.out.2.2.2.2, hA.out.2.trans HX.out.2⟩
        case measure => simp [intOf]; omega
    · have hjN : j = N := by omega
      subst hjN
      have hown2 := Strs.of_own (l := S.blocks) (by rw [HBL.out]; simpa using hown) (by rw [HBL.out]; simp; omega)
      have HS : Hid _ := hown2
      clear hown hown2
      go_wp2_with fail
      go_ret
      exact ⟨_, rfl, Strs.mono HS.out (fun k hk => by have := H2.out.2.1.size; omega), H2.out.2.1.trans (hA.out.2.mono H2.out.2.1.size)⟩
end Go.Proofs.Ytecnfhfofnbieaa.Dev
