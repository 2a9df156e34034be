/- awake: the example. -/
import Derived.Test.YtecnfhfofnbieaaDevSlices
namespace Go.Proofs.Ytecnfhfofnbieaa.Dev
set_option linter.unusedVariables false
set_option linter.unusedSimpArgs false
set_option maxRecDepth 100000
open Go.RowKit Go.Proofs.Ytecnfhfofnbieaa.Mem

theorem SliceOf.chg {α : Type} {sz : Nat} {R : World → List Value → α → Prop} {p : Nat → Prop} {T : List Nat} {w w' : World} {v : Value} {l : List α} (h : SliceOf sz R p w v l) (ht : Chg T w w') (hd : ∀ k, p k → k ∉ T) (hR : ∀ cs a, R w cs a → R w' cs a) : SliceOf sz R p w' v l := by
  rcases h with h | ⟨b, o, c, e, hp, hm, hc⟩
  · exact .inl h
  · refine .inr ⟨b, o, c, e, hp, hm, fun j hj => ?_⟩
    obtain ⟨cs, h1, h2, h3⟩ := hc j hj
    refine ⟨cs, h1, fun q hq => ?_, hR _ _ h3⟩
    have hq' : q < cs.length := by omega
    have h4 := h2 q hq
    rw [List.getElem?_eq_getElem hq'] at h4 ⊢
    exact ht.cell (hd b hp) h4
theorem Dos.chg {p : Nat → Prop} {T : List Nat} {w w' : World} {v : Value} {l : List DoS} (h : Dos p w v l) (ht : Chg T w w') (hd : ∀ k, p k → k ∉ T) : Dos p w' v l :=
  SliceOf.chg h ht hd (fun cs k ⟨kv, h1, h2, h3⟩ => ⟨kv, h1, h2, h3.chg ht hd⟩)
theorem does_step2 {w wr : World} {b bk bd : Nat} {S : DevS} {k : DoS} {kv : Value} (hA : At wr b bk bd S) (hT : Chg [b, bk, bd] w wr)
    (hk : k.fits) (hv : Ints (fun k => k ≠ b ∧ k ≠ bk ∧ k ≠ bd) wr kv k.keep) (o : Obj) :
    Calls Try.prog 15 #[.pointer (some ⟨b, 0, none⟩), .agg #[.int .i64 k.op, .int .i64 k.i, .string k.s, kv]] (wr.alloc o) fun e w' =>
      e = .returned (.tuple #[.string (S.doesS k), .int .i64 (S.doesE k)]) ∧ At w' b bk bd (S.does k) ∧ Chg [b, bk, bd] w w' := by
  have hb2 : Chg [b, bk, bd] wr (wr.alloc o) := (Chg.refl _ _).alloc o
  refine (does_any (wr.alloc o) b bk bd S k kv (hA.alloc o) hk (hv.chg hb2 (fun k hk => by simp [hk.1, hk.2.1, hk.2.2]))).mono ?_
  rintro e w' ⟨rfl, q1, q2⟩
  exact ⟨rfl, q1, (hT.trans hb2).trans q2⟩

def exs : List DoS := [⟨0, 3, ⟨#[97]⟩, []⟩, ⟨3, 0, ⟨#[]⟩, []⟩, ⟨0, 3, ⟨#[98]⟩, []⟩, ⟨0, 4, ⟨#[99]⟩, []⟩, ⟨6, 0, ⟨#[]⟩, [4]⟩, ⟨7, 0, ⟨#[]⟩, []⟩]
theorem exs_ok : ∀ j, j < 6 → ∀ k, exs[j]? = some k → ((DevS.new 8).run (exs.take j)).doesE k = 0
  | 0, _, _, rfl => rfl
  | 1, _, _, rfl => rfl
  | 2, _, _, rfl => rfl
  | 3, _, _, rfl => rfl
  | 4, _, _, rfl => rfl
  | 5, _, _, rfl => rfl
  | n + 6, h, _, _ => by omega
theorem exs_a : ((DevS.new 8).run exs).read 3 = ⟨#[97]⟩ ∧ ((DevS.new 8).run exs).readE 3 = 0 ∧ ((DevS.new 8).run exs).read 4 = ⟨#[99]⟩ ∧ ((DevS.new 8).run exs).readE 4 = 0 := ⟨rfl, rfl, rfl, rfl⟩

/-- the example's list, as the law lays it -/
def exsCells (n : Nat) : Array Value := #[.int .i64 0, .int .i64 3, .string ⟨#[97]⟩, .slice none 0 0, .int .i64 3, .int .i64 0, .string ⟨#[]⟩, .slice none 0 0, .int .i64 0, .int .i64 3, .string ⟨#[98]⟩, .slice none 0 0,
  .int .i64 0, .int .i64 4, .string ⟨#[99]⟩, .slice none 0 0, .int .i64 6, .int .i64 0, .string ⟨#[]⟩, .slice (some ⟨n, 0, none⟩) 1 1, .int .i64 7, .int .i64 0, .string ⟨#[]⟩, .slice none 0 0]
theorem exs_laid {p : Nat → Prop} (w1 : World) (hp : ∀ k, w1.heap.size ≤ k → p k) (t t' : TypeId) :
    Dos p ((w1.alloc (.cells #[.int .i64 4] t)).alloc (.cells (exsCells w1.heap.size) t')) (.slice (some ⟨w1.heap.size + 1, 0, none⟩) 6 6) exs := by
  have h1 : ((w1.alloc (.cells #[.int .i64 4] t)).alloc (.cells (exsCells w1.heap.size) t')).heap[w1.heap.size + 1]? = some (.cells (exsCells w1.heap.size) t' (0, 0)) := by
    have := heap_alloc_last (w1.alloc (.cells #[.int .i64 4] t)) (.cells (exsCells w1.heap.size) t')
    simpa using this
  have h2 : ((w1.alloc (.cells #[.int .i64 4] t)).alloc (.cells (exsCells w1.heap.size) t')).heap[w1.heap.size]? = some (.cells #[.int .i64 4] t (0, 0)) := by
    rw [heap_alloc_other _ (by simp)]
    exact heap_alloc_last w1 _
  generalize ((w1.alloc (.cells #[.int .i64 4] t)).alloc (.cells (exsCells w1.heap.size) t')) = w3 at h1 h2
  have h0 : ∀ q, Ints q w3 (.slice none 0 0) [] := fun q => .inl ⟨rfl, _, _, rfl⟩
  have hk : ∀ k ∈ exs, k.fits := by
    intro k hk
    simp only [exs, List.mem_cons, List.not_mem_nil, or_false] at hk
    rcases hk with rfl | rfl | rfl | rfl | rfl | rfl <;> exact ⟨by decide, by decide, by decide, by decide⟩
  refine .inr ⟨w1.heap.size + 1, 0, 6, rfl, hp _ (by omega), by decide, fun j hj => ?_⟩
  have hx : ∀ q, w3.cell? ⟨w1.heap.size + 1, 0 + (j * 4 + q), none⟩ = (exsCells w1.heap.size)[j * 4 + q]? := fun q => by rw [Nat.zero_add, cell_at h1]
  have hj6 : j < 6 := hj
  match j, hj6 with
  | 0, _ => exact ⟨[.int .i64 0, .int .i64 3, .string ⟨#[97]⟩, .slice none 0 0], rfl, fun q hq => (hx q).trans (match q, hq with | 0, _ => rfl | 1, _ => rfl | 2, _ => rfl | 3, _ => rfl), _, rfl, hk _ (List.getElem_mem _), h0 _⟩
  | 1, _ => exact ⟨[.int .i64 3, .int .i64 0, .string ⟨#[]⟩, .slice none 0 0], rfl, fun q hq => (hx q).trans (match q, hq with | 0, _ => rfl | 1, _ => rfl | 2, _ => rfl | 3, _ => rfl), _, rfl, hk _ (List.getElem_mem _), h0 _⟩
  | 2, _ => exact ⟨[.int .i64 0, .int .i64 3, .string ⟨#[98]⟩, .slice none 0 0], rfl, fun q hq => (hx q).trans (match q, hq with | 0, _ => rfl | 1, _ => rfl | 2, _ => rfl | 3, _ => rfl), _, rfl, hk _ (List.getElem_mem _), h0 _⟩
  | 3, _ => exact ⟨[.int .i64 0, .int .i64 4, .string ⟨#[99]⟩, .slice none 0 0], rfl, fun q hq => (hx q).trans (match q, hq with | 0, _ => rfl | 1, _ => rfl | 2, _ => rfl | 3, _ => rfl), _, rfl, hk _ (List.getElem_mem _), h0 _⟩
  | 4, _ => exact ⟨[.int .i64 6, .int .i64 0, .string ⟨#[]⟩, .slice (some ⟨w1.heap.size, 0, none⟩) 1 1], rfl, fun q hq => (hx q).trans (match q, hq with | 0, _ => rfl | 1, _ => rfl | 2, _ => rfl | 3, _ => rfl), _, rfl, hk _ (List.getElem_mem _),
      .inr ⟨w1.heap.size, 0, 1, rfl, hp _ (Nat.le_refl _), by simp [exs], fun j hj => by
        have h0 : j = 0 := by simp only [exs, List.getElem_cons_succ, List.getElem_cons_zero, List.length_cons, List.length_nil] at hj; omega
        subst h0
        exact cell_at h2 0⟩⟩
  | 5, _ => exact ⟨[.int .i64 7, .int .i64 0, .string ⟨#[]⟩, .slice none 0 0], rfl, fun q hq => (hx q).trans (match q, hq with | 0, _ => rfl | 1, _ => rfl | 2, _ => rfl | 3, _ => rfl), _, rfl, hk _ (List.getElem_mem _), h0 _⟩
theorem new_keeps {w w1 : World} {b bk bd : Nat} {S : DevS} (h : At w b bk bd S) : b < w.heap.size ∧ bk < w.heap.size ∧ bd < w.heap.size := ⟨heap_lt h.heap, h.kept.lt, h.dirty.lt⟩

set_option maxHeartbeats 1000000 in
theorem awake_any (w : World) : Calls Try.prog 11 #[] w fun e w' => e = .returned (.bool true) ∧ Below w.heap.size w w' := by
  go_enter Try.func11, Try.ntmps11
  go_wp2_with fail
  refine (new_yes w 8 (by omega)).mono ?_
  rintro e w1 ⟨b, bk, bd, rfl, hA, hb, hb1, hb2, hb3⟩
  have HA : Hid (At w1 b bk bd (DevS.new 8) ∧ Below w.heap.size w w1 ∧ w.heap.size ≤ b ∧ w.heap.size ≤ bk ∧ w.heap.size ≤ bd) := ⟨hA, hb, hb1, hb2, hb3⟩
  clear hA hb hb1 hb2 hb3
  go_wp2_with fail
  have HL : Hid (Dos (fun k => k ≠ b ∧ k ≠ bk ∧ k ≠ bd) ((w1.alloc (.cells #[.int .i64 4] 3)).alloc (.cells (exsCells w1.heap.size) 34)) (.slice (some ⟨w1.heap.size + 1, 0, none⟩) 6 6) exs) :=
    exs_laid w1 (fun k hk => by obtain ⟨h1, h2, h3⟩ := new_keeps (w1 := w1) HA.out.1; omega) _ _
  have HT : Hid (At ((w1.alloc (.cells #[.int .i64 4] 3)).alloc (.cells (exsCells w1.heap.size) 34)) b bk bd (DevS.new 8) ∧ Below w.heap.size w ((w1.alloc (.cells #[.int .i64 4] 3)).alloc (.cells (exsCells w1.heap.size) 34))) :=
    ⟨(HA.out.1.alloc _).alloc _, (HA.out.2.1.alloc HA.out.2.1.size _).alloc (by have := HA.out.2.1.size; simp; omega) _⟩
  change Code.wp _ _ _ _ ((w1.alloc (.cells #[.int .i64 4] 3)).alloc (.cells (exsCells w1.heap.size) 34))
  generalize ((w1.alloc (.cells #[.int .i64 4] 3)).alloc (.cells (exsCells w1.heap.size) 34)) = w3 at HL HT ⊢
  generalize w1.heap.size + 1 = bl at HL ⊢
  go_loopw [26] (fun i wr => ∃ j : Nat, j ≤ 6 ∧ i = .int .i64 j ∧ Hid (At wr b bk bd ((DevS.new 8).run (exs.take j))) ∧ Hid (Chg [b, bk, bd] w3 wr)) (fun i _ => 6 - (intOf i).toNat)
  case atStart => exact ⟨0, by omega, rfl, HT.out.1, Chg.refl _ _⟩
  case round =>
    obtain ⟨j, hj, rfl, hA, hT⟩ := hrel
    by_cases hlt : j < 6
    · have hd : Dos (fun k => k ≠ b ∧ k ≠ bk ∧ k ≠ bd) wr (.slice (some ⟨bl, 0, none⟩) exs.length 6) exs := Dos.chg HL.out hT.out (fun k hk => by simp [hk.1, hk.2.1, hk.2.2])
      obtain ⟨k, bb, oo, kv, HS, ha, q0, q1, q2, q3, hf, hkv⟩ := hd.item j hlt
      obtain ⟨ka, kc, rfl, hkl, hkc⟩ := hkv.form
      have HK : Hid (k.fits ∧ Ints (fun k => k ≠ b ∧ k ≠ bk ∧ k ≠ bd) wr (.slice ka k.keep.length kc) k.keep) := ⟨hf, hkv⟩
      have HT : Hid (exs.take (j + 1) = exs.take j ++ [k]) := HS
      have HE : Hid (((DevS.new 8).run (exs.take j)).doesE k = 0) := by
        refine exs_ok j hlt k ?_
        have h1 := congrArg (fun l => l[j]?) HS
        have hl : (exs.take j).length = j := by simp [exs]; omega
        simp only [List.getElem?_take, Nat.lt_succ_self, if_true] at h1
        rw [List.getElem?_append_right (by omega)] at h1
        simpa [hl] using h1
      clear hf hkv hd hkl hkc HS
      injection ha with ha
      injection ha with ha1 ha2
      subst ha1 ha2
      rw [Nat.zero_add] at q0 q1 q2 q3
      go_wp2_with fail
      refine (does_step2 (k := k) hA.out hT.out HK.out.1 HK.out.2 _).mono ?_
      rintro e w2 ⟨rfl, h2, t2⟩
      rw [HE.out]
      have H2 : Hid (At w2 b bk bd (((DevS.new 8).run (exs.take j)).does k) ∧ Chg [b, bk, bd] w3 w2) := ⟨h2, t2⟩
      clear h2 t2
      go_wp2
      go_roundw
      case rel => exact ⟨j + 1, by omega, by go_num, by rw [HT.out, DevS.run_snoc]; exact H2.out.1, H2.out.2⟩
      case measure => simp [intOf]; omega
    · have he : Hid (exs.take j = exs) := List.take_of_length_le (by show 6 ≤ j; omega)
      have HF : Hid (At wr b bk bd ((DevS.new 8).run exs)) := by rw [← he.out]; exact hA.out
      go_wp2_with fail
      refine (read_any wr b bk bd _ 3 HF.out).mono ?_
      rintro e w2 ⟨rfl, rfl⟩
      rw [exs_a.1, exs_a.2.1]
      go_wp2_with fail
      refine (read_any wr b bk bd _ 4 HF.out).mono ?_
      rintro e w2 ⟨rfl, rfl⟩
      rw [exs_a.2.2.1, exs_a.2.2.2]
      go_wp2_with fail
      refine (new_no wr 7 (by omega)).mono ?_
      rintro e w2 ⟨rfl, rfl⟩
      go_wp2_with fail
      go_ret
      exact ⟨rfl, HT.out.2.trans (hT.out.below HT.out.2.size (by have := HA.out.2.2; simp; omega))⟩
end Go.Proofs.Ytecnfhfofnbieaa.Dev
