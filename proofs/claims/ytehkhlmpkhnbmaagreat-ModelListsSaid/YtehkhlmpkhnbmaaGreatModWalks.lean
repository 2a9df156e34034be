/- What the functions of layer 22 compute (1): stamps and vectors, how much there is. -/
import Derived.Test.YtehkhlmpkhnbmaaGreatProg
import Derived.Test.YtehkhlmpkhnbmaaGreatModRel
import Derived.Deep.QuietTactic
import Derived.Deep.LoopGhost
import Derived.Deep.RegionWith
import Derived.Deep.RegionHeld3
import Derived.BigQuiet
import Derived.Laws.StructEq
namespace Go.Proofs.YtehkhlmpkhnbmaaGreat.Mod
set_option linter.unusedVariables false
set_option linter.unusedSimpArgs false
set_option maxRecDepth 100000
open Go.RowKit Go.Proofs.YtehkhlmpkhnbmaaGreat.Mem

theorem is_cases (s : Stp) : (s.t < 1 ∧ s.is = false) ∨ (1 ≤ s.t ∧ 1099511627776 < s.t ∧ s.is = false) ∨ (1 ≤ s.t ∧ s.t ≤ 1099511627776 ∧ s.who < 0 ∧ s.is = false) ∨
    (1 ≤ s.t ∧ s.t ≤ 1099511627776 ∧ 0 ≤ s.who ∧ 8 ≤ s.who ∧ s.is = false) ∨ (1 ≤ s.t ∧ s.t ≤ 1099511627776 ∧ 0 ≤ s.who ∧ s.who < 8 ∧ s.is = true) := by
  unfold Stp.is
  by_cases h1 : 1 ≤ s.t
  · by_cases h2 : s.t ≤ 1099511627776
    · by_cases h3 : 0 ≤ s.who
      · by_cases h4 : s.who < 8
        · simp [h1, h2, h3, h4]
        · right; right; right; left; simp [h1, h2, h3, h4]; omega
      · right; right; left; simp [h1, h2, h3]; omega
    · right; left; simp [h1, h2]; omega
  · left; simp [h1]; omega

set_option maxHeartbeats 1000000 in
theorem is_any (s : Stp) (w : World) : Calls Tryz.prog 58 #[s.val] w fun e w' => e = .returned (.bool s.is) ∧ Below w.heap.size w w' := by
  rcases is_cases s with ⟨h1, he⟩ | ⟨h1, h2, he⟩ | ⟨h1, h2, h3, he⟩ | ⟨h1, h2, h3, h4, he⟩ | ⟨h1, h2, h3, h4, he⟩
  all_goals
    rw [he]
    clear he
    go_enter Tryz.func58, Tryz.ntmps58
    go_wp2
    go_ret
    refine ⟨?_, (Below.refl _ _).alloc (Nat.le_refl _) _⟩
    first
      | rfl
      | (show Ending.returned (.bool (decide (s.who < 8))) = _; rw [decide_eq_false (by omega)])
set_option maxHeartbeats 1000000 in
theorem ris_any (s : Stp) (w : World) : Calls Tryz.prog 59 #[s.val] w fun e w' => e = .returned (.bool s.is) ∧ Below w.heap.size w w' := by
  rcases is_cases s with ⟨h1, he⟩ | ⟨h1, h2, he⟩ | ⟨h1, h2, h3, he⟩ | ⟨h1, h2, h3, h4, he⟩ | ⟨h1, h2, h3, h4, he⟩
  all_goals
    rw [he]
    clear he
    go_enter Tryz.func59, Tryz.ntmps59
    go_wp2
    go_ret
    refine ⟨?_, (Below.refl _ _).alloc (Nat.le_refl _) _⟩
    first
      | rfl
      | (show Ending.returned (.bool (decide (s.who < 8))) = _; rw [decide_eq_false (by omega)])
/-- A region that draws its order, its operations quiet in a class of worlds: one walk, in the order of the text. -/
theorem wp_region_class {P : Program} {id : Nat} {Q : Exit → Act → World → Prop} {a : Act} {w : World} {l : List Oper} (C : World → Prop) (hm : P.follows .mixedOrders = true) (hB : Region.lexB .any l.toArray = true)
    (hC : C w.drew) (h : wpQuiet P l.toArray C (fun a' => ∀ w', C w' → Q .normal a' w') l a) : (Code.region id l.toArray true).wp P Q a w :=
  wp_region_quiet (C := C) hm hB hC (by simpa using h)
theorem wpQuiet_want {P : Program} {ops : Array Oper} {C : World → Prop} {Q : Act → Prop} {o : Oper} {rest : List Oper} {a : Act} (hw : Region.wanted o (yielded ops a.tmps) = true)
    (h : ∀ K : Act → Prop, (∀ a, wpQuiet P ops C Q rest a → K a) → ∃ v, (∀ w, C w → o.quietAt P a C w v) ∧ K (a.put o.dst v)) : wpQuiet P ops C Q (o :: rest) a :=
  wpQuiet_step fun K hK => by rw [if_pos hw]; exact h K hK
theorem wpQuiet_skip {P : Program} {ops : Array Oper} {C : World → Prop} {Q : Act → Prop} {o : Oper} {rest : List Oper} {a : Act} (hw : Region.wanted o (yielded ops a.tmps) = false)
    (h : wpQuiet P ops C Q rest (a.put o.dst undef)) : wpQuiet P ops C Q (o :: rest) a :=
  wpQuiet_step fun K hK => by rw [if_neg (by rw [hw]; exact Bool.false_ne_true)]; exact hK _ h
theorem cellB {B : Nat} {w w' : World} (h : Below B w w') {b o : Nat} {v : Value} (hb : b < B) (hc : w.cell? ⟨b, o, none⟩ = some v) : w'.cell? ⟨b, o, none⟩ = some v :=
  (h.cell (p := ⟨b, o, none⟩) hb).trans hc
theorem has_false {v : Vec} {s : Stp} (h : s.is = false) : v.has s = false := by simp [Vec.has, h]
theorem has_true {v : Vec} {s : Stp} (h : s.is = true) : v.has s = decide (s.t ≤ v.get s.who) := by simp [Vec.has, h]
/-- the two boxes that a call of Has makes -/
structure HasBox (w w1 : World) (v : Vec) (s : Stp) (bv bs : Nat) : Prop where
  below : Below w.heap.size w w1
  hv : w1.heap[bv]? = some (.cells #[.int .i64 v.v0, .int .i64 v.v1, .int .i64 v.v2, .int .i64 v.v3, .int .i64 v.v4, .int .i64 v.v5, .int .i64 v.v6, .int .i64 v.v7] 26 (0, 0))
  hs : w1.heap[bs]? = some (.cells #[.int .i64 s.t, .int .i64 s.who] 24 (0, 0))
theorem HasBox.made (w : World) (v : Vec) (s : Stp) : HasBox w ((w.alloc (.cells #[.int .i64 v.v0, .int .i64 v.v1, .int .i64 v.v2, .int .i64 v.v3, .int .i64 v.v4, .int .i64 v.v5, .int .i64 v.v6, .int .i64 v.v7] 26)).alloc (.cells #[.int .i64 s.t, .int .i64 s.who] 24)) v s w.heap.size (w.heap.size + 1) := by
  refine ⟨((Below.refl _ _).alloc (Nat.le_refl _) _).alloc (by simp) _, ?_, ?_⟩
  · rw [heap_alloc_other _ (by simp)]; exact heap_alloc_last _ _
  · have := heap_alloc_last (w.alloc (.cells #[.int .i64 v.v0, .int .i64 v.v1, .int .i64 v.v2, .int .i64 v.v3, .int .i64 v.v4, .int .i64 v.v5, .int .i64 v.v6, .int .i64 v.v7] 26)) (.cells #[.int .i64 s.t, .int .i64 s.who] 24)
    simpa using this
theorem HasBox.on {w w1 w2 : World} {v : Vec} {s : Stp} {bv bs : Nat} (h : HasBox w w1 v s bv bs) (hb : Below w1.heap.size w1 w2) : HasBox w w2 v s bv bs :=
  ⟨h.below.trans (hb.mono h.below.size), (hb.block _ (heap_lt h.hv)).trans h.hv, (hb.block _ (heap_lt h.hs)).trans h.hs⟩
theorem HasBox.held {w w1 : World} {v : Vec} {s : Stp} {bv bs : Nat} (h : HasBox w w1 v s bv bs) : w1.cell? ⟨bs, 0, none⟩ = some (.int .i64 s.t) ∧ w1.cell? ⟨bs, 1, none⟩ = some (.int .i64 s.who) ∧
    w1.cell? ⟨bv, 0, none⟩ = some (.int .i64 v.v0) ∧ w1.cell? ⟨bv, 1, none⟩ = some (.int .i64 v.v1) ∧ w1.cell? ⟨bv, 2, none⟩ = some (.int .i64 v.v2) ∧ w1.cell? ⟨bv, 3, none⟩ = some (.int .i64 v.v3) ∧
    w1.cell? ⟨bv, 4, none⟩ = some (.int .i64 v.v4) ∧ w1.cell? ⟨bv, 5, none⟩ = some (.int .i64 v.v5) ∧ w1.cell? ⟨bv, 6, none⟩ = some (.int .i64 v.v6) ∧ w1.cell? ⟨bv, 7, none⟩ = some (.int .i64 v.v7) ∧ Hid (HasBox w w1 v s bv bs) :=
  ⟨cell_at h.hs 0, cell_at h.hs 1, cell_at h.hv 0, cell_at h.hv 1, cell_at h.hv 2, cell_at h.hv 3, cell_at h.hv 4, cell_at h.hv 5, cell_at h.hv 6, cell_at h.hv 7, h⟩
theorem Vec.get_nat (v : Vec) (n : Nat) (h : n < 8) : (#[Value.int .i64 v.v0, .int .i64 v.v1, .int .i64 v.v2, .int .i64 v.v3, .int .i64 v.v4, .int .i64 v.v5, .int .i64 v.v6, .int .i64 v.v7])[n]? = some (.int .i64 (v.get (n : Int))) := by
  rcases (by omega : n = 0 ∨ n = 1 ∨ n = 2 ∨ n = 3 ∨ n = 4 ∨ n = 5 ∨ n = 6 ∨ n = 7) with h | h | h | h | h | h | h | h <;> subst h <;> rfl
set_option maxHeartbeats 4000000 in
theorem has_no (v : Vec) (s : Stp) (w : World) (h : s.is = false) : Calls Tryz.prog 31 #[v.val, s.val] w fun e w' => e = .returned (.bool (v.has s)) ∧ Below w.heap.size w w' := by
  rw [has_false h]
  go_enter Tryz.func31, Tryz.ntmps31
  go_wp2_with fail
  have hx := HasBox.made w v s
  generalize (w.alloc (Obj.cells #[.int .i64 v.v0, .int .i64 v.v1, .int .i64 v.v2, .int .i64 v.v3, .int .i64 v.v4, .int .i64 v.v5, .int .i64 v.v6, .int .i64 v.v7] 26)).alloc (Obj.cells #[.int .i64 s.t, .int .i64 s.who] 24) = w1 at hx ⊢
  generalize w.heap.size + 1 = bs at hx ⊢
  generalize hbv : w.heap.size = bv at hx ⊢
  have HV : Hid _ := hbv
  clear hbv
  refine wp_region_class (fun w' => HasBox w w' v s bv bs) (by kernel_rfl) (by kernel_rfl) (hx.on ((Below.refl _ _).drew)) ?_
  clear hx
  repeat
    first
      | (refine wpQuiet_skip (by rfl) ?_)
      | (refine wpQuiet_want (by rfl) (fun K hK => ?_)
         apply Exists.intro
         refine ⟨fun w' hw' => ?_, hK _ ?_⟩
         (obtain ⟨q0, q1, -⟩ := HasBox.held hw'
          unfold Oper.quietAt
          first
            | (go_simp; with_reducible exact rfl)
            | (go_simp; refine (is_any s w').mono ?_; rintro e w2 ⟨rfl, t2⟩; rw [h]; exact ⟨rfl, hw'.on t2⟩))
         clear hK K)
    simp only [Act.put, List.setIfInBounds_toArray, List.set_cons_zero, List.set_cons_succ]
  refine wpQuiet_nil ?_
  intro w' hw'
  have HW : Hid (Below w.heap.size w w') := hw'.below
  clear hw'
  go_wp2
  go_ret
  exact ⟨rfl, HW.out⟩
set_option maxHeartbeats 4000000 in
theorem has_yes (v : Vec) (t : Int) (n : Nat) (w : World) (h : (⟨t, n⟩ : Stp).is = true) (hn : n < 8) : Calls Tryz.prog 31 #[v.val, Stp.val ⟨t, n⟩] w fun e w' => e = .returned (.bool (v.has ⟨t, n⟩)) ∧ Below w.heap.size w w' := by
  rw [has_true h]
  have hn0 : (0 : Int) ≤ (n : Int) := by omega
  have hn8 : (n : Int) < 8 := by omega
  go_enter Tryz.func31, Tryz.ntmps31
  go_wp2_with fail
  have hx := HasBox.made w v ⟨t, n⟩
  simp only at hx
  generalize (w.alloc (Obj.cells #[.int .i64 v.v0, .int .i64 v.v1, .int .i64 v.v2, .int .i64 v.v3, .int .i64 v.v4, .int .i64 v.v5, .int .i64 v.v6, .int .i64 v.v7] 26)).alloc (Obj.cells #[.int .i64 t, .int .i64 n] 24) = w1 at hx ⊢
  generalize w.heap.size + 1 = bs at hx ⊢
  generalize hbv : w.heap.size = bv at hx ⊢
  have HV : Hid _ := hbv
  clear hbv
  obtain ⟨g, hg⟩ : ∃ g, g = v.get (n : Int) := ⟨_, rfl⟩
  have HG : Hid (g = v.get (n : Int)) := hg
  clear hg
  refine wp_region_class (fun w' => HasBox w w' v ⟨t, n⟩ bv bs) (by kernel_rfl) (by kernel_rfl) (hx.on ((Below.refl _ _).drew)) ?_
  clear hx
  repeat
    first
      | (refine wpQuiet_skip (by rfl) ?_)
      | (refine wpQuiet_want (by rfl) (fun K hK => ?_)
         apply Exists.intro
         refine ⟨fun w' hw' => ?_, hK _ ?_⟩
         (obtain ⟨q0, q1, -⟩ := HasBox.held hw'
          have q2 : w'.cell? ⟨bv, n, none⟩ = some (.int .i64 g) := by rw [HG.out, cell_at hw'.hv, Vec.get_nat _ _ hn]
          unfold Oper.quietAt
          first
            | (go_simp; with_reducible exact rfl)
            | (go_simp; refine (is_any ⟨t, n⟩ w').mono ?_; rintro e w2 ⟨rfl, t2⟩; rw [h]; exact ⟨rfl, hw'.on t2⟩))
         clear hK K)
    simp only [Act.put, List.setIfInBounds_toArray, List.set_cons_zero, List.set_cons_succ]
  refine wpQuiet_nil ?_
  intro w' hw'
  have HW : Hid (Below w.heap.size w w') := hw'.below
  clear hw'
  go_wp2
  go_ret
  exact ⟨by rw [HG.out]; rfl, HW.out⟩
theorem has_any (v : Vec) (s : Stp) (w : World) : Calls Tryz.prog 31 #[v.val, s.val] w fun e w' => e = .returned (.bool (v.has s)) ∧ Below w.heap.size w w' := by
  cases h : s.is with
  | false => exact has_no v s w h
  | true =>
    rcases is_cases s with ⟨h1, he⟩ | ⟨h1, h2, he⟩ | ⟨h1, h2, h3, he⟩ | ⟨h1, h2, h3, h4, he⟩ | ⟨h1, h2, h3, h4, he⟩
    iterate 4 (rw [h] at he; cases he)
    obtain ⟨t, who⟩ := s
    obtain ⟨n, rfl⟩ := Int.eq_ofNat_of_zero_le h3
    exact has_yes v t n w h (by simp only at h4; omega)
set_option maxHeartbeats 4000000 in
theorem rhas_no (v : Vec) (s : Stp) (w : World) (h : s.is = false) : Calls Tryz.prog 32 #[v.val, s.val] w fun e w' => e = .returned (.bool (v.has s)) ∧ Below w.heap.size w w' := by
  rw [has_false h]
  go_enter Tryz.func32, Tryz.ntmps32
  go_wp2_with fail
  have hx := HasBox.made w v s
  generalize (w.alloc (Obj.cells #[.int .i64 v.v0, .int .i64 v.v1, .int .i64 v.v2, .int .i64 v.v3, .int .i64 v.v4, .int .i64 v.v5, .int .i64 v.v6, .int .i64 v.v7] 26)).alloc (Obj.cells #[.int .i64 s.t, .int .i64 s.who] 24) = w1 at hx ⊢
  generalize w.heap.size + 1 = bs at hx ⊢
  generalize hbv : w.heap.size = bv at hx ⊢
  have HV : Hid _ := hbv
  clear hbv
  refine wp_region_class (fun w' => HasBox w w' v s bv bs) (by kernel_rfl) (by kernel_rfl) (hx.on ((Below.refl _ _).drew)) ?_
  clear hx
  repeat
    first
      | (refine wpQuiet_skip (by rfl) ?_)
      | (refine wpQuiet_want (by rfl) (fun K hK => ?_)
         apply Exists.intro
         refine ⟨fun w' hw' => ?_, hK _ ?_⟩
         (obtain ⟨q0, q1, -⟩ := HasBox.held hw'
          unfold Oper.quietAt
          first
            | (go_simp; with_reducible exact rfl)
            | (go_simp; refine (ris_any s w').mono ?_; rintro e w2 ⟨rfl, t2⟩; rw [h]; exact ⟨rfl, hw'.on t2⟩))
         clear hK K)
    simp only [Act.put, List.setIfInBounds_toArray, List.set_cons_zero, List.set_cons_succ]
  refine wpQuiet_nil ?_
  intro w' hw'
  have HW : Hid (Below w.heap.size w w') := hw'.below
  clear hw'
  go_wp2
  go_ret
  exact ⟨rfl, HW.out⟩
set_option maxHeartbeats 4000000 in
theorem rhas_yes (v : Vec) (t : Int) (n : Nat) (w : World) (h : (⟨t, n⟩ : Stp).is = true) (hn : n < 8) : Calls Tryz.prog 32 #[v.val, Stp.val ⟨t, n⟩] w fun e w' => e = .returned (.bool (v.has ⟨t, n⟩)) ∧ Below w.heap.size w w' := by
  rw [has_true h]
  have hn0 : (0 : Int) ≤ (n : Int) := by omega
  have hn8 : (n : Int) < 8 := by omega
  go_enter Tryz.func32, Tryz.ntmps32
  go_wp2_with fail
  have hx := HasBox.made w v ⟨t, n⟩
  simp only at hx
  generalize (w.alloc (Obj.cells #[.int .i64 v.v0, .int .i64 v.v1, .int .i64 v.v2, .int .i64 v.v3, .int .i64 v.v4, .int .i64 v.v5, .int .i64 v.v6, .int .i64 v.v7] 26)).alloc (Obj.cells #[.int .i64 t, .int .i64 n] 24) = w1 at hx ⊢
  generalize w.heap.size + 1 = bs at hx ⊢
  generalize hbv : w.heap.size = bv at hx ⊢
  have HV : Hid _ := hbv
  clear hbv
  obtain ⟨g, hg⟩ : ∃ g, g = v.get (n : Int) := ⟨_, rfl⟩
  have HG : Hid (g = v.get (n : Int)) := hg
  clear hg
  refine wp_region_class (fun w' => HasBox w w' v ⟨t, n⟩ bv bs) (by kernel_rfl) (by kernel_rfl) (hx.on ((Below.refl _ _).drew)) ?_
  clear hx
  repeat
    first
      | (refine wpQuiet_skip (by rfl) ?_)
      | (refine wpQuiet_want (by rfl) (fun K hK => ?_)
         apply Exists.intro
         refine ⟨fun w' hw' => ?_, hK _ ?_⟩
         (obtain ⟨q0, q1, -⟩ := HasBox.held hw'
          have q2 : w'.cell? ⟨bv, n, none⟩ = some (.int .i64 g) := by rw [HG.out, cell_at hw'.hv, Vec.get_nat _ _ hn]
          unfold Oper.quietAt
          first
            | (go_simp; with_reducible exact rfl)
            | (go_simp; refine (ris_any ⟨t, n⟩ w').mono ?_; rintro e w2 ⟨rfl, t2⟩; rw [h]; exact ⟨rfl, hw'.on t2⟩))
         clear hK K)
    simp only [Act.put, List.setIfInBounds_toArray, List.set_cons_zero, List.set_cons_succ]
  refine wpQuiet_nil ?_
  intro w' hw'
  have HW : Hid (Below w.heap.size w w') := hw'.below
  clear hw'
  go_wp2
  go_ret
  exact ⟨by rw [HG.out]; rfl, HW.out⟩
theorem rhas_any (v : Vec) (s : Stp) (w : World) : Calls Tryz.prog 32 #[v.val, s.val] w fun e w' => e = .returned (.bool (v.has s)) ∧ Below w.heap.size w w' := by
  cases h : s.is with
  | false => exact rhas_no v s w h
  | true =>
    rcases is_cases s with ⟨h1, he⟩ | ⟨h1, h2, he⟩ | ⟨h1, h2, h3, he⟩ | ⟨h1, h2, h3, h4, he⟩ | ⟨h1, h2, h3, h4, he⟩
    iterate 4 (rw [h] at he; cases he)
    obtain ⟨t, who⟩ := s
    obtain ⟨n, rfl⟩ := Int.eq_ofNat_of_zero_le h3
    exact rhas_yes v t n w h (by simp only at h4; omega)
/-- Before -/
def EventV (e : Event) (vn vl : Value) : Value := .agg (e.row vn vl)
set_option maxHeartbeats 1000000 in
theorem before_any (a b : Event) (an al bn bl : Value) (w : World) : Calls Tryz.prog 11 #[.agg (a.row an al), .agg (b.row bn bl)] w fun e w' => e = .returned (.bool (a.before b)) ∧ Below w.heap.size w w' := by
  go_enter Tryz.func11, Tryz.ntmps11
  go_wp2_with fail
  refine (has_any b.knew a.at_ _).mono ?_
  rintro e w1 ⟨rfl, hb⟩
  have HB : Hid (Below w.heap.size w w1) := ((((Below.refl _ _).alloc (Nat.le_refl _) _).alloc (by simp) _)).trans (hb.mono (by simp; omega))
  clear hb
  go_wp2
  go_ret
  exact ⟨rfl, HB.out⟩
end Go.Proofs.YtehkhlmpkhnbmaaGreat.Mod
