/- Layer 1: Read: a look that may be broken off. -/
import Derived.Test.YtadmecjdihfmeaaGreatEye
namespace Go.Proofs.YtadmecjdihfmeaaGreat.Oct
set_option linter.unusedVariables false
set_option linter.unusedSimpArgs false
set_option maxRecDepth 100000
open Go.RowKit Go.Lib Go.Proofs.YtadmecjdihfmeaaGreat.Mem

/-- Read's three variables: the error, the eye, where the eye is -/
structure LookAt (w : World) (br eb be_ : Nat) (err : Int) (s : ByteArray) (on : Bool) : Prop where
  r : w.heap[br]? = some (.cells #[.int .i64 err] 30 (0, 0))
  eye : w.heap[eb]? = some (.cells #[.string s, .bool on] 150 (0, 0))
  e : w.heap[be_]? = some (.cells #[.pointer (some ⟨eb, 0, none⟩)] 129 (0, 0))
theorem end_idle (w : World) (br eb be_ : Nat) (err : Int) (s : ByteArray) (h : LookAt w br eb be_ err s true) :
    CallsD Tryz.prog 90 #[.pointer (some ⟨be_, 0, none⟩), .pointer (some ⟨br, 0, none⟩)] .returning w fun e u' w' => e = .returned (.tuple #[]) ∧ u' = .returning ∧ w' = w.setCell ⟨eb, 1, none⟩ (.bool false) := by
  have c0 : w.cell? ⟨be_, 0, none⟩ = some (.pointer (some ⟨eb, 0, none⟩)) := cell_at h.e 0
  have c1 : w.cell? ⟨eb, 1, none⟩ = some (.bool true) := cell_at h.eye 1
  have cf : w.frozen? ⟨eb, 1, none⟩ = false := frozen_at h.eye 1
  clear h
  refine callsD_of_wpS Tryz.func90 rfl fun c₀ cs hu => ?_
  have ht : (#[Value.pointer (some ⟨be_, 0, none⟩), .pointer (some ⟨br, 0, none⟩)] ++ Array.replicate (Tryz.f90.ntmps - #[Value.pointer (some ⟨be_, 0, none⟩), .pointer (some ⟨br, 0, none⟩)].size) undef : Array Value) = #[.pointer (some ⟨be_, 0, none⟩), .pointer (some ⟨br, 0, none⟩), undef, undef, undef, undef, undef, undef, undef, undef, undef, undef, undef, undef, undef, undef] := by
    rw [Tryz.ntmps90]; rfl
  rw [ht]
  clear ht
  apply wpS_seq
  refine wpS_of_wp ?_
  go_wp2
  simp only [Exit.thenS]
  apply wpS_seq
  apply wpS_region
  simp [wpOpsS, go_sem, recoverD, hu, Exit.thenS]
  refine wpS_of_wp ?_
  go_wp2
  cases c₀
  simp_all [bodyPostS, results, Tryz.results90]
theorem end_caught (w : World) (br eb be_ : Nat) (err why : Int) (s : ByteArray) (h : LookAt w br eb be_ err s true) :
    CallsD Tryz.prog 90 #[.pointer (some ⟨be_, 0, none⟩), .pointer (some ⟨br, 0, none⟩)] (.panicking (thrown why)) w fun e u' w' => e = .returned (.tuple #[]) ∧ u' = .panicking [{ v := .iface 152 (.agg #[.int .i64 why]), recovered := true }] ∧ w' = ((w.setCell ⟨eb, 1, none⟩ (.bool false)).setCell ⟨br, 0, none⟩ (.int .i64 why)).alloc (.cells #[.int .i64 why] 152) := by
  have c0 : w.cell? ⟨be_, 0, none⟩ = some (.pointer (some ⟨eb, 0, none⟩)) := cell_at h.e 0
  have c1 : w.cell? ⟨eb, 1, none⟩ = some (.bool true) := cell_at h.eye 1
  have cf : w.frozen? ⟨eb, 1, none⟩ = false := frozen_at h.eye 1
  have c2 : w.cell? ⟨br, 0, none⟩ = some (.int .i64 err) := cell_at h.r 0
  have cg : w.frozen? ⟨br, 0, none⟩ = false := frozen_at h.r 0
  have hne : br ≠ eb := by rintro rfl; have := h.r.symm.trans h.eye; simp at this
  have hlt := heap_lt h.r
  have hta : ∀ w : World, (Instr.typeAssert (.iface 152 (.agg #[.int .i64 why])) 20 152 true).run Tryz.prog w = .ok (.tuple #[.agg #[.int .i64 why], .bool true]) w := fun w => by kernel_rfl
  clear h
  refine callsD_of_wpS Tryz.func90 rfl fun c₀ cs hu => ?_
  have ht : (#[Value.pointer (some ⟨be_, 0, none⟩), .pointer (some ⟨br, 0, none⟩)] ++ Array.replicate (Tryz.f90.ntmps - #[Value.pointer (some ⟨be_, 0, none⟩), .pointer (some ⟨br, 0, none⟩)].size) undef : Array Value) = #[.pointer (some ⟨be_, 0, none⟩), .pointer (some ⟨br, 0, none⟩), undef, undef, undef, undef, undef, undef, undef, undef, undef, undef, undef, undef, undef, undef] := by
    rw [Tryz.ntmps90]; rfl
  rw [ht]
  clear ht
  apply wpS_seq
  refine wpS_of_wp ?_
  go_wp2
  simp only [Exit.thenS]
  apply wpS_seq
  apply wpS_region
  simp [wpOpsS, go_sem, recoverD, hu, Exit.thenS]
  refine wpS_of_wp ?_
  go_wp2
  cases c₀
  simp_all [bodyPostS, results, Tryz.results90]
theorem LookAt.err {w : World} {br eb be_ : Nat} {err : Int} {s : ByteArray} {on : Bool} (h : LookAt w br eb be_ err s on) (h1 : br ≠ eb) (h2 : br ≠ be_) (e : Int) : LookAt (w.setCell ⟨br, 0, none⟩ (.int .i64 e)) br eb be_ e s on :=
  ⟨heap_set_at h.r 0 _, (heap_set_other ⟨br, 0, none⟩ _ (Ne.symm h1)).trans h.eye, (heap_set_other ⟨br, 0, none⟩ _ (Ne.symm h2)).trans h.e⟩
/-- bytes, read as a text -/
theorem U8s.conv {B : Nat} {w : World} {v : Value} {l : List UInt8} (h : U8s B w v l) : (convert 71 9 v).run Tryz.prog w = .ok (.string ⟨l.toArray⟩) w := by
  rcases h with ⟨rfl, rfl⟩ | ⟨b, o, c, rfl, _, hc⟩
  · kernel_rfl
  · refine run_convert_bytes_back (P := Tryz.prog) w 71 9 5 ⟨b, o, none⟩ c l Tryz.underlying71 Tryz.underlying5 Tryz.underlying9 (fun j hj => ?_)
    rw [add_at]
    exact hc j _ (by simp [hj])
/-- how Read ends -/
def endE (r : Except Int ByteArray) : Int := match r with | .ok s => if s.toList.isEmpty = true then 0 else 201 | .error why => why
/-- how a look ends -/
def LookPost (T : List Nat) (F : Nat → Except Int ByteArray → World → Prop) (w1 : World) (eb : Nat) (e : Ending) (w2 : World) : Prop :=
  (∃ s', e = .returned (.tuple #[]) ∧ EyeAt w2 eb s' ∧ Chg (eb :: T) w1 w2 ∧ F w1.heap.size (.ok s') w2) ∨ (∃ why s', e = .panicked (thrown why) ∧ EyeAt w2 eb s' ∧ Chg (eb :: T) w1 w2 ∧ F w1.heap.size (.error why) w2)
/-- behind the door: what Read hands back, and what stands -/
theorem close {w w1 w2 w3 : World} {T : List Nat} {F : Nat → Except Int ByteArray → World → Prop} {r : Except Int ByteArray}
    (HF : ∀ N r w2 w3, w.heap.size ≤ N → F N r w2 → w2.heap.size ≤ w3.heap.size → (∀ k, (k < w.heap.size ∨ N ≤ k) → k < w2.heap.size → w3.heap[k]? = w2.heap[k]?) → F N r w3)
    (hz : w1.heap.size = w.heap.size + 3) (hc : Chg T w w2) (hf : F w1.heap.size r w2) (hc3 : Chg [w.heap.size, w.heap.size + 1] w2 w3) : Chg T w w3 ∧ F w1.heap.size r w3 ∧ w.heap.size ≤ w1.heap.size := by
  refine ⟨hc.trans' hc3 (fun x hx => .inr ?_), HF _ _ _ _ (by omega) hf hc3.size (fun k hk hl => hc3.block k hl (fun hm => ?_)), by omega⟩
  · simp at hx; omega
  · simp at hm; omega
set_option maxHeartbeats 1000000 in
theorem read_any {w : World} {b : Value} {l : List UInt8} {g : Nat} {cap : Array Value} {T : List Nat} {F : Nat → Except Int ByteArray → World → Prop} (hU : U8s w.heap.size w b l) (hT : ∀ t ∈ T, t < w.heap.size)
    (hF : ∀ N r w2 w3, w.heap.size ≤ N → F N r w2 → w2.heap.size ≤ w3.heap.size → (∀ k, (k < w.heap.size ∨ N ≤ k) → k < w2.heap.size → w3.heap[k]? = w2.heap[k]?) → F N r w3)
    (hcall : ∀ (args : Array Value) (w : World), (callFunc g args).run Tryz.prog w = .ok (.enter g args) w)
    (look : ∀ w1 eb, w.heap.size ≤ eb → EyeAt w1 eb ⟨l.toArray⟩ → Below w.heap.size w w1 → Calls Tryz.prog g (#[.pointer (some ⟨eb, 0, none⟩)] ++ cap) w1 (LookPost T F w1 eb)) :
    Calls Tryz.prog 68 #[b, .func (Fn.func g) #[] cap] w fun e w' => ∃ N r, e = .returned (.int .i64 (endE r)) ∧ Chg T w w' ∧ F N r w' ∧ w.heap.size ≤ N := by
  have hmf : ∀ (fn : Fn) (first cap : Array Value) (w : World), (Instr.makeFunc fn first cap).run Tryz.prog w = .ok (.func fn first cap) w := fun _ _ _ _ => rfl
  have hnil : ∀ w : World, (binOp BinOp.neq 131 (.func (Fn.func g) #[] cap) .nilFunc).run Tryz.prog w = .ok (.bool true) w := fun _ => by kernel_rfl
  have hconv : (convert 71 9 b).run Tryz.prog (w.alloc (.cells #[.int .i64 0] 30)) = .ok (.string ⟨l.toArray⟩) (w.alloc (.cells #[.int .i64 0] 30)) := (hU.below ((Below.refl _ _).alloc (Nat.le_refl _) _)).conv
  go_enter_defers Tryz.func68, Tryz.ntmps68
  go_wp2_with fail
  obtain ⟨w1, hw1⟩ : ∃ w1, w1 = (((w.alloc (.cells #[.int .i64 0] 30)).alloc (.cells #[.string ⟨l.toArray⟩, .bool true] 150)).alloc (.cells #[.pointer (some ⟨w.heap.size + 1, 0, none⟩)] 129)) := ⟨_, rfl⟩
  have hz : w1.heap.size = w.heap.size + 3 := by rw [hw1]; simp
  have hb1 : Below w.heap.size w w1 := by rw [hw1]; exact ((((Below.refl _ _).alloc (Nat.le_refl _) _).alloc (by simp) _).alloc (by simp; omega) _)
  have hL : LookAt w1 w.heap.size (w.heap.size + 1) (w.heap.size + 1 + 1) 0 ⟨l.toArray⟩ true := by
    rw [hw1]
    refine ⟨?_, ?_, ?_⟩
    · rw [heap_alloc_other _ (by simp; omega), heap_alloc_other _ (by simp)]; exact heap_alloc_last _ _
    · rw [heap_alloc_other _ (by simp)]
      have := heap_alloc_last (w.alloc (.cells #[.int .i64 0] 30)) (.cells #[.string ⟨l.toArray⟩, .bool true] 150)
      simpa using this
    · have := heap_alloc_last ((w.alloc (.cells #[.int .i64 0] 30)).alloc (.cells #[.string ⟨l.toArray⟩, .bool true] 150)) (.cells #[.pointer (some ⟨w.heap.size + 1, 0, none⟩)] 129)
      simpa using this
  rw [← hw1]
  clear hw1 hconv
  have hT' : w.heap.size ∉ (w.heap.size + 1) :: T ∧ (w.heap.size + 1 + 1) ∉ (w.heap.size + 1) :: T := by
    constructor
    · intro h
      rcases List.mem_cons.1 h with h | h
      · omega
      · have := hT _ h; omega
    · intro h
      rcases List.mem_cons.1 h with h | h
      · omega
      · have := hT _ h; omega
  have HD : Hid (w1.heap.size = w.heap.size + 3 ∧ Below w.heap.size w w1) := ⟨hz, hb1⟩
  refine (look w1 (w.heap.size + 1) (by omega) hL.eye hb1).mono ?_
  have step : ∀ w2 s', EyeAt w2 (w.heap.size + 1) s' → Chg ((w.heap.size + 1) :: T) w1 w2 → LookAt w2 w.heap.size (w.heap.size + 1) (w.heap.size + 1 + 1) 0 s' true ∧ Chg T w w2 := fun w2 s' h1 h2 =>
    ⟨⟨(h2.block _ (heap_lt hL.r) hT'.1).trans hL.r, h1, (h2.block _ (heap_lt hL.e) hT'.2).trans hL.e⟩, (Chg.trans' (S := T) (Chg.of_below hb1) h2 (fun x hx => by
      rcases List.mem_cons.1 hx with rfl | hx
      · exact .inr (by omega)
      · exact .inl hx))⟩
  have HS : Hid (∀ w2 s', EyeAt w2 (w.heap.size + 1) s' → Chg ((w.heap.size + 1) :: T) w1 w2 → LookAt w2 w.heap.size (w.heap.size + 1) (w.heap.size + 1 + 1) 0 s' true ∧ Chg T w w2) := step
  have HF : Hid (∀ N r w2 w3, w.heap.size ≤ N → F N r w2 → w2.heap.size ≤ w3.heap.size → (∀ k, (k < w.heap.size ∨ N ≤ k) → k < w2.heap.size → w3.heap[k]? = w2.heap[k]?) → F N r w3) := hF
  clear hL hT' hb1 hz step hF look hcall hU hT
  rintro e w2 (⟨s', rfl, he, hc, hf⟩ | ⟨why, s', rfl, he, hc, hf⟩)
  · have hq := HS.out w2 s' he hc
    have HQ : Hid (LookAt w2 w.heap.size (w.heap.size + 1) (w.heap.size + 1 + 1) 0 s' true ∧ Chg T w w2 ∧ F w1.heap.size (.ok s') w2) := ⟨hq.1, hq.2, hf⟩
    have c0 : w2.cell? ⟨w.heap.size + 1 + 1, 0, none⟩ = some (.pointer (some ⟨w.heap.size + 1, 0, none⟩)) := cell_at hq.1.e 0
    have c1 : w2.cell? ⟨w.heap.size + 1, 0, none⟩ = some (.string s') := cell_at hq.1.eye 0
    have c2 : w2.cell? ⟨w.heap.size, 0, none⟩ = some (.int .i64 0) := cell_at hq.1.r 0
    have cf : w2.frozen? ⟨w.heap.size, 0, none⟩ = false := frozen_at hq.1.r 0
    clear hq hf hc he HS
    cases hs : s'.toList.isEmpty with
    | true =>
      go_wp2
      refine leaves_cons (f := 90) (args := #[.pointer (some ⟨w.heap.size + 1 + 1, 0, none⟩), .pointer (some ⟨w.heap.size, 0, none⟩)]) (by simp) (by simp [go_sem]) ?_
      refine (end_idle _ w.heap.size (w.heap.size + 1) (w.heap.size + 1 + 1) 0 s' (HQ.out.1.err (by omega) (by omega) 0)).mono ?_
      rintro e u' w4 ⟨rfl, rfl, hw4⟩
      have hc4 : w4.cell? ⟨w.heap.size, 0, none⟩ = some (.int .i64 0) := by
        rw [hw4]
        exact cell_at ((heap_set_other ⟨w.heap.size + 1, 1, none⟩ _ (by simp)).trans (HQ.out.1.err (by omega) (by omega) 0).r) 0
      have hX := close (w3 := w4) HF.out HD.out.1 HQ.out.2.1 HQ.out.2.2 (by rw [hw4]; exact ((Chg.refl _ _).setCell _ _ (.inl (by simp))).setCell _ _ (.inl (by simp)))
      refine ⟨.int .i64 0, ?_, w1.heap.size, .ok s', ?_, hX.1, hX.2.1, hX.2.2⟩
      · simp [results, Tryz.results68, go_sem, hc4]
      · simp [endE, hs]
    | false =>
      have hon : EyeAt w2 (w.heap.size + 1) s' := HQ.out.1.eye
      have HO : Hid (EyeAt w2 (w.heap.size + 1) s') := hon
      clear hon
      go_wp2_with (first
        | (go_at_call 71; refine (fail_any _ (w.heap.size + 1) s' 201 HO.out).mono ?_; rintro e w3 ⟨rfl, rfl⟩)
        | fail)
      refine leaves_cons (f := 90) (args := #[.pointer (some ⟨w.heap.size + 1 + 1, 0, none⟩), .pointer (some ⟨w.heap.size, 0, none⟩)]) (by simp) (by simp [go_sem]) ?_
      refine (end_caught _ w.heap.size (w.heap.size + 1) (w.heap.size + 1 + 1) 0 201 s' HQ.out.1).mono ?_
      rintro e u' w4 ⟨rfl, rfl, hw4⟩
      have hc4 : w4.cell? ⟨w.heap.size, 0, none⟩ = some (.int .i64 201) := by
        rw [hw4]
        have h1 : (w2.setCell ⟨w.heap.size + 1, 1, none⟩ (.bool false)).heap[w.heap.size]? = some (.cells #[.int .i64 0] 30 (0, 0)) := (heap_set_other ⟨w.heap.size + 1, 1, none⟩ _ (by simp)).trans HQ.out.1.r
        have h2 := heap_set_at h1 0 (.int .i64 201)
        exact cell_at ((heap_alloc_other _ (heap_lt h2)).trans h2) 0
      have hX := close (w3 := w4) HF.out HD.out.1 HQ.out.2.1 HQ.out.2.2 (by rw [hw4]; exact (((Chg.refl _ _).setCell _ _ (.inl (by simp))).setCell _ _ (.inl (by simp))).alloc _)
      refine ⟨.int .i64 201, ?_, w1.heap.size, .ok s', ?_, hX.1, hX.2.1, hX.2.2⟩
      · simp [results, Tryz.results68, go_sem, hc4]
      · simp [endE, hs]
  · have hq := HS.out w2 s' he hc
    have HQ : Hid (LookAt w2 w.heap.size (w.heap.size + 1) (w.heap.size + 1 + 1) 0 s' true ∧ Chg T w w2 ∧ F w1.heap.size (.error why) w2) := ⟨hq.1, hq.2, hf⟩
    clear hq hf hc he HS
    go_wp2
    refine leaves_cons (f := 90) (args := #[.pointer (some ⟨w.heap.size + 1 + 1, 0, none⟩), .pointer (some ⟨w.heap.size, 0, none⟩)]) (by simp) (by simp [go_sem]) ?_
    refine (end_caught _ w.heap.size (w.heap.size + 1) (w.heap.size + 1 + 1) 0 why s' HQ.out.1).mono ?_
    rintro e u' w4 ⟨rfl, rfl, hw4⟩
    have hc4 : w4.cell? ⟨w.heap.size, 0, none⟩ = some (.int .i64 why) := by
      rw [hw4]
      have h1 : (w2.setCell ⟨w.heap.size + 1, 1, none⟩ (.bool false)).heap[w.heap.size]? = some (.cells #[.int .i64 0] 30 (0, 0)) := (heap_set_other ⟨w.heap.size + 1, 1, none⟩ _ (by simp)).trans HQ.out.1.r
      have h2 := heap_set_at h1 0 (.int .i64 why)
      exact cell_at ((heap_alloc_other _ (heap_lt h2)).trans h2) 0
    have hX := close (w3 := w4) HF.out HD.out.1 HQ.out.2.1 HQ.out.2.2 (by rw [hw4]; exact (((Chg.refl _ _).setCell _ _ (.inl (by simp))).setCell _ _ (.inl (by simp))).alloc _)
    refine ⟨.int .i64 why, ?_, w1.heap.size, .error why, rfl, hX.1, hX.2.1, hX.2.2⟩
    simp [results, Tryz.results68, go_sem, hc4]
end Go.Proofs.YtadmecjdihfmeaaGreat.Oct
