/- Statements of layer 5: for every input the law returns true. No condition. (Printed by wip/tools/devlaws.py.) -/
import Derived.Test.YtecnfhfofnbieaaRows
import Derived.Test.YtecnfhfofnbieaaDevLawNobody
import Derived.Test.YtecnfhfofnbieaaDevLawApart
import Derived.Test.YtecnfhfofnbieaaLaw
import Derived.ChangeSame
namespace Go.Proofs.Ytecnfhfofnbieaa.Dev
set_option maxRecDepth 100000
set_option linter.unusedVariables false
set_option linter.unusedSimpArgs false
open Go.ChangeShapes Go.WideShapes Go.ChangeAt Go.RowKit Go.WideMaps Go.WideElems Go.Proofs.Ytecnfhfofnbieaa.Mem
open Go.ChangeMaps (open_string shut_string)

theorem own : ownKnob Try.prog.godebug = none := by kernel_rfl
theorem laidOut : laidOutB Try.prog = true := by kernel_rfl

instance : Inhabited DoS := ⟨⟨0, 0, ⟨#[]⟩, []⟩⟩
theorem do_of {H : Type} {enc : TypeId × Value → H} {p : Nat → Prop} {W : World} {n0 n1 n2 n3 : Nat} {c0 c1 c2 c3 : Value} {y0 y1 y2 y3 : DataW H × List MemPlace}
    (h0 : DataW.trod enc Try.prog W 0 (fun _ => true) true n0 3 [c0] = some y0) (h1 : DataW.trod enc Try.prog W 0 (fun _ => true) true n1 3 [c1] = some y1)
    (h2 : DataW.trod enc Try.prog W 0 (fun _ => true) true n2 9 [c2] = some y2) (h3 : DataW.trod enc Try.prog W 0 (fun _ => true) true n3 32 [c3] = some y3) (hp : ∀ z ∈ y3.2, p z.block) :
    ∃ k, DoIs p W [c0, c1, c2, c3] k := by
  obtain ⟨x0, q0, _, w0⟩ := DataW.trod_int Try.underlying3 h0
  obtain ⟨x1, q1, _, w1⟩ := DataW.trod_int Try.underlying3 h1
  obtain ⟨x2, q2, _, w2⟩ := DataW.trod_string Try.underlying9 h2
  obtain ⟨v3, l3, q3, hi, _⟩ := open_ints_of Try.underlying32 Try.underlying3 (by kernel_rfl) h3 hp
  simp only [List.cons.injEq, and_true] at q0 q1 q2 q3
  subst q0 q1 q2 q3
  exact ⟨⟨x0, x1, x2, l3⟩, _, rfl, ⟨w0, w1⟩, hi⟩
/-- A []Do that came in. -/
theorem open_dos {H : Type} {enc : TypeId × Value → H} {W : World} {base : Nat} {v : Value} {d : DataW H} {ps : List MemPlace} (hval : Value.okWide Try.prog W .any base 22 v)
    (h : DataW.Trod enc Try.prog W 0 (fun _ => true) true 22 v d ps) (hp : ∀ x ∈ ps, x.block < W.heap.size) : ∃ l, Dos (· < W.heap.size) W v l := by
  obtain ⟨a, len, cap, rfl⟩ := okWide_slice Try.underlying22 hval
  obtain ⟨fuel, hf⟩ := h
  obtain ⟨v', l, hv, hs⟩ := open_slice_of (α := DoS) (sz := 4) (R := DoIs (· < W.heap.size)) (p := (· < W.heap.size)) Try.underlying22 (by kernel_rfl) (by omega) hf hp (fun n cs' y htr hz => by
    obtain ⟨y0, y1, y2, y3, m, rfl, hl, h0, h1, h2, h3⟩ := Joins.trod_struct4 (f0 := _) (f1 := _) (f2 := _) (f3 := _) Try.underlying34 htr
    have hl4 : cs'.length = 4 := hl
    match cs', hl4 with
    | [c0, c1, c2, c3], _ => exact do_of h0 h1 h2 h3 (fun z hzz => hz z (by simp [hzz])))
  have e : v' = .slice a len cap := by simpa [Value.cells] using hv.symm
  subst e
  exact ⟨l, hs⟩
/-- A []int that came in. -/
theorem open_keep {H : Type} {enc : TypeId × Value → H} {W : World} {base : Nat} {v : Value} {d : DataW H} {ps : List MemPlace} (hval : Value.okWide Try.prog W .any base 32 v)
    (h : DataW.Trod enc Try.prog W 0 (fun _ => true) true 32 v d ps) (hp : ∀ x ∈ ps, x.block < W.heap.size) : ∃ l, Ints (· < W.heap.size) W v l := by
  obtain ⟨a, len, cap, rfl⟩ := okWide_slice Try.underlying32 hval
  obtain ⟨fuel, hf⟩ := h
  obtain ⟨v', l, hv, hs, _⟩ := open_ints_of (p := (· < W.heap.size)) Try.underlying32 Try.underlying3 (by kernel_rfl) hf hp
  have e : v' = .slice a len cap := by simpa [Value.cells] using hv.symm
  subst e
  exact ⟨l, hs⟩
/-- A Do that came in. -/
theorem open_do {H : Type} {enc : TypeId × Value → H} {W : World} {base : Nat} {v : Value} {d : DataW H} {ps : List MemPlace} (hval : Value.okWide Try.prog W .any base 34 v)
    (h : DataW.Trod enc Try.prog W 0 (fun _ => true) true 34 v d ps) (hp : ∀ x ∈ ps, x.block < W.heap.size) :
    ∃ (k : DoS) (kv : Value), v = .agg #[.int .i64 k.op, .int .i64 k.i, .string k.s, kv] ∧ k.fits ∧ Ints (· < W.heap.size) W kv k.keep := by
  obtain ⟨c0, c1, c2, c3, y0, y1, y2, y3, m, rfl, rfl, rfl, h0, h1, h2, h3⟩ := Joins.open_agg4 Try.underlying34 (by kernel_rfl) (by kernel_rfl) hval h
  obtain ⟨k, kv, hcs, hf, hi⟩ := do_of (p := (· < W.heap.size)) h0 h1 h2 h3 (fun z hz => hp z (by simp [hz]))
  simp only [List.cons.injEq, and_true] at hcs
  obtain ⟨rfl, rfl, rfl, rfl⟩ := hcs
  exact ⟨k, _, rfl, hf, hi⟩
theorem wf_range {i : Int} (h : (Lit.int .i64 i).wf = true) : -9223372036854775808 ≤ i ∧ i ≤ 9223372036854775807 := by
  simp only [Lit.wf, IntKind.min, IntKind.max, IntKind.signed, IntKind.bits, Bool.and_eq_true] at h
  simp at h
  omega

set_option maxRecDepth 100000 in
theorem devFuse_lifted (os : Os) (started : os.Started) (H : Type) (enc : TypeId × Value → H) :
    ReturnsInHanded {} Try.checked os 3 .any (Rows.devFuseSpec.pre6 enc Try.prog Try.f3 Rows.devFuseRow.domain false) (Rows.devFuseSpec.post enc Try.prog Try.f3 false true false false) := by
  refine LawFrame.lifted (C := Try.checked) (tb := 4) own started (by kernel_rfl) Try.func3
    (ChangeSpec.witness6 (enc := enc) (C := Try.checked) false ⟨#[], #[.int .i64 0, .slice none 0 0, .int .i64 0], []⟩ 8 (by kernel_rfl) (by kernel_rfl) (by kernel_rfl) (by kernel_rfl))
    laidOut (by kernel_rfl) ⟨rfl, fun H ds hd => by match ds, hd with | [d0, d1, d2], _ => exact ⟨rfl, rfl, rfl⟩⟩ rfl Try.underlying4 ?_
  intro W base args ds p hval0 hA0 hlt hfz hsz0
  have hval : ∀ (j : Nat) t v, Try.f3.params[j]? = some t → args[j]? = some v → Value.okWide Try.prog W .any base t v := hval0
  have hA : DataW.TrodAll enc Try.prog W 0 (fun _ => true) true Try.f3.params.toList args.toList ds p := hA0
  have hsz : (DataW.weightsEach Try.prog Try.f3.params.toList ds).all (· ≤ reachBytes) = true := hsz0
  rw [Try.params3] at hA hval hsz
  obtain ⟨v0, v1, v2, d0, d1, d2, p0, p1, p2, rfl, rfl, rfl, h0, h1, h2⟩ := trodAll_three hA
  obtain ⟨n, rfl, rfl, rfl, wn⟩ := open_int Try.underlying3 (hval 0 3 v0 rfl rfl) h0
  obtain ⟨l, Hl⟩ := open_dos (hval 1 22 v1 rfl rfl) h1 (fun x hx => hlt x (by simp [hx]))
  obtain ⟨f, rfl, rfl, rfl, wf⟩ := open_int Try.underlying3 (hval 2 3 v2 rfl rfl) h2
  exact devFuse_any W n f v1 l Hl
theorem devFuse_holds : Rows.DevFuseSaid :=
  OpenClaim.holds_of_wide 3 Try.f3 rfl rfl rfl rfl rfl rfl rfl ⟨rfl, rfl, rfl, rfl, rfl⟩ rfl rfl rfl rfl rfl (by kernel_rfl) Try.func3 (by kernel_rfl)
    (of_decide_eq_true (by kernel_rfl)) (by unfold Func.isWrapper; rw [if_neg (of_decide_eq_false (by kernel_rfl))]; exact ⟨rfl, rfl⟩)
    (fun os started H enc _ => devFuse_lifted os started H enc)

set_option maxRecDepth 100000 in
theorem devFlushed_lifted (os : Os) (started : os.Started) (H : Type) (enc : TypeId × Value → H) :
    ReturnsInHanded {} Try.checked os 4 .any (Rows.devFlushedSpec.pre6 enc Try.prog Try.f4 Rows.devFlushedRow.domain false) (Rows.devFlushedSpec.post enc Try.prog Try.f4 false true false false) := by
  refine LawFrame.lifted (C := Try.checked) (tb := 4) own started (by kernel_rfl) Try.func4
    (ChangeSpec.witness6 (enc := enc) (C := Try.checked) false ⟨#[], #[.int .i64 0, .slice none 0 0, .slice none 0 0, .int .i64 0, .string ⟨#[]⟩, .slice none 0 0], []⟩ 8 (by kernel_rfl) (by kernel_rfl) (by kernel_rfl) (by kernel_rfl))
    laidOut (by kernel_rfl) ⟨rfl, fun H ds hd => by match ds, hd with | [d0, d1, d2, d3, d4, d5], _ => exact ⟨rfl, rfl, rfl⟩⟩ rfl Try.underlying4 ?_
  intro W base args ds p hval0 hA0 hlt hfz hsz0
  have hval : ∀ (j : Nat) t v, Try.f4.params[j]? = some t → args[j]? = some v → Value.okWide Try.prog W .any base t v := hval0
  have hA : DataW.TrodAll enc Try.prog W 0 (fun _ => true) true Try.f4.params.toList args.toList ds p := hA0
  have hsz : (DataW.weightsEach Try.prog Try.f4.params.toList ds).all (· ≤ reachBytes) = true := hsz0
  rw [Try.params4] at hA hval hsz
  obtain ⟨args⟩ := args
  simp only at hA
  obtain ⟨v0, vs0, d0, ds0, p0, q0, rfl, rfl, rfl, h0, hA⟩ := trodAll_cons hA
  obtain ⟨v1, vs1, d1, ds1, p1, q1, rfl, rfl, rfl, h1, hA⟩ := trodAll_cons hA
  obtain ⟨v2, vs2, d2, ds2, p2, q2, rfl, rfl, rfl, h2, hA⟩ := trodAll_cons hA
  obtain ⟨v3, vs3, d3, ds3, p3, q3, rfl, rfl, rfl, h3, hA⟩ := trodAll_cons hA
  obtain ⟨v4, vs4, d4, ds4, p4, q4, rfl, rfl, rfl, h4, hA⟩ := trodAll_cons hA
  obtain ⟨v5, vs5, d5, ds5, p5, q5, rfl, rfl, rfl, h5, hA⟩ := trodAll_cons hA
  obtain ⟨rfl, rfl, rfl⟩ := trodAll_nil hA
  obtain ⟨n, rfl, rfl, rfl, wn⟩ := open_int Try.underlying3 (hval 0 3 v0 rfl rfl) h0
  obtain ⟨l, Hl⟩ := open_dos (hval 1 22 v1 rfl rfl) h1 (fun x hx => hlt x (by simp [hx]))
  obtain ⟨m, Hm⟩ := open_dos (hval 2 22 v2 rfl rfl) h2 (fun x hx => hlt x (by simp [hx]))
  obtain ⟨i, rfl, rfl, rfl, wi⟩ := open_int Try.underlying3 (hval 3 3 v3 rfl rfl) h3
  obtain ⟨s, rfl, rfl, rfl, ws⟩ := open_string Try.underlying9 (hval 4 9 v4 rfl rfl) h4
  obtain ⟨k, Hk⟩ := open_keep (hval 5 32 v5 rfl rfl) h5 (fun x hx => hlt x (by simp [hx]))
  have hs : s.size ≤ 140737488351232 := by
    have := hsz
    simp [DataW.weightsEach, DataW.weights, reachBytes] at this
    obtain ⟨_, _, h, _⟩ := this
    exact of_decide_eq_true h
  exact devFlushed_any W n i s v1 v2 v5 l m k Hl Hm Hk hs (wf_range wi)
theorem devFlushed_holds : Rows.DevFlushedSaid :=
  OpenClaim.holds_of_wide 4 Try.f4 rfl rfl rfl rfl rfl rfl rfl ⟨rfl, rfl, rfl, rfl, rfl⟩ rfl rfl rfl rfl rfl (by kernel_rfl) Try.func4 (by kernel_rfl)
    (of_decide_eq_true (by kernel_rfl)) (by unfold Func.isWrapper; rw [if_neg (of_decide_eq_false (by kernel_rfl))]; exact ⟨rfl, rfl⟩)
    (fun os started H enc _ => devFlushed_lifted os started H enc)

set_option maxRecDepth 100000 in
theorem devNobody_lifted (os : Os) (started : os.Started) (H : Type) (enc : TypeId × Value → H) :
    ReturnsInHanded {} Try.checked os 5 .any (Rows.devNobodySpec.pre6 enc Try.prog Try.f5 Rows.devNobodyRow.domain false) (Rows.devNobodySpec.post enc Try.prog Try.f5 false true false false) := by
  refine LawFrame.lifted (C := Try.checked) (tb := 4) own started (by kernel_rfl) Try.func5
    (ChangeSpec.witness6 (enc := enc) (C := Try.checked) false ⟨#[], #[.agg #[.int .i64 0, .int .i64 0, .string ⟨#[]⟩, .slice none 0 0]], []⟩ 8 (by kernel_rfl) (by kernel_rfl) (by kernel_rfl) (by kernel_rfl))
    laidOut (by kernel_rfl) ⟨rfl, fun H ds hd => by match ds, hd with | [d0], _ => exact ⟨rfl, rfl, rfl⟩⟩ rfl Try.underlying4 ?_
  intro W base args ds p hval0 hA0 hlt hfz hsz0
  have hval : ∀ (j : Nat) t v, Try.f5.params[j]? = some t → args[j]? = some v → Value.okWide Try.prog W .any base t v := hval0
  have hA : DataW.TrodAll enc Try.prog W 0 (fun _ => true) true Try.f5.params.toList args.toList ds p := hA0
  have hsz : (DataW.weightsEach Try.prog Try.f5.params.toList ds).all (· ≤ reachBytes) = true := hsz0
  rw [Try.params5] at hA hval hsz
  obtain ⟨v0, d0, rfl, rfl, h0⟩ := trodAll_one hA
  obtain ⟨k, kvk, rfl, Fk, Hk⟩ := open_do (hval 0 34 v0 rfl rfl) h0 (fun x hx => hlt x (by simp [hx]))
  exact devNobody_any W kvk k Fk Hk
theorem devNobody_holds : Rows.DevNobodySaid :=
  OpenClaim.holds_of_wide 5 Try.f5 rfl rfl rfl rfl rfl rfl rfl ⟨rfl, rfl, rfl, rfl, rfl⟩ rfl rfl rfl rfl rfl (by kernel_rfl) Try.func5 (by kernel_rfl)
    (of_decide_eq_true (by kernel_rfl)) (by unfold Func.isWrapper; rw [if_neg (of_decide_eq_false (by kernel_rfl))]; exact ⟨rfl, rfl⟩)
    (fun os started H enc _ => devNobody_lifted os started H enc)

set_option maxRecDepth 100000 in
theorem devSome_lifted (os : Os) (started : os.Started) (H : Type) (enc : TypeId × Value → H) :
    ReturnsInHanded {} Try.checked os 7 .any (Rows.devSomeSpec.pre6 enc Try.prog Try.f7 Rows.devSomeRow.domain false) (Rows.devSomeSpec.post enc Try.prog Try.f7 false true false false) := by
  refine LawFrame.lifted (C := Try.checked) (tb := 4) own started (by kernel_rfl) Try.func7
    (ChangeSpec.witness6 (enc := enc) (C := Try.checked) false ⟨#[], #[.int .i64 0, .slice none 0 0, .slice none 0 0], []⟩ 8 (by kernel_rfl) (by kernel_rfl) (by kernel_rfl) (by kernel_rfl))
    laidOut (by kernel_rfl) ⟨rfl, fun H ds hd => by match ds, hd with | [d0, d1, d2], _ => exact ⟨rfl, rfl, rfl⟩⟩ rfl Try.underlying4 ?_
  intro W base args ds p hval0 hA0 hlt hfz hsz0
  have hval : ∀ (j : Nat) t v, Try.f7.params[j]? = some t → args[j]? = some v → Value.okWide Try.prog W .any base t v := hval0
  have hA : DataW.TrodAll enc Try.prog W 0 (fun _ => true) true Try.f7.params.toList args.toList ds p := hA0
  have hsz : (DataW.weightsEach Try.prog Try.f7.params.toList ds).all (· ≤ reachBytes) = true := hsz0
  rw [Try.params7] at hA hval hsz
  obtain ⟨v0, v1, v2, d0, d1, d2, p0, p1, p2, rfl, rfl, rfl, h0, h1, h2⟩ := trodAll_three hA
  obtain ⟨n, rfl, rfl, rfl, wn⟩ := open_int Try.underlying3 (hval 0 3 v0 rfl rfl) h0
  obtain ⟨l, Hl⟩ := open_dos (hval 1 22 v1 rfl rfl) h1 (fun x hx => hlt x (by simp [hx]))
  obtain ⟨k, Hk⟩ := open_keep (hval 2 32 v2 rfl rfl) h2 (fun x hx => hlt x (by simp [hx]))
  exact devSome_any W n v1 v2 l k Hl Hk
theorem devSome_holds : Rows.DevSomeSaid :=
  OpenClaim.holds_of_wide 7 Try.f7 rfl rfl rfl rfl rfl rfl rfl ⟨rfl, rfl, rfl, rfl, rfl⟩ rfl rfl rfl rfl rfl (by kernel_rfl) Try.func7 (by kernel_rfl)
    (of_decide_eq_true (by kernel_rfl)) (by unfold Func.isWrapper; rw [if_neg (of_decide_eq_false (by kernel_rfl))]; exact ⟨rfl, rfl⟩)
    (fun os started H enc _ => devSome_lifted os started H enc)

set_option maxRecDepth 100000 in
theorem devApart_lifted (os : Os) (started : os.Started) (H : Type) (enc : TypeId × Value → H) :
    ReturnsInHanded {} Try.checked os 8 .any (Rows.devApartSpec.pre6 enc Try.prog Try.f8 Rows.devApartRow.domain false) (Rows.devApartSpec.post enc Try.prog Try.f8 false true false false) := by
  refine LawFrame.lifted (C := Try.checked) (tb := 4) own started (by kernel_rfl) Try.func8
    (ChangeSpec.witness6 (enc := enc) (C := Try.checked) false ⟨#[], #[.int .i64 0, .slice none 0 0, .slice none 0 0], []⟩ 8 (by kernel_rfl) (by kernel_rfl) (by kernel_rfl) (by kernel_rfl))
    laidOut (by kernel_rfl) ⟨rfl, fun H ds hd => by match ds, hd with | [d0, d1, d2], _ => exact ⟨rfl, rfl, rfl⟩⟩ rfl Try.underlying4 ?_
  intro W base args ds p hval0 hA0 hlt hfz hsz0
  have hval : ∀ (j : Nat) t v, Try.f8.params[j]? = some t → args[j]? = some v → Value.okWide Try.prog W .any base t v := hval0
  have hA : DataW.TrodAll enc Try.prog W 0 (fun _ => true) true Try.f8.params.toList args.toList ds p := hA0
  have hsz : (DataW.weightsEach Try.prog Try.f8.params.toList ds).all (· ≤ reachBytes) = true := hsz0
  rw [Try.params8] at hA hval hsz
  obtain ⟨v0, v1, v2, d0, d1, d2, p0, p1, p2, rfl, rfl, rfl, h0, h1, h2⟩ := trodAll_three hA
  obtain ⟨n, rfl, rfl, rfl, wn⟩ := open_int Try.underlying3 (hval 0 3 v0 rfl rfl) h0
  obtain ⟨l, Hl⟩ := open_dos (hval 1 22 v1 rfl rfl) h1 (fun x hx => hlt x (by simp [hx]))
  obtain ⟨m, Hm⟩ := open_dos (hval 2 22 v2 rfl rfl) h2 (fun x hx => hlt x (by simp [hx]))
  exact devApart_any W n v1 v2 l m Hl Hm
theorem devApart_holds : Rows.DevApartSaid :=
  OpenClaim.holds_of_wide 8 Try.f8 rfl rfl rfl rfl rfl rfl rfl ⟨rfl, rfl, rfl, rfl, rfl⟩ rfl rfl rfl rfl rfl (by kernel_rfl) Try.func8 (by kernel_rfl)
    (of_decide_eq_true (by kernel_rfl)) (by unfold Func.isWrapper; rw [if_neg (of_decide_eq_false (by kernel_rfl))]; exact ⟨rfl, rfl⟩)
    (fun os started H enc _ => devApart_lifted os started H enc)

set_option maxRecDepth 100000 in
theorem devRefused_lifted (os : Os) (started : os.Started) (H : Type) (enc : TypeId × Value → H) :
    ReturnsInHanded {} Try.checked os 9 .any (Rows.devRefusedSpec.pre6 enc Try.prog Try.f9 Rows.devRefusedRow.domain false) (Rows.devRefusedSpec.post enc Try.prog Try.f9 false true false false) := by
  refine LawFrame.lifted (C := Try.checked) (tb := 4) own started (by kernel_rfl) Try.func9
    (ChangeSpec.witness6 (enc := enc) (C := Try.checked) false ⟨#[], #[.int .i64 0, .slice none 0 0, .agg #[.int .i64 0, .int .i64 0, .string ⟨#[]⟩, .slice none 0 0]], []⟩ 8 (by kernel_rfl) (by kernel_rfl) (by kernel_rfl) (by kernel_rfl))
    laidOut (by kernel_rfl) ⟨rfl, fun H ds hd => by match ds, hd with | [d0, d1, d2], _ => exact ⟨rfl, rfl, rfl⟩⟩ rfl Try.underlying4 ?_
  intro W base args ds p hval0 hA0 hlt hfz hsz0
  have hval : ∀ (j : Nat) t v, Try.f9.params[j]? = some t → args[j]? = some v → Value.okWide Try.prog W .any base t v := hval0
  have hA : DataW.TrodAll enc Try.prog W 0 (fun _ => true) true Try.f9.params.toList args.toList ds p := hA0
  have hsz : (DataW.weightsEach Try.prog Try.f9.params.toList ds).all (· ≤ reachBytes) = true := hsz0
  rw [Try.params9] at hA hval hsz
  obtain ⟨v0, v1, v2, d0, d1, d2, p0, p1, p2, rfl, rfl, rfl, h0, h1, h2⟩ := trodAll_three hA
  obtain ⟨n, rfl, rfl, rfl, wn⟩ := open_int Try.underlying3 (hval 0 3 v0 rfl rfl) h0
  obtain ⟨l, Hl⟩ := open_dos (hval 1 22 v1 rfl rfl) h1 (fun x hx => hlt x (by simp [hx]))
  obtain ⟨k, kvk, rfl, Fk, Hk⟩ := open_do (hval 2 34 v2 rfl rfl) h2 (fun x hx => hlt x (by simp [hx]))
  exact devRefused_any W n v1 kvk l k Hl Fk Hk
theorem devRefused_holds : Rows.DevRefusedSaid :=
  OpenClaim.holds_of_wide 9 Try.f9 rfl rfl rfl rfl rfl rfl rfl ⟨rfl, rfl, rfl, rfl, rfl⟩ rfl rfl rfl rfl rfl (by kernel_rfl) Try.func9 (by kernel_rfl)
    (of_decide_eq_true (by kernel_rfl)) (by unfold Func.isWrapper; rw [if_neg (of_decide_eq_false (by kernel_rfl))]; exact ⟨rfl, rfl⟩)
    (fun os started H enc _ => devRefused_lifted os started H enc)

end Go.Proofs.Ytecnfhfofnbieaa.Dev
