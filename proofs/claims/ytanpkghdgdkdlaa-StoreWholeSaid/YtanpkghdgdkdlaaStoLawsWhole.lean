/- Statements of layer 6: for every input the law returns true. No condition. (Printed by wip/tools/storelaws.py.) -/
import Derived.Test.YtanpkghdgdkdlaaRows
import Derived.Test.YtanpkghdgdkdlaaStoLawWhole
import Derived.Test.YtanpkghdgdkdlaaLaw
import Derived.Test.YtanpkghdgdkdlaaRead
import Derived.ChangeSame
namespace Go.Proofs.Ytanpkghdgdkdlaa.Sto
set_option maxRecDepth 100000
set_option linter.unusedVariables false
set_option linter.unusedSimpArgs false
open Go.ChangeShapes Go.WideShapes Go.ChangeAt Go.RowKit Go.WideMaps Go.WideElems Go.Proofs.Ytanpkghdgdkdlaa.Mem
open Go.ChangeMaps (open_string shut_string)

theorem own : ownKnob Try.prog.godebug = none := by kernel_rfl
theorem laidOut : laidOutB Try.prog = true := by kernel_rfl

instance : Inhabited DoT := ⟨⟨0, 0, [], ⟨#[]⟩⟩⟩
theorem do_of {H : Type} {enc : TypeId × Value → H} {p : Nat → Prop} {W : World} {n0 n1 n2 n3 : Nat} {c0 c1 c2 c3 : Value} {y0 y1 y2 y3 : DataW H × List MemPlace}
    (h0 : DataW.trod enc Try.prog W 0 (fun _ => true) true n0 3 [c0] = some y0) (h1 : DataW.trod enc Try.prog W 0 (fun _ => true) true n1 3 [c1] = some y1)
    (h2 : DataW.trod enc Try.prog W 0 (fun _ => true) true n2 22 [c2] = some y2) (h3 : DataW.trod enc Try.prog W 0 (fun _ => true) true n3 9 [c3] = some y3) (hp : ∀ z ∈ y2.2, p z.block)
    (hw : Mem.Reached ((DataW.agg [y0.1, y1.1, y2.1, y3.1]).weights Try.prog 24)) : ∃ k, DoIs p W [c0, c1, c2, c3] k := by
  obtain ⟨x0, q0, _, w0⟩ := DataW.trod_int Try.underlying3 h0
  obtain ⟨x1, q1, _, w1⟩ := DataW.trod_int Try.underlying3 h1
  obtain ⟨x3, q3, r3, w3⟩ := DataW.trod_string Try.underlying9 h3
  rw [r3] at hw
  simp only [DataW.weights, Try.underlying24] at hw
  obtain ⟨v2, l2, q2, hi, _, hb⟩ := open_ints_w Try.underlying22 Try.underlying3 (by kernel_rfl) h2 hp (fun n hn => hw n (by simp [DataW.weightsEach, hn]))
  have hs := open_str_w (t := 9) (P := Try.prog) (H := H) (s := x3) (fun n hn => hw n (by simp [DataW.weightsEach, hn]))
  have e8 : Try.prog.bytesOf 3 = 8 := by kernel_rfl
  rw [e8] at hb
  simp only [List.cons.injEq, and_true] at q0 q1 q2 q3
  subst q0 q1 q2 q3
  exact ⟨⟨x0, x1, l2, x3⟩, _, rfl, ⟨w0, w1, hs, by simpa [reachBytes] using hb⟩, hi⟩
/-- A []Do that came in. -/
theorem open_dos {H : Type} {enc : TypeId × Value → H} {W : World} {base : Nat} {v : Value} {d : DataW H} {ps : List MemPlace} (hval : Value.okWide Try.prog W .any base 26 v)
    (h : DataW.Trod enc Try.prog W 0 (fun _ => true) true 26 v d ps) (hp : ∀ x ∈ ps, x.block < W.heap.size) (hw : Mem.Reached (d.weights Try.prog 26)) : ∃ l, Dos (· < W.heap.size) W v l := by
  obtain ⟨a, len, cap, rfl⟩ := okWide_slice Try.underlying26 hval
  obtain ⟨fuel, hf⟩ := h
  obtain ⟨v', l, hv, hs, _⟩ := open_slice_w (α := DoT) (sz := 4) (R := DoIs (· < W.heap.size)) (p := (· < W.heap.size)) Try.underlying26 (by kernel_rfl) (by omega) hf hp hw (fun n cs' y htr hz hr => by
    obtain ⟨y0, y1, y2, y3, m, rfl, hl, h0, h1, h2, h3⟩ := Joins.trod_struct4 (f0 := _) (f1 := _) (f2 := _) (f3 := _) Try.underlying24 htr
    have hl4 : cs'.length = 4 := hl
    match cs', hl4 with
    | [c0, c1, c2, c3], _ => exact do_of h0 h1 h2 h3 (fun z hzz => hz z (by simp [hzz])) hr)
  have e : v' = .slice a len cap := by simpa [Value.cells] using hv.symm
  subst e
  exact ⟨l, hs⟩
/-- A []int that came in. -/
theorem open_keep {H : Type} {enc : TypeId × Value → H} {W : World} {base : Nat} {v : Value} {d : DataW H} {ps : List MemPlace} (hval : Value.okWide Try.prog W .any base 22 v)
    (h : DataW.Trod enc Try.prog W 0 (fun _ => true) true 22 v d ps) (hp : ∀ x ∈ ps, x.block < W.heap.size) : ∃ l, Ints (· < W.heap.size) W v l := by
  obtain ⟨a, len, cap, rfl⟩ := okWide_slice Try.underlying22 hval
  obtain ⟨fuel, hf⟩ := h
  obtain ⟨v', l, hv, hs, _⟩ := open_ints_of (p := (· < W.heap.size)) Try.underlying22 Try.underlying3 (by kernel_rfl) hf hp
  have e : v' = .slice a len cap := by simpa [Value.cells] using hv.symm
  subst e
  exact ⟨l, hs⟩
/-- A Do that came in. -/
theorem open_do {H : Type} {enc : TypeId × Value → H} {W : World} {base : Nat} {v : Value} {d : DataW H} {ps : List MemPlace} (hval : Value.okWide Try.prog W .any base 24 v)
    (h : DataW.Trod enc Try.prog W 0 (fun _ => true) true 24 v d ps) (hp : ∀ x ∈ ps, x.block < W.heap.size) (hw : Mem.Reached (d.weights Try.prog 24)) :
    ∃ (k : DoT) (kv : Value), v = .agg #[.int .i64 k.op, .int .i64 k.i, kv, .string k.s] ∧ k.fits ∧ Ints (· < W.heap.size) W kv k.kids := by
  obtain ⟨c0, c1, c2, c3, y0, y1, y2, y3, m, rfl, rfl, rfl, h0, h1, h2, h3⟩ := Joins.open_agg4 Try.underlying24 (by kernel_rfl) (by kernel_rfl) hval h
  obtain ⟨k, kv, hcs, hf, hi⟩ := do_of (p := (· < W.heap.size)) h0 h1 h2 h3 (fun z hz => hp z (by simp [hz])) hw
  simp only [List.cons.injEq, and_true] at hcs
  obtain ⟨rfl, rfl, rfl, rfl⟩ := hcs
  exact ⟨k, _, rfl, hf, hi⟩
theorem wf_range {i : Int} (h : (Lit.int .i64 i).wf = true) : -9223372036854775808 ≤ i ∧ i ≤ 9223372036854775807 := by
  simp only [Lit.wf, IntKind.min, IntKind.max, IntKind.signed, IntKind.bits, Bool.and_eq_true] at h
  simp at h
  omega

set_option maxRecDepth 100000 in
theorem storeWhole_lifted (os : Os) (started : os.Started) (H : Type) (enc : TypeId × Value → H) :
    ReturnsInHanded {} Try.checked os 5 .any (Rows.storeWholeSpec.pre6 enc Try.prog Try.f5 Rows.storeWholeRow.domain false) (Rows.storeWholeSpec.post enc Try.prog Try.f5 false true false false) := by
  refine LawFrame.lifted (C := Try.checked) (tb := 4) own started (by kernel_rfl) Try.func5
    (ChangeSpec.witness6 (enc := enc) (C := Try.checked) false ⟨#[], #[.int .i64 0, .slice none 0 0, .int .i64 0, .slice none 0 0], []⟩ 8 (by kernel_rfl) (by kernel_rfl) (by kernel_rfl) (by kernel_rfl))
    laidOut (by kernel_rfl) ⟨rfl, fun H ds hd => by match ds, hd with | [d0, d1, d2, d3], _ => exact ⟨rfl, rfl, rfl⟩⟩ rfl Try.underlying4 ?_
  intro W base args ds p hval0 hA0 hlt hfz hsz0
  have hval : ∀ (j : Nat) t v, Try.f5.params[j]? = some t → args[j]? = some v → Value.okWide Try.prog W .any base t v := hval0
  have hA : DataW.TrodAll enc Try.prog W 0 (fun _ => true) true Try.f5.params.toList args.toList ds p := hA0
  have hsz : (DataW.weightsEach Try.prog Try.f5.params.toList ds).all (· ≤ reachBytes) = true := hsz0
  rw [Try.params5] at hA hval hsz
  obtain ⟨args⟩ := args
  simp only at hA
  obtain ⟨v0, vs0, d0, ds0, p0, q0, rfl, rfl, rfl, h0, hA⟩ := trodAll_cons hA
  obtain ⟨v1, vs1, d1, ds1, p1, q1, rfl, rfl, rfl, h1, hA⟩ := trodAll_cons hA
  obtain ⟨v2, vs2, d2, ds2, p2, q2, rfl, rfl, rfl, h2, hA⟩ := trodAll_cons hA
  obtain ⟨v3, vs3, d3, ds3, p3, q3, rfl, rfl, rfl, h3, hA⟩ := trodAll_cons hA
  obtain ⟨rfl, rfl, rfl⟩ := trodAll_nil hA
  obtain ⟨n, rfl, rfl, rfl, wn⟩ := open_int Try.underlying3 (hval 0 3 v0 rfl rfl) h0
  obtain ⟨l, Hl⟩ := open_dos (hval 1 26 v1 rfl rfl) h1 (fun x hx => hlt x (by simp [hx])) (fun n hn => of_decide_eq_true (List.all_eq_true.1 hsz n (by simp [DataW.weightsEach, hn])))
  obtain ⟨f, rfl, rfl, rfl, wf⟩ := open_int Try.underlying3 (hval 2 3 v2 rfl rfl) h2
  obtain ⟨k, Hk⟩ := open_keep (hval 3 22 v3 rfl rfl) h3 (fun x hx => hlt x (by simp [hx]))
  exact storeWhole_any W n f v1 v3 l k Hl Hk
theorem storeWhole_holds : Rows.StoreWholeSaid :=
  OpenClaim.holds_of_wide 5 Try.f5 rfl rfl rfl rfl rfl rfl rfl ⟨rfl, rfl, rfl, rfl, rfl⟩ rfl rfl rfl rfl rfl (by kernel_rfl) Try.func5 (by kernel_rfl)
    (of_decide_eq_true (by kernel_rfl)) (by unfold Func.isWrapper; rw [if_neg (of_decide_eq_false (by kernel_rfl))]; exact ⟨rfl, rfl⟩)
    (fun os started H enc _ => storeWhole_lifted os started H enc)

end Go.Proofs.Ytanpkghdgdkdlaa.Sto
