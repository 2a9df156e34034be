/- Statements of layer 6: for every input the law returns true. No condition. (Printed by wip/tools/storelaws.py.) -/
import Derived.Test.YtanpkghdgdkdlaaGreatRows
import Derived.Test.YtanpkghdgdkdlaaGreatStoLawOver
import Derived.Test.YtanpkghdgdkdlaaGreatLaw
import Derived.Test.YtanpkghdgdkdlaaGreatRead
import Derived.ChangeSame
namespace Go.Proofs.YtanpkghdgdkdlaaGreat.Sto
set_option maxRecDepth 100000
set_option linter.unusedVariables false
set_option linter.unusedSimpArgs false
open Go.ChangeShapes Go.WideShapes Go.ChangeAt Go.RowKit Go.WideMaps Go.WideElems Go.Proofs.YtanpkghdgdkdlaaGreat.Mem
open Go.ChangeMaps (open_string shut_string)

theorem own : ownKnob Tryz.prog.godebug = none := by kernel_rfl
theorem laidOut : laidOutB Tryz.prog = true := by kernel_rfl

instance : Inhabited DoT := ⟨⟨0, 0, [], ⟨#[]⟩⟩⟩
theorem do_of {H : Type} {enc : TypeId × Value → H} {p : Nat → Prop} {W : World} {n0 n1 n2 n3 : Nat} {c0 c1 c2 c3 : Value} {y0 y1 y2 y3 : DataW H × List MemPlace}
    (h0 : DataW.trod enc Tryz.prog W 0 (fun _ => true) true n0 3 [c0] = some y0) (h1 : DataW.trod enc Tryz.prog W 0 (fun _ => true) true n1 3 [c1] = some y1)
    (h2 : DataW.trod enc Tryz.prog W 0 (fun _ => true) true n2 23 [c2] = some y2) (h3 : DataW.trod enc Tryz.prog W 0 (fun _ => true) true n3 9 [c3] = some y3) (hp : ∀ z ∈ y2.2, p z.block)
    (hw : Mem.Reached ((DataW.agg [y0.1, y1.1, y2.1, y3.1]).weights Tryz.prog 51)) : ∃ k, DoIs p W [c0, c1, c2, c3] k := by
  obtain ⟨x0, q0, _, w0⟩ := DataW.trod_int Tryz.underlying3 h0
  obtain ⟨x1, q1, _, w1⟩ := DataW.trod_int Tryz.underlying3 h1
  obtain ⟨x3, q3, r3, w3⟩ := DataW.trod_string Tryz.underlying9 h3
  rw [r3] at hw
  simp only [DataW.weights, Tryz.underlying51] at hw
  obtain ⟨v2, l2, q2, hi, _, hb⟩ := open_ints_w Tryz.underlying23 Tryz.underlying3 (by kernel_rfl) h2 hp (fun n hn => hw n (by simp [DataW.weightsEach, hn]))
  have hs := open_str_w (t := 9) (P := Tryz.prog) (H := H) (s := x3) (fun n hn => hw n (by simp [DataW.weightsEach, hn]))
  have e8 : Tryz.prog.bytesOf 3 = 8 := by kernel_rfl
  rw [e8] at hb
  simp only [List.cons.injEq, and_true] at q0 q1 q2 q3
  subst q0 q1 q2 q3
  exact ⟨⟨x0, x1, l2, x3⟩, _, rfl, ⟨w0, w1, hs, by simpa [reachBytes] using hb⟩, hi⟩
/-- A []Do that came in. -/
theorem open_dos {H : Type} {enc : TypeId × Value → H} {W : World} {base : Nat} {v : Value} {d : DataW H} {ps : List MemPlace} (hval : Value.okWide Tryz.prog W .any base 46 v)
    (h : DataW.Trod enc Tryz.prog W 0 (fun _ => true) true 46 v d ps) (hp : ∀ x ∈ ps, x.block < W.heap.size) (hw : Mem.Reached (d.weights Tryz.prog 46)) : ∃ l, Dos (· < W.heap.size) W v l := by
  obtain ⟨a, len, cap, rfl⟩ := okWide_slice Tryz.underlying46 hval
  obtain ⟨fuel, hf⟩ := h
  obtain ⟨v', l, hv, hs, _⟩ := open_slice_w (α := DoT) (sz := 4) (R := DoIs (· < W.heap.size)) (p := (· < W.heap.size)) Tryz.underlying46 (by kernel_rfl) (by omega) hf hp hw (fun n cs' y htr hz hr => by
    obtain ⟨y0, y1, y2, y3, m, rfl, hl, h0, h1, h2, h3⟩ := Joins.trod_struct4 (f0 := _) (f1 := _) (f2 := _) (f3 := _) Tryz.underlying51 htr
    have hl4 : cs'.length = 4 := hl
    match cs', hl4 with
    | [c0, c1, c2, c3], _ => exact do_of h0 h1 h2 h3 (fun z hzz => hz z (by simp [hzz])) hr)
  have e : v' = .slice a len cap := by simpa [Value.cells] using hv.symm
  subst e
  exact ⟨l, hs⟩
/-- A []int that came in. -/
theorem open_keep {H : Type} {enc : TypeId × Value → H} {W : World} {base : Nat} {v : Value} {d : DataW H} {ps : List MemPlace} (hval : Value.okWide Tryz.prog W .any base 23 v)
    (h : DataW.Trod enc Tryz.prog W 0 (fun _ => true) true 23 v d ps) (hp : ∀ x ∈ ps, x.block < W.heap.size) : ∃ l, Ints (· < W.heap.size) W v l := by
  obtain ⟨a, len, cap, rfl⟩ := okWide_slice Tryz.underlying23 hval
  obtain ⟨fuel, hf⟩ := h
  obtain ⟨v', l, hv, hs, _⟩ := open_ints_of (p := (· < W.heap.size)) Tryz.underlying23 Tryz.underlying3 (by kernel_rfl) hf hp
  have e : v' = .slice a len cap := by simpa [Value.cells] using hv.symm
  subst e
  exact ⟨l, hs⟩
/-- A Do that came in. -/
theorem open_do {H : Type} {enc : TypeId × Value → H} {W : World} {base : Nat} {v : Value} {d : DataW H} {ps : List MemPlace} (hval : Value.okWide Tryz.prog W .any base 51 v)
    (h : DataW.Trod enc Tryz.prog W 0 (fun _ => true) true 51 v d ps) (hp : ∀ x ∈ ps, x.block < W.heap.size) (hw : Mem.Reached (d.weights Tryz.prog 51)) :
    ∃ (k : DoT) (kv : Value), v = .agg #[.int .i64 k.op, .int .i64 k.i, kv, .string k.s] ∧ k.fits ∧ Ints (· < W.heap.size) W kv k.kids := by
  obtain ⟨c0, c1, c2, c3, y0, y1, y2, y3, m, rfl, rfl, rfl, h0, h1, h2, h3⟩ := Joins.open_agg4 Tryz.underlying51 (by kernel_rfl) (by kernel_rfl) hval h
  obtain ⟨k, kv, hcs, hf, hi⟩ := do_of (p := (· < W.heap.size)) h0 h1 h2 h3 (fun z hz => hp z (by simp [hz])) hw
  simp only [List.cons.injEq, and_true] at hcs
  obtain ⟨rfl, rfl, rfl, rfl⟩ := hcs
  exact ⟨k, _, rfl, hf, hi⟩
theorem wf_range {i : Int} (h : (Lit.int .i64 i).wf = true) : -9223372036854775808 ≤ i ∧ i ≤ 9223372036854775807 := by
  simp only [Lit.wf, IntKind.min, IntKind.max, IntKind.signed, IntKind.bits, Bool.and_eq_true] at h
  simp at h
  omega

set_option maxRecDepth 100000 in
theorem storeOver_lifted (os : Os) (started : os.Started) (H : Type) (enc : TypeId × Value → H) :
    ReturnsInHanded {} Tryz.checked os 5 .any (Rows.storeOverSpec.pre6 enc Tryz.prog Tryz.f5 Rows.storeOverRow.domain false) (Rows.storeOverSpec.post enc Tryz.prog Tryz.f5 false true false false) := by
  refine LawFrame.lifted (C := Tryz.checked) (tb := 4) own started (by kernel_rfl) Tryz.func5
    (ChangeSpec.witness6 (enc := enc) (C := Tryz.checked) false ⟨#[], #[.int .i64 0, .slice none 0 0, .agg #[.int .i64 0, .int .i64 0, .slice none 0 0, .string ⟨#[]⟩]], []⟩ 8 (by kernel_rfl) (by kernel_rfl) (by kernel_rfl) (by kernel_rfl))
    laidOut (by kernel_rfl) ⟨rfl, fun H ds hd => by match ds, hd with | [d0, d1, d2], _ => exact ⟨rfl, rfl, rfl⟩⟩ rfl Tryz.underlying4 ?_
  intro W base args ds p hval0 hA0 hlt hfz hsz0
  have hval : ∀ (j : Nat) t v, Tryz.f5.params[j]? = some t → args[j]? = some v → Value.okWide Tryz.prog W .any base t v := hval0
  have hA : DataW.TrodAll enc Tryz.prog W 0 (fun _ => true) true Tryz.f5.params.toList args.toList ds p := hA0
  have hsz : (DataW.weightsEach Tryz.prog Tryz.f5.params.toList ds).all (· ≤ reachBytes) = true := hsz0
  rw [Tryz.params5] at hA hval hsz
  obtain ⟨v0, v1, v2, d0, d1, d2, p0, p1, p2, rfl, rfl, rfl, h0, h1, h2⟩ := trodAll_three hA
  obtain ⟨n, rfl, rfl, rfl, wn⟩ := open_int Tryz.underlying3 (hval 0 3 v0 rfl rfl) h0
  obtain ⟨l, Hl⟩ := open_dos (hval 1 46 v1 rfl rfl) h1 (fun x hx => hlt x (by simp [hx])) (fun n hn => of_decide_eq_true (List.all_eq_true.1 hsz n (by simp [DataW.weightsEach, hn])))
  obtain ⟨k, kvk, rfl, Fk, Hk⟩ := open_do (hval 2 51 v2 rfl rfl) h2 (fun x hx => hlt x (by simp [hx])) (fun n hn => of_decide_eq_true (List.all_eq_true.1 hsz n (by simp [DataW.weightsEach, hn])))
  exact storeOver_any W n v1 kvk l k Hl Fk Hk
theorem storeOver_holds : Rows.StoreOverSaid :=
  OpenClaim.holds_of_wide 5 Tryz.f5 rfl rfl rfl rfl rfl rfl rfl ⟨rfl, rfl, rfl, rfl, rfl⟩ rfl rfl rfl rfl rfl (by kernel_rfl) Tryz.func5 (by kernel_rfl)
    (of_decide_eq_true (by kernel_rfl)) (by unfold Func.isWrapper; rw [if_neg (of_decide_eq_false (by kernel_rfl))]; exact ⟨rfl, rfl⟩)
    (fun os started H enc _ => storeOver_lifted os started H enc)

end Go.Proofs.YtanpkghdgdkdlaaGreat.Sto
