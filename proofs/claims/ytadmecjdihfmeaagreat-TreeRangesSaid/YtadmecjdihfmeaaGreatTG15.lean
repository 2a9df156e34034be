/- TreLawsRanges: several texts of one proof, laid as one file (a claim has at most 60 files). No condition. -/
import Derived.Test.YtadmecjdihfmeaaGreatRows
import Derived.Test.YtadmecjdihfmeaaGreatTG13
import Derived.Test.YtadmecjdihfmeaaGreatLaw
import Derived.Test.YtadmecjdihfmeaaGreatRead
import Derived.ChangeSame
import Derived.Deep.Strs
/- Statements of layer 7: for every input the law returns true. No condition. (Printed by wip/tools/treelaws.py.) -/
namespace Go.Proofs.YtadmecjdihfmeaaGreat.Tre
set_option maxRecDepth 100000
set_option linter.unusedVariables false
set_option linter.unusedSimpArgs false
open Go.ChangeShapes Go.WideShapes Go.ChangeAt Go.RowKit Go.WideMaps Go.WideElems Go.Proofs.YtadmecjdihfmeaaGreat.Mem
open Go.ChangeMaps (open_string shut_string)

theorem own : ownKnob Tryz.prog.godebug = none := by kernel_rfl
theorem laidOut : laidOutB Tryz.prog = true := by kernel_rfl

theorem do_of {H : Type} {enc : TypeId × Value → H} {W : World} {n0 n1 n2 : Nat} {c0 c1 c2 : Value} {y0 y1 y2 : DataW H × List MemPlace}
    (h0 : DataW.trod enc Tryz.prog W 0 (fun _ => true) true n0 3 [c0] = some y0) (h1 : DataW.trod enc Tryz.prog W 0 (fun _ => true) true n1 9 [c1] = some y1)
    (h2 : DataW.trod enc Tryz.prog W 0 (fun _ => true) true n2 9 [c2] = some y2) (hw : Mem.Reached ((DataW.agg [y0.1, y1.1, y2.1]).weights Tryz.prog 45)) : ∃ k, DoIs W [c0, c1, c2] k := by
  obtain ⟨x0, q0, _, w0⟩ := DataW.trod_int Tryz.underlying3 h0
  obtain ⟨x1, q1, r1, w1⟩ := DataW.trod_string Tryz.underlying9 h1
  obtain ⟨x2, q2, r2, w2⟩ := DataW.trod_string Tryz.underlying9 h2
  rw [r1, r2] at hw
  simp only [DataW.weights, Tryz.underlying45] at hw
  have hs1 := open_str_w (t := 9) (P := Tryz.prog) (H := H) (s := x1) (fun n hn => hw n (by simp [DataW.weightsEach, hn]))
  have hs2 := open_str_w (t := 9) (P := Tryz.prog) (H := H) (s := x2) (fun n hn => hw n (by simp [DataW.weightsEach, hn]))
  simp only [List.cons.injEq, and_true] at q0 q1 q2
  subst q0 q1 q2
  exact ⟨⟨x0, x1, x2⟩, rfl, w0, hs1, hs2⟩
/-- A []Do that came in. -/
theorem open_dos {H : Type} {enc : TypeId × Value → H} {W : World} {base : Nat} {v : Value} {d : DataW H} {ps : List MemPlace} (hval : Value.okWide Tryz.prog W .any base 22 v)
    (h : DataW.Trod enc Tryz.prog W 0 (fun _ => true) true 22 v d ps) (hp : ∀ x ∈ ps, x.block < W.heap.size) (hw : Mem.Reached (d.weights Tryz.prog 22)) : ∃ l, Does (· < W.heap.size) W v l := by
  obtain ⟨a, len, cap, rfl⟩ := okWide_slice Tryz.underlying22 hval
  obtain ⟨fuel, hf⟩ := h
  obtain ⟨v', l, hv, hs, _⟩ := open_slice_w (α := DoE) (sz := 3) (R := DoIs) (p := (· < W.heap.size)) Tryz.underlying22 (by kernel_rfl) (by omega) hf hp hw (fun n cs' y htr hz hr => by
    obtain ⟨y0, y1, y2, m, rfl, hl, h0, h1, h2⟩ := Deep.trod_struct3 (f0 := _) (f1 := _) (f2 := _) Tryz.underlying45 htr
    have hl3 : cs'.length = 3 := hl
    match cs', hl3 with
    | [c0, c1, c2], _ => exact do_of h0 h1 h2 hr)
  have e : v' = .slice a len cap := by simpa [Value.cells] using hv.symm
  subst e
  exact ⟨l, hs⟩
/-- A Do that came in. -/
theorem open_do {H : Type} {enc : TypeId × Value → H} {W : World} {base : Nat} {v : Value} {d : DataW H} {ps : List MemPlace} (hval : Value.okWide Tryz.prog W .any base 45 v)
    (h : DataW.Trod enc Tryz.prog W 0 (fun _ => true) true 45 v d ps) (hw : Mem.Reached (d.weights Tryz.prog 45)) : ∃ k : DoE, v = k.v ∧ k.fits := by
  obtain ⟨c0, c1, c2, y0, y1, y2, m, rfl, rfl, rfl, h0, h1, h2⟩ := Joins.open_agg3 Tryz.underlying45 (by kernel_rfl) (by kernel_rfl) hval h
  obtain ⟨k, hcs, hf⟩ := do_of h0 h1 h2 hw
  simp only [List.cons.injEq, and_true] at hcs
  obtain ⟨rfl, rfl, rfl⟩ := hcs
  exact ⟨k, rfl, hf⟩

set_option maxRecDepth 100000 in
theorem treeRanges_lifted (os : Os) (started : os.Started) (H : Type) (enc : TypeId × Value → H) :
    ReturnsInHanded {} Tryz.checked os 6 .any (Rows.treeRangesSpec.pre6 enc Tryz.prog Tryz.f6 Rows.treeRangesRow.domain false) (Rows.treeRangesSpec.post enc Tryz.prog Tryz.f6 false true false false) := by
  refine LawFrame.lifted (C := Tryz.checked) (tb := 4) own started (by kernel_rfl) Tryz.func6
    (ChangeSpec.witness6 (enc := enc) (C := Tryz.checked) false ⟨#[], #[.slice none 0 0, .string ⟨#[]⟩, .string ⟨#[]⟩, .int .i64 0], []⟩ 8 (by kernel_rfl) (by kernel_rfl) (by kernel_rfl) (by kernel_rfl))
    laidOut (by kernel_rfl) ⟨rfl, fun H ds hd => by match ds, hd with | [d0, d1, d2, d3], _ => exact ⟨rfl, rfl, rfl⟩⟩ rfl Tryz.underlying4 ?_
  intro W base args ds p hval0 hA0 hlt hfz hsz0
  have hval : ∀ (j : Nat) t v, Tryz.f6.params[j]? = some t → args[j]? = some v → Value.okWide Tryz.prog W .any base t v := hval0
  have hA : DataW.TrodAll enc Tryz.prog W 0 (fun _ => true) true Tryz.f6.params.toList args.toList ds p := hA0
  have hsz : (DataW.weightsEach Tryz.prog Tryz.f6.params.toList ds).all (· ≤ reachBytes) = true := hsz0
  rw [Tryz.params6] at hA hval hsz
  obtain ⟨args⟩ := args
  simp only at hA
  obtain ⟨v0, vs0, d0, ds0, p0, q0, rfl, rfl, rfl, h0, hA⟩ := trodAll_cons hA
  obtain ⟨v1, vs1, d1, ds1, p1, q1, rfl, rfl, rfl, h1, hA⟩ := trodAll_cons hA
  obtain ⟨v2, vs2, d2, ds2, p2, q2, rfl, rfl, rfl, h2, hA⟩ := trodAll_cons hA
  obtain ⟨v3, vs3, d3, ds3, p3, q3, rfl, rfl, rfl, h3, hA⟩ := trodAll_cons hA
  obtain ⟨rfl, rfl, rfl⟩ := trodAll_nil hA
  obtain ⟨l, Hl⟩ := open_dos (hval 0 22 v0 rfl rfl) h0 (fun x hx => hlt x (by simp [hx])) (fun n hn => of_decide_eq_true (List.all_eq_true.1 hsz n (by simp [DataW.weightsEach, hn])))
  obtain ⟨frm, rfl, rfl, rfl, wfrm⟩ := open_string Tryz.underlying9 (hval 1 9 v1 rfl rfl) h1
  obtain ⟨upt, rfl, rfl, rfl, wupt⟩ := open_string Tryz.underlying9 (hval 2 9 v2 rfl rfl) h2
  obtain ⟨most, rfl, rfl, rfl, wmost⟩ := open_int Tryz.underlying3 (hval 3 3 v3 rfl rfl) h3
  exact treeRanges_any W v0 l frm upt most Hl
theorem treeRanges_holds : Rows.TreeRangesSaid :=
  OpenClaim.holds_of_wide 6 Tryz.f6 rfl rfl rfl rfl rfl rfl rfl ⟨rfl, rfl, rfl, rfl, rfl⟩ rfl rfl rfl rfl rfl (by kernel_rfl) Tryz.func6 (by kernel_rfl)
    (of_decide_eq_true (by kernel_rfl)) (by unfold Func.isWrapper; rw [if_neg (of_decide_eq_false (by kernel_rfl))]; exact ⟨rfl, rfl⟩)
    (fun os started H enc _ => treeRanges_lifted os started H enc)

end Go.Proofs.YtadmecjdihfmeaaGreat.Tre

