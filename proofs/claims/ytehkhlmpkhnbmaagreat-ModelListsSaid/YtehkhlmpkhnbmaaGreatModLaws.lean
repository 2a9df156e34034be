/- Statements of layer 22: for every input the law returns true. No condition. (Printed by wip/tools/modlaws.py.) -/
import Derived.Test.YtehkhlmpkhnbmaaGreatRows
import Derived.Test.YtehkhlmpkhnbmaaGreatModOpen
import Derived.Test.YtehkhlmpkhnbmaaGreatModLaw
import Derived.ChangeSame
namespace Go.Proofs.YtehkhlmpkhnbmaaGreat.Mod
set_option maxRecDepth 100000
set_option linter.unusedVariables false
set_option linter.unusedSimpArgs false
open Go.ChangeShapes Go.WideShapes Go.ChangeAt Go.RowKit Go.WideMaps Go.WideElems Go.Proofs.YtehkhlmpkhnbmaaGreat.Mem
open Go.ChangeMaps (open_string shut_string)

theorem own : ownKnob Tryz.prog.godebug = none := by kernel_rfl
theorem laidOut : laidOutB Tryz.prog = true := by kernel_rfl

set_option maxRecDepth 100000 in
theorem modelLists_lifted (os : Os) (started : os.Started) (H : Type) (enc : TypeId × Value → H) :
    ReturnsInHanded {} Tryz.checked os 5 .any (Rows.modelListsSpec.pre6 enc Tryz.prog Tryz.f5 Rows.modelListsRow.domain false) (Rows.modelListsSpec.post enc Tryz.prog Tryz.f5 false true false false) := by
  refine LawFrame.lifted (C := Tryz.checked) (tb := 4) own started (by kernel_rfl) Tryz.func5
    (ChangeSpec.witness6 (enc := enc) (C := Tryz.checked) false ⟨#[], #[.slice none 0 0, .int .i64 0, .agg #[.int .i64 0, .int .i64 0, .int .i64 0, .int .i64 0, .int .i64 0, .int .i64 0, .int .i64 0, .int .i64 0], .agg #[.int .i64 0, .int .i64 0], .int .i64 0], []⟩ 8 (by kernel_rfl) (by kernel_rfl) (by kernel_rfl) (by kernel_rfl))
    laidOut (by kernel_rfl) ⟨rfl, fun H ds hd => by match ds, hd with | [d0, d1, d2, d3, d4], _ => exact ⟨rfl, rfl, rfl⟩⟩ rfl Tryz.underlying4 ?_
  intro W base args ds p hval0 hA0 hlt hfz hsz0
  have hval : ∀ (j : Nat) t v, Tryz.f5.params[j]? = some t → args[j]? = some v → Value.okWide Tryz.prog W .any base t v := hval0
  have hA : DataW.TrodAll enc Tryz.prog W 0 (fun _ => true) true Tryz.f5.params.toList args.toList ds p := hA0
  have hsz : (DataW.weightsEach Tryz.prog Tryz.f5.params.toList ds).all (· ≤ reachBytes) = true := hsz0
  rw [Tryz.params5] at hA hval hsz
  obtain ⟨args⟩ := args
  simp only at hA
  obtain ⟨v0, vs0, d0, ds0, p0, q0, rfl, rfl, rfl, h0, hA⟩ := trodAll_cons hA
  obtain ⟨v1, vs1, d1, ds1, p1, q1, rfl, rfl, rfl, h1, hA⟩ := trodAll_cons hA
  obtain ⟨v2, vs2, d2, ds2, p2, q2, rfl, rfl, rfl, h2, hA⟩ := trodAll_cons hA
  obtain ⟨v3, vs3, d3, ds3, p3, q3, rfl, rfl, rfl, h3, hA⟩ := trodAll_cons hA
  obtain ⟨v4, vs4, d4, ds4, p4, q4, rfl, rfl, rfl, h4, hA⟩ := trodAll_cons hA
  obtain ⟨rfl, rfl, rfl⟩ := trodAll_nil hA
  obtain ⟨l, Hl, hr⟩ := open_events (hval 0 22 v0 rfl rfl) h0 (fun x hx => hlt x (by simp [hx])) (fun n hn => of_decide_eq_true (List.all_eq_true.1 hsz n (by simp [DataW.weightsEach, hn])))
  obtain ⟨vol, rfl, rfl, rfl, wn⟩ := open_int Tryz.underlying3 (hval 1 3 v1 rfl rfl) h1
  obtain ⟨seen, rfl⟩ := open_vec (hval 2 26 v2 rfl rfl) h2
  obtain ⟨id, rfl⟩ := open_stp (hval 3 24 v3 rfl rfl) h3
  obtain ⟨what, rfl, rfl, rfl, ww⟩ := open_int Tryz.underlying3 (hval 4 3 v4 rfl rfl) h4
  exact modelLists_any v0 l vol seen id what W Hl hr
theorem modelLists_holds : Rows.ModelListsSaid :=
  OpenClaim.holds_of_wide 5 Tryz.f5 rfl rfl rfl rfl rfl rfl rfl ⟨rfl, rfl, rfl, rfl, rfl⟩ rfl rfl rfl rfl rfl (by kernel_rfl) Tryz.func5 (by kernel_rfl)
    (of_decide_eq_true (by kernel_rfl)) (by unfold Func.isWrapper; rw [if_neg (of_decide_eq_false (by kernel_rfl))]; exact ⟨rfl, rfl⟩)
    (fun os started H enc _ => modelLists_lifted os started H enc)

end Go.Proofs.YtehkhlmpkhnbmaaGreat.Mod
