/- The five statements of layer 3 (CrcSums, CrcSeals, CrcParts, CrcTold, CrcApart): for every input the law returns true. No condition. -/
import Derived.Test.YtigagapopifpjaaRows
import Derived.Test.YtigagapopifpjaaCrcWalks
import Derived.Test.YtigagapopifpjaaLaw
namespace Go.Proofs.Ytigagapopifpjaa.Crc
set_option linter.unusedVariables false
set_option linter.unusedSimpArgs false
open Go.ChangeShapes Go.WideShapes Go.ChangeAt Go.RowKit Go.WideMaps Go.WideElems
open Go.ChangeMaps (open_string shut_string)

theorem own : ownKnob Try.prog.godebug = none := by kernel_rfl
theorem laidOut : laidOutB Try.prog = true := by kernel_rfl

set_option maxRecDepth 100000 in
theorem crcSums_lifted (os : Os) (started : os.Started) (H : Type) (enc : TypeId × Value → H) :
    ReturnsInHanded {} Try.checked os 3 .any (Rows.crcSumsSpec.pre6 enc Try.prog Try.f3 Rows.crcSumsRow.domain false) (Rows.crcSumsSpec.post enc Try.prog Try.f3 false true false false) := by
  refine LawFrame.lifted (C := Try.checked) (tb := 4) own started (by kernel_rfl) Try.func3
    (ChangeSpec.witness6 (enc := enc) (C := Try.checked) false ⟨#[], #[.int .u64 0, .string ⟨#[]⟩], []⟩ 8 (by kernel_rfl) (by kernel_rfl) (by kernel_rfl) (by kernel_rfl))
    laidOut (by kernel_rfl) ⟨rfl, fun H ds hd => by match ds, hd with | [d1, d2], _ => exact ⟨rfl, rfl, rfl⟩⟩ rfl Try.underlying4 ?_
  intro W base args ds p hval0 hA0 hlt hfz hsz0
  have hval : ∀ (j : Nat) t v, Try.f3.params[j]? = some t → args[j]? = some v → Value.okWide Try.prog W .any base t v := hval0
  have hA : DataW.TrodAll enc Try.prog W 0 (fun _ => true) true Try.f3.params.toList args.toList ds p := hA0
  have hsz : (DataW.weightsEach Try.prog Try.f3.params.toList ds).all (· ≤ reachBytes) = true := hsz0
  rw [Try.params3] at hA hval hsz
  obtain ⟨v0, v1, d0, d1, p0, p1, rfl, rfl, rfl, h0, h1⟩ := trodAll_two hA
  obtain ⟨x, rfl, rfl, rfl, wx⟩ := open_int Try.underlying22 (hval 0 22 v0 rfl rfl) h0
  obtain ⟨s, rfl, rfl, rfl, ws⟩ := open_string Try.underlying9 (hval 1 9 v1 rfl rfl) h1

  obtain ⟨n, rfl, hn⟩ := LawFrame.u64_nat wx
  have hs : s.size ≤ 140737488351232 := by
    have := hsz
    simp [DataW.weightsEach, DataW.weights, reachBytes] at this
    exact of_decide_eq_true this
  by_cases h : s.size ≤ 4096
  · exact sums_near n s W hn h
  · exact sums_far n s W (by omega) hs
theorem crcSums_holds : Rows.CrcSumsSaid :=
  OpenClaim.holds_of_wide 3 Try.f3 rfl rfl rfl rfl rfl rfl rfl ⟨rfl, rfl, rfl, rfl, rfl⟩ rfl rfl rfl rfl rfl (by kernel_rfl) Try.func3 (by kernel_rfl)
    (of_decide_eq_true (by kernel_rfl)) (by unfold Func.isWrapper; rw [if_neg (of_decide_eq_false (by kernel_rfl))]; exact ⟨rfl, rfl⟩)
    (fun os started H enc _ => crcSums_lifted os started H enc)

set_option maxRecDepth 100000 in
theorem crcSeals_lifted (os : Os) (started : os.Started) (H : Type) (enc : TypeId × Value → H) :
    ReturnsInHanded {} Try.checked os 4 .any (Rows.crcSealsSpec.pre6 enc Try.prog Try.f4 Rows.crcSealsRow.domain false) (Rows.crcSealsSpec.post enc Try.prog Try.f4 false true false false) := by
  refine LawFrame.lifted (C := Try.checked) (tb := 4) own started (by kernel_rfl) Try.func4
    (ChangeSpec.witness6 (enc := enc) (C := Try.checked) false ⟨#[], #[.string ⟨#[]⟩, .string ⟨#[]⟩], []⟩ 8 (by kernel_rfl) (by kernel_rfl) (by kernel_rfl) (by kernel_rfl))
    laidOut (by kernel_rfl) ⟨rfl, fun H ds hd => by match ds, hd with | [d1, d2], _ => exact ⟨rfl, rfl, rfl⟩⟩ rfl Try.underlying4 ?_
  intro W base args ds p hval0 hA0 hlt hfz hsz0
  have hval : ∀ (j : Nat) t v, Try.f4.params[j]? = some t → args[j]? = some v → Value.okWide Try.prog W .any base t v := hval0
  have hA : DataW.TrodAll enc Try.prog W 0 (fun _ => true) true Try.f4.params.toList args.toList ds p := hA0
  have hsz : (DataW.weightsEach Try.prog Try.f4.params.toList ds).all (· ≤ reachBytes) = true := hsz0
  rw [Try.params4] at hA hval hsz
  obtain ⟨v0, v1, d0, d1, p0, p1, rfl, rfl, rfl, h0, h1⟩ := trodAll_two hA
  obtain ⟨a, rfl, rfl, rfl, wa⟩ := open_string Try.underlying9 (hval 0 9 v0 rfl rfl) h0
  obtain ⟨b, rfl, rfl, rfl, wb⟩ := open_string Try.underlying9 (hval 1 9 v1 rfl rfl) h1

  have hs : a.size ≤ 140737488351232 ∧ b.size ≤ 140737488351232 := by
    have := hsz
    simp [DataW.weightsEach, DataW.weights, reachBytes] at this
    exact ⟨of_decide_eq_true this.1, of_decide_eq_true this.2⟩
  by_cases h : a.size ≤ 4096
  · by_cases h' : b.size ≤ 4096
    · exact seals_near a b W h h'
    · exact seals_far a b W (.inr (by omega)) hs.1 hs.2
  · exact seals_far a b W (.inl (by omega)) hs.1 hs.2
theorem crcSeals_holds : Rows.CrcSealsSaid :=
  OpenClaim.holds_of_wide 4 Try.f4 rfl rfl rfl rfl rfl rfl rfl ⟨rfl, rfl, rfl, rfl, rfl⟩ rfl rfl rfl rfl rfl (by kernel_rfl) Try.func4 (by kernel_rfl)
    (of_decide_eq_true (by kernel_rfl)) (by unfold Func.isWrapper; rw [if_neg (of_decide_eq_false (by kernel_rfl))]; exact ⟨rfl, rfl⟩)
    (fun os started H enc _ => crcSeals_lifted os started H enc)

set_option maxRecDepth 100000 in
theorem crcParts_lifted (os : Os) (started : os.Started) (H : Type) (enc : TypeId × Value → H) :
    ReturnsInHanded {} Try.checked os 5 .any (Rows.crcPartsSpec.pre6 enc Try.prog Try.f5 Rows.crcPartsRow.domain false) (Rows.crcPartsSpec.post enc Try.prog Try.f5 false true false false) := by
  refine LawFrame.lifted (C := Try.checked) (tb := 4) own started (by kernel_rfl) Try.func5
    (ChangeSpec.witness6 (enc := enc) (C := Try.checked) false ⟨#[], #[.int .u64 0, .string ⟨#[]⟩, .string ⟨#[]⟩], []⟩ 8 (by kernel_rfl) (by kernel_rfl) (by kernel_rfl) (by kernel_rfl))
    laidOut (by kernel_rfl) ⟨rfl, fun H ds hd => by match ds, hd with | [d1, d2, d3], _ => exact ⟨rfl, rfl, rfl⟩⟩ rfl Try.underlying4 ?_
  intro W base args ds p hval0 hA0 hlt hfz hsz0
  have hval : ∀ (j : Nat) t v, Try.f5.params[j]? = some t → args[j]? = some v → Value.okWide Try.prog W .any base t v := hval0
  have hA : DataW.TrodAll enc Try.prog W 0 (fun _ => true) true Try.f5.params.toList args.toList ds p := hA0
  have hsz : (DataW.weightsEach Try.prog Try.f5.params.toList ds).all (· ≤ reachBytes) = true := hsz0
  rw [Try.params5] at hA hval hsz
  obtain ⟨v0, v1, v2, d0, d1, d2, p0, p1, p2, rfl, rfl, rfl, h0, h1, h2⟩ := trodAll_three hA
  obtain ⟨x, rfl, rfl, rfl, wx⟩ := open_int Try.underlying22 (hval 0 22 v0 rfl rfl) h0
  obtain ⟨a, rfl, rfl, rfl, wa⟩ := open_string Try.underlying9 (hval 1 9 v1 rfl rfl) h1
  obtain ⟨b, rfl, rfl, rfl, wb⟩ := open_string Try.underlying9 (hval 2 9 v2 rfl rfl) h2

  obtain ⟨n, rfl, hn⟩ := LawFrame.u64_nat wx
  have hs : a.size ≤ 140737488351232 ∧ b.size ≤ 140737488351232 := by
    have := hsz
    simp [DataW.weightsEach, DataW.weights, reachBytes] at this
    exact ⟨of_decide_eq_true this.1, of_decide_eq_true this.2⟩
  by_cases h : a.size ≤ 4096
  · by_cases h' : b.size ≤ 4096
    · exact parts_near n a b W hn h h'
    · exact parts_far n a b W (.inr (by omega)) hs.1 hs.2
  · exact parts_far n a b W (.inl (by omega)) hs.1 hs.2
theorem crcParts_holds : Rows.CrcPartsSaid :=
  OpenClaim.holds_of_wide 5 Try.f5 rfl rfl rfl rfl rfl rfl rfl ⟨rfl, rfl, rfl, rfl, rfl⟩ rfl rfl rfl rfl rfl (by kernel_rfl) Try.func5 (by kernel_rfl)
    (of_decide_eq_true (by kernel_rfl)) (by unfold Func.isWrapper; rw [if_neg (of_decide_eq_false (by kernel_rfl))]; exact ⟨rfl, rfl⟩)
    (fun os started H enc _ => crcParts_lifted os started H enc)

set_option maxRecDepth 100000 in
theorem crcTold_lifted (os : Os) (started : os.Started) (H : Type) (enc : TypeId × Value → H) :
    ReturnsInHanded {} Try.checked os 6 .any (Rows.crcToldSpec.pre6 enc Try.prog Try.f6 Rows.crcToldRow.domain false) (Rows.crcToldSpec.post enc Try.prog Try.f6 false true false false) := by
  refine LawFrame.lifted (C := Try.checked) (tb := 4) own started (by kernel_rfl) Try.func6
    (ChangeSpec.witness6 (enc := enc) (C := Try.checked) false ⟨#[], #[.string ⟨#[]⟩, .int .i64 0, .int .u8 0], []⟩ 8 (by kernel_rfl) (by kernel_rfl) (by kernel_rfl) (by kernel_rfl))
    laidOut (by kernel_rfl) ⟨rfl, fun H ds hd => by match ds, hd with | [d1, d2, d3], _ => exact ⟨rfl, rfl, rfl⟩⟩ rfl Try.underlying4 ?_
  intro W base args ds p hval0 hA0 hlt hfz hsz0
  have hval : ∀ (j : Nat) t v, Try.f6.params[j]? = some t → args[j]? = some v → Value.okWide Try.prog W .any base t v := hval0
  have hA : DataW.TrodAll enc Try.prog W 0 (fun _ => true) true Try.f6.params.toList args.toList ds p := hA0
  have hsz : (DataW.weightsEach Try.prog Try.f6.params.toList ds).all (· ≤ reachBytes) = true := hsz0
  rw [Try.params6] at hA hval hsz
  obtain ⟨v0, v1, v2, d0, d1, d2, p0, p1, p2, rfl, rfl, rfl, h0, h1, h2⟩ := trodAll_three hA
  obtain ⟨s, rfl, rfl, rfl, ws⟩ := open_string Try.underlying9 (hval 0 9 v0 rfl rfl) h0
  obtain ⟨i, rfl, rfl, rfl, wi⟩ := open_int Try.underlying3 (hval 1 3 v1 rfl rfl) h1
  obtain ⟨x, rfl, rfl, rfl, wx⟩ := open_int Try.underlying5 (hval 2 5 v2 rfl rfl) h2

  obtain ⟨y, rfl⟩ := LawFrame.u8_of wx
  have hs : s.size ≤ 140737488351232 := by
    have := hsz
    simp [DataW.weightsEach, DataW.weights, reachBytes] at this
    exact of_decide_eq_true this
  by_cases h : s.size ≤ 4096
  · by_cases hy : y = 0
    · exact told_far s i y W (.inr hy) hs
    · exact told_near s i y W h hy
  · exact told_far s i y W (.inl (by omega)) hs
theorem crcTold_holds : Rows.CrcToldSaid :=
  OpenClaim.holds_of_wide 6 Try.f6 rfl rfl rfl rfl rfl rfl rfl ⟨rfl, rfl, rfl, rfl, rfl⟩ rfl rfl rfl rfl rfl (by kernel_rfl) Try.func6 (by kernel_rfl)
    (of_decide_eq_true (by kernel_rfl)) (by unfold Func.isWrapper; rw [if_neg (of_decide_eq_false (by kernel_rfl))]; exact ⟨rfl, rfl⟩)
    (fun os started H enc _ => crcTold_lifted os started H enc)

set_option maxRecDepth 100000 in
theorem crcApart_lifted (os : Os) (started : os.Started) (H : Type) (enc : TypeId × Value → H) :
    ReturnsInHanded {} Try.checked os 7 .any (Rows.crcApartSpec.pre6 enc Try.prog Try.f7 Rows.crcApartRow.domain false) (Rows.crcApartSpec.post enc Try.prog Try.f7 false true false false) := by
  refine LawFrame.lifted (C := Try.checked) (tb := 4) own started (by kernel_rfl) Try.func7
    (ChangeSpec.witness6 (enc := enc) (C := Try.checked) false ⟨#[], #[.string ⟨#[]⟩, .int .i64 0, .agg #[.int .u8 0, .int .u8 0, .int .u8 0, .int .u8 0, .int .u8 0, .int .u8 0, .int .u8 0, .int .u8 0]], []⟩ 8 (by kernel_rfl) (by kernel_rfl) (by kernel_rfl) (by kernel_rfl))
    laidOut (by kernel_rfl) ⟨rfl, fun H ds hd => by match ds, hd with | [d1, d2, d3], _ => exact ⟨rfl, rfl, rfl⟩⟩ rfl Try.underlying4 ?_
  intro W base args ds p hval0 hA0 hlt hfz hsz0
  have hval : ∀ (j : Nat) t v, Try.f7.params[j]? = some t → args[j]? = some v → Value.okWide Try.prog W .any base t v := hval0
  have hA : DataW.TrodAll enc Try.prog W 0 (fun _ => true) true Try.f7.params.toList args.toList ds p := hA0
  have hsz : (DataW.weightsEach Try.prog Try.f7.params.toList ds).all (· ≤ reachBytes) = true := hsz0
  rw [Try.params7] at hA hval hsz
  obtain ⟨v0, v1, v2, d0, d1, d2, p0, p1, p2, rfl, rfl, rfl, h0, h1, h2⟩ := trodAll_three hA
  obtain ⟨s, rfl, rfl, rfl, ws⟩ := open_string Try.underlying9 (hval 0 9 v0 rfl rfl) h0
  obtain ⟨i, rfl, rfl, rfl, wi⟩ := open_int Try.underlying3 (hval 1 3 v1 rfl rfl) h1
  obtain ⟨zs, hzl, rfl, hzw⟩ := LawFrame.open_array_int Try.underlying35 Try.underlying5 (by kernel_rfl) (hval 2 35 v2 rfl rfl) h2 (by kernel_rfl)

  have hs : s.size ≤ 140737488351232 := by
    have := hsz
    simp [DataW.weightsEach, DataW.weights, reachBytes] at this
    exact of_decide_eq_true this.1
  match zs, hzl with
  | [a0, a1, a2, a3, a4, a5, a6, a7], _ =>
    obtain ⟨x0, rfl⟩ := LawFrame.u8_of (hzw a0 (by simp))
    obtain ⟨x1, rfl⟩ := LawFrame.u8_of (hzw a1 (by simp))
    obtain ⟨x2, rfl⟩ := LawFrame.u8_of (hzw a2 (by simp))
    obtain ⟨x3, rfl⟩ := LawFrame.u8_of (hzw a3 (by simp))
    obtain ⟨x4, rfl⟩ := LawFrame.u8_of (hzw a4 (by simp))
    obtain ⟨x5, rfl⟩ := LawFrame.u8_of (hzw a5 (by simp))
    obtain ⟨x6, rfl⟩ := LawFrame.u8_of (hzw a6 (by simp))
    obtain ⟨x7, rfl⟩ := LawFrame.u8_of (hzw a7 (by simp))
    by_cases h : s.size ≤ 4096
    · by_cases h' : 8 ≤ s.size
      · exact apart_near s i x0 x1 x2 x3 x4 x5 x6 x7 W h h'
      · exact apart_far s i x0 x1 x2 x3 x4 x5 x6 x7 W (.inr (by omega)) hs
    · exact apart_far s i x0 x1 x2 x3 x4 x5 x6 x7 W (.inl (by omega)) hs
theorem crcApart_holds : Rows.CrcApartSaid :=
  OpenClaim.holds_of_wide 7 Try.f7 rfl rfl rfl rfl rfl rfl rfl ⟨rfl, rfl, rfl, rfl, rfl⟩ rfl rfl rfl rfl rfl (by kernel_rfl) Try.func7 (by kernel_rfl)
    (of_decide_eq_true (by kernel_rfl)) (by unfold Func.isWrapper; rw [if_neg (of_decide_eq_false (by kernel_rfl))]; exact ⟨rfl, rfl⟩)
    (fun os started H enc _ => crcApart_lifted os started H enc)
end Go.Proofs.Ytigagapopifpjaa.Crc
