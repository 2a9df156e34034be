/- also: the document's device does it; slices.Clone at whole numbers. -/
import Derived.Test.YtecnfhfofnbieaaRefDev
import Derived.Test.YtecnfhfofnbieaaDevLawApart
namespace Go.Proofs.Ytecnfhfofnbieaa.Dev
set_option linter.unusedVariables false
set_option linter.unusedSimpArgs false
set_option maxRecDepth 100000
open Go.RowKit Go.Proofs.Ytecnfhfofnbieaa.Mem

theorem RefAt.alloc {w : World} {x xk xd xi : Nat} {S : DevS} (h : RefAt w x xk xd xi S) (o : Obj) : RefAt (w.alloc o) x xk xd xi S := h.on ((Below.refl _ _).alloc (Nat.le_refl _) o)
set_option maxHeartbeats 1000000 in
theorem also_any (w : World) (x xk xd xi : Nat) (S : DevS) (k : DoS) (kv : Value) (h : RefAt w x xk xd xi S) (hk : k.fits) (hv : Ints (fun k => k ≠ x ∧ k ≠ xk ∧ k ≠ xd ∧ k ≠ xi) w kv k.keep) :
    Calls Try.prog 27 #[.pointer (some ⟨x, 0, none⟩), .agg #[.int .i64 k.op, .int .i64 k.i, .string k.s, kv]] w fun e w' => e = .returned (.tuple #[.string (S.doesS k), .int .i64 (S.doesE k)]) ∧ RefAt w' x xk xd xi (S.does k) ∧ Chg [x, xk, xd, xi] w w' := by
  obtain ⟨op, i, s, keep⟩ := k
  have hr : op % 8 = 0 ∨ op % 8 = 1 ∨ op % 8 = 2 ∨ op % 8 = 3 ∨ op % 8 = 4 ∨ op % 8 = 5 ∨ op % 8 = 6 ∨ op % 8 = 7 := by omega
  rw [← bits_and7] at hr
  unfold DevS.doesS DevS.doesE DevS.does
  simp only [← bits_and7]
  have hi : i ≤ 9223372036854775807 := by
    have := hk.2.1
    simp only [Lit.wf, IntKind.min, IntKind.max, IntKind.signed, IntKind.bits, Bool.and_eq_true] at this
    simp at this
    omega
  simp only at hv
  clear hk
  have hA := h.alloc (Obj.cells #[Value.int IntKind.i64 op, Value.int IntKind.i64 i, Value.string s, kv] 34)
  have hT : Chg [x, xk, xd, xi] w (w.alloc (Obj.cells #[Value.int IntKind.i64 op, Value.int IntKind.i64 i, Value.string s, kv] 34)) := (Chg.refl _ _).alloc _
  have hV := hv.chg hT (fun k hk => by simp [hk.1, hk.2.1, hk.2.2])
  have H : Hid _ := hA
  have T : Hid _ := hT
  have V : Hid _ := hV
  clear h hv hA hT hV
  rcases hr with hr | hr | hr | hr | hr | hr | hr | hr
  iterate 3
    · go_enter Try.func27, Try.ntmps27
      go_wp2_with fail
      refine (rwrite_any _ x xk xd xi S i s H.out).mono ?_
      rintro e w1 ⟨rfl, h1, t1⟩
      go_wp2_with fail
      go_ret2
      simp only [hr]
      exact ⟨rfl, h1, T.out.trans t1⟩
  · go_enter Try.func27, Try.ntmps27
    go_wp2_with fail
    refine (rflush_any _ x xk xd xi S H.out).mono ?_
    rintro e w1 ⟨rfl, h1, t1⟩
    go_wp2_with fail
    go_ret2
    simp only [hr]
    exact ⟨rfl, h1, T.out.trans t1⟩
  · go_enter Try.func27, Try.ntmps27
    go_wp2_with fail
    refine (rread_any _ x xk xd xi S i H.out).mono ?_
    rintro e w1 ⟨rfl, rfl⟩
    go_wp2_with fail
    go_ret2
    simp only [hr]
    exact ⟨rfl, H.out, T.out⟩
  · go_enter Try.func27, Try.ntmps27
    go_wp2_with fail
    refine (rfuse_any _ x xk xd xi S i H.out hi).mono ?_
    rintro e w1 ⟨rfl, h1, t1⟩
    go_wp2_with fail
    go_ret2
    simp only [hr]
    exact ⟨rfl, h1, T.out.trans t1⟩
  · go_enter Try.func27, Try.ntmps27
    go_wp2_with fail
    refine (rcrash_any _ x xk xd xi S kv keep H.out V.out).mono ?_
    rintro e w1 ⟨rfl, h1, t1⟩
    go_wp2_with fail
    go_ret2
    simp only [hr]
    exact ⟨rfl, h1, T.out.trans t1⟩
  · go_enter Try.func27, Try.ntmps27
    go_wp2_with fail
    refine (rstart_any _ x xk xd xi S H.out).mono ?_
    rintro e w1 ⟨rfl, h1, t1⟩
    go_wp2_with fail
    go_ret2
    simp only [hr]
    exact ⟨rfl, h1, T.out.trans t1⟩
/-- slices.Clone at whole numbers -/
theorem clone_ints (p : Nat → Prop) (w : World) (v : Value) (l : List Int) (h : Ints p w v l) (hl : l.length * 8 ≤ 140737488351232) :
    Calls Try.prog 26 #[v] w fun e w' => ∃ v', e = .returned v' ∧ Ints (w.heap.size ≤ ·) w' v' l ∧ Below w.heap.size w w' := by
  obtain ⟨a, c, rfl, hlen, hc⟩ := h.form
  obtain ⟨i0, hi, hz0, hz1, hz2⟩ := info_parts info_int
  have hq := fun (w : World) (r : Option Addr) (n c : Nat) => Lib.run_eql_slice_nil w _ _ r n c 0 0 Try.underlying32
  cases a with
  | none =>
    have hl0 : l = [] := by
      cases l with
      | nil => rfl
      | cons y l => obtain ⟨_, _, h1, _⟩ := hc 0 (by simp); cases h1
    subst hl0
    go_enter Try.func26, Try.ntmps26
    go_wp2
    go_ret
    exact ⟨_, rfl, .inl ⟨rfl, _, _, rfl⟩, Below.refl _ _⟩
  | some ad =>
    have HC : Hid (∀ j (h : j < l.length), w.cell? (ad.add j) = some (.int .i64 l[j])) := by
      intro j hj
      obtain ⟨b, o, h1, h2⟩ := hc j hj
      injection h1 with h1
      subst h1
      have e : (⟨b, o, none⟩ : Addr).add j = ⟨b, o + j, none⟩ := by unfold Addr.add; simp
      rw [e]
      exact h2
    clear hc h
    go_enter Try.func26, Try.ntmps26
    go_wp2_with (first
      | (at_builtin; refine wpList_append_own _ rfl _ _ 32 rfl w.heap.size 3 i0 (.int .i64 0) 1 8 Try.underlying32 hi hz0 hz1 hz2 rfl (by decide) _ 0 [] rfl (World.ownsRow_made w #[] 0 (Nat.le_refl _) (by decide) rfl) ad l.length c (l.map (Value.int .i64)) rfl (by simp) ?c1 ?c2 ?c3 ?c4 ?c5 ?_)
      | fail)
    case c1 =>
      intro j u hj
      rw [List.getElem?_map] at hj
      have hb : Below w.heap.size w (w.alloc (.cells #[] 3)) := (Below.refl _ _).alloc (Nat.le_refl _) _
      by_cases hlt : j < l.length
      · rw [List.getElem?_eq_getElem hlt] at hj
        have hu : u = .int .i64 l[j] := (Option.some.inj hj).symm
        rw [hu]
        exact cell_on hb (HC.out j hlt)
      · rw [List.getElem?_eq_none (by omega)] at hj
        cases hj
    case c2 =>
      intro u hu
      obtain ⟨z, _, rfl⟩ := List.mem_map.1 hu
      rfl
    case c3 => unfold maxLen; omega
    case c4 => omega
    case c5 => simp
    · intro v' w' hown hgrow _
      have hI : Ints (w.heap.size ≤ ·) w' v' l := Ints.of_own (t := 3) (by simpa using hown) hlen
      have hB : Below w.heap.size w w' := ((Below.refl _ _).alloc (Nat.le_refl _) (.cells #[] 3)).trans (below_of_grown hgrow (fun k hk => by simp [Value.ownBlock] at hk; omega) (by simp))
      have HI : Hid _ := hI
      have HB : Hid _ := hB
      clear hown hgrow hI hB
      go_wp2
      go_ret
      exact ⟨_, rfl, HI.out, HB.out⟩
end Go.Proofs.Ytecnfhfofnbieaa.Dev
