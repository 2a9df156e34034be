/- A store under a law's walk; the example of layer 6 holds. -/
import Derived.Test.YtanpkghdgdkdlaaGreatStoStart
import Derived.Test.YtanpkghdgdkdlaaGreatStoDoes
import Derived.Test.YtanpkghdgdkdlaaGreatStoFree
import Derived.Test.YtanpkghdgdkdlaaGreatStoPut
namespace Go.Proofs.YtanpkghdgdkdlaaGreat.Sto
set_option linter.unusedVariables false
set_option linter.unusedSimpArgs false
set_option maxRecDepth 100000
open Go.RowKit Go.Lib Go.Proofs.YtanpkghdgdkdlaaGreat.Mem Go.Proofs.YtanpkghdgdkdlaaGreat.Oct Go.Proofs.YtanpkghdgdkdlaaGreat.Dev

/-- a store that the walk has made -/
structure Sc (w0 : World) (B : Blk) (S : StS) (D : DevS) (w : World) : Prop where
  below : Below w0.heap.size w0 w
  st : StAt w B S D
  base : ∀ x ∈ B.all, w0.heap.size ≤ x
theorem Sc.on {w0 w w' : World} {B : Blk} {S : StS} {D : DevS} (h : Sc w0 B S D w) (hb : Below w.heap.size w w') : Sc w0 B S D w' := ⟨h.below.trans (hb.mono h.below.size), h.st.on hb, h.base⟩
theorem Sc.turn {w0 w w' : World} {B B' : Blk} {S S' : StS} {D D' : DevS} (h : Sc w0 B S D w) (hn : Blk.Next w B B') (hs : StAt w' B' S' D') (hc : Chg B.all w w') : Sc w0 B' S' D' w' :=
  ⟨h.below.trans (hc.below h.below.size h.base), hs, fun x hx => by
    rcases hn.mem x hx with h1 | h1
    · exact h.base x h1
    · have := h.below.size; omega⟩
theorem new_small (n : Int) : (DevS.new n).small := ⟨fun i s h => (by cases h), fun i s h => (by cases h)⟩
/-- Format on a new device -/
theorem format_sc {w0 w : World} {b bk bd n : Nat} (hn : 8 ≤ n ∧ n ≤ 4096) {note : ByteArray} (hnt : note.size ≤ 3900) (h : At w b bk bd (DevS.new n)) (hb : Below w0.heap.size w0 w) (h1 : w0.heap.size ≤ b) (h2 : w0.heap.size ≤ bk) (h3 : w0.heap.size ≤ bd) :
    Calls Tryz.prog 17 #[.pointer (some ⟨b, 0, none⟩), .string note] w fun e w' => ∃ B D, e = .returned (.tuple #[.pointer (some ⟨B.s, 0, none⟩), .int .i64 0]) ∧ B.d = b ∧ Sc w0 B (StS.fresh note) D w' ∧ Run n 0 (StS.fresh note) D := by
  obtain ⟨D, e1, hr⟩ := format_run n hn hnt
  refine (format_any w b bk bd _ note h (new_small _)).mono ?_
  rintro e w' hp
  rw [e1] at hp
  unfold FormatPost at hp
  rw [if_pos rfl] at hp
  obtain ⟨B, ho, rfl, hs, hc⟩ := hp
  refine ⟨B, D, rfl, ho.d, ⟨hb.trans (hc.below hb.size (by simp; omega)), hs, fun x hx => ?_⟩, hr⟩
  rcases ho.dev_mem x hx with h4 | h4
  · simp at h4; omega
  · have := hb.size; omega
/-- Open: what a store has that lies there -/
theorem open_sc {w0 w : World} {b bk bd : Nat} {D : DevS} {S' : StS} (h : At w b bk bd D) (hs : D.small) (ho : openOut D = .ok S') (hb : Below w0.heap.size w0 w) (h1 : w0.heap.size ≤ b) (h2 : w0.heap.size ≤ bk) (h3 : w0.heap.size ≤ bd) :
    Calls Tryz.prog 13 #[.pointer (some ⟨b, 0, none⟩)] w fun e w' => ∃ B, e = .returned (.tuple #[.pointer (some ⟨B.s, 0, none⟩), .int .i64 0]) ∧ B.d = b ∧ Sc w0 B S' D w' ∧ Blk.Over w b bk bd B ∧ Chg [b, bk, bd] w w' := by
  refine (open_any w b bk bd D h hs).mono ?_
  rintro e w' hp
  rw [ho] at hp
  obtain ⟨B, hov, rfl, hst, hc⟩ := hp
  refine ⟨B, rfl, hov.d, ⟨hb.trans (hc.below hb.size (by simp; omega)), hst, fun x hx => ?_⟩, hov, hc⟩
  rcases hov.dev_mem x hx with h4 | h4
  · simp at h4; omega
  · have := hb.size; omega
/-- a store's device, crashed, with power again -/
theorem Sc.devs {w0 w w' : World} {B : Blk} {S : StS} {D D' : DevS} (h : Sc w0 B S D w) (ha : At w' B.d B.k B.y D') (hc : Chg [B.d, B.k, B.y] w w') : At w' B.d B.k B.y D' ∧ Below w0.heap.size w0 w' ∧ w0.heap.size ≤ B.d ∧ w0.heap.size ≤ B.k ∧ w0.heap.size ≤ B.y := by
  have hm := h.base
  have h1 := hm B.d (by simp [Blk.all])
  have h2 := hm B.k (by simp [Blk.all])
  have h3 := hm B.y (by simp [Blk.all])
  exact ⟨ha, h.below.trans (hc.below h.below.size (by simp; omega)), h1, h2, h3⟩

theorem ex_has2 : ex3.has 3 = true := by decide
set_option maxHeartbeats 4000000 in
theorem awake_any (w : World) : Calls Tryz.prog 6 #[] w fun e w' => e = .returned (.bool true) ∧ Below w.heap.size w w' := by
  go_enter Tryz.func6, Tryz.ntmps6
  go_wp2_with fail
  refine (new_yes w 8 (by omega)).mono ?_
  rintro e w1 ⟨b, bk, bd, rfl, hA, hb, hb1, hb2, hb3⟩
  have HA : Hid (At w1 b bk bd (DevS.new (8 : Nat)) ∧ Below w.heap.size w w1 ∧ w.heap.size ≤ b ∧ w.heap.size ≤ bk ∧ w.heap.size ≤ bd) := ⟨hA, hb, hb1, hb2, hb3⟩
  clear hA hb hb1 hb2 hb3
  go_wp2_with fail
  refine (format_sc (n := 8) (note := nob) (by omega) (by decide) HA.out.1 HA.out.2.1 HA.out.2.2.1 HA.out.2.2.2.1 HA.out.2.2.2.2).mono ?_
  rintro e w2 ⟨B, D1, rfl, rfl, hsc, hrun⟩
  obtain ⟨D2, D3, hex, hv⟩ := example_runs hrun
  have HX : Hid (Ex D1 D2 D3 ∧ vw D3 2 = blockB [] txtA) := ⟨hex, hv⟩
  have H2 : Hid (Sc w B ex1 D1 w2) := hsc
  clear hsc hrun hex hv HA
  go_wp2_with fail
  refine (storeFree_any w2 B ex1 D1 H2.out.st (by rw [HX.out.1.run1.good.dn]; exact HX.out.1.run1.inv.wf) (fun i hi => by cases hi)).mono ?_
  rintro e w3 ⟨rfl, hb3⟩
  have e6 : ex1.freeN D1.n.toNat = 6 := by rw [HX.out.1.run1.good.dn]; exact ex_freeN
  rw [e6]
  have H3 : Hid (Sc w B ex1 D1 w3) := H2.out.on hb3
  clear hb3 H2 e6
  go_wp2_with fail
  refine (storePut_any w3 B ex1 D1 (.slice none 0 0) [] txtA H3.out.st (by rw [HX.out.1.run1.good.dn]; exact HX.out.1.run1.inv.wf) (.inl ⟨rfl, _, _, rfl⟩)).mono ?_
  rintro e w4 hp
  rw [HX.out.1.put2] at hp
  obtain ⟨rfl, hs4, hc4⟩ := hp
  have H4 : Hid (Sc w B ex2 D2 w4) := H3.out.turn (Blk.Next.refl _ _) hs4 hc4
  clear hs4 hc4 H3
  go_wp2_with fail
  have hb5 : Below w4.heap.size w4 (w4.alloc (.cells #[.int .i64 2] 3)) := (Below.refl _ _).alloc (Nat.le_refl _) _
  refine (storePut_any (w4.alloc (.cells #[.int .i64 2] 3)) B ex2 D2 (.slice (some ⟨w4.heap.size, 0, none⟩) 1 1) [2] txtB (H4.out.st.on hb5) (by rw [HX.out.1.run2.good.dn]; exact HX.out.1.run2.inv.wf) (.inr ⟨w4.heap.size, 0, 1, rfl, fun hm => by have := H4.out.st.lt _ hm; omega, by decide, fun j hj => ?_⟩)).mono ?_
  · match j, hj with
    | 0, _ => exact cell_at (heap_alloc_last w4 _) 0
  rintro e w5 hp
  rw [HX.out.1.put3] at hp
  obtain ⟨rfl, hs5, hc5⟩ := hp
  have H5 : Hid (Sc w B ex3 D3 w5) := (H4.out.on hb5).turn (Blk.Next.refl _ _) hs5 hc5
  clear hs5 hc5 H4 hb5
  go_wp2_with fail
  refine (storeHold_any w5 B ex3 D3 3 H5.out.st (held_small (m := 0) HX.out.1.run3.inv (by omega) 3)).mono ?_
  rintro e w6 ⟨rfl, hs6, hc6⟩
  have eh : ex3.holdE 3 = 0 := by decide
  have es : ex3.holds 3 = ex4 := by unfold StS.holds; rw [if_pos ex_has2]; rfl
  rw [es] at hs6
  rw [eh]
  have H6 : Hid (Sc w B ex4 D3 w6) := H5.out.turn (Blk.Next.refl _ _) hs6 hc6
  clear hs6 hc6 H5 eh es
  go_wp2_with fail
  refine (storeCommit_any w6 B ex4 D3 3 txtN H6.out.st (by rw [HX.out.1.run4.good.dn]; exact HX.out.1.run4.inv.wf) (by decide)).mono ?_
  rintro e w7 ⟨B', hn7, rfl, hs7, hc7⟩
  rw [HX.out.1.com]
  rw [HX.out.1.st5] at hs7
  have H7 : Hid (Sc w B' ex5 (commitOut ex4 D3 3 txtN).2.2 w7 ∧ B'.d = B.d) := ⟨H6.out.turn hn7 hs7 hc7, hn7.d⟩
  have HD : Hid (B'.d = B.d) := hn7.d
  clear hs7 hc7 hn7 H6
  go_wp2_with fail
  rw [← HD.out]
  refine (crash_any w7 B'.d B'.k B'.y _ (.slice none 0 0) [] H7.out.1.st.dev (.inl ⟨rfl, _, _, rfl⟩)).mono ?_
  rintro e w8 ⟨rfl, h8, t8⟩
  have H8 : Hid (At w8 B'.d B'.k B'.y ((commitOut ex4 D3 3 txtN).2.2.crash []) ∧ Chg [B'.d, B'.k, B'.y] w7 w8) := ⟨h8, t8⟩
  clear h8 t8
  go_wp2_with fail
  refine (start_any w8 B'.d B'.k B'.y _ H8.out.1).mono ?_
  rintro e w9 ⟨rfl, h9, t9⟩
  have H9 := H7.out.1.devs h9 (H8.out.2.trans t9)
  have H9' : Hid _ := H9
  clear h9 t9 H9 H8
  obtain ⟨S', hop, r1, r2, r3, r4, r5, r6⟩ := example_opens HX.out.1 HX.out.2
  have HS : Hid _ := r6
  have HG : Hid _ := r4
  have HF : Hid _ := r5
  have HO : Hid _ := hop
  clear r4 r5 r6 hop
  go_wp2_with fail
  refine (open_sc (w0 := w) H9'.out.1 (crash_small H7.out.1.st.small []) HO.out H9'.out.2.1 H9'.out.2.2.1 H9'.out.2.2.2.1 H9'.out.2.2.2.2).mono ?_
  rintro e w10 ⟨B2, rfl, _, hsc, _, _⟩
  have H10 : Hid (Sc w B2 S' ((commitOut ex4 D3 3 txtN).2.2.crash []).start w10) := hsc
  clear hsc H9'
  go_wp2_with fail
  refine (storeRoot_any w10 B2 S' _ H10.out.st).mono ?_
  rintro e w11 ⟨rfl, hb11⟩
  rw [r1, r2, r3]
  have H11 : Hid (Sc w B2 S' ((commitOut ex4 D3 3 txtN).2.2.crash []).start w11) := H10.out.on hb11
  clear hb11 H10 r1 r2 r3
  go_wp2_with fail
  refine (storeGet_any w11 B2 S' _ 2 H11.out.st).mono ?_
  rintro e w12 ⟨a, m, c, d, rfl, his, hb12⟩
  rw [HG.out] at his ⊢
  obtain ⟨rfl, hown⟩ := his
  have H12 : Hid (Sc w B2 S' ((commitOut ex4 D3 3 txtN).2.2.crash []).start w12) := H11.out.on hb12
  clear hb12 hown H11
  have eqN : txtN.toList = [110] := by simp [txtN]
  have eqA : txtA.toList = [97] := by simp [txtA]
  go_wp2_with fail
  have hb13 : Below w12.heap.size w12 (w12.alloc (.cells #[.slice a m c, .string txtA] 58)) := (Below.refl _ _).alloc (Nat.le_refl _) _
  have H13 : Hid (Sc w B2 S' ((commitOut ex4 D3 3 txtN).2.2.crash []).start (w12.alloc (.cells #[.slice a m c, .string txtA] 58))) := H12.out.on hb13
  have hDn : ((commitOut ex4 D3 3 txtN).2.2.crash []).start.n = ((8 : Nat) : Int) := HX.out.1.good5.dn
  have HDn : Hid _ := hDn
  clear hb13 H12 hDn
  refine (storeFree_any _ B2 S' _ H13.out.st (by rw [HDn.out]; exact HS.out.wf) (fun i hi => by have := HS.out.kept i hi; rw [HDn.out]; omega)).mono ?_
  rintro e w14 ⟨rfl, hb14⟩
  have e4 : S'.freeN ((commitOut ex4 D3 3 txtN).2.2.crash []).start.n.toNat = 4 := by rw [HDn.out]; exact HF.out
  rw [e4]
  have H14 : Hid (Below w.heap.size w w14) := (H13.out.on hb14).below
  clear hb14 H13 e4
  go_wp2_with fail
  go_ret
  exact ⟨rfl, H14.out⟩
end Go.Proofs.YtanpkghdgdkdlaaGreat.Sto
