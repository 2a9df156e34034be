/- RefHigh RefPut RefExact: several texts of one proof, laid as one file (a claim has at most 60 files). No condition. -/
import Derived.Test.YtanpkghdgdkdlaaGreatPlG5
import Derived.Test.YtanpkghdgdkdlaaGreatStoPut
import Derived.Lib.MinMax
import Derived.Test.YtanpkghdgdkdlaaGreatPlG2
import Derived.Test.YtanpkghdgdkdlaaGreatQue
import Derived.Deep.RegionLaw
import Derived.BigQuiet
import Derived.Test.YtanpkghdgdkdlaaGreatPlG3
import Derived.Test.YtanpkghdgdkdlaaGreatStoDoes
/- Layer 6: how high a block is that is there, by the reference. -/
namespace Go.Proofs.YtanpkghdgdkdlaaGreat.Sto
set_option linter.unusedVariables false
set_option linter.unusedSimpArgs false
set_option maxRecDepth 100000
open Go.RowKit Go.Lib Go.Proofs.YtanpkghdgdkdlaaGreat.Mem Go.Proofs.YtanpkghdgdkdlaaGreat.Oct Go.Proofs.YtanpkghdgdkdlaaGreat.Dev

/-- how high a block is said to be is how high it is -/
def ExactH (S : StS) : Prop := ∀ i c, S.cells i = some c → c.high = S.highOf c.kids + 1
/-- kids keep away from blocks that are newer -/
theorem RSt.guard {w w' : World} {B : RBlk} {S : StS} {D : DevS} {T L : List Nat} (h : RSt w B S D) (hc : Chg T w w') (hT : ∀ t ∈ T, t ∉ B.all ∧ t ∈ B.f) (hL : ∀ q ∈ L, w.heap.size ≤ q ∧ q < w'.heap.size) : RSt w' { B with f := L ++ B.f } S D := by
  have h1 := h.off hc hT
  obtain ⟨k, hk, hi⟩ := h.cells
  refine ⟨h1.box, h1.dev, h1.small, ⟨k, hk.chg hc (fun hm => (hT _ hm).1 B.mem_c), fun j hj => ?_⟩, h1.kept, h1.nd, fun q hq => ?_, h1.dom, h1.kdom⟩
  · have h2 : Ints (fun q => B.out q ∧ q < w.heap.size) w' (.slice (k j).1 (S.cel j).kids.length (k j).2) (S.cel j).kids := (Ints.real (hi j hj)).chg hc (fun q hq hm => hq.1.2 (hT q hm).2)
    refine h2.mono (fun q hq => ⟨hq.1.1, fun hm => ?_⟩)
    rcases List.mem_append.1 hm with hm | hm
    · have := (hL q hm).1; have := hq.2; omega
    · exact hq.1.2 hm
  · rcases List.mem_append.1 hq with hq | hq
    · exact (hL q hq).2
    · exact h1.low q hq
/-- what is remembered -/
def MemoOk (n : Nat) (S : StS) (m : Nat → Int) : Prop := ∀ j, j < n → m j = 0 ∨ m j = (S.cel j).high
def HighPost (w : World) (g n : Nat) (S : StS) (v : Int) (e : Ending) (w' : World) : Prop := e = .returned (.int .i64 v) ∧ (∃ m, Arr (Value.int .i64) w' g n 3 m ∧ MemoOk n S m) ∧ Chg [g] w w'
theorem highOf_take {S : StS} {l : List Int} {j : Nat} (h : j < l.length) : S.highOf (l.take (j + 1)) = max (S.highOf (l.take j)) (S.cel l[j]).high := by
  rw [List.take_add_one, List.getElem?_eq_getElem h]
  exact highOf_snoc S _ _
theorem highOf_le {S : StS} {b : Int} (hb : 0 ≤ b) : ∀ l : List Int, (∀ k ∈ l, (S.cel k).high ≤ b) → S.highOf l ≤ b := by
  intro l
  have key : ∀ (l : List Int) (h : Int), h ≤ b → (∀ k ∈ l, (S.cel k).high ≤ b) → l.foldl (fun h k => max h (S.cel k).high) h ≤ b := by
    intro l
    induction l with
    | nil => intro h hh _; exact hh
    | cons k l ih => intro h hh hk; exact ih _ (by have := hk k (by simp); show max h (S.cel k).high ≤ b; omega) (fun q hq => hk q (by simp [hq]))
  exact key l 0 hb
theorem highOf_ge {S : StS} (l : List Int) : 0 ≤ S.highOf l := by
  have key : ∀ (l : List Int) (h : Int), 0 ≤ h → 0 ≤ l.foldl (fun h k => max h (S.cel k).high) h := by
    intro l
    induction l with
    | nil => intro h hh; exact hh
    | cons k l ih => intro h hh; exact ih _ (by show 0 ≤ max h (S.cel k).high; omega)
  exact key l 0 (Int.le_refl _)
set_option maxHeartbeats 8000000 in
theorem rhigh_any (D : DevS) (B : RBlk) (S : StS) (n g : Nat) (hn : D.n.toNat = n) (hw : WF n S []) (hE : ExactH S) (hg : g ∉ B.all ∧ g ∈ B.f) : ∀ (f : Nat) (w : World) (m : Nat → Int) (i : Nat), RSt w B S D → Arr (Value.int .i64) w g n 3 m → MemoOk n S m →
    S.has i = true → (S.cel i).high ≤ f →
    Calls Tryz.prog 124 #[.pointer (some ⟨B.s, 0, none⟩), .int .i64 i, .slice (some ⟨g, 0, none⟩) n n] w (HighPost w g n S (S.cel i).high) := by
  intro f
  induction f with
  | zero =>
    intro w m i h hm hok hh hf
    obtain ⟨c, hc⟩ := has_iff.1 hh
    have := (hw.high i c hc).1
    rw [cel_some hc] at hf
    omega
  | succ f ih =>
    intro w m i h hm hok hh hf
    obtain ⟨c, hc⟩ := has_iff.1 hh
    have hhi := hw.high i c hc
    have hi := hw.dom i c hc
    have hin : i < n := by omega
    have c0 := hm.cell i hin
    have H : Hid (RSt w B S D ∧ Arr (Value.int .i64) w g n 3 m ∧ MemoOk n S m) := ⟨h, hm, hok⟩
    have HI : Hid (∀ (w : World) (m : Nat → Int) (i : Nat), RSt w B S D → Arr (Value.int .i64) w g n 3 m → MemoOk n S m → S.has i = true → (S.cel i).high ≤ f →
      Calls Tryz.prog 124 #[.pointer (some ⟨B.s, 0, none⟩), .int .i64 i, .slice (some ⟨g, 0, none⟩) n n] w (HighPost w g n S (S.cel i).high)) := ih
    have hn8 := h.nat
    rw [hn] at hn8
    have hn82 := hn8.2
    obtain ⟨a, k, d0, d1, d2, hki, _⟩ := h.at i (by omega)
    obtain ⟨_, _, _, _, c4, _, _⟩ := h.cell
    rw [hn] at c4
    have hex := hE i c hc
    have hmi := hok i hin
    have gf := hm.frozen i
    rw [cel_some hc] at hf d1 hki hmi ⊢
    clear h hm hok ih hn8 d0 d2
    by_cases h0 : m i = 0
    rotate_left 1
    · have hme : m i = c.high := by
        rcases hmi with h | h
        · exact absurd h h0
        · exact h
      rw [hme] at c0
      obtain ⟨v, hv⟩ : ∃ v, v = c.high := ⟨_, rfl⟩
      rw [← hv] at c0 hhi ⊢
      have hb : (v == 0) = false := by simp; omega
      clear h0 hmi hme hex hf hv
      go_enter Tryz.func124, Tryz.ntmps124
      go_wp2_with fail
      go_ret
      exact ⟨rfl, ⟨m, H.out.2⟩, Chg.refl _ _⟩
    · rw [h0] at c0
      have hl16 := hw.len i c hc
      obtain ⟨l, hl⟩ : ∃ l, l = c.kids := ⟨_, rfl⟩
      obtain ⟨v, hv⟩ : ∃ v, v = c.high := ⟨_, rfl⟩
      have HV : Hid ((S.cel (i : Int)).high = v) := by rw [cel_some hc, hv]; exact rfl
      have HK0 : Hid (∀ q (hq : q < l.length), S.has l[q] = true ∧ (S.cel l[q]).high ≤ f) := fun q hq => by
        have hmem : l[q] ∈ c.kids := by rw [← hl]; exact List.getElem_mem hq
        have h1 := hw.kids i c hc _ hmem
        obtain ⟨d, hd⟩ := has_iff.1 h1
        have h2 := hw.below i c _ d hc hmem hd
        rw [cel_some hd]
        exact ⟨h1, by omega⟩
      have HHI : Hid (∀ q (hq : q < l.length), 1 ≤ (S.cel l[q]).high ∧ (S.cel l[q]).high ≤ 64) := fun q hq => by
        have hmem : l[q] ∈ c.kids := by rw [← hl]; exact List.getElem_mem hq
        obtain ⟨d, hd⟩ := has_iff.1 (hw.kids i c hc _ hmem)
        rw [cel_some hd]
        exact hw.high _ d hd
      have HKD : Hid (∀ q (hq : q < l.length), 2 ≤ l[q] ∧ l[q] < n) := fun q hq => by
        have hmem : l[q] ∈ c.kids := by rw [← hl]; exact List.getElem_mem hq
        obtain ⟨d, hd⟩ := has_iff.1 (hw.kids i c hc _ hmem)
        exact hw.dom _ d hd
      rw [← hl] at d1 hki hl16 hex
      rw [← hv] at hhi hex ⊢
      have HEX : Hid (v = S.highOf l + 1) := hex
      have HK : Hid (Ints B.out w (.slice a l.length k) l) := hki
      have HBG : Hid (∀ q, B.out q → q ∉ [g]) := fun q hq hm => hq.2 (by simp at hm; subst hm; exact hg.2)
      have HOFF : Hid (∀ w', Chg [g] w w' → RSt w' B S D) := fun w' hc => H.out.1.off hc (fun t ht => by simp at ht; subst ht; exact hg)
      clear h0 hmi hex hf hv hl hki hi hc
      go_enter Tryz.func124, Tryz.ntmps124
      go_wp2_with fail
      clear c0 d1 c4 gf
      go_loopw [7, 24] (fun v7 v24 wr => ∃ (j : Nat) (h : Int), j ≤ l.length ∧ v7 = .int .i64 h ∧ v24 = .int .i64 j ∧ 0 ≤ h ∧ h ≤ 64 ∧ Hid (h = S.highOf (l.take j) ∧ (∃ m, Arr (Value.int .i64) wr g n 3 m ∧ MemoOk n S m) ∧ Chg [g] w wr)) (fun _ v24 _ => l.length - (intOf v24).toNat)
      case atStart => exact ⟨0, 0, by omega, rfl, rfl, by omega, by omega, rfl, ⟨m, H.out.2⟩, Chg.refl _ _⟩
      case round =>
        obtain ⟨j, h, hj, rfl, rfl, hh0, hh1, HT⟩ := hrel
        by_cases hjl : j < l.length
        · obtain ⟨b, o, ha, _, hcj⟩ := ints_item (Ints.chg HK.out HT.out.2.2 HBG.out) j hjl
          subst ha
          obtain ⟨hk1, hk2⟩ := HK0.out j hjl
          have hk3 := HHI.out j hjl
          have hk4 := HKD.out j hjl
          have hnx := highOf_take (S := S) hjl
          obtain ⟨kj, hkj⟩ : ∃ kj : Nat, l[j] = (kj : Int) := ⟨(l[j]).toNat, by omega⟩
          rw [hkj] at hcj hk1 hk2 hk3 hnx
          obtain ⟨m1, hm1, hm2⟩ := HT.out.2.1
          have hcall := HI.out wr m1 kj (HOFF.out wr HT.out.2.2) hm1 hm2 hk1 hk2
          obtain ⟨hv, hhv⟩ : ∃ hv, hv = (S.cel (kj : Int)).high := ⟨_, rfl⟩
          rw [← hhv] at hcall hk3 hnx
          have HNX : Hid (S.highOf (l.take (j + 1)) = max h hv) := by rw [hnx, HT.out.1]; exact rfl
          obtain ⟨hk5, hk6⟩ := hk3
          clear hk1 hk2 hk4 hnx hkj hm1 hm2 hhv
          go_wp2_with (first
            | (go_at_call 124; refine hcall.mono ?_; rintro e w4 ⟨rfl, hm4, hc4⟩; have H4 : Hid ((∃ m, Arr (Value.int .i64) w4 g n 3 m ∧ MemoOk n S m) ∧ Chg [g] w w4) := ⟨hm4, HT.out.2.2.trans hc4⟩; clear hm4 hc4 hcall)
            | fail)
          go_roundw
          case rel => exact ⟨j + 1, max h hv, by omega, rfl, by go_num, by omega, by omega, HNX.out.symm, H4.out⟩
          case measure => simp [intOf]; omega
        · have hjl2 : j = l.length := by omega
          subst hjl2
          have hv1 : h + 1 = v := by
            have h1 := HT.out.1
            rw [List.take_length] at h1
            rw [HEX.out, h1]
          obtain ⟨m1, hm1, hm2⟩ := HT.out.2.1
          have e0 := hm1.cell i hin
          have ef := hm1.frozen i
          have H5 : Hid ((∃ m, Arr (Value.int .i64) (wr.setCell ⟨g, i, none⟩ (.int .i64 v)) g n 3 m ∧ MemoOk n S m) ∧ Chg [g] w (wr.setCell ⟨g, i, none⟩ (.int .i64 v))) := by
            refine ⟨⟨_, hm1.set i v, fun q hq => ?_⟩, HT.out.2.2.setCell _ _ (.inl (by simp))⟩
            by_cases hqi : q = i
            · subst hqi
              rw [updN_same]
              exact .inr HV.out.symm
            · rw [updN_other _ _ _ hqi]; exact hm2 q hq
          have hwr : IntKind.i64.wrap (h + 1) = v := by rw [IntKind.wrap_i64]; omega
          have z0 : (wr.setCell ⟨g, i, none⟩ (.int .i64 v)).cell? ⟨g, i, none⟩ = some (.int .i64 v) := by
            have := (hm1.set i v).cell i hin
            rw [updN_same] at this
            exact this
          clear hm1 hm2
          go_wp2_with fail
          go_ret
          exact ⟨rfl, H5.out⟩
set_option maxHeartbeats 2000000 in
/-- High -/
theorem rHigh_any (w : World) (B : RBlk) (S : StS) (D : DevS) (n : Nat) (i : Int) (h : RSt w B S D) (hn : D.n.toNat = n) (hw : WF n S []) (hE : ExactH S) (hh : S.has i = true) :
    Calls Tryz.prog 109 #[.pointer (some ⟨B.s, 0, none⟩), .int .i64 i] w fun e w' => e = .returned (.int .i64 (S.cel i).high) ∧ Below w.heap.size w w' := by
  have hd := h.dom i hh
  obtain ⟨j, rfl⟩ := Int.eq_ofNat_of_zero_le hd.1
  have hnat := h.nat
  rw [hn] at hnat
  have h82 := hnat.2
  obtain ⟨_, _, _, _, c4, _, _⟩ := h.cell
  rw [hn] at c4
  have hm2 := run_make_row' (P := Tryz.prog) 23 3 (.int .i64 0) 8 Tryz.underlying23 info_int rfl .i64 .i64 n (by omega) (by omega)
  have hb1 : Below w.heap.size w (w.alloc (.cells (madeCells #[.int .i64 0] n) 3)) := (Below.refl _ _).alloc (Nat.le_refl _) _
  have hg1 := h.guard (L := [w.heap.size]) (T := []) (Chg.of_below hb1) (by simp) (fun q hq => by simp at hq; subst hq; simp)
  have harr : Arr (Value.int .i64) (w.alloc (.cells (madeCells #[.int .i64 0] n) 3)) w.heap.size n 3 (fun _ => 0) := made_arr (enc := Value.int .i64) (z := 0) (heap_alloc_last _ _) (fun _ _ => rfl)
  have hhi : (S.cel (j : Int)).high ≤ 64 := by
    obtain ⟨c, hc⟩ := has_iff.1 hh
    rw [cel_some hc]; exact (hw.high _ c hc).2
  have hcall := rhigh_any D { B with f := [w.heap.size] ++ B.f } S n w.heap.size hn hw hE ⟨fun hm => by have := h.lt _ hm; omega, by simp⟩ 64 _ _ j hg1 harr (fun _ _ => .inl rfl) hh hhi
  have HC : Hid _ := hcall
  have HB : Hid (Below w.heap.size w (w.alloc (.cells (madeCells #[.int .i64 0] n) 3))) := hb1
  clear h hw hE hh hd hn hnat hb1 hg1 harr hhi hcall
  go_enter Tryz.func109, Tryz.ntmps109
  go_wp2_with fail
  refine Calls.mono HC.out ?_
  rintro e w2 ⟨rfl, _, hc⟩
  have H2 : Hid (Below w.heap.size w w2) := HB.out.trans (hc.below HB.out.size (fun q hq => by simp at hq; omega))
  clear hc hm2 c4
  go_wp2_with fail
  go_ret
  exact ⟨rfl, H2.out⟩
end Go.Proofs.YtanpkghdgdkdlaaGreat.Sto

/- Layer 6: the reference's Get and Put. -/
namespace Go.Proofs.YtanpkghdgdkdlaaGreat.Sto
set_option linter.unusedVariables false
set_option linter.unusedSimpArgs false
set_option maxRecDepth 100000
open Go.RowKit Go.Lib Go.Proofs.YtanpkghdgdkdlaaGreat.Mem Go.Proofs.YtanpkghdgdkdlaaGreat.Oct Go.Proofs.YtanpkghdgdkdlaaGreat.Dev

/-- 'append([]int{}, l...)' in a region that draws its order -/
theorem step_copy {ops : Array Oper} {o : Oper} {a : Act} {w : World} {K : Act → World → Prop} {Q : Exit → Act → World → Prop} {E : Prop} (hgd : o.guard = none) (s x : Operand)
    (ho : o.op = .call { callee := .builtin .append, args := #[s, x], argTypes := #[23, 23] }) {g cap : Nat} {vx : Value} {ks : List Int} {p : Nat → Prop}
    (hs : a.eval s = .slice (some ⟨g, 0, none⟩) 0 cap) (hq : Que g w (.slice (some ⟨g, 0, none⟩) 0 cap) []) (hvx : a.eval x = vx) (hx : Ints p w vx ks) (hl : ks.length ≤ 1048576)
    (h : ∀ a' c' w', Ints (fun q => q = g ∨ q = w.heap.size) w' (.slice a' ks.length c') ks → Chg [g] w w' → K (a.put o.dst (.slice a' ks.length c')) w') : if Region.wanted o (yielded ops a.tmps) = true then Oper.wp Tryz.prog o a w K Q else E := by
  have hw : Region.wanted o (yielded ops a.tmps) = true := by simp [Region.wanted, hgd]
  rw [if_pos hw]
  obtain ⟨i0, hi, hz0, hz1, hz2⟩ := info_parts info_int
  have key : ∃ a' c' w', (Builtin.append_ #[23, 23] o.type #[.slice (some ⟨g, 0, none⟩) 0 cap, vx]).run Tryz.prog w = .ok (.slice a' ks.length c') w' ∧ Ints (fun q => q = g ∨ q = w.heap.size) w' (.slice a' ks.length c') ks ∧ Chg [g] w w' := by
    rcases hx with ⟨rfl, a0, c0, rfl⟩ | ⟨b, ob, c0, rfl, _, hm, hc⟩
    · have hsrc : Src Tryz.prog i0.size 23 (.slice a0 0 c0) 0 [] w := by
        cases a0 with
        | none => exact Src.ofNil w Tryz.underlying23 c0
        | some ad => exact Src.ofSlice w Tryz.underlying23 ad 0 c0 [] (by simp) (fun j u hj => by simp at hj) (fun u hu => by cases hu)
      have hr := run_append_room_src (P := Tryz.prog) w 23 23 o.type 3 i0 Tryz.underlying23 hi g 0 0 cap _ 0 [] hsrc (Nat.zero_le _) (fun j hj => by simp at hj) (fun j hj => by simp at hj)
      exact ⟨_, _, _, hr, .inl ⟨rfl, _, _, rfl⟩, chg_setCells g [] _ w⟩
    · obtain ⟨v', w', g', hr, h1, h2, h3⟩ := hq.append (ks := ks) (.inr ⟨b, ob, c0, rfl, hc⟩) (by simpa using hl) o.type
      obtain ⟨off, cp, cur, rfl, hb, _, _, h5, h6⟩ := h1
      refine ⟨_, _, w', by simpa using hr, .inr ⟨g', off, cp, rfl, h3, by omega, fun j hj => ?_⟩, h2⟩
      rw [cell_at hb]
      simpa using h6 j (by simpa using hj)
  obtain ⟨a', c', w', hr, h1, h2⟩ := key
  unfold Oper.wp execOp
  simp only [ho, resolve, invoke, builtin, Sem.run_bind, Sem.run_pure, Result.andThen_ok, List.map_toArray, List.map_cons, List.map_nil, hs, hvx, hr]
  exact h _ _ _ h1 h2
set_option maxHeartbeats 4000000 in
/-- Get -/
theorem rget_any (w : World) (B : RBlk) (S : StS) (D : DevS) (i : Int) (h : RSt w B S D) :
    Calls Tryz.prog 69 #[.pointer (some ⟨B.s, 0, none⟩), .int .i64 i] w fun e w' => ∃ (a : Option Addr) (m c : Nat) (d : ByteArray), e = .returned (.tuple #[.agg #[.slice a m c, .string d], .int .i64 (S.getR D i).1]) ∧ BlockIs w.heap.size w' (.slice a m c) d (S.getR D i).2 ∧ Below w.heap.size w w' := by
  have hb0 : Below w.heap.size w (w.alloc (.cells #[.slice none 0 0, .string ⟨#[]⟩] 58)) := (Below.refl _ _).alloc (Nat.le_refl _) _
  have hbox : (w.alloc (.cells #[.slice none 0 0, .string ⟨#[]⟩] 58)).heap[w.heap.size]? = some (.cells #[.slice none 0 0, .string ⟨#[]⟩] 58 (0, 0)) := heap_alloc_last _ _
  have H : Hid (RSt (w.alloc (.cells #[.slice none 0 0, .string ⟨#[]⟩] 58)) B S D) := h.on hb0
  have HB : Hid (Below w.heap.size w (w.alloc (.cells #[.slice none 0 0, .string ⟨#[]⟩] 58)) ∧ (w.alloc (.cells #[.slice none 0 0, .string ⟨#[]⟩] 58)).heap[w.heap.size]? = some (.cells #[.slice none 0 0, .string ⟨#[]⟩] 58 (0, 0))) := ⟨hb0, hbox⟩
  have hdom := h.dom i
  have hnat := h.nat
  have hsm := h.small
  clear h hb0 hbox
  go_enter Tryz.func69, Tryz.ntmps69
  cases hh : S.has i with
  | false =>
    have hg : Hid (S.getR D i = (22, none)) := by rw [StS.getR, if_neg (by rw [hh]; exact Bool.false_ne_true)]; exact rfl
    go_wp2_with fail
    generalize w.alloc (.cells #[.slice none 0 0, .string ⟨#[]⟩] 58) = w1 at H HB ⊢
    refine (rhas_any w1 B S D i H.out).mono ?_
    rintro e w1' ⟨rfl, rfl⟩
    rw [hh]
    have x0 : w1.cell? ⟨w.heap.size, 0, none⟩ = some (.slice none 0 0) := cell_at HB.out.2 0
    have x1 : w1.cell? ⟨w.heap.size, 1, none⟩ = some (.string ⟨#[]⟩) := cell_at HB.out.2 1
    have xf : ∀ o, w1.frozen? ⟨w.heap.size, o, none⟩ = false := frozen_at HB.out.2
    go_wp2_with fail
    have hs := heap_set_at (heap_set_at HB.out.2 0 (.slice none 0 0)) 1 (.string ⟨#[]⟩)
    refine bodyPost_ret (results_cell_tmp Tryz.results69 _ _ w.heap.size 58 #[.slice none 0 0, .string ⟨#[]⟩] (0, 0) _ rfl hs Tryz.underlying58 rfl (by kernel_rfl)) rfl ?_
    refine ⟨none, 0, 0, ⟨#[]⟩, ?_, ?_, (HB.out.1.setCell (by simp) _).setCell (by simp) _⟩
    · rw [hg.out]; rfl
    · rw [hg.out]; exact ⟨rfl, rfl⟩
  | true =>
    have hi := hdom hh
    have hg : Hid (S.getR D i = readP D i) := by rw [StS.getR, if_pos hh]; exact rfl
    obtain ⟨n, hn⟩ : ∃ n, n = D.n.toNat := ⟨_, rfl⟩
    have hDn : D.n = (n : Int) := by omega
    have h82 : 8 ≤ n ∧ n ≤ 4096 := by omega
    have HSZ : Hid ((D.read i).size ≤ 140737488351232 ∧ D.n = (n : Int) ∧ D.n.toNat = n) := ⟨by have := read_size hsm i; omega, hDn, hn.symm⟩
    clear hdom hsm hnat hn hDn
    go_wp2_with fail
    generalize w.alloc (.cells #[.slice none 0 0, .string ⟨#[]⟩] 58) = w1 at H HB ⊢
    refine (rhas_any w1 B S D i H.out).mono ?_
    rintro e w1' ⟨rfl, rfl⟩
    rw [hh]
    obtain ⟨_, _, _, c3, c4, _, _⟩ := H.out.cell
    rw [HSZ.out.2.2] at c4
    have x0 : w1.cell? ⟨w.heap.size, 0, none⟩ = some (.slice none 0 0) := cell_at HB.out.2 0
    have x1 : w1.cell? ⟨w.heap.size, 1, none⟩ = some (.string ⟨#[]⟩) := cell_at HB.out.2 1
    have xf : ∀ o, w1.frozen? ⟨w.heap.size, o, none⟩ = false := frozen_at HB.out.2
    by_cases hre : D.readE i = 0
    rotate_left 1
    · have hrp : Hid (readP D i = (D.readE i, none)) := by unfold readP; exact if_neg hre
      have hb : (D.readE i != 0) = true := by simpa using hre
      go_wp2_with (first
        | (go_at_call 50; refine (rread_any w1 B.x B.xk B.xd B.xi D i H.out.dev).mono ?_; rintro e w2 ⟨rfl, rfl⟩)
        | fail)
      have hs := heap_set_at (heap_set_at HB.out.2 0 (.slice none 0 0)) 1 (.string ⟨#[]⟩)
      refine bodyPost_ret (results_cell_tmp Tryz.results69 _ _ w.heap.size 58 #[.slice none 0 0, .string ⟨#[]⟩] (0, 0) _ rfl hs Tryz.underlying58 rfl (by kernel_rfl)) rfl ?_
      refine ⟨none, 0, 0, ⟨#[]⟩, ?_, ?_, (HB.out.1.setCell (by simp) _).setCell (by simp) _⟩
      · rw [hg.out, hrp.out]; rfl
      · rw [hg.out, hrp.out]; exact ⟨rfl, rfl⟩
    · go_wp2_with (first
        | (go_at_call 50; refine (rread_any w1 B.x B.xk B.xd B.xi D i H.out.dev).mono ?_; rintro e w2 ⟨rfl, rfl⟩; rw [hre])
        | fail)
      clear c3 c4
      refine (rblock_any (D.read i) n w1 HSZ.out.1).mono ?_
      rintro e w3 ⟨v, rfl, hown, hb3⟩
      have hbx : Below w.heap.size w w3 := HB.out.1.trans (hb3.mono HB.out.1.size)
      have hx3 : w3.heap[w.heap.size]? = some (.cells #[.slice none 0 0, .string ⟨#[]⟩] 58 (0, 0)) := (hb3.block _ (heap_lt HB.out.2)).trans HB.out.2
      clear x0 x1 xf
      cases hgp : getP (D.read i) (n : Int) with
      | none =>
        have hrp : Hid (readP D i = (5, none)) := by unfold readP; rw [if_pos hre, HSZ.out.2.1, hgp]; exact rfl
        have hbr : blkR (D.read i) n = (([], ⟨#[]⟩), false) := by unfold blkR; rw [hgp]
        rw [hbr] at hown ⊢
        obtain ⟨a, c, rfl⟩ := hown.form
        dsimp only at hown ⊢
        obtain ⟨w4, hw4⟩ : ∃ w4, w4 = w3.alloc (.cells #[.slice a 0 c, .string ⟨#[]⟩] 58) := ⟨_, rfl⟩
        have hb4 : Below w3.heap.size w3 w4 := by rw [hw4]; exact (Below.refl _ _).alloc (Nat.le_refl _) _
        have hx4 : w4.heap[w.heap.size]? = some (.cells #[.slice none 0 0, .string ⟨#[]⟩] 58 (0, 0)) := (hb4.block _ (heap_lt hx3)).trans hx3
        have HX : Hid (Below w.heap.size w w4 ∧ w4.heap[w.heap.size]? = some (.cells #[.slice none 0 0, .string ⟨#[]⟩] 58 (0, 0))) := ⟨hbx.trans (hb4.mono hbx.size), hx4⟩
        have x0 : w4.cell? ⟨w.heap.size, 0, none⟩ = some (.slice none 0 0) := cell_at hx4 0
        have x1 : w4.cell? ⟨w.heap.size, 1, none⟩ = some (.string ⟨#[]⟩) := cell_at hx4 1
        have xf : ∀ o, w4.frozen? ⟨w.heap.size, o, none⟩ = false := frozen_at hx4
        rw [hw4] at x0 x1 xf
        clear hown hbx hx3 hb4 hx4 hgp hbr hb3
        go_wp2_with fail
        rw [← hw4]
        have hs := heap_set_at (heap_set_at HX.out.2 0 (.slice none 0 0)) 1 (.string ⟨#[]⟩)
        refine bodyPost_ret (results_cell_tmp Tryz.results69 _ _ w.heap.size 58 #[.slice none 0 0, .string ⟨#[]⟩] (0, 0) _ rfl hs Tryz.underlying58 rfl (by kernel_rfl)) rfl ?_
        refine ⟨none, 0, 0, ⟨#[]⟩, ?_, ?_, (HX.out.1.setCell (by simp) _).setCell (by simp) _⟩
        · rw [hg.out, hrp.out]; rfl
        · rw [hg.out, hrp.out]; exact ⟨rfl, rfl⟩
      | some q =>
        obtain ⟨l, d⟩ := q
        have hrp : Hid (readP D i = (0, some (l, d))) := by unfold readP; rw [if_pos hre, HSZ.out.2.1, hgp]; exact rfl
        have hbr : blkR (D.read i) n = ((l, d), true) := by unfold blkR; rw [hgp]
        rw [hbr] at hown ⊢
        obtain ⟨a, c, rfl⟩ := hown.form
        dsimp only at hown ⊢
        obtain ⟨w4, hw4⟩ : ∃ w4, w4 = w3.alloc (.cells #[.slice a l.length c, .string d] 58) := ⟨_, rfl⟩
        have hb4 : Below w3.heap.size w3 w4 := by rw [hw4]; exact (Below.refl _ _).alloc (Nat.le_refl _) _
        have hx4 : w4.heap[w.heap.size]? = some (.cells #[.slice none 0 0, .string ⟨#[]⟩] 58 (0, 0)) := (hb4.block _ (heap_lt hx3)).trans hx3
        have ho4 : OwnI w1.heap.size w4 (.slice a l.length c) l := by rw [hw4]; exact hown.alloc _
        have HX : Hid (Below w.heap.size w w4 ∧ w4.heap[w.heap.size]? = some (.cells #[.slice none 0 0, .string ⟨#[]⟩] 58 (0, 0)) ∧ OwnI w1.heap.size w4 (.slice a l.length c) l ∧ w.heap.size < w1.heap.size) := ⟨hbx.trans (hb4.mono hbx.size), hx4, ho4, heap_lt HB.out.2⟩
        have x0 : w4.cell? ⟨w.heap.size, 0, none⟩ = some (.slice none 0 0) := cell_at hx4 0
        have x1 : w4.cell? ⟨w.heap.size, 1, none⟩ = some (.string ⟨#[]⟩) := cell_at hx4 1
        have xf : ∀ o, w4.frozen? ⟨w.heap.size, o, none⟩ = false := frozen_at hx4
        rw [hw4] at x0 x1 xf
        clear hown hbx hx3 hb4 hx4 ho4 hgp hbr hb3
        go_wp2_with fail
        rw [← hw4]
        have hs := heap_set_at (heap_set_at HX.out.2.1 0 (.slice a l.length c)) 1 (.string d)
        refine bodyPost_ret (results_cell_tmp Tryz.results69 _ _ w.heap.size 58 #[.slice a l.length c, .string d] (0, 0) _ rfl hs Tryz.underlying58 rfl (by kernel_rfl)) rfl ?_
        refine ⟨a, l.length, c, d, ?_, ?_, (HX.out.1.setCell (by simp) _).setCell (by simp) _⟩
        · rw [hg.out, hrp.out]; rfl
        · rw [hg.out, hrp.out]
          have hlt := HX.out.2.2.2
          exact ⟨rfl, (HX.out.2.2.1.chg (((Chg.refl [w.heap.size] w4).setCell ⟨w.heap.size, 0, none⟩ (.slice a l.length c) (.inl (by simp))).setCell ⟨w.heap.size, 1, none⟩ (.string d) (.inl (by simp))) (fun t ht => by simp at ht; omega)).mono (Nat.le_of_lt hlt)⟩
/-! ### Put -/
theorem free_at {S : StS} {n j : Nat} (h2 : 2 ≤ j) (hj : j < n) (hf : S.freeAt j = true) (hno : ∀ q : Nat, 2 ≤ q → q < j → S.freeAt q = false) : S.free (n : Int) = j := by
  have key : ∀ (k i : Nat), 2 ≤ i → i ≤ j → j < i + k → S.freeGo (n : Int) k (i : Int) = j := by
    intro k
    induction k with
    | zero => intro i _ _ h; omega
    | succ k ih =>
      intro i h1 h3 h4
      rw [StS.freeGo, if_pos (by omega)]
      by_cases hij : i = j
      · subst hij; rw [if_pos hf]
      · rw [if_neg (by rw [hno i h1 (by omega)]; decide)]
        have := ih (i + 1) (by omega) (by omega) (by omega)
        rw [← this]
        congr 1
  have := key n 2 (by omega) h2 (by omega)
  unfold StS.free
  rw [show ((n : Int)).toNat = n by omega]
  exact this
theorem free_zero {S : StS} {n : Nat} (hno : ∀ q : Nat, 2 ≤ q → q < n → S.freeAt q = false) : S.free (n : Int) = 0 := by
  have key : ∀ (k i : Nat), 2 ≤ i → S.freeGo (n : Int) k (i : Int) = 0 := by
    intro k
    induction k with
    | zero => intro i _; rfl
    | succ k ih =>
      intro i h1
      rw [StS.freeGo]
      by_cases hin : (i : Int) < (n : Int)
      · rw [if_pos hin, if_neg (by rw [hno i h1 (by omega)]; decide)]
        have := ih (i + 1) (by omega)
        rw [← this]
        congr 1
      · rw [if_neg hin]
  exact key _ 2 (by omega)
theorem put_view {S : StS} {kids : List Int} {i h : Int} (hk : ∀ k ∈ kids, S.has k = true) : View (S.setC i (some ⟨0, 0, 0, kids⟩)) ((S.names kids).setC i (some ⟨0, 0, h, kids⟩)) := by
  have hf := fade_names kids S hk
  have hn := names_has kids S hk
  have hc : ∀ x, ((S.names kids).cel x).kids = (S.cel x).kids ∧ ((S.names kids).cel x).held = (S.cel x).held := fun x => by
    have v := view_of (Fade.refl S) hf (fun j => (hn j).symm)
    exact ⟨v.kids x, v.held x⟩
  refine ⟨hf.gen, hf.root, hf.note, fun x => by show (S.names kids).kept x = S.kept x; rw [hf.kept], fun x => ?_, fun x => ?_, fun x => ?_⟩
  · by_cases hx : x = i
    · subst hx; rw [setC_has, setC_has]; rfl
    · rw [setC_has' _ _ hx, setC_has' _ _ hx]; exact hn x
  · by_cases hx : x = i
    · subst hx; rw [setC_cel, setC_cel]; rfl
    · rw [setC_cel' _ _ hx, setC_cel' _ _ hx]; exact (hc x).1
  · by_cases hx : x = i
    · subst hx; rw [setC_cel, setC_cel]; rfl
    · rw [setC_cel' _ _ hx, setC_cel' _ _ hx]; exact (hc x).2
def RPutPost (w : World) (B : RBlk) (r : Int × Int × StS × DevS) (e : Ending) (w' : World) : Prop := e = .returned (.tuple #[.int .i64 r.1, .int .i64 r.2.1]) ∧ RSt w' B r.2.2.1 r.2.2.2 ∧ Chg B.all w w'
theorem RBlk.dev_mem (B : RBlk) : ∀ q ∈ [B.x, B.xk, B.xd, B.xi], q ∈ B.all := fun q hq => by
  simp only [List.mem_cons, List.mem_nil_iff, or_false] at hq
  rcases hq with rfl | rfl | rfl | rfl <;> simp [RBlk.all]
set_option maxHeartbeats 16000000 in
theorem rput_st (w : World) (B : RBlk) (S : StS) (D : DevS) (v : Value) (kids : List Int) (data : ByteArray) (n : Nat) (h : RSt w B S D) (hn : D.n.toNat = n) (hw : WF n S []) (hE : ExactH S) (hi : Ints (· ∉ B.all) w v kids) :
    Calls Tryz.prog 71 #[.pointer (some ⟨B.s, 0, none⟩), v, .string data] w (RPutPost w B (putOut S D kids data)) := by
  obtain ⟨a, c, rfl, hlen, _⟩ := hi.form
  obtain ⟨R, hR⟩ : ∃ R, R = putOut S D kids data := ⟨_, rfl⟩
  rw [← hR]
  have hnat := h.nat
  rw [hn] at hnat
  have h82 := hnat.2
  have H : Hid (RSt w B S D ∧ Ints (· ∉ B.all) w (.slice a kids.length c) kids ∧ WF n S [] ∧ ExactH S ∧ D.n.toNat = n ∧ D.n = (n : Int)) := ⟨h, hi, hw, hE, hn, by omega⟩
  by_cases hb1 : 16 < kids.length
  · have HR : Hid (R = (0, 22, S, D)) := by rw [hR, putOut, if_pos (.inl hb1)]; exact rfl
    clear h hi hw hE hn hnat hR
    go_enter Tryz.func71, Tryz.ntmps71
    go_wp2_with fail
    go_ret2
    rw [HR.out]
    exact ⟨rfl, H.out.1, Chg.refl _ _⟩
  · by_cases hb2 : 3900 < data.size
    · have HR : Hid (R = (0, 22, S, D)) := by rw [hR, putOut, if_pos (.inr (.inl hb2))]; exact rfl
      clear h hi hw hE hn hnat hR
      go_enter Tryz.func71, Tryz.ntmps71
      go_wp2_with fail
      go_ret2
      rw [HR.out]
      exact ⟨rfl, H.out.1, Chg.refl _ _⟩
    · have HBAD : Hid (kids.any S.badKid = true → R = (0, 22, S, D)) := fun hb => by rw [hR, putOut, if_pos (.inr (.inr hb))]
      have HGO : Hid (kids.any S.badKid = false → R = if S.free D.n = 0 then (0, 28, S, D)
          else if D.writeE (S.free D.n) (blockB kids data) ≠ 0 then (0, D.writeE (S.free D.n) (blockB kids data), S, D.write (S.free D.n) (blockB kids data))
          else (S.free D.n, 0, (S.names kids).setC (S.free D.n) (some ⟨0, 0, S.highOf kids + 1, kids⟩), D.write (S.free D.n) (blockB kids data))) := fun hb => by
        rw [hR, putOut, if_neg (fun h => by
          rcases h with h | h | h
          · exact hb1 h
          · exact hb2 h
          · rw [hb] at h; cases h)]
      clear h hi hw hE hn hnat hR
      go_enter Tryz.func71, Tryz.ntmps71
      go_wp2_with fail
      go_loopw [22] (fun v22 wr => ∃ j : Nat, j ≤ kids.length ∧ v22 = .int .i64 j ∧ Hid (Below w.heap.size w wr ∧ ∀ q (hq : q < kids.length), q < j → S.badKid kids[q] = false)) (fun v22 _ => kids.length - (intOf v22).toNat)
      case atStart => exact ⟨0, by omega, rfl, Below.refl _ _, fun q hq h => by omega⟩
      case round =>
        obtain ⟨j, hj, rfl, HT⟩ := hrel
        by_cases hjl : j < kids.length
        · obtain ⟨b, o, ha, _, hcj⟩ := ints_item (Ints.on H.out.2.1 HT.out.1) j hjl
          subst ha
          have HB : Hid (S.badKid kids[j] = true → R = (0, 22, S, D)) := fun hb => HBAD.out (List.any_eq_true.2 ⟨_, List.getElem_mem hjl, hb⟩)
          have HNB : Hid (S.badKid kids[j] = false → ∀ q (hq : q < kids.length), q < j + 1 → S.badKid kids[q] = false) := fun hb q hq hq1 => by
            by_cases hqj : q = j
            · subst hqj; exact hb
            · exact HT.out.2 q hq (by omega)
          obtain ⟨kj, hkj⟩ : ∃ kj, kj = kids[j] := ⟨_, rfl⟩
          rw [← hkj] at hcj HB HNB
          clear hkj
          cases hh : S.has kj with
          | false =>
            have HR : Hid (R = (0, 22, S, D)) := HB.out (by simp [StS.badKid, hh])
            clear HB HNB HBAD HGO
            go_wp2_with (first
              | (go_at_call 57; refine (rhas_any _ B S D _ (H.out.1.on HT.out.1)).mono ?_; rintro e w1 ⟨rfl, rfl⟩; rw [hh])
              | fail)
            go_ret2
            rw [HR.out]
            exact ⟨rfl, H.out.1.on HT.out.1, Chg.of_below HT.out.1⟩
          | true =>
            have hcall := rHigh_any wr B S D n kj (H.out.1.on HT.out.1) H.out.2.2.2.2.1 H.out.2.2.1 H.out.2.2.2.1 hh
            have HHB : Hid ((63 < (S.cel kj).high → S.badKid kj = true) ∧ (¬ 63 < (S.cel kj).high → S.badKid kj = false)) := by
              refine ⟨fun h => ?_, fun h => ?_⟩
              · simp [StS.badKid]; right; omega
              · simp [StS.badKid, hh]; omega
            obtain ⟨hv, hhv⟩ : ∃ hv, hv = (S.cel kj).high := ⟨_, rfl⟩
            rw [← hhv] at hcall HHB
            clear hhv
            by_cases h63 : 63 < hv
            · have HR : Hid (R = (0, 22, S, D)) := HB.out (HHB.out.1 h63)
              clear HB HNB HHB HBAD HGO
              go_wp2_with (first
                | (go_at_call 57; refine (rhas_any _ B S D _ (H.out.1.on HT.out.1)).mono ?_; rintro e w1 ⟨rfl, rfl⟩; rw [hh])
                | (go_at_call 109; refine hcall.mono ?_; rintro e w2 ⟨rfl, hb2⟩; have H2 : Hid (Below w.heap.size w w2) := HT.out.1.trans (hb2.mono HT.out.1.size); clear hb2 hcall)
                | fail)
              go_ret2
              rw [HR.out]
              exact ⟨rfl, H.out.1.on H2.out, Chg.of_below H2.out⟩
            · have HNX : Hid (∀ q (hq : q < kids.length), q < j + 1 → S.badKid kids[q] = false) := HNB.out (HHB.out.2 h63)
              clear HB HNB HHB
              go_wp2_with (first
                | (go_at_call 57; refine (rhas_any _ B S D _ (H.out.1.on HT.out.1)).mono ?_; rintro e w1 ⟨rfl, rfl⟩; rw [hh])
                | (go_at_call 109; refine hcall.mono ?_; rintro e w2 ⟨rfl, hb2⟩; have H2 : Hid (Below w.heap.size w w2) := HT.out.1.trans (hb2.mono HT.out.1.size); clear hb2 hcall)
                | fail)
              go_roundw
              case rel => exact ⟨j + 1, by omega, by go_num, H2.out, HNX.out⟩
              case measure => simp [intOf]; omega
        · have hjl2 : j = kids.length := by omega
          have hgood : ∀ k ∈ kids, S.badKid k = false := fun k hk => by
            obtain ⟨q, hq, rfl⟩ := List.getElem_of_mem hk
            exact HT.out.2 q hq (by omega)
          have hany : kids.any S.badKid = false := by
            rw [List.any_eq_false]
            intro k hk
            rw [hgood k hk]; simp
          have hhas : ∀ k ∈ kids, S.has k = true := fun k hk => by
            have := hgood k hk
            simp [StS.badKid] at this
            exact this.1
          have hbz : blockZ kids data = blockB kids data := blockZ_nat kids data (fun k hk => by
            obtain ⟨ck, hck⟩ := has_iff.1 (hhas k hk)
            have := H.out.2.2.1.dom k ck hck
            omega)
          obtain ⟨bb, hbb⟩ : ∃ bb, bb = blockB kids data := ⟨_, rfl⟩
          have hR := HGO.out hany
          rw [← hbb, H.out.2.2.2.2.2] at hR
          rw [← hbb] at hbz
          have HR : Hid (R = _) := hR
          have HBZ : Hid (blockZ kids data = bb ∧ ∀ k ∈ kids, S.has k = true) := ⟨hbz, hhas⟩
          have H1 : Hid (Below w.heap.size w wr) := HT.out.1
          obtain ⟨_, _, _, _, c4, _, _⟩ := (H.out.1.on HT.out.1).cell
          rw [H.out.2.2.2.2.1] at c4
          subst hjl2
          clear HBAD HGO HT hgood hany hhas hbz hbb hR
          go_wp2_with fail
          clear c4
          go_loopw [42] (fun v42 wr => ∃ j : Nat, j ≤ n ∧ v42 = .int .i64 j ∧ Hid (Below w.heap.size w wr ∧ ∀ q : Nat, 2 ≤ q → q < j → S.freeAt q = false)) (fun v42 _ => n - (intOf v42).toNat)
          case atStart => exact ⟨0, by omega, rfl, H1.out, fun q h1 h2 => by omega⟩
          case round =>
            obtain ⟨i, hi, rfl, HT⟩ := hrel
            by_cases hin : i < n
            · have hst := H.out.1.on HT.out.1
              obtain ⟨aa, kk, d0, _, _, _, d4⟩ := hst.at i (by have := H.out.2.2.2.2.1; omega)
              obtain ⟨_, _, _, c3, c4, c5, _⟩ := hst.cell
              rw [H.out.2.2.2.2.1] at c4 c5
              by_cases hfr : 2 ≤ i ∧ S.freeAt i = true
              · have hh : S.has i = false ∧ S.kept i = false := by
                  have := hfr.2
                  simp [StS.freeAt] at this
                  exact this
                rw [hh.1] at d0
                rw [hh.2] at d4
                have q0 : decide ((1 : Int) < (i : Int)) = true := by simp; omega
                have hfree : S.free (n : Int) = i := free_at hfr.1 hin hfr.2 HT.out.2
                have HR2 : Hid (R = if D.writeE i bb ≠ 0 then (0, D.writeE i bb, S, D.write i bb) else ((i : Int), 0, (S.names kids).setC i (some ⟨0, 0, S.highOf kids + 1, kids⟩), D.write i bb)) := by
                  rw [HR.out, hfree]
                  exact if_neg (by omega)
                have H13 : Hid (RSt wr.drew B S D ∧ Below w.heap.size w wr.drew) := ⟨hst.on ((Below.refl _ _).drew), HT.out.1.drew⟩
                have e3 : wr.drew.cell? ⟨B.s, 3, none⟩ = some (.pointer (some ⟨B.x, 0, none⟩)) := c3
                have HF : Hid (∀ w', Below wr.drew.heap.size wr.drew w' → w'.cell? ⟨B.s, 3, none⟩ = some (.pointer (some ⟨B.x, 0, none⟩))) := fun w' hb => ((H13.out.1.on hb).cell).2.2.2.1
                clear HR hfree hh hst hfr
                go_wp2_with fail
                go_region_held3 (fun w' => w'.cell? ⟨B.s, 3, none⟩ = some (.pointer (some ⟨B.x, 0, none⟩)))
                  (first | exact e3 | exact H5.out.2.2.1 | exact HF.out _ H4.out)
                  (first
                    | (go_at_call 43; refine (rbytes_any _ kids data _ ((Ints.real (Ints.on H.out.2.1 H13.out.2)).mono (fun q hq => hq.2)) (by omega) (by omega)).mono ?_; rintro e w4 ⟨rfl, hb4⟩; have H4 : Hid (Below wr.drew.heap.size wr.drew w4) := hb4; clear hb4; rw [HBZ.out.1])
                    | (go_at_call 12; refine (rwrite_any _ B.x B.xk B.xd B.xi D i bb (H13.out.1.on H4.out).dev).mono ?_; rintro e w5 ⟨rfl, hd5, hc5⟩; have H5 : Hid (RSt w5 B S (D.write i bb) ∧ Chg B.all w w5 ∧ w5.cell? ⟨B.s, 3, none⟩ = some (.pointer (some ⟨B.x, 0, none⟩)) ∧ (D.write i bb).n.toNat = n) := (have h5 := (H13.out.1.on H4.out).dev' hc5 hd5 (write_small H.out.1.small _ _) (write_n _ _ _); ⟨h5, (Chg.of_below (H13.out.2.trans (H4.out.mono H13.out.2.size))).trans (hc5.mono B.dev_mem), h5.cell.2.2.2.1, by rw [write_n]; exact H.out.2.2.2.2.1⟩); clear hd5 hc5)
                    | fail)
                clear e3 HF H4 H13 c3 c4 c5 d0 d4
                obtain ⟨we, hwe⟩ : ∃ we, we = D.writeE i bb := ⟨_, rfl⟩
                obtain ⟨D2, hD2⟩ : ∃ D2, D2 = D.write i bb := ⟨_, rfl⟩
                rw [← hwe, ← hD2] at HR2
                rw [← hD2] at H5
                rw [← hwe]
                clear hwe hD2
                by_cases hw0 : we = 0
                rotate_left 1
                · have HR3 : Hid (R = (0, we, S, D2)) := by rw [HR2.out, if_pos hw0]; exact rfl
                  have hb3 : (we != 0) = true := by simpa using hw0
                  clear HR2 hw0
                  go_wp2_with fail
                  go_ret2
                  rw [HR3.out]
                  exact ⟨rfl, H5.out.1, H5.out.2.1⟩
                · have HR3 : Hid (R = ((i : Int), 0, (S.names kids).setC i (some ⟨0, 0, S.highOf kids + 1, kids⟩), D2)) := by rw [HR2.out]; exact if_neg (fun h => h hw0)
                  subst hw0
                  clear HR2
                  have hk5 : Ints (· ∉ B.all) w5 (.slice a kids.length c) kids := Ints.chg H.out.2.1 H5.out.2.1 (fun q hq => hq)
                  have HK5 : Hid (RSt w5.drew B S D2 ∧ Ints (· ∉ B.all) w5.drew (.slice a kids.length c) kids ∧ Chg B.all w w5.drew) := ⟨H5.out.1.on ((Below.refl _ _).drew), Ints.on hk5 ((Below.refl _ _).drew), H5.out.2.1.drew⟩
                  have e4 : w5.drew.cell? ⟨B.s, 4, none⟩ = some (.slice (some ⟨B.c, 0, none⟩) n n) := by
                    obtain ⟨_, _, _, _, g4, _, _⟩ := HK5.out.1.cell
                    rw [H5.out.2.2.2] at g4
                    exact g4
                  have HF4 : Hid (∀ w', Below w5.drew.heap.size w5.drew w' → w'.cell? ⟨B.s, 4, none⟩ = some (.slice (some ⟨B.c, 0, none⟩) n n)) := fun w' hb => by
                    obtain ⟨_, _, _, _, g4, _, _⟩ := (HK5.out.1.on hb).cell
                    rw [H5.out.2.2.2] at g4
                    exact g4
                  clear hk5
                  obtain ⟨w6, hw6⟩ : ∃ w6, w6 = w5.drew := ⟨_, rfl⟩
                  have H6 : Hid (w6 = w5.drew) := hw6
                  have HCC : Hid (∀ w', Below w6.heap.size w6 w' → (∃ a0 k0, w'.cell? ⟨B.c, i * 3, none⟩ = some (.bool (S.has i)) ∧ w'.cell? ⟨B.c, i * 3 + 1, none⟩ = some (.slice a0 (S.cel i).kids.length k0) ∧ w'.cell? ⟨B.c, i * 3 + 2, none⟩ = some (.int .i64 (S.cel i).held)) ∧ ∀ o, w'.frozen? ⟨B.c, o, none⟩ = false) := fun w' hb => by
                    rw [hw6] at hb
                    have h9 := HK5.out.1.on hb
                    obtain ⟨a0, k0, g0, g1, g2, _, _⟩ := h9.at i (by have := H5.out.2.2.2; omega)
                    exact ⟨⟨a0, k0, g0, g1, g2⟩, by obtain ⟨k, hk, _⟩ := h9.cells; exact hk.frozen⟩
                  rw [← hw6] at HK5 e4 HF4
                  have HNE : Hid (B.s ≠ B.c) := HK5.out.1.ne.1.1
                  have HE4 : Hid (w6.cell? ⟨B.s, 4, none⟩ = some (.slice (some ⟨B.c, 0, none⟩) n n)) := e4
                  clear hw6 e4
                  go_wp2_with fail
                  have e4 := HE4.out
                  rw [H6.out] at e4
                  have hb6 : Below w6.heap.size w6 (w5.alloc (.cells #[] 3)).drew := by
                    have h0 : Below w6.heap.size w6 (w6.alloc (.cells #[] 3)) := (Below.refl _ _).alloc (Nat.le_refl _) _
                    rw [H6.out] at h0 ⊢
                    exact h0
                  have HB6 : Hid (Below w6.heap.size w6 (w5.alloc (.cells #[] 3)).drew ∧ w6.heap.size = w5.heap.size) := ⟨hb6, by rw [H6.out]; rfl⟩
                  have e4a : (w5.alloc (.cells #[] 3)).drew.cell? ⟨B.s, 4, none⟩ = some (.slice (some ⟨B.c, 0, none⟩) n n) := HF4.out _ hb6
                  have hq6 : Que w5.heap.size (w5.alloc (.cells #[] 3)).drew (.slice (some ⟨w5.heap.size, 0, none⟩) 0 0) [] := ⟨0, 0, #[], rfl, heap_alloc_last w5 _, by simp, by simp, by decide, fun j hj => by simp at hj⟩
                  have hi6 : Ints (· ∉ B.all) (w5.alloc (.cells #[] 3)).drew (.slice a kids.length c) kids := Ints.on HK5.out.2.1 hb6
                  clear hb6
                  go_region_held3 (fun w' => w'.cell? ⟨B.s, 4, none⟩ = some (.slice (some ⟨B.c, 0, none⟩) n n))
                    (first | exact e4 | exact e4a | exact e4b | exact e4c)
                    (first
                      | (refine step_copy rfl _ _ rfl rfl hq6 rfl hi6 (by omega) ?_; intro a9 c9 w9 hi9 hc9; have hb9 : Below w6.heap.size w6 w9 := HB6.out.1.trans (hc9.below HB6.out.1.size (fun q hq => by have := HB6.out.2; simp at hq; omega)); have H9 : Hid (Below w6.heap.size w6 w9 ∧ Ints (fun q => q = w5.heap.size ∨ q = (w5.alloc (.cells #[] 3)).drew.heap.size) w9 (.slice a9 kids.length c9) kids) := ⟨hb9, hi9⟩; have e4b := HF4.out _ hb9; obtain ⟨⟨a0, k0, g0, g1, g2⟩, gf⟩ := HCC.out _ hb9; have e4c : (put3 w9 B.c i (some ⟨0, 0, 0, kids⟩) a9 c9).cell? ⟨B.s, 4, none⟩ = some (.slice (some ⟨B.c, 0, none⟩) n n) := (put3_chg w9 B.c i (some ⟨0, 0, 0, kids⟩) a9 c9).cell (one_ne HNE.out) e4b; clear hi9 hc9 hb9)
                      | fail)
                  have HX : Hid (RSt (put3 w9 B.c i (some ⟨0, 0, 0, kids⟩) a9 c9) B ((S.names kids).setC i (some ⟨0, 0, S.highOf kids + 1, kids⟩)) D2 ∧ Chg B.all w (put3 w9 B.c i (some ⟨0, 0, 0, kids⟩) a9 c9)) := by
                    have h9 := HK5.out.1.on H9.out.1
                    have hlow := HK5.out.1.low
                    have hlt := HK5.out.1.lt
                    have hz := HB6.out.2
                    have hkk : Ints B.out w9 (.slice a9 kids.length c9) kids := H9.out.2.mono (fun q hq => by
                      have hq2 : w6.heap.size ≤ q := by
                        rcases hq with rfl | rfl
                        · omega
                        · exact HB6.out.1.size
                      exact ⟨fun hm => by have := hlt q hm; omega, fun hm => by have := hlow q hm; omega⟩)
                    have hp := h9.put i (by have := H5.out.2.2.2; omega) (some ⟨0, 0, 0, kids⟩) a9 c9 hkk
                    exact ⟨hp.view (put_view HBZ.out.2), (HK5.out.2.2.trans (Chg.of_below H9.out.1)).trans ((put3_chg w9 B.c i (some ⟨0, 0, 0, kids⟩) a9 c9).mono (by simp [B.mem_c]))⟩
                  clear g0 g1 g2 gf e4c e4b e4a e4 hq6 hi6
                  go_wp2_with fail
                  go_ret2
                  rw [HR3.out]
                  exact ⟨rfl, HX.out⟩
              · have HNX : Hid (∀ q : Nat, 2 ≤ q → q < i + 1 → S.freeAt q = false) := fun q h1 h2 => by
                  by_cases hqi : q = i
                  · subst hqi
                    cases hf : S.freeAt q with
                    | false => rfl
                    | true => exact absurd ⟨h1, hf⟩ hfr
                  · exact HT.out.2 q h1 (by omega)
                clear hst
                by_cases h2 : 2 ≤ i
                · have q0 : decide ((1 : Int) < (i : Int)) = true := by simp; omega
                  cases hb : S.has i with
                  | true =>
                    rw [hb] at d0
                    clear hfr hb HR
                    go_wp2_with fail
                    go_roundw
                    case rel => exact ⟨i + 1, by omega, by go_num, HT.out.1, HNX.out⟩
                    case measure => simp [intOf]; omega
                  | false =>
                    have hk : S.kept i = true := by
                      cases hk : S.kept i with
                      | true => rfl
                      | false => exact absurd ⟨h2, by simp [StS.freeAt, hb, hk]⟩ hfr
                    rw [hb] at d0
                    rw [hk] at d4
                    clear hfr hb hk HR
                    go_wp2_with fail
                    go_roundw
                    case rel => exact ⟨i + 1, by omega, by go_num, HT.out.1, HNX.out⟩
                    case measure => simp [intOf]; omega
                · have q0 : decide ((1 : Int) < (i : Int)) = false := by simp; omega
                  clear hfr HR
                  go_wp2_with fail
                  go_roundw
                  case rel => exact ⟨i + 1, by omega, by go_num, HT.out.1, HNX.out⟩
                  case measure => simp [intOf]; omega
            · have hin2 : i = n := by omega
              subst hin2
              have hf0 : S.free (i : Int) = 0 := free_zero HT.out.2
              have HR2 : Hid (R = (0, 28, S, D)) := by rw [HR.out]; exact if_pos hf0
              clear HR hf0
              go_wp2_with fail
              go_ret2
              rw [HR2.out]
              exact ⟨rfl, H.out.1.on HT.out.1, Chg.of_below HT.out.1⟩
end Go.Proofs.YtanpkghdgdkdlaaGreat.Sto

/- Layer 6 in plain Lean: highs are exact, whatever befalls a store; and what an opened store is. -/
namespace Go.Proofs.YtanpkghdgdkdlaaGreat.Sto
set_option linter.unusedVariables false
set_option linter.unusedSimpArgs false
open Go.RowKit Go.Proofs.YtanpkghdgdkdlaaGreat.Mem Go.Proofs.YtanpkghdgdkdlaaGreat.Oct Go.Proofs.YtanpkghdgdkdlaaGreat.Dev

/-- perhaps fewer, as high, with the same kids -/
def FadeH (S S' : StS) : Prop := ∀ j c', S'.cells j = some c' → ∃ c, S.cells j = some c ∧ c'.high = c.high ∧ c'.kids = c.kids
theorem Fade.high' {S S' : StS} (h : Fade S S') : FadeH S S' := fun j c' hj => by
  obtain ⟨c, h1, h2, h3, _⟩ := h.cells j c' hj
  exact ⟨c, h1, h2, h3⟩
theorem highOf_congr {S T : StS} {l : List Int} (h : ∀ k ∈ l, (T.cel k).high = (S.cel k).high) : T.highOf l = S.highOf l := by
  have key : ∀ (l : List Int) (x : Int), (∀ k ∈ l, (T.cel k).high = (S.cel k).high) → l.foldl (fun h k => max h (T.cel k).high) x = l.foldl (fun h k => max h (S.cel k).high) x := by
    intro l
    induction l with
    | nil => intro x _; rfl
    | cons k l ih =>
      intro x hk
      rw [List.foldl_cons, List.foldl_cons, hk k (by simp)]
      exact ih _ (fun q hq => hk q (by simp [hq]))
  exact key l 0 h
theorem ExactH.fade {S S' : StS} {n : Nat} {pd : List Int} (h : ExactH S) (f : FadeH S S') (hw : WF n S' pd) : ExactH S' := by
  intro i c' hc'
  obtain ⟨c, hc, e1, e2⟩ := f i c' hc'
  rw [e1, h i c hc, e2]
  congr 1
  refine (highOf_congr (fun k hk => ?_)).symm
  obtain ⟨d', hd'⟩ := has_iff.1 (hw.kids i c' hc' k (by rw [e2]; exact hk))
  obtain ⟨d, hd, e3, _⟩ := f k d' hd'
  rw [cel_some hd', cel_some hd, e3]
theorem fadeH_hold {S : StS} {i : Int} (hs : S.has i = true) (b : Int) : FadeH S (S.hold i b) := by
  obtain ⟨c, hc⟩ := has_iff.1 hs
  intro j c' hj
  have hj' : upd S.cells i (some { S.cel i with held := (S.cel i).held + b }) j = some c' := hj
  by_cases hji : j = i
  · subst hji
    rw [upd_same] at hj'; cases hj'
    rw [cel_some hc]
    exact ⟨c, hc, rfl, rfl⟩
  · rw [upd_other _ _ _ hji] at hj'
    exact ⟨c', hj', rfl, rfl⟩
theorem FadeH.trans {A B C : StS} (h : FadeH A B) (k : FadeH B C) : FadeH A C := fun j c hj => by
  obtain ⟨c1, h1, e1, e2⟩ := k j c hj
  obtain ⟨c2, h2, f1, f2⟩ := h j c1 h1
  exact ⟨c2, h2, e1.trans f1, e2.trans f2⟩
theorem FadeH.refl (S : StS) : FadeH S S := fun j c h => ⟨c, h, rfl, rfl⟩
theorem exact_none {S : StS} (h : ∀ i, S.cells i = none) : ExactH S := fun i c hc => by rw [h] at hc; cases hc
theorem put_exact {S : StS} {i : Int} {kids : List Int} (h : ExactH S) (hk : ∀ k ∈ kids, S.has k = true) (hi : S.has i = false) {n : Nat} (hw : WF n S []) : ExactH ((S.names kids).setC i (some ⟨0, 0, S.highOf kids + 1, kids⟩)) := by
  have hf := (fade_names kids S hk).high'
  have hhi : ∀ x, x ≠ i → S.has x = true → (((S.names kids).setC i (some ⟨0, 0, S.highOf kids + 1, kids⟩)).cel x).high = (S.cel x).high := fun x hx hs => by
    rw [setC_cel' _ _ hx]
    have h1 := (names_has kids S hk x).trans hs
    obtain ⟨d', hd'⟩ := has_iff.1 h1
    obtain ⟨d, hd, e, _⟩ := hf x d' hd'
    rw [cel_some hd', cel_some hd, e]
  have hne : ∀ x, S.has x = true → x ≠ i := fun x hx e => by rw [e, hi] at hx; cases hx
  intro j c' hj
  have hj' : upd (S.names kids).cells i (some ⟨0, 0, S.highOf kids + 1, kids⟩) j = some c' := hj
  by_cases hji : j = i
  · subst hji
    rw [upd_same] at hj'; cases hj'
    show S.highOf kids + 1 = _
    congr 1
    exact (highOf_congr (fun k hk2 => hhi k (hne k (hk k hk2)) (hk k hk2))).symm
  · rw [upd_other _ _ _ hji] at hj'
    obtain ⟨c, hc, e1, e2⟩ := hf j c' hj'
    rw [e1, e2, h j c hc]
    congr 1
    exact (highOf_congr (fun k hk2 => hhi k (hne k (hw.kids j c hc k hk2)) (hw.kids j c hc k hk2))).symm
/-- whatever befalls it -/
theorem exact_does {n m : Nat} {S : StS} {D : DevS} (hi : Inv n m S) (hD : D.n = n) (hn : n ≤ 4096) (hm : m < 1099511627776) (k : DoT) (h : ExactH S) : ExactH (doesOut S D k).st := by
  have hw := (hi.does hD hn hm k).1.wf
  have hDn : D.n.toNat = n := by omega
  revert hw
  unfold doesOut
  rw [hDn]
  split
  · intro hw
    unfold StS.holds at hw ⊢
    dsimp only at hw ⊢
    split at hw
    · rename_i hs
      rw [if_pos hs]
      exact h.fade (fadeH_hold hs 1) hw
    · rename_i hs
      rw [if_neg hs]
      exact h
  · split
    · intro hw
      unfold StS.drop at hw ⊢
      dsimp only at hw ⊢
      split at hw
      · rename_i hl; rw [if_pos hl]; exact h
      · rename_i hl
        rw [if_neg hl]
        have hs : S.has k.i = true := by
          cases hh : S.has k.i with
          | true => rfl
          | false => rw [show S.cel k.i = noCel by unfold StS.cel; rw [hasn_iff.1 hh]; rfl] at hl; exact absurd (show (0 : Int) < 1 by omega) hl
        have hb := hi.wf.held
        obtain ⟨c, hc⟩ := has_iff.1 hs
        have hb2 := hb _ c hc
        have hw1 : WF n (S.hold k.i (-1)) [] := hi.wf.hold hs (by rw [cel_some hc] at hl ⊢; omega)
        exact h.fade ((fadeH_hold hs (-1)).trans (gone_fade n _ _ [] hw1 (num_le _ _)).high') hw
    · split
      · intro hw
        exact h.fade (sweep_p (S.live n) S hi.wf).fade.high' hw
      · split
        · intro hw
          dsimp only at hw ⊢
          rcases commit_cases S D k.i k.s with ⟨e, _, _, h2⟩ | ⟨_, _, _, _, h2, _⟩
          · rw [h2]; exact h
          · have hc : (commitOut S D k.i k.s).2.1.cells = S.cells := by rw [h2]; exact (keepF_cells _ _ _).1
            intro i c hcc
            rw [hc] at hcc
            rw [h i c hcc]
            congr 1
            exact (highOf_congr (fun q _ => by unfold StS.cel; rw [hc])).symm
        · split
          · intro hw; exact h
          · split
            · intro hw; exact h
            · intro hw
              dsimp only at hw ⊢
              revert hw
              unfold putOut
              split
              · intro hw; exact h
              · rename_i hbad
                split
                · intro hw; exact h
                · rename_i hf
                  split
                  · intro hw; exact h
                  · intro hw
                    have hfo := free_ok hf
                    refine put_exact h (fun q hq => ?_) hfo.2.2.1 hi.wf
                    cases hh : S.has q with
                    | true => rfl
                    | false => exact absurd (.inr (.inr (List.any_eq_true.2 ⟨q, hq, by simp [StS.badKid, hh]⟩))) hbad
/-! ### opening -/
theorem grow_highs {S S' : StS} (h : Grow S S') {k : Int} (hk : S.has k = true) : (S'.cel k).high = (S.cel k).high := h.high hk
theorem exact_name {S : StS} (h : ExactH S) {k : Int} (hk : S.has k = true) : ExactH (S.name k 1) := by
  have hh : ∀ x, ((S.name k 1).cel x).high = (S.cel x).high := fun x => (name_cel S k x 1).2.1
  intro i c' hc'
  obtain ⟨c, hc, e1, e2, _⟩ := (fade_name hk 1).cells i c' hc'
  rw [e1, e2, h i c hc]
  congr 1
  exact (highOf_congr (fun q _ => hh q)).symm
theorem kids_exact {n : Nat} {A : Int → Bool} {r : StS → Int → Except Int (Int × StS)} {P : List Int → Prop}
    (hr : ∀ (S : StS) (k : Int) (pd : List Int) (h : Int) (S' : StS), WF n S pd → P pd → (2 ≤ k ∧ k < n) → ExactH S → r S k = .ok (h, S') → Reached n S A pd k h S' ∧ ExactH S')
    (hn : n ≤ 4096) (hP : ∀ pd, P pd → pd.length < 1048576) :
    ∀ (ks : List Int) (h : Int) (S : StS) (pd : List Int) (h' : Int) (S' : StS), WF n S pd → (∀ a b, a ++ b = ks.reverse → P (b ++ pd)) → (∀ k ∈ ks, 2 ≤ k ∧ k < n) → ExactH S → kidsF r ks h S = .ok (h', S') →
      ExactH S' ∧ Grow S S' ∧ (∀ k ∈ ks, S'.has k = true) ∧ h' = ks.foldl (fun h k => max h (S'.cel k).high) h
  | [], h, S, pd, h', S', hw, _, _, hl, he => by cases he; exact ⟨hl, Grow.refl _, by simp, rfl⟩
  | k :: ks, h, S, pd, h', S', hw, hp, hk, hl, he => by
    rw [kidsF] at he
    split at he
    · cases he
    · rename_i h1 S1 h2
      have hp0 : P pd := by simpa using hp (k :: ks).reverse [] (by simp)
      obtain ⟨R, L⟩ := hr S k pd h1 S1 hw hp0 (hk k (by simp)) hl h2
      have W := R.wf.more R.has hn (hP pd hp0)
      have G := grow_name R.has 1
      obtain ⟨i1, i2, i3, i4⟩ := kids_exact hr hn hP ks (max h h1) (S1.name k 1) (k :: pd) h' S' W (fun a b hab => by
        have := hp a (b ++ [k]) (by rw [← List.append_assoc, hab]; simp)
        simpa using this) (fun q hq => hk q (by simp [hq])) (exact_name L R.has) he
      have hG := G.trans i2
      refine ⟨i1, R.grow.trans hG, fun q hq => ?_, ?_⟩
      · rcases List.mem_cons.1 hq with rfl | hq
        · exact hG.has R.has
        · exact i3 q hq
      · rw [List.foldl_cons, hG.high R.has, R.high]
        exact i4
theorem reach_exact {D : DevS} {n : Nat} (hD : D.n = n) (hn : n ≤ 4096) : ∀ (f : Nat) (S : StS) (A : Int → Bool) (i : Int) (pd : List Int) (h : Int) (S' : StS), WF n S pd → pd.length + 16 * f ≤ 1000000 → (2 ≤ i ∧ i < n) → ExactH S → reachF D f S A i = .ok (h, S') → ExactH S'
  | 0, S, A, i, pd, h, S', hw, hl, hi, hd, hr => by
    rw [reachF] at hr
    obtain ⟨ha, ⟨c, hc, rfl, rfl⟩ | ⟨_, l, d, _, hk⟩⟩ := reachK_ok hr
    · exact hd
    · cases hk
  | f + 1, S, A, i, pd, h, S', hw, hl, hi, hd, hr => by
    rw [reachF] at hr
    obtain ⟨ha, ⟨c, hc, rfl, rfl⟩ | ⟨hc, l, d, hrd, hk⟩⟩ := reachK_ok hr
    · exact hd
    · have hin := readP_in hrd
      unfold endF at hk
      split at hk
      · cases hk
      · rename_i h1 S1 hkf
        split at hk
        · cases hk
        · rename_i hlt
          cases hk
          have hlen : ∀ a b : List Int, a ++ b = l.reverse → (b ++ pd).length + 16 * f ≤ 1000000 := fun a b hab => by
            have := congrArg List.length hab
            simp at this ⊢
            have := hin.1.1
            omega
          have hkin : ∀ k ∈ l, 2 ≤ k ∧ k < (n : Int) := fun k hk => by have := hin.1.2 k hk; rw [hD] at this; exact this
          obtain ⟨i1, i2, i3, i4⟩ := kids_exact (n := n) (A := fun j => if j = i then true else A j) (P := fun p => p.length + 16 * f ≤ 1000000)
            (fun T k p h2 T' hw' hp hk hl2 he => ⟨reach_ok hD hn f T _ k p h2 T' hw' hp hk he, reach_exact hD hn f T _ k p h2 T' hw' hp hk hl2 he⟩) hn (fun p hp => by omega) l 0 S pd h1 S1 hw hlen hkin hd hkf
          have I := kidsF_ok (n := n) (A := fun j => if j = i then true else A j) (P := fun p => p.length + 16 * f ≤ 1000000)
            (fun T k p h2 T' hw' hp hk he => reach_ok hD hn f T _ k p h2 T' hw' hp hk he) hn (fun p hp => by omega) l 0 S pd h1 S1 hw hlen hkin (by omega) hkf
          have hno : S1.has i = false := I.2.1 i (by simp) (hasn_iff.2 hc)
          have hne : ∀ x, S1.has x = true → x ≠ i := fun x hx e => by rw [e, hno] at hx; cases hx
          have hhi : ∀ x, x ≠ i → ((S1.setC i (some ⟨0, 0, h1 + 1, l⟩)).cel x).high = (S1.cel x).high := fun x hx => by rw [setC_cel' _ _ hx]
          have hw1 := I.2.2.1
          intro j c' hj
          have hj' : upd S1.cells i (some ⟨0, 0, h1 + 1, l⟩) j = some c' := hj
          by_cases hji : j = i
          · subst hji
            rw [upd_same] at hj'; cases hj'
            have e4 : h1 = S1.highOf l := i4
            exact congrArg (fun z => z + 1) (e4.trans (highOf_congr (fun k hk2 => hhi k (hne k (i3 k hk2)))).symm)
          · rw [upd_other _ _ _ hji] at hj'
            rw [i1 j c' hj']
            congr 1
            exact (highOf_congr (fun k hk2 => hhi k (hne k (hw1.kids j c' hj' k hk2)))).symm
/-- what is opened may be, and its highs are exact -/
theorem open_inv {D : DevS} {n : Nat} (hD : D.n = n) (hn : 8 ≤ n ∧ n ≤ 4096) {S : StS} (h : openOut D = .ok S) : Inv n 1 S ∧ ExactH S := by
  have ho := open_opn hD hn h
  unfold openOut at h
  split at h
  · cases h
  · split at h
    · cases h
    · rename_i x hx
      have hin := bestJ_in D 2 x hx
      have hw0 := none_wf n x
      obtain ⟨g1, g2, g3, g4⟩ := hin
      have hkept : ∀ i, S.kept i = true → 2 ≤ i ∧ i < (n : Int) := fun i hi => by
        rw [ho.kept] at hi
        obtain ⟨c, hc⟩ := has_iff.1 hi
        exact ho.wf.dom i c hc
      split at h
      · rename_i hr
        cases h
        refine ⟨⟨ho.wf, ⟨g1, g2⟩, fun i c hc => (by cases hc), hkept, .inl ?_, g4⟩, exact_none (fun i => rfl)⟩
        show ((x.2.1 : Nat) : Int) = 0
        exact_mod_cast hr
      · rename_i hr
        split at h
        · cases h
        · rename_i h1 S1 hre
          cases h
          have hDn : D.n.toNat = n := by omega
          rw [hDn] at hre
          have hroot : 2 ≤ (x.2.1 : Int) ∧ (x.2.1 : Int) < n := by rcases g3 with h0 | h0 <;> omega
          have R := reach_frame hD hn.2 hw0 hn.2 hroot hre
          have L := reach_laid hD hn.2 n (openS x) (fun _ => false) _ [] h1 S1 hw0 (by simp; omega) hroot (fun j c hj => by cases hj) hre
          have X := reach_exact hD hn.2 n (openS x) (fun _ => false) _ [] h1 S1 hw0 (by simp; omega) hroot (exact_none (fun i => rfl)) hre
          obtain ⟨cr, hcr⟩ := has_iff.1 R.has
          refine ⟨⟨ho.wf, ?_, fun i c hc => ?_, hkept, .inr ?_, ?_⟩, ?_⟩
          · show 1 ≤ S1.gen ∧ S1.gen ≤ _
            rw [R.grow.gen]; exact ⟨g1, g2⟩
          · have hc' : upd S1.cells (x.2.1 : Int) (some { S1.cel (x.2.1 : Int) with held := (S1.cel (x.2.1 : Int)).held + 1 }) i = some c := hc
            by_cases hi : i = (x.2.1 : Int)
            · subst hi
              rw [upd_same] at hc'; cases hc'
              show (S1.cel _).held + 1 ≤ _
              rw [cel_some hcr, (L _ cr hcr).2]; omega
            · rw [upd_other _ _ _ hi] at hc'
              rw [(L i c hc').2]; omega
          · show 2 ≤ S1.root ∧ S1.root < _
            rw [R.grow.root]; exact hroot
          · show S1.note.size ≤ _
            rw [R.grow.note]; exact g4
          · have hfh := fadeH_hold R.has 1
            exact X.fade hfh (ho.wf.same rfl)
end Go.Proofs.YtanpkghdgdkdlaaGreat.Sto

