/- Layer 6: Put. -/
import Derived.Test.YtadmecjdihfmeaaGreatStoCommit
import Derived.Lib.SliceRun
namespace Go.Proofs.YtadmecjdihfmeaaGreat.Sto
set_option linter.unusedVariables false
set_option linter.unusedSimpArgs false
set_option maxRecDepth 100000
open Go.RowKit Go.Lib Go.Proofs.YtadmecjdihfmeaaGreat.Mem Go.Proofs.YtadmecjdihfmeaaGreat.Oct Go.Proofs.YtadmecjdihfmeaaGreat.Dev

theorem list_snoc_ind {α : Type} {P : List α → Prop} (nil : P []) (snoc : ∀ l k, P l → P (l ++ [k])) : ∀ l, P l := by
  intro l
  have h : ∀ (n : Nat) (l : List α), l.length = n → P l := by
    intro n
    induction n with
    | zero => intro l hl; rw [List.length_eq_zero_iff.1 hl]; exact nil
    | succ n ih =>
      intro l hl
      have hne : l ≠ [] := by rintro rfl; simp at hl
      rw [← List.dropLast_concat_getLast hne]
      exact snoc _ _ (ih _ (by simp; omega))
  exact h _ l rfl
/-- may a block not be named? -/
def StS.badKid (S : StS) (k : Int) : Bool := !S.has k || decide (64 ≤ (S.cel k).high)
theorem bad_any (w : World) (B : Blk) (S : StS) (D : DevS) (bb : Nat) (k : Int) (h : StAt w B S D) (hb : w.heap[bb]? = some (.cells #[.pointer (some ⟨B.s, 0, none⟩)] 25 (0, 0))) :
    Calls Tryz.prog 59 #[.int .i64 k, .pointer (some ⟨bb, 0, none⟩)] w fun e w' => e = .returned (.bool (S.badKid k)) ∧ Below w.heap.size w w' := by
  have b0 : w.cell? ⟨bb, 0, none⟩ = some (.pointer (some ⟨B.s, 0, none⟩)) := cell_at hb 0
  have H : Hid (StAt w B S D ∧ w.heap[bb]? = some (.cells #[.pointer (some ⟨B.s, 0, none⟩)] 25 (0, 0))) := ⟨h, hb⟩
  clear h hb
  go_enter Tryz.func59, Tryz.ntmps59
  cases hh : S.has k with
  | false =>
    have hg : Hid (S.badKid k = true) := by simp [Hid, StS.badKid, hh]
    go_wp2_with (first
      | (go_at_call 51; refine (has_any _ B S D k H.out.1).mono ?_; rintro e w1 ⟨rfl, hb⟩; rw [hh]; have HB : Hid (Below _ _ w1) := hb; clear hb)
      | fail)
    go_ret
    exact ⟨by rw [hg.out]; rfl, HB.out⟩
  | true =>
    have hg : Hid (S.badKid k = decide (64 ≤ (S.cel k).high)) := by simp [Hid, StS.badKid, hh]
    go_wp2_with (first
      | (go_at_call 51; refine (has_any _ B S D k H.out.1).mono ?_; rintro e w1 ⟨rfl, hb⟩; rw [hh]; have HB : Hid (Below _ _ w1) := hb; have h1 := H.out.1.on hb; have b1 : w1.cell? ⟨bb, 0, none⟩ = some (.pointer (some ⟨B.s, 0, none⟩)) := cell_at ((hb.block _ (heap_lt H.out.2)).trans H.out.2) 0; obtain ⟨mm, hm⟩ := h1.cells; obtain ⟨c, a, q, hl, hc, hk⟩ := hm.get k; have hl0 := hl w1 ⟨[], Chg.refl _ _, by simp⟩; have c4 := h1.cell.2.2.2.2.1; have hfd := field_high (c, a, q) w1; have HC : Hid (S.cel k = c) := hc.symm; clear hb h1 hm hl hc hk)
      | fail)
    go_ret
    exact ⟨by rw [hg.out, HC.out]; rfl, HB.out⟩
set_option maxHeartbeats 2000000 in
theorem indexBad_any (w : World) (B : Blk) (S : StS) (D : DevS) (bb : Nat) (v : Value) (l : List Int) (h : StAt w B S D) (hb : w.heap[bb]? = some (.cells #[.pointer (some ⟨B.s, 0, none⟩)] 25 (0, 0))) (hi : Ints (· < w.heap.size) w v l) :
    Calls Tryz.prog 82 #[v, .func (Fn.func 59) #[] #[.pointer (some ⟨bb, 0, none⟩)]] w fun e w' => ∃ r : Int, e = .returned (.int .i64 r) ∧ ((l.any S.badKid = true ∧ 0 ≤ r) ∨ (l.any S.badKid = false ∧ r < 0)) ∧ Below w.heap.size w w' := by
  obtain ⟨a, c, rfl, hlen, _⟩ := hi.form
  have H : Hid (StAt w B S D ∧ w.heap[bb]? = some (.cells #[.pointer (some ⟨B.s, 0, none⟩)] 25 (0, 0)) ∧ Ints (· < w.heap.size) w (.slice a l.length c) l) := ⟨h, hb, hi⟩
  clear h hb hi
  go_enter Tryz.func82, Tryz.ntmps82
  go_wp2_with fail
  go_loopw [8] (fun i wr => ∃ j : Nat, j ≤ l.length ∧ i = .int .i64 j ∧ Hid ((l.take j).any S.badKid = false ∧ Below w.heap.size w wr)) (fun i _ => l.length - (intOf i).toNat)
  case atStart => exact ⟨0, by omega, rfl, by simp, Below.refl _ _⟩
  case round =>
    obtain ⟨j, hj, rfl, HT⟩ := hrel
    by_cases hlt : j < l.length
    · obtain ⟨a', c', e', _, hcell⟩ := (Ints.below H.out.2.2 HT.out.2).form
      obtain ⟨b, o, ha, hcj⟩ := hcell j hlt
      have haa : a = a' := by injection e'
      subst haa
      subst ha
      have hsn : Hid (l.take (j + 1) = l.take j ++ [l[j]] ∧ l[j] ∈ l) := ⟨List.take_succ_eq_append_getElem hlt, List.getElem_mem hlt⟩
      obtain ⟨x, hx⟩ : ∃ x, x = l[j] := ⟨_, rfl⟩
      rw [← hx] at hcj hsn
      have HS : Hid (StAt wr B S D ∧ wr.heap[bb]? = some (.cells #[.pointer (some ⟨B.s, 0, none⟩)] 25 (0, 0))) := ⟨H.out.1.on HT.out.2, (HT.out.2.block _ (heap_lt H.out.2.1)).trans H.out.2.1⟩
      clear e' hcell hx
      cases hbk : S.badKid x with
      | true =>
        go_wp2_with (first
          | (go_at_call 59; refine (bad_any _ B S D bb x HS.out.1 HS.out.2).mono ?_; rintro e w2 ⟨rfl, hb⟩; rw [hbk]; have HB : Hid (Below w.heap.size w w2) := HT.out.2.trans (hb.mono HT.out.2.size); clear hb)
          | fail)
        go_ret
        exact ⟨j, rfl, .inl ⟨List.any_eq_true.2 ⟨x, hsn.out.2, hbk⟩, by omega⟩, HB.out⟩
      | false =>
        go_wp2_with (first
          | (go_at_call 59; refine (bad_any _ B S D bb x HS.out.1 HS.out.2).mono ?_; rintro e w2 ⟨rfl, hb⟩; rw [hbk]; have HB : Hid (Below w.heap.size w w2) := HT.out.2.trans (hb.mono HT.out.2.size); clear hb)
          | fail)
        go_roundw
        case rel => exact ⟨j + 1, by omega, by go_num, by rw [hsn.out.1, List.any_append, HT.out.1]; simp [hbk], HB.out⟩
        case measure => simp [intOf]; omega
    · have he : Hid (l.any S.badKid = false) := by have := HT.out.1; rw [List.take_of_length_le (by omega)] at this; exact this
      go_wp2
      go_ret
      exact ⟨-1, rfl, .inr ⟨he.out, by omega⟩, HT.out.2⟩
theorem containsBad_any (w : World) (B : Blk) (S : StS) (D : DevS) (bb : Nat) (v : Value) (l : List Int) (h : StAt w B S D) (hb : w.heap[bb]? = some (.cells #[.pointer (some ⟨B.s, 0, none⟩)] 25 (0, 0))) (hi : Ints (· < w.heap.size) w v l) :
    Calls Tryz.prog 58 #[v, .func (Fn.func 59) #[] #[.pointer (some ⟨bb, 0, none⟩)]] w fun e w' => e = .returned (.bool (l.any S.badKid)) ∧ Below w.heap.size w w' := by
  have H : Hid (StAt w B S D ∧ w.heap[bb]? = some (.cells #[.pointer (some ⟨B.s, 0, none⟩)] 25 (0, 0)) ∧ Ints (· < w.heap.size) w v l) := ⟨h, hb, hi⟩
  obtain ⟨a, c, rfl, _, _⟩ := hi.form
  clear h hb hi
  go_enter Tryz.func58, Tryz.ntmps58
  go_wp2_with fail
  refine (indexBad_any w B S D bb _ l H.out.1 H.out.2.1 H.out.2.2).mono ?_
  rintro e w1 ⟨r, rfl, hr, hb⟩
  have HB : Hid (Below w.heap.size w w1) := hb
  clear hb
  rcases hr with ⟨h1, h2⟩ | ⟨h1, h2⟩
  · have HA : Hid (l.any S.badKid = true) := h1
    clear h1
    go_wp2
    go_ret
    refine ⟨?_, HB.out⟩
    rw [HA.out]
    simp [h2]
  · have HA : Hid (l.any S.badKid = false) := h1
    have h3 : ¬ 0 ≤ r := by omega
    clear h1
    go_wp2
    go_ret
    refine ⟨?_, HB.out⟩
    rw [HA.out]
    simp [h3]
/-- slices.Clone at whole numbers -/
theorem clone_ints (p : Nat → Prop) (w : World) (v : Value) (l : List Int) (h : Ints p w v l) (hl : l.length ≤ 1048576) :
    Calls Tryz.prog 64 #[v] w fun e w' => ∃ v', e = .returned v' ∧ OwnI w.heap.size w' v' l ∧ Below w.heap.size w w' := by
  obtain ⟨a, c, rfl, hlen, hc⟩ := h.form
  obtain ⟨i0, hi, hz0, hz1, hz2⟩ := info_parts info_int
  have hq := fun (w : World) (r : Option Addr) (n c : Nat) => Lib.run_eql_slice_nil w _ _ r n c 0 0 Tryz.underlying65
  cases a with
  | none =>
    have hl0 : l = [] := by
      cases l with
      | nil => rfl
      | cons y l => obtain ⟨_, _, h1, _⟩ := hc 0 (by simp); cases h1
    subst hl0
    go_enter Tryz.func64, Tryz.ntmps64
    go_wp2
    go_ret
    exact ⟨_, rfl, OwnI.nil _ _, Below.refl _ _⟩
  | some ad =>
    have HC : Hid (∀ j (h : j < l.length), w.cell? (ad.add j) = some (.int .i64 l[j])) := by
      intro j hj
      obtain ⟨b, o, h1, h2⟩ := hc j hj
      injection h1 with h1
      subst h1
      rw [add_at]
      exact h2
    clear hc h
    go_enter Tryz.func64, Tryz.ntmps64
    go_wp2_with (first
      | (at_builtin; refine wpList_append_own _ rfl _ _ 65 rfl w.heap.size 3 i0 (.int .i64 0) 1 8 Tryz.underlying65 hi hz0 hz1 hz2 rfl (by decide) _ 0 [] rfl (World.ownsRow_made w #[] 0 (Nat.le_refl _) (by decide) rfl) ad l.length c (l.map (Value.int .i64)) rfl (by simp) ?c1 ?c2 ?c3 ?c4 ?c5 ?_)
      | fail)
    case c1 =>
      intro j u hj
      rw [List.getElem?_map] at hj
      have hb : Below w.heap.size w (w.alloc (.cells #[] 3)) := (Below.refl _ _).alloc (Nat.le_refl _) _
      by_cases hlt : j < l.length
      · rw [List.getElem?_eq_getElem hlt] at hj
        have hu : u = .int .i64 l[j] := (Option.some.inj hj).symm
        rw [hu]
        have hcj := HC.out j hlt
        have hblk : (ad.add j).block < w.heap.size := World.block_lt_of_cell? w _ hcj
        exact (hb.cell hblk).trans hcj
      · rw [List.getElem?_eq_none (by omega)] at hj
        cases hj
    case c2 =>
      intro u hu
      obtain ⟨z, _, rfl⟩ := List.mem_map.1 hu
      rfl
    case c3 => unfold maxLen; omega
    case c4 => omega
    case c5 => simp
    · intro v' w' hown hgrow _
      have HX : Hid (OwnI w.heap.size w' v' l ∧ Below w.heap.size w w') := ⟨by unfold OwnI; simpa using hown, ((Below.refl _ _).alloc (Nat.le_refl _) (.cells #[] 3)).trans (below_of_grown' hgrow (fun k hk => by simp [Value.ownBlock] at hk; omega) (by simp))⟩
      clear hown hgrow
      go_wp2
      go_ret
      exact ⟨_, rfl, HX.out.1, HX.out.2⟩

/-- Put -/
def StS.names (S : StS) (l : List Int) : StS := l.foldl (fun T k => T.name k 1) S
def StS.highOf (S : StS) (l : List Int) : Int := l.foldl (fun h k => max h (S.cel k).high) 0
def putBad (S : StS) (kids : List Int) (data : ByteArray) : Prop := 16 < kids.length ∨ 3900 < data.size ∨ kids.any S.badKid = true
instance (S : StS) (kids : List Int) (data : ByteArray) : Decidable (putBad S kids data) := by unfold putBad; exact inferInstance
def putOut (S : StS) (D : DevS) (kids : List Int) (data : ByteArray) : Int × Int × StS × DevS :=
  if putBad S kids data then (0, 22, S, D)
  else if S.free D.n = 0 then (0, 28, S, D)
  else if D.writeE (S.free D.n) (blockB kids data) ≠ 0 then (0, D.writeE (S.free D.n) (blockB kids data), S, D.write (S.free D.n) (blockB kids data))
  else (S.free D.n, 0, (S.names kids).setC (S.free D.n) (some ⟨0, 0, S.highOf kids + 1, kids⟩), D.write (S.free D.n) (blockB kids data))
theorem names_snoc (S : StS) (l : List Int) (k : Int) : S.names (l ++ [k]) = (S.names l).name k 1 := by simp [StS.names]
theorem highOf_snoc (S : StS) (l : List Int) (k : Int) : S.highOf (l ++ [k]) = max (S.highOf l) (S.cel k).high := by simp [StS.highOf]
theorem name_cel (S : StS) (k x by_ : Int) : ((S.name k by_).cel x).named = (S.cel x).named + (if x = k then by_ else 0) ∧ ((S.name k by_).cel x).high = (S.cel x).high ∧ ((S.name k by_).cel x).held = (S.cel x).held ∧ ((S.name k by_).cel x).kids = (S.cel x).kids := by
  by_cases h : x = k
  · subst h
    simp [StS.name, StS.setC, StS.cel, upd]
  · simp [StS.name, StS.setC, StS.cel, upd, h]
theorem name_has {S : StS} {k x by_ : Int} (hk : S.has k = true) : (S.name k by_).has x = S.has x := by
  by_cases h : x = k
  · subst h; rw [hk]; simp [StS.name, StS.setC, StS.has, upd]
  · simp [StS.name, StS.setC, StS.has, upd, h]
theorem names_cel (S : StS) (x : Int) : ∀ l : List Int, ((S.names l).cel x).named = (S.cel x).named + (l.count x : Nat) ∧ ((S.names l).cel x).high = (S.cel x).high ∧ ((S.names l).cel x).held = (S.cel x).held ∧ ((S.names l).cel x).kids = (S.cel x).kids := by
  intro l
  induction l using list_snoc_ind with
  | nil => simp [StS.names]
  | snoc l k ih =>
    rw [names_snoc]
    have h := name_cel (S.names l) k x 1
    refine ⟨?_, h.2.1.trans ih.2.1, h.2.2.1.trans ih.2.2.1, h.2.2.2.trans ih.2.2.2⟩
    rw [h.1, ih.1, List.count_append]
    by_cases hx : x = k
    · subst hx; simp; omega
    · simp [hx, Ne.symm hx]
theorem highOf_lt {S : StS} : ∀ {l : List Int}, (∀ k ∈ l, (S.cel k).high < 64) → 0 ≤ S.highOf l ∧ S.highOf l < 64 := by
  intro l
  induction l using list_snoc_ind with
  | nil => intro _; simp [StS.highOf]
  | snoc l k ih =>
    intro h
    have h1 := ih (fun q hq => h q (by simp [hq]))
    have h2 := h k (by simp)
    rw [highOf_snoc]
    omega
theorem free_range {S : StS} {n : Int} : ∀ (k : Nat) (i : Int), 2 ≤ i → S.freeGo n k i = 0 ∨ (2 ≤ S.freeGo n k i ∧ S.freeGo n k i < n ∧ S.freeAt (S.freeGo n k i) = true)
  | 0, i, h => .inl rfl
  | k + 1, i, h => by
    unfold StS.freeGo
    split
    · split
      · rename_i h1 h2; exact .inr ⟨h, h1, h2⟩
      · exact free_range k (i + 1) (by omega)
    · exact .inl rfl
def PutPost (w : World) (B : Blk) (r : Int × Int × StS × DevS) (e : Ending) (w' : World) : Prop := e = .returned (.tuple #[.int .i64 r.1, .int .i64 r.2.1]) ∧ StAt w' B r.2.2.1 r.2.2.2 ∧ Chg B.all w w'
set_option maxHeartbeats 16000000 in
theorem storePut_any (w : World) (B : Blk) (S : StS) (D : DevS) (v : Value) (kids : List Int) (data : ByteArray) (h : StAt w B S D) (hwf : WF D.n.toNat S []) (hi : Ints (· ∉ B.all) w v kids) :
    Calls Tryz.prog 33 #[.pointer (some ⟨B.s, 0, none⟩), v, .string data] w (PutPost w B (putOut S D kids data)) := by
  obtain ⟨a, c, rfl, hlen, _⟩ := hi.form
  obtain ⟨R, hR⟩ : ∃ R, R = putOut S D kids data := ⟨_, rfl⟩
  rw [← hR]
  have hmf : ∀ (fn : Fn) (first cap : Array Value) (w : World), (Instr.makeFunc fn first cap).run Tryz.prog w = .ok (.func fn first cap) w := fun _ _ _ _ => rfl
  obtain ⟨bb, hbb⟩ : ∃ bb, bb = w.heap.size := ⟨_, rfl⟩
  have hb1 : Below w.heap.size w (w.alloc (.cells #[.pointer (some ⟨B.s, 0, none⟩)] 25)) := (Below.refl _ _).alloc (Nat.le_refl _) _
  have hx1 : (w.alloc (.cells #[.pointer (some ⟨B.s, 0, none⟩)] 25)).heap[bb]? = some (.cells #[.pointer (some ⟨B.s, 0, none⟩)] 25 (0, 0)) := by rw [hbb]; exact heap_alloc_last _ _
  have hs1 : StAt (w.alloc (.cells #[.pointer (some ⟨B.s, 0, none⟩)] 25)) B S D := h.on hb1
  have hi1 : Ints (fun k => k ∉ B.all ∧ k < w.heap.size) w (.slice a kids.length c) kids := Ints.real hi
  have H : Hid (StAt (w.alloc (.cells #[.pointer (some ⟨B.s, 0, none⟩)] 25)) B S D ∧ (w.alloc (.cells #[.pointer (some ⟨B.s, 0, none⟩)] 25)).heap[bb]? = some (.cells #[.pointer (some ⟨B.s, 0, none⟩)] 25 (0, 0)) ∧ Below w.heap.size w (w.alloc (.cells #[.pointer (some ⟨B.s, 0, none⟩)] 25)) ∧ Ints (fun k => k ∉ B.all ∧ k < w.heap.size) w (.slice a kids.length c) kids) := ⟨hs1, hx1, hb1, hi1⟩
  have HO : Hid ((∀ t ∈ B.all, t < w.heap.size) ∧ bb = w.heap.size ∧ WF D.n.toNat S []) := ⟨h.lt, hbb, hwf⟩
  have HR : Hid (R = putOut S D kids data) := hR
  clear h hi hR hb1 hx1 hs1 hi1 hwf
  go_enter Tryz.func33, Tryz.ntmps33
  go_wp2_with fail
  rw [← hbb]
  clear hbb
  generalize w.alloc (.cells #[.pointer (some ⟨B.s, 0, none⟩)] 25) = w1 at H ⊢
  have b0 : w1.cell? ⟨bb, 0, none⟩ = some (.pointer (some ⟨B.s, 0, none⟩)) := cell_at H.out.2.1 0
  refine (dead_any _ B S D H.out.1).mono ?_
  rintro e w1' ⟨rfl, rfl⟩
  by_cases hl16 : 16 < kids.length
  · have HR2 : Hid (R = (0, 22, S, D)) := by rw [HR.out, putOut, if_pos (.inl hl16)]; exact rfl
    go_wp2_with fail
    go_ret2
    rw [HR2.out]
    exact ⟨rfl, H.out.1, Chg.of_below H.out.2.2.1⟩
  · by_cases hl39 : 3900 < data.size
    · have HR2 : Hid (R = (0, 22, S, D)) := by rw [HR.out, putOut, if_pos (.inr (.inl hl39))]; exact rfl
      go_wp2_with fail
      go_ret2
      rw [HR2.out]
      exact ⟨rfl, H.out.1, Chg.of_below H.out.2.2.1⟩
    · have HI1 : Hid (Ints (· < w1.heap.size) w1 (.slice a kids.length c) kids) := Ints.mono (Ints.chg H.out.2.2.2 (Chg.of_below (S := []) H.out.2.2.1) (by simp)) (fun k hk => Nat.lt_of_lt_of_le hk.2 H.out.2.2.1.size)
      cases hany : kids.any S.badKid with
      | true =>
        have HR2 : Hid (R = (0, 22, S, D)) := by rw [HR.out, putOut, if_pos (.inr (.inr hany))]; exact rfl
        go_wp2_with (first
          | (go_at_call 58; refine (containsBad_any _ B S D bb _ kids H.out.1 H.out.2.1 HI1.out).mono ?_; rintro e w2 ⟨rfl, hb⟩; rw [hany]; have H2 : Hid (StAt w2 B S D ∧ Below w.heap.size w w2) := ⟨H.out.1.on hb, H.out.2.2.1.trans (hb.mono H.out.2.2.1.size)⟩; clear hb)
          | fail)
        go_ret2
        rw [HR2.out]
        exact ⟨rfl, H2.out.1, Chg.of_below H2.out.2⟩
      | false =>
        have hnb : ¬ putBad S kids data := by
          rintro (hb | hb | hb)
          · exact hl16 hb
          · exact hl39 hb
          · rw [hany] at hb; exact absurd hb (by decide)
        have HR2 : Hid (R = if S.free D.n = 0 then (0, 28, S, D) else if D.writeE (S.free D.n) (blockB kids data) ≠ 0 then (0, D.writeE (S.free D.n) (blockB kids data), S, D.write (S.free D.n) (blockB kids data)) else (S.free D.n, 0, (S.names kids).setC (S.free D.n) (some ⟨0, 0, S.highOf kids + 1, kids⟩), D.write (S.free D.n) (blockB kids data))) := by rw [HR.out, putOut, if_neg hnb]; exact rfl
        have HK : Hid (∀ k ∈ kids, S.has k = true ∧ (S.cel k).high < 64) := by
          intro k hk
          have := List.any_eq_false.1 hany k hk
          simp [StS.badKid] at this
          exact ⟨this.1, by omega⟩
        clear HR hnb
        go_wp2_with (first
          | (go_at_call 58; refine (containsBad_any _ B S D bb _ kids H.out.1 H.out.2.1 HI1.out).mono ?_; rintro e w2 ⟨rfl, hb⟩; rw [hany]; have H2 : Hid (StAt w2 B S D ∧ Below w.heap.size w w2 ∧ w2.heap[bb]? = some (.cells #[.pointer (some ⟨B.s, 0, none⟩)] 25 (0, 0))) := ⟨H.out.1.on hb, H.out.2.2.1.trans (hb.mono H.out.2.2.1.size), (hb.block _ (heap_lt H.out.2.1)).trans H.out.2.1⟩; clear hb; have b2 : w2.cell? ⟨bb, 0, none⟩ = some (.pointer (some ⟨B.s, 0, none⟩)) := cell_at H2.out.2.2 0)
          | fail)
        refine (free_any _ B S D H2.out.1).mono ?_
        rintro e w3 ⟨rfl, hb⟩
        have H3 : Hid (StAt w3 B S D ∧ Below w.heap.size w w3 ∧ w3.heap[bb]? = some (.cells #[.pointer (some ⟨B.s, 0, none⟩)] 25 (0, 0))) := ⟨H2.out.1.on hb, H2.out.2.1.trans (hb.mono H2.out.2.1.size), (hb.block _ (heap_lt H2.out.2.2)).trans H2.out.2.2⟩
        clear hb
        obtain ⟨id, hid⟩ : ∃ id, id = S.free D.n := ⟨_, rfl⟩
        have hfr := free_range (S := S) (n := D.n) D.n.toNat 2 (by omega)
        have hfr2 : id = 0 ∨ (2 ≤ id ∧ id < D.n ∧ S.freeAt id = true) := by rw [hid]; exact hfr
        rw [← hid] at HR2 ⊢
        clear hfr hid b0 b2
        cases hib : (id == 0) with
        | true =>
          have hi0 : id = 0 := by simpa using hib
          have HR3 : Hid (R = (0, 28, S, D)) := by rw [HR2.out, if_pos hi0]; exact rfl
          clear HR2
          go_wp2_with fail
          go_ret2
          rw [HR3.out]
          exact ⟨rfl, H3.out.1, Chg.of_below H3.out.2.1⟩
        | false =>
          have hi0 : ¬ id = 0 := by simpa using hib
          have HI : Hid (2 ≤ id ∧ id < D.n ∧ S.freeAt id = true) := hfr2.resolve_left hi0
          have HR3 : Hid (R = if D.writeE id (blockB kids data) ≠ 0 then (0, D.writeE id (blockB kids data), S, D.write id (blockB kids data)) else (id, 0, (S.names kids).setC id (some ⟨0, 0, S.highOf kids + 1, kids⟩), D.write id (blockB kids data))) := by rw [HR2.out, if_neg hi0]; exact rfl
          clear HR2 hfr2 hi0
          go_wp2_with fail
          have H3d : Hid (StAt w3.drew B S D ∧ Below w.heap.size w w3.drew ∧ w3.drew.heap[bb]? = some (.cells #[.pointer (some ⟨B.s, 0, none⟩)] 25 (0, 0))) := ⟨H3.out.1.drew, H3.out.2.1.drew, H3.out.2.2⟩
          have HKr : Hid (∀ k ∈ kids, 0 ≤ k ∧ k < 9223372036854775808) := by
              intro k hk
              obtain ⟨d, hd⟩ := has_iff.1 (HK.out k hk).1
              have := HO.out.2.2.dom k d hd
              have := H3.out.1.dev.ok.2.2.2
              omega
          have HF : Hid (∀ (w' : World) (D' : DevS), StAt w' B S D' → w'.heap[bb]? = some (.cells #[.pointer (some ⟨B.s, 0, none⟩)] 25 (0, 0)) → (fun w' : World => w'.cell? ⟨bb, 0, none⟩ = some (.pointer (some ⟨B.s, 0, none⟩)) ∧ w'.cell? ⟨B.s, 3, none⟩ = some (.pointer (some ⟨B.d, 0, none⟩))) w') := fun w' D' h1 h2 => ⟨cell_at h2 0, h1.cell.2.2.2.1⟩
          have hS0 : (fun w' : World => w'.cell? ⟨bb, 0, none⟩ = some (.pointer (some ⟨B.s, 0, none⟩)) ∧ w'.cell? ⟨B.s, 3, none⟩ = some (.pointer (some ⟨B.d, 0, none⟩))) w3.drew := HF.out _ D H3d.out.1 H3d.out.2.2
          clear H3
          refine wp_region_held_drew (S := (fun w' : World => w'.cell? ⟨bb, 0, none⟩ = some (.pointer (some ⟨B.s, 0, none⟩)) ∧ w'.cell? ⟨B.s, 3, none⟩ = some (.pointer (some ⟨B.d, 0, none⟩)))) (by kernel_rfl) hS0 (fun hHeld => ?_)
          clear hHeld
          refine Pair.take (i := 0) (fuel := 9) (d := 34) (v := ?_) (by kernel_rfl) rfl rfl (by kernel_rfl) (by kernel_rfl) (by kernel_rfl) (fun _ _ _ h => h) (Or.inl ⟨by rfl, ?_⟩) hS0 ?_
          rotate_left 1
          · (intro w' hSw; obtain ⟨f0, f1⟩ := hSw; go_simp; try with_reducible rfl)
          try simp only [Act.put, List.setIfInBounds_toArray, List.set_cons_zero, List.set_cons_succ]
          refine Pair.take (i := 1) (fuel := 8) (d := 35) (v := ?_) (by kernel_rfl) rfl rfl (by kernel_rfl) (by kernel_rfl) (by kernel_rfl) (fun _ _ _ h => h) (Or.inl ⟨by rfl, ?_⟩) hS0 ?_
          rotate_left 1
          · (intro w' hSw; obtain ⟨f0, f1⟩ := hSw; go_simp; try with_reducible rfl)
          try simp only [Act.put, List.setIfInBounds_toArray, List.set_cons_zero, List.set_cons_succ]
          refine Pair.take (i := 2) (fuel := 7) (d := 36) (v := ?_) (by kernel_rfl) rfl rfl (by kernel_rfl) (by kernel_rfl) (by kernel_rfl) (fun _ _ _ h => h) (Or.inl ⟨by rfl, ?_⟩) hS0 ?_
          rotate_left 1
          · (intro w' hSw; obtain ⟨f0, f1⟩ := hSw; go_simp; try with_reducible rfl)
          try simp only [Act.put, List.setIfInBounds_toArray, List.set_cons_zero, List.set_cons_succ]
          refine Pair.take (i := 3) (fuel := 6) (d := 37) (v := ?_) (by kernel_rfl) rfl rfl (by kernel_rfl) (by kernel_rfl) (by kernel_rfl) (fun _ _ _ h => h) (Or.inl ⟨by rfl, ?_⟩) hS0 ?_
          rotate_left 1
          · (intro w' hSw; obtain ⟨f0, f1⟩ := hSw; go_simp; try with_reducible rfl)
          try simp only [Act.put, List.setIfInBounds_toArray, List.set_cons_zero, List.set_cons_succ]
          refine Pair.take (i := 4) (fuel := 5) (d := 38) (v := ?_) (by kernel_rfl) rfl rfl (by kernel_rfl) (by kernel_rfl) (by kernel_rfl) (fun _ _ _ h => h) (Or.inl ⟨by rfl, ?_⟩) hS0 ?_
          rotate_left 1
          · (intro w' hSw; obtain ⟨f0, f1⟩ := hSw; go_simp; try with_reducible rfl)
          try simp only [Act.put, List.setIfInBounds_toArray, List.set_cons_zero, List.set_cons_succ]
          refine Pair.take (i := 5) (fuel := 4) (d := 39) (v := ?_) (by kernel_rfl) rfl rfl (by kernel_rfl) (by kernel_rfl) (by kernel_rfl) (fun _ _ _ h => h) (Or.inl ⟨by rfl, ?_⟩) hS0 ?_
          rotate_left 1
          · (intro w' hSw; obtain ⟨f0, f1⟩ := hSw; go_simp; try with_reducible rfl)
          try simp only [Act.put, List.setIfInBounds_toArray, List.set_cons_zero, List.set_cons_succ]
          refine Pair.take (i := 6) (fuel := 3) (d := 40) (v := ?_) (by kernel_rfl) rfl rfl (by kernel_rfl) (by kernel_rfl) (by kernel_rfl) (fun _ _ _ h => h) (Or.inl ⟨by rfl, ?_⟩) hS0 ?_
          rotate_left 1
          · (intro w' hSw; obtain ⟨f0, f1⟩ := hSw; go_simp; try with_reducible rfl)
          try simp only [Act.put, List.setIfInBounds_toArray, List.set_cons_zero, List.set_cons_succ]
          refine Pair.call1 (i := 7) (fuel := 2) (by kernel_rfl) rfl (by kernel_rfl) (fun K hK => ?_)
          go_simp
          go_at_call 62
          refine (put_any _ kids data w3.drew (Ints.mono (Ints.chg H.out.2.2.2 (Chg.of_below (S := []) H3d.out.2.1) (by simp)) (fun k hk => Nat.lt_of_lt_of_le hk.2 H3d.out.2.1.size)) (by omega) HKr.out (by omega)).mono ?_
          rintro e w4 ⟨rfl, hb⟩
          have H4 : Hid (StAt w4 B S D ∧ Below w.heap.size w w4 ∧ w4.heap[bb]? = some (.cells #[.pointer (some ⟨B.s, 0, none⟩)] 25 (0, 0))) := ⟨H3d.out.1.on hb, H3d.out.2.1.trans (hb.mono H3d.out.2.1.size), (hb.block _ (heap_lt H3d.out.2.2)).trans H3d.out.2.2⟩
          clear hb
          refine hK.out _ _ (HF.out _ D H4.out.1 H4.out.2.2) (fun hHeld => ?_)
          clear hHeld hK K
          try simp only [Act.put, List.setIfInBounds_toArray, List.set_cons_zero, List.set_cons_succ]
          refine Pair.call1 (i := 8) (fuel := 1) (by kernel_rfl) rfl (by kernel_rfl) (fun K hK => ?_)
          go_simp
          go_at_call 61
          refine (write_any w4 B.d B.k B.y D id (blockB kids data) H4.out.1.dev).mono ?_
          rintro e w5 ⟨rfl, hd5, hc5⟩
          have H5 : Hid (StAt w5 B S (D.write id (blockB kids data)) ∧ Chg B.all w w5 ∧ w5.heap[bb]? = some (.cells #[.pointer (some ⟨B.s, 0, none⟩)] 25 (0, 0))) := ⟨H4.out.1.setDev hc5 hd5 (write_small H4.out.1.small _ _), (Chg.of_below H4.out.2.1).trans (hc5.mono B.dev_mem), (hc5.block bb (heap_lt H4.out.2.2) (fun hm => by have := HO.out.1 bb (B.dev_mem bb hm); have := HO.out.2.1; omega)).trans H4.out.2.2⟩
          clear hd5 hc5
          refine hK.out _ _ (HF.out _ _ H5.out.1 H5.out.2.2) (fun hHeld => ?_)
          clear hHeld hK K
          try simp only [Act.put, List.setIfInBounds_toArray, List.set_cons_zero, List.set_cons_succ]
          refine Pair.take (i := 9) (fuel := 0) (d := 9) (v := ?_) (by kernel_rfl) rfl rfl (by kernel_rfl) (by kernel_rfl) (by kernel_rfl) (fun _ _ _ h => h) (Or.inl ⟨by rfl, ?_⟩) (HF.out _ _ H5.out.1 H5.out.2.2) ?_
          rotate_left 1
          · (intro w' hSw; obtain ⟨f0, f1⟩ := hSw; go_simp; try with_reducible rfl)
          try simp only [Act.put, List.setIfInBounds_toArray, List.set_cons_zero, List.set_cons_succ]
          refine wpAnyH_done (by kernel_rfl) ?_ _
          clear H4 H3d hS0
          obtain ⟨D1, hD1⟩ : ∃ D1, D1 = D.write id (blockB kids data) := ⟨_, rfl⟩
          obtain ⟨we, hwe⟩ : ∃ we, we = D.writeE id (blockB kids data) := ⟨_, rfl⟩
          have HR4 : Hid (R = if we ≠ 0 then (0, we, S, D1) else (id, 0, (S.names kids).setC id (some ⟨0, 0, S.highOf kids + 1, kids⟩), D1)) := by rw [HR3.out, hwe, hD1]; exact rfl
          rw [← hD1] at H5
          rw [← hwe]
          clear hD1 hwe HR3
          cases hwb : (we == 0) with
          | false =>
            have hf : we ≠ 0 := by simpa using hwb
            have HR5 : Hid (R = (0, we, S, D1)) := by rw [HR4.out, if_pos hf]; exact rfl
            clear HR4 hf
            go_wp2
            go_ret2
            rw [HR5.out]
            exact ⟨rfl, H5.out.1, H5.out.2.1⟩
          | true =>
            have hf : we = 0 := by simpa using hwb
            subst hf
            have HR5 : Hid (R = (id, 0, (S.names kids).setC id (some ⟨0, 0, S.highOf kids + 1, kids⟩), D1)) := by rw [HR4.out, if_neg (by simp)]; exact rfl
            clear HR4 hwb
            go_wp2_with fail
            skip
            have hbbn : bb ∉ B.all := fun hm => by have := HO.out.1 bb hm; have := HO.out.2.1; omega
            have HBN : Hid (bb ∉ B.all) := hbbn
            clear hbbn
            go_loopw [10, 48] (fun hv jv wr => ∃ j : Nat, j ≤ kids.length ∧ jv = .int .i64 j ∧ hv = .int .i64 (S.highOf (kids.take j)) ∧ Hid (StAt wr B (S.names (kids.take j)) D1 ∧ Chg B.all w wr ∧ wr.heap[bb]? = some (.cells #[.pointer (some ⟨B.s, 0, none⟩)] 25 (0, 0)))) (fun _ jv _ => kids.length - (intOf jv).toNat)
            case atStart => exact ⟨0, by omega, rfl, rfl, H5.out.1, H5.out.2.1, H5.out.2.2⟩
            case round =>
              obtain ⟨j, hj, rfl, rfl, HT⟩ := hrel
              by_cases hlt : j < kids.length
              · obtain ⟨a', c', e', _, hcell⟩ := (Ints.chg H.out.2.2.2 HT.out.2.1 (fun q hq => hq.1)).form
                obtain ⟨b, o, ha, hcj⟩ := hcell j hlt
                have haa : a = a' := by injection e'
                subst haa
                subst ha
                have hsn : Hid (kids.take (j + 1) = kids.take j ++ [kids[j]] ∧ kids[j] ∈ kids) := ⟨List.take_succ_eq_append_getElem hlt, List.getElem_mem hlt⟩
                obtain ⟨x, hx⟩ : ∃ x, x = kids[j] := ⟨_, rfl⟩
                rw [← hx] at hcj hsn
                have b0 : wr.cell? ⟨bb, 0, none⟩ = some (.pointer (some ⟨B.s, 0, none⟩)) := cell_at HT.out.2.2 0
                have hrange : Hid (-9223372036854775808 ≤ ((S.names (kids.take j)).cel x).named + 1 ∧ ((S.names (kids.take j)).cel x).named + 1 ≤ 9223372036854775807) := by
                  rw [(names_cel S x (kids.take j)).1]
                  obtain ⟨d, hd⟩ := has_iff.1 (HK.out x hsn.out.2).1
                  rw [cel_some hd]
                  have h1 := HO.out.2.2.named x d hd
                  have h2 := HO.out.2.2.top x d hd
                  have h3 : (kids.take j).count x ≤ kids.length := Nat.le_trans List.count_le_length (by simp; omega)
                  exact ⟨by omega, by omega⟩
                clear e' hcell hx
                go_wp2_with (first
                  | (go_at_call 63; go_loud (refine (name_any _ B _ D1 x 1 HT.out.1 hrange.out).mono ?_; rintro e w6 ⟨rfl, hs6, hc6⟩; rw [← names_snoc, ← hsn.out.1] at hs6; have H6 : Hid (StAt w6 B (S.names (kids.take (j + 1))) D1 ∧ Chg B.all w w6 ∧ w6.heap[bb]? = some (.cells #[.pointer (some ⟨B.s, 0, none⟩)] 25 (0, 0))) := ⟨hs6, HT.out.2.1.trans hc6, (hc6.block bb (heap_lt HT.out.2.2) HBN.out).trans HT.out.2.2⟩; obtain ⟨mm, hm⟩ := hs6.cells; obtain ⟨cx, ax, qx, hl, hc, hk⟩ := hm.get x; have hl0 := hl w6 ⟨[], Chg.refl _ _, by simp⟩; have c4 := hs6.cell.2.2.2.2.1; have hfd := field_high (cx, ax, qx) w6; have b6 : w6.cell? ⟨bb, 0, none⟩ = some (.pointer (some ⟨B.s, 0, none⟩)) := cell_at H6.out.2.2 0; have HC : Hid (cx.high = (S.cel x).high) := hc ▸ (names_cel S x (kids.take (j + 1))).2.1; clear hs6 hc6 hm hl hc hk))
                  | fail)
                go_roundw
                case rel => exact ⟨j + 1, by omega, by go_num, by rw [hsn.out.1, highOf_snoc, ← HC.out], H6.out⟩
                case measure => simp [intOf]; omega
              · have hjl : j = kids.length := by omega
                subst hjl
                rw [List.take_length]
                have HT2 : Hid (StAt wr B (S.names kids) D1 ∧ Chg B.all w wr ∧ wr.heap[bb]? = some (.cells #[.pointer (some ⟨B.s, 0, none⟩)] 25 (0, 0))) := by have := HT.out; rw [List.take_length] at this; exact this
                have hhi : 0 ≤ S.highOf kids ∧ S.highOf kids < 64 := highOf_lt (fun k hk => (HK.out k hk).2)
                obtain ⟨hi0, hi1⟩ := hhi
                obtain ⟨hg, hhg⟩ : ∃ hg, hg = S.highOf kids := ⟨_, rfl⟩
                rw [← hhg] at HR5 hi0 hi1 ⊢
                clear HT hhg
                have b0 : wr.cell? ⟨bb, 0, none⟩ = some (.pointer (some ⟨B.s, 0, none⟩)) := cell_at HT2.out.2.2 0
                go_wp2_with fail
                have H8 : Hid (StAt wr.drew B (S.names kids) D1 ∧ Chg B.all w wr.drew ∧ wr.drew.heap[bb]? = some (.cells #[.pointer (some ⟨B.s, 0, none⟩)] 25 (0, 0))) := ⟨HT2.out.1.drew, HT2.out.2.1.drew, HT2.out.2.2⟩
                have HF : Hid (∀ (w' : World) (S' : StS) (D' : DevS), StAt w' B S' D' → w'.heap[bb]? = some (.cells #[.pointer (some ⟨B.s, 0, none⟩)] 25 (0, 0)) → (fun w' : World => w'.cell? ⟨bb, 0, none⟩ = some (.pointer (some ⟨B.s, 0, none⟩)) ∧ w'.cell? ⟨B.s, 4, none⟩ = some (.map (some B.c))) w') := fun w' S' D' h1 h2 => ⟨cell_at h2 0, h1.cell.2.2.2.2.1⟩
                have hS0 : (fun w' : World => w'.cell? ⟨bb, 0, none⟩ = some (.pointer (some ⟨B.s, 0, none⟩)) ∧ w'.cell? ⟨B.s, 4, none⟩ = some (.map (some B.c))) wr.drew := HF.out _ _ _ H8.out.1 H8.out.2.2
                have hwrap : IntKind.i64.wrap (hg + 1) = hg + 1 := by
                  obtain ⟨q, rfl⟩ : ∃ q : Nat, hg = q := ⟨hg.toNat, by omega⟩
                  have := wrap_i64_small (q + 1) (by omega)
                  simpa using this
                clear b0 HT2
                refine wp_region_held_drew (S := (fun w' : World => w'.cell? ⟨bb, 0, none⟩ = some (.pointer (some ⟨B.s, 0, none⟩)) ∧ w'.cell? ⟨B.s, 4, none⟩ = some (.map (some B.c)))) (by kernel_rfl) hS0 (fun hHeld => ?_)
                clear hHeld
                refine Pair.take (i := 0) (fuel := 10) (d := 65) (v := ?_) (by kernel_rfl) rfl rfl (by kernel_rfl) (by kernel_rfl) (by kernel_rfl) (fun _ _ _ h => h) (Or.inl ⟨by rfl, ?_⟩) hS0 ?_
                rotate_left 1
                · (intro w' hSw; obtain ⟨f0, f1⟩ := hSw; go_simp; try with_reducible rfl)
                try simp only [Act.put, List.setIfInBounds_toArray, List.set_cons_zero, List.set_cons_succ]
                refine Pair.take (i := 1) (fuel := 9) (d := 66) (v := ?_) (by kernel_rfl) rfl rfl (by kernel_rfl) (by kernel_rfl) (by kernel_rfl) (fun _ _ _ h => h) (Or.inl ⟨by rfl, ?_⟩) hS0 ?_
                rotate_left 1
                · (intro w' hSw; obtain ⟨f0, f1⟩ := hSw; go_simp; try with_reducible rfl)
                try simp only [Act.put, List.setIfInBounds_toArray, List.set_cons_zero, List.set_cons_succ]
                refine Pair.take (i := 2) (fuel := 8) (d := 67) (v := ?_) (by kernel_rfl) rfl rfl (by kernel_rfl) (by kernel_rfl) (by kernel_rfl) (fun _ _ _ h => h) (Or.inl ⟨by rfl, ?_⟩) hS0 ?_
                rotate_left 1
                · (intro w' hSw; obtain ⟨f0, f1⟩ := hSw; go_simp; try with_reducible rfl)
                try simp only [Act.put, List.setIfInBounds_toArray, List.set_cons_zero, List.set_cons_succ]
                refine Pair.take (i := 3) (fuel := 7) (d := 68) (v := ?_) (by kernel_rfl) rfl rfl (by kernel_rfl) (by kernel_rfl) (by kernel_rfl) (fun _ _ _ h => h) (Or.inl ⟨by rfl, ?_⟩) hS0 ?_
                rotate_left 1
                · (intro w' hSw; obtain ⟨f0, f1⟩ := hSw; go_simp; try with_reducible rfl)
                try simp only [Act.put, List.setIfInBounds_toArray, List.set_cons_zero, List.set_cons_succ]
                refine Pair.take (i := 4) (fuel := 6) (d := 69) (v := ?_) (by kernel_rfl) rfl rfl (by kernel_rfl) (by kernel_rfl) (by kernel_rfl) (fun _ _ _ h => h) (Or.inl ⟨by rfl, ?_⟩) hS0 ?_
                rotate_left 1
                · (intro w' hSw; obtain ⟨f0, f1⟩ := hSw; go_simp; try with_reducible rfl)
                try simp only [Act.put, List.setIfInBounds_toArray, List.set_cons_zero, List.set_cons_succ]
                refine Pair.take (i := 5) (fuel := 5) (d := 70) (v := ?_) (by kernel_rfl) rfl rfl (by kernel_rfl) (by kernel_rfl) (by kernel_rfl) (fun _ _ _ h => h) (Or.inl ⟨by rfl, ?_⟩) hS0 ?_
                rotate_left 1
                · (intro w' hSw; obtain ⟨f0, f1⟩ := hSw; go_simp; try with_reducible rfl)
                try simp only [Act.put, List.setIfInBounds_toArray, List.set_cons_zero, List.set_cons_succ]
                refine Pair.take (i := 6) (fuel := 4) (d := 71) (v := .int .i64 (hg + 1)) (by kernel_rfl) rfl rfl (by kernel_rfl) (by kernel_rfl) (by kernel_rfl) (fun _ _ _ h => h) (Or.inl ⟨by rfl, ?_⟩) hS0 ?_
                · (intro w' hSw; obtain ⟨f0, f1⟩ := hSw; go_simp; try simp only [hwrap])
                try simp only [Act.put, List.setIfInBounds_toArray, List.set_cons_zero, List.set_cons_succ]
                refine Pair.take (i := 7) (fuel := 3) (d := 72) (v := ?_) (by kernel_rfl) rfl rfl (by kernel_rfl) (by kernel_rfl) (by kernel_rfl) (fun _ _ _ h => h) (Or.inl ⟨by rfl, ?_⟩) hS0 ?_
                rotate_left 1
                · (intro w' hSw; obtain ⟨f0, f1⟩ := hSw; go_simp; try with_reducible rfl)
                try simp only [Act.put, List.setIfInBounds_toArray, List.set_cons_zero, List.set_cons_succ]
                refine Pair.call1 (i := 8) (fuel := 2) (by kernel_rfl) rfl (by kernel_rfl) (fun K hK => ?_)
                go_simp
                go_at_call 64
                refine (clone_ints _ wr.drew _ kids (Ints.chg H.out.2.2.2 H8.out.2.1 (fun q hq => hq.1)) (by omega)).mono ?_
                rintro e w7 ⟨v7, rfl, ho, hb⟩
                obtain ⟨a7, c7, rfl⟩ := ho.form
                have H7 : Hid (StAt w7 B (S.names kids) D1 ∧ Chg B.all w w7 ∧ w7.heap[bb]? = some (.cells #[.pointer (some ⟨B.s, 0, none⟩)] 25 (0, 0)) ∧ Ints B.out w7 (.slice a7 kids.length c7) kids) := ⟨H8.out.1.on hb, H8.out.2.1.trans (Chg.of_below hb), (hb.block _ (heap_lt H8.out.2.2)).trans H8.out.2.2, Ints.mono (ho.ints (by omega)) (fun k hk => ⟨fun hm => by have h1 := HO.out.1 k hm; have h2 := H8.out.2.1.size; have h3 := hk.1; omega, fun hm => by have h1 := H8.out.1.low k hm; have h3 := hk.1; omega⟩)⟩
                obtain ⟨mm, hm⟩ := H7.out.1.cells
                obtain ⟨w8, hrun, hm8, hc8⟩ := hm.is.put (P := Tryz.prog) Tryz.underlying94 Tryz.underlying3 id (⟨0, 0, hg + 1, kids⟩, a7, c7)
                replace hrun : (Instr.mapUpdate 94 (.map (some B.c)) (.int .i64 id) (.agg #[.int .i64 0, .int .i64 0, .int .i64 (hg + 1), .slice a7 kids.length c7])).run Tryz.prog w7 = .ok () w8 := hrun
                have hs8 : StAt w8 B ((S.names kids).setC id (some ⟨0, 0, hg + 1, kids⟩)) D1 := H7.out.1.setCells hc8 (hm.put hm8 hc8 H7.out.2.2.2) rfl rfl
                have HE : Hid (StAt w8 B ((S.names kids).setC id (some ⟨0, 0, hg + 1, kids⟩)) D1 ∧ Chg B.all w w8 ∧ w8.heap[bb]? = some (.cells #[.pointer (some ⟨B.s, 0, none⟩)] 25 (0, 0))) := ⟨hs8, H7.out.2.1.trans (hc8.mono B.c_mem), (hc8.block bb (heap_lt H7.out.2.2.1) (fun hq => HBN.out (B.c_mem bb hq))).trans H7.out.2.2.1⟩
                clear ho hb hm hm8 hc8 hs8
                refine hK.out _ _ (HF.out _ _ _ H7.out.1 H7.out.2.2.1) (fun hHeld => ?_)
                clear hHeld hK K
                try simp only [Act.put, List.setIfInBounds_toArray, List.set_cons_zero, List.set_cons_succ]
                refine Pair.take (i := 9) (fuel := 1) (d := 74) (v := ?_) (by kernel_rfl) rfl rfl (by kernel_rfl) (by kernel_rfl) (by kernel_rfl) (fun _ _ _ h => h) (Or.inl ⟨by rfl, ?_⟩) (HF.out _ _ _ H7.out.1 H7.out.2.2.1) ?_
                rotate_left 1
                · (intro w' hSw; obtain ⟨f0, f1⟩ := hSw; go_simp; try with_reducible rfl)
                try simp only [Act.put, List.setIfInBounds_toArray, List.set_cons_zero, List.set_cons_succ]
                refine Pair.call1 (i := 10) (fuel := 0) (by kernel_rfl) rfl (by kernel_rfl) (fun K hK => ?_)
                go_simp
                refine hK.out _ _ (HF.out _ _ _ HE.out.1 HE.out.2.2) (fun hHeld => ?_)
                clear hHeld hK K
                try simp only [Act.put, List.setIfInBounds_toArray, List.set_cons_zero, List.set_cons_succ]
                refine wpAnyH_done (by kernel_rfl) ?_ _
                clear H8 H7 hS0 HF hrun
                go_wp2
                go_ret2
                rw [HR5.out]
                exact ⟨rfl, HE.out.1, HE.out.2.1⟩
end Go.Proofs.YtadmecjdihfmeaaGreat.Sto
