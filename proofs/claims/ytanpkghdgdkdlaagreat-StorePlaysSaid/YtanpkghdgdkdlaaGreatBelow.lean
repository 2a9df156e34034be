/- The law's own 'below': what a block, and all below it, hold, as they are come to. -/
import Derived.Test.YtanpkghdgdkdlaaGreatQue
import Derived.Maps.AppendAt
import Derived.Deep.AppendLies
import Derived.Test.YtanpkghdgdkdlaaGreatElem
namespace Go.Proofs.YtanpkghdgdkdlaaGreat.Sto
set_option linter.unusedVariables false
set_option linter.unusedSimpArgs false
set_option maxRecDepth 100000
open Go.RowKit Go.Lib Go.Proofs.YtanpkghdgdkdlaaGreat.Mem Go.Proofs.YtanpkghdgdkdlaaGreat.Oct Go.Proofs.YtanpkghdgdkdlaaGreat.Dev

/-- a block in two cells; p: where its kids may lie -/
def BlkAt (p : Nat → Prop) (w : World) (cs : List Value) (x : BlkT) : Prop := ∃ a c, cs = [.slice a x.1.length c, .string x.2] ∧ Ints p w (.slice a x.1.length c) x.1
def Blks (p : Nat → Prop) (w : World) (v : Value) (xs : List BlkT) : Prop := SliceOf 2 (BlkAt p) p w v xs
theorem Blks.chg {p : Nat → Prop} {w w' : World} {v : Value} {xs : List BlkT} {T : List Nat} (h : Blks p w v xs) (hc : Chg T w w') (hd : ∀ k, p k → k ∉ T) : Blks p w' v xs := by
  rcases h with h | ⟨b, o, c, e, hp, hm, hj⟩
  · exact .inl h
  · refine .inr ⟨b, o, c, e, hp, hm, fun j hjl => ?_⟩
    obtain ⟨cs, h1, h2, a, c', h3, h4⟩ := hj j hjl
    refine ⟨cs, h1, fun q hq => ?_, a, c', h3, h4.chg hc hd⟩
    have h5 := h2 q hq
    rw [List.getElem?_eq_getElem (by omega)] at h5 ⊢
    exact hc.cell (hd b hp) h5
theorem Blks.on {p : Nat → Prop} {w w' : World} {v : Value} {xs : List BlkT} (h : Blks p w v xs) (hb : Below w.heap.size w w') : Blks p w' v xs := by
  refine (Blks.chg (T := []) h (Chg.of_below hb) (by simp))
theorem Blks.mono {p q : Nat → Prop} {w : World} {v : Value} {xs : List BlkT} (h : Blks p w v xs) (hq : ∀ k, p k → q k) : Blks q w v xs := by
  rcases h with h | ⟨b, o, c, e, hp, hm, hj⟩
  · exact .inl h
  · refine .inr ⟨b, o, c, e, hq b hp, hm, fun j hjl => ?_⟩
    obtain ⟨cs, h1, h2, a, c', h3, h4⟩ := hj j hjl
    exact ⟨cs, h1, h2, a, c', h3, h4.mono hq⟩
/-- the cells of blocks, two each -/
def Cells (q : Nat → Prop) (w : World) (cells : List Value) (xs : List BlkT) : Prop := cells.length = xs.length * 2 ∧ ∀ j (h : j < xs.length), ∃ a c, cells[j * 2]? = some (.slice a xs[j].1.length c) ∧ cells[j * 2 + 1]? = some (.string xs[j].2) ∧ Ints q w (.slice a xs[j].1.length c) xs[j].1
theorem Cells.nil (q : Nat → Prop) (w : World) : Cells q w [] [] := ⟨rfl, fun j h => by simp at h⟩
theorem Cells.snoc {q : Nat → Prop} {w : World} {cells : List Value} {xs : List BlkT} (h : Cells q w cells xs) {a : Option Addr} {c : Nat} {x : BlkT} (hx : Ints q w (.slice a x.1.length c) x.1) : Cells q w (cells ++ [.slice a x.1.length c, .string x.2]) (xs ++ [x]) := by
  refine ⟨by simp [h.1]; omega, fun j hj => ?_⟩
  have hl := h.1
  by_cases hjl : j < xs.length
  · obtain ⟨a', c', h1, h2, h3⟩ := h.2 j hjl
    refine ⟨a', c', ?_, ?_, ?_⟩
    · rw [List.getElem?_append_left (by omega), h1, List.getElem_append_left hjl]
    · rw [List.getElem?_append_left (by omega), h2, List.getElem_append_left hjl]
    · rw [List.getElem_append_left hjl]; exact h3
  · have hje : j = xs.length := by simp at hj; omega
    subst hje
    refine ⟨a, c, ?_, ?_, ?_⟩
    · rw [List.getElem?_append_right (by omega), show xs.length * 2 - cells.length = 0 by omega]; simp
    · rw [List.getElem?_append_right (by omega), show xs.length * 2 + 1 - cells.length = 1 by omega]; simp
    · simpa using hx
theorem Cells.chg {q q' : Nat → Prop} {w w' : World} {cells : List Value} {xs : List BlkT} {T : List Nat} (h : Cells q w cells xs) (hc : Chg T w w') (hq : ∀ k, q k → k < w.heap.size → k ∉ T ∧ q' k) : Cells q' w' cells xs := by
  refine ⟨h.1, fun j hj => ?_⟩
  obtain ⟨a, c, h1, h2, h3⟩ := h.2 j hj
  refine ⟨a, c, h1, h2, ?_⟩
  exact ((Ints.real h3).chg hc (fun k hk => (hq k hk.1 hk.2).1)).mono (fun k hk => (hq k hk.1 hk.2).2)
/-- what was gathered, a row of one's own -/
structure OwnB (base g : Nat) (w : World) (v : Value) (xs : List BlkT) : Prop where
  own : ∃ cells, w.ownsRow base 58 2 v xs.length cells ∧ Cells (fun k => base ≤ k ∧ k ≠ g ∧ some k ≠ v.ownBlock) w cells xs
  ng : v.ownBlock ≠ some g
theorem ownBlock_form {w : World} {base : Nat} {e : TypeId} {sz n : Nat} {v : Value} {xs : List Value} (h : w.ownsRow base e sz v n xs) : ∃ a c, v = .slice a n c := by
  rcases h.2 with ⟨rfl, h0⟩ | ⟨g, cap, cur, rfl, _⟩
  · exact ⟨none, 0, by rw [h0]⟩
  · exact ⟨_, _, rfl⟩
theorem OwnB.form {base g : Nat} {w : World} {v : Value} {xs : List BlkT} (h : OwnB base g w v xs) : ∃ a c, v = .slice a xs.length c := by
  obtain ⟨cells, h1, _⟩ := h.own
  exact ownBlock_form h1
theorem OwnB.chg {base g g' : Nat} {w w' : World} {v : Value} {xs : List BlkT} (h : OwnB base g w v xs) (hc : Chg [g] w w') (hg : g' = g ∨ g' = w.heap.size) : OwnB base g' w' v xs := by
  obtain ⟨cells, h1, h2⟩ := h.own
  have hlt := World.ownsRow.lt h1
  refine ⟨⟨cells, ⟨h1.1, ?_⟩, h2.chg hc (fun k hk hks => ⟨by simpa using hk.2.1, hk.1, by omega, hk.2.2⟩)⟩, ?_⟩
  · rcases h1.2 with h3 | ⟨r, cap, cur, e, hr, hb, r2⟩
    · exact .inl h3
    · refine .inr ⟨r, cap, cur, e, hr, (hc.block r (heap_lt hb) ?_).trans hb, r2⟩
      have := h.ng
      rw [e] at this
      simp [Value.ownBlock] at this
      simpa using this
  · intro he
    have := (hlt g' he).2
    rcases hg with h4 | h4
    · rw [h4] at he; exact h.ng he
    · omega
theorem OwnB.blks {base g : Nat} {w : World} {v : Value} {xs : List BlkT} (h : OwnB base g w v xs) (hl : xs.length ≤ 9223372036854775807) : Blks (base ≤ ·) w v xs := by
  obtain ⟨cells, h1, h2⟩ := h.own
  rcases h1.2 with ⟨rfl, h0⟩ | ⟨r, cap, cur, rfl, hr, hb, hn, hcm, hcs, htake⟩
  · exact .inl ⟨List.length_eq_zero_iff.1 h0, _, _, rfl⟩
  · refine .inr ⟨r, 0, cap, rfl, hr, hl, fun j hj => ?_⟩
    obtain ⟨a, c, k1, k2, k3⟩ := h2.2 j hj
    refine ⟨[.slice a xs[j].1.length c, .string xs[j].2], rfl, fun q hq => ?_, a, c, rfl, k3.mono (fun k hk => hk.1)⟩
    have hcell : ∀ i u, cells[i]? = some u → w.cell? ⟨r, i, none⟩ = some u := fun i u hu => by
      have := World.ownsRow.cells h1 rfl i u hu
      rw [add_at, Nat.zero_add] at this
      exact this
    match q, hq with
    | 0, _ => simpa using hcell _ _ k1
    | 1, _ => simpa using hcell _ _ k2
theorem info_blk : (Tryz.prog.info? 58).map (fun i => (i.zero, i.size, i.bytes)) = some (some (.agg #[.slice none 0 0, .string ⟨#[]⟩]), 2, 40) := by kernel_rfl
/-- 'out = append(out, b)' -/
theorem wpList_append_blk {w : World} {ops : Array Oper} {rest : List Oper} {o : Oper} {a : Act} {Q : Exit → Act → World → Prop} (hgd : o.guard = none) (s x : Operand)
    (ho : o.op = .call { callee := .builtin .append, args := #[s, x], argTypes := #[67, 67] }) {base g : Nat} (hbase : base ≤ w.heap.size) {v : Value} {xs : List BlkT} (hs : a.eval s = v) (h : OwnB base g w v xs) (hg : g < w.heap.size)
    {nb : Nat} {ka : Option Addr} {kc : Nat} {y : BlkT} (hx : a.eval x = .slice (some ⟨nb, 0, none⟩) 1 1) (hnb : w.heap[nb]? = some (.cells #[.slice ka y.1.length kc, .string y.2] 58 (0, 0)))
    (hk : Ints (fun k => base ≤ k ∧ k ≠ g ∧ some k ≠ v.ownBlock) w (.slice ka y.1.length kc) y.1) (hl : xs.length ≤ 1048576)
    (hn : ∀ v' w', OwnB base g w' v' (xs ++ [y]) → Below base w w' → w.grownBy w' v.ownBlock → wpList Tryz.prog ops Q rest (a.put o.dst v') w') : wpList Tryz.prog ops Q (o :: rest) a w := by
  obtain ⟨i0, hi, hz0, hz1, hz2⟩ := info_parts info_blk
  obtain ⟨cells, h1, h2⟩ := h.own
  refine wpList_append_own_at _ hgd s x 67 ho base 58 i0 (.agg #[.slice none 0 0, .string ⟨#[]⟩]) 2 40 Tryz.underlying67 hi hz0 hz1 hz2 rfl (by decide) v _ _ hs h1 ⟨nb, 0, none⟩ 1 1 [.slice ka y.1.length kc, .string y.2] hx rfl (fun j u hj => ?_) (fun u hu => ?_) (by unfold maxLen; omega) (by omega) hbase (fun v' w' k1 k2 _ k4 => ?_)
  · rw [add_at, Nat.zero_add, cell_at hnb]
    simpa using hj
  · simp at hu; rcases hu with rfl | rfl <;> rfl
  · have hlt := World.ownsRow.lt h1
    have hbl : Below base w w' := below_of_grown' k2 (fun k hk => (hlt k hk).1) hbase
    have hch : Chg (match v.ownBlock with | some r => [r] | none => []) w w' := by
      refine ⟨k2.os, k2.tape, k2.output, k2.size, fun k hk hm => k2.block k hk (fun e => ?_)⟩
      rw [← e] at hm
      simp at hm
    have hng : v'.ownBlock ≠ some g := by
      rcases k4 with k4 | k4
      · rw [k4]; exact h.ng
      · rw [k4]; intro e; injection e with e; omega
    have hqq : ∀ k, (base ≤ k ∧ k ≠ g ∧ some k ≠ v.ownBlock) → k < w.heap.size → k ∉ (match v.ownBlock with | some r => [r] | none => []) ∧ (base ≤ k ∧ k ≠ g ∧ some k ≠ v'.ownBlock) := by
      intro k hk hks
      refine ⟨?_, hk.1, hk.2.1, ?_⟩
      · split
        · rename_i r hr
          rw [hr] at hk
          simp at hk
          simpa using hk.2.2
        · simp
      · rcases k4 with k4 | k4
        · rw [k4]; exact hk.2.2
        · rw [k4]; intro e; injection e with e; omega
    refine hn v' w' ⟨⟨_, by simpa using k1, ?_⟩, hng⟩ hbl k2
    exact (h2.snoc hk).chg hch hqq
theorem getE_of {S : StS} {D : DevS} {i : Int} : (getF S D i = none → (S.getR D i).1 ≠ 0) ∧ (∀ x, getF S D i = some x → (S.getR D i).1 = 0) := by
  unfold getF StS.getR
  split
  · refine ⟨readP_err, fun x hx => ?_⟩
    exact (readP_in (l := x.1) (d := x.2) hx).2.1
  · exact ⟨fun _ => (by decide : (22 : Int) ≠ 0), fun x hx => by cases hx⟩
/-- what is known in a round -/
structure Bel (w : World) (B : Blk) (S : StS) (D : DevS) (all : List BlkT) (g f : Nat) (vo vt : Value) (xs : List BlkT) (todo : List Int) (wr : World) : Prop where
  below : Below w.heap.size w wr
  st : StAt wr B S D
  que : Que g wr vt todo
  base : w.heap.size ≤ g
  own : OwnB w.heap.size g wr vo xs
  eq : xs ++ bfs (getF S D) f (200 - xs.length) todo = all
  len : xs.length ≤ 200
  fuel : (200 - xs.length) * 17 + todo.length < f
  most : f ≤ 3500
def vlen : Value → Nat | .slice _ n _ => n | _ => 0
theorem bfs_nil (g : Int → Option BlkT) : ∀ f room, bfs g f room [] = []
  | 0, _ => rfl
  | f + 1, 0 => rfl
  | f + 1, r + 1 => rfl
theorem bfs_full (g : Int → Option BlkT) : ∀ f todo, bfs g f 0 todo = []
  | 0, _ => rfl
  | f + 1, [] => rfl
  | f + 1, t :: l => rfl
theorem Bel.done {w wr : World} {B : Blk} {S : StS} {D : DevS} {all xs : List BlkT} {g f : Nat} {vo vt : Value} {todo : List Int} (h : Bel w B S D all g f vo vt xs todo wr) (he : todo = [] ∨ xs.length = 200) : Blks (w.heap.size ≤ ·) wr vo all := by
  have e : xs = all := by
    have := h.eq
    rcases he with rfl | he
    · rw [bfs_nil, List.append_nil] at this; exact this
    · rw [he, Nat.sub_self, bfs_full, List.append_nil] at this; exact this
  rw [← e]
  exact h.own.blks (by have := h.len; omega)
theorem Bel.skip {w wr w' : World} {B : Blk} {S : StS} {D : DevS} {all xs : List BlkT} {g f : Nat} {x : Int} {vo vt vt' : Value} {rest : List Int} (h : Bel w B S D all g f vo vt xs (x :: rest) wr) (hx : xs.length < 200) (hg : getF S D x = none) (hb : Below wr.heap.size wr w') (hq : Que g wr vt' rest) : Bel w B S D all g (f - 1) vo vt' xs rest w' := by
  have hf := h.fuel
  obtain ⟨f', rfl⟩ : ∃ f', f = f' + 1 := ⟨f - 1, by simp at hf; omega⟩
  obtain ⟨r, hr⟩ : ∃ r, 200 - xs.length = r + 1 := ⟨199 - xs.length, by omega⟩
  refine ⟨h.below.trans (hb.mono h.below.size), h.st.on hb, hq.on (T := []) (Chg.of_below hb) (by simp), h.base, ?_, ?_, h.len, ?_, ?_⟩
  · have := h.own.chg (g' := g) ((Chg.of_below hb)) (.inl rfl)
    exact this
  · have := h.eq
    rw [hr, bfs, hg] at this
    rw [hr]
    exact this
  · simp at hf ⊢; omega
  · have := h.most; omega
/-- behind the first append -/
structure Bel2 (w : World) (B : Blk) (S : StS) (D : DevS) (all : List BlkT) (g f nb : Nat) (vo vt : Value) (xs : List BlkT) (todo : List Int) (a : Option Addr) (c : Nat) (x : BlkT) (wr : World) : Prop where
  below : Below w.heap.size w wr
  st : StAt wr B S D
  que : Que g wr vt todo
  base : w.heap.size ≤ g
  own : OwnB w.heap.size g wr vo (xs ++ [x])
  box : wr.heap[nb]? = some (.cells #[.slice a x.1.length c, .string x.2] 58 (0, 0))
  more : More wr (.slice a x.1.length c) x.1
  ne : nb ≠ g
theorem More.on {w w' : World} {v : Value} {l : List Int} (h : More w v l) (hb : Below w.heap.size w w') : More w' v l := by
  rcases h with h | ⟨b, o, c, e, hc⟩
  · exact .inl h
  · exact .inr ⟨b, o, c, e, fun j hj => cell_on hb (hc j hj)⟩
theorem Bel.next {w wr w' : World} {B : Blk} {S : StS} {D : DevS} {all xs : List BlkT} {g g' f : Nat} {t : Int} {vo vt vo' vt' : Value} {rest : List Int} {x : BlkT} (h : Bel w B S D all g f vo vt xs (t :: rest) wr) (hx : xs.length < 200) (hg : getF S D t = some x) (hb : Below w.heap.size w w') (hs : StAt w' B S D) (hq : Que g' w' vt' (rest ++ x.1)) (hg' : w.heap.size ≤ g') (ho : OwnB w.heap.size g' w' vo' (xs ++ [x])) :
    Bel w B S D all g' (f - 1) vo' vt' (xs ++ [x]) (rest ++ x.1) w' := by
  have hf := h.fuel
  have hk := getF_in hg
  obtain ⟨f', rfl⟩ : ∃ f', f = f' + 1 := ⟨f - 1, by simp at hf; omega⟩
  obtain ⟨r, hr⟩ : ∃ r, 200 - xs.length = r + 1 := ⟨199 - xs.length, by omega⟩
  have hr2 : 200 - (xs ++ [x]).length = r := by simp; omega
  refine ⟨hb, hs, hq, hg', ho, ?_, by simp; omega, ?_, ?_⟩
  · have := h.eq
    rw [hr, bfs, hg] at this
    rw [hr2, List.append_assoc]
    exact this
  · simp at hf ⊢; omega
  · have := h.most; omega
theorem ints_apart {base base' g : Nat} {w : World} {v : Value} {l : List Int} {r : Option Nat} (h : OwnI base' w v l) (hl : l.length ≤ 16) (hb : base ≤ base') (hg : g < base') (hr : ∀ k, r = some k → k < base') : Ints (fun k => base ≤ k ∧ k ≠ g ∧ some k ≠ r) w v l :=
  (OwnI.ints h (by omega)).mono (fun k hk => ⟨by omega, by omega, fun e => by have := hr k e.symm; omega⟩)
set_option maxHeartbeats 8000000 in
theorem below_any (w : World) (B : Blk) (S : StS) (D : DevS) (i : Int) (h : StAt w B S D) :
    Calls Tryz.prog 33 #[.pointer (some ⟨B.s, 0, none⟩), .int .i64 i] w fun e w' => ∃ v, e = .returned v ∧ Blks (w.heap.size ≤ ·) w' v (belowF S D i) ∧ Below w.heap.size w w' := by
  have hb1 : Below w.heap.size w (w.alloc (.cells #[.int .i64 i] 3)) := (Below.refl _ _).alloc (Nat.le_refl _) _
  have hst : Bel w B S D (belowF S D i) w.heap.size fuelB (.slice none 0 0) (.slice (some ⟨w.heap.size, 0, none⟩) 1 1) [] [i] (w.alloc (.cells #[.int .i64 i] 3)) :=
    ⟨hb1, h.on hb1, Que.one i, Nat.le_refl _, ⟨⟨[], World.ownsRow_nil _ _ _ _, Cells.nil _ _⟩, by simp [Value.ownBlock]⟩, rfl, by simp, by simp [fuelB], by simp [fuelB]⟩
  have H : Hid _ := hst
  have HS : Hid (StAt w B S D) := h
  clear h hb1 hst
  go_enter Tryz.func33, Tryz.ntmps33
  go_wp2_with fail
  go_loopw [5, 6] (fun vo vt wr => ∃ (xs : List BlkT) (todo : List Int) (g f off cap : Nat) (ao : Option Addr) (co : Nat), vo = .slice ao xs.length co ∧ vt = .slice (some ⟨g, off, none⟩) todo.length cap ∧ todo.length ≤ cap ∧ Hid (Bel w B S D (belowF S D i) g f vo vt xs todo wr)) (fun vo vt _ => (200 - vlen vo) * 17 + vlen vt)
  case atStart => exact ⟨[], [i], _, _, _, _, _, _, rfl, rfl, by simp, H.out⟩
  case round =>
    obtain ⟨xs, todo, g, f, off, cap, ao, co, rfl, rfl, hcap, HR⟩ := hrel
    have hlen := HR.out.len
    rcases todo with _ | ⟨t, rest⟩
    · go_wp2_with fail
      go_ret
      exact ⟨_, rfl, HR.out.done (.inl rfl), HR.out.below⟩
    · by_cases hx : xs.length < 200
      · obtain ⟨hc0, hq⟩ := HR.out.que.head
        have HQ : Hid _ := hq
        clear hq
        simp only [List.length_cons] at hcap ⊢
        have hcast : ((rest.length + 1 : Nat) : Int) = (rest.length : Int) + 1 := by omega
        go_wp2_with fail
        refine (storeGet_any wr B S D t HR.out.st).mono ?_
        rintro e w2 ⟨a, m, c, d, rfl, his, hb2⟩
        obtain ⟨hn0, hs0⟩ := getE_of (S := S) (D := D) (i := t)
        obtain ⟨e0, he0⟩ : ∃ e0, e0 = (S.getR D t).1 := ⟨_, rfl⟩
        rw [← he0] at hn0 hs0 ⊢
        cases hgf : getF S D t with
        | none =>
          have hne := hn0 hgf
          have H2 : Hid (Below wr.heap.size wr (w2.alloc (.cells #[.slice a m c, .string d] 58))) := hb2.alloc hb2.size _
          clear hn0 hs0 his hb2 he0
          have HN : Hid _ := HR.out.skip hx hgf H2.out HQ.out
          go_wp2_with fail
          obtain ⟨off', cap', hqe, hqc, _⟩ := Que.form HQ.out
          refine ⟨⟨xs, rest, g, f - 1, off', cap', ao, co, rfl, hqe, hqc, ?_⟩, by simp only [vlen]; omega⟩
          exact HN.out
        | some x =>
          have hz := hs0 x hgf
          obtain ⟨ks, dx⟩ := x
          have hgf2 : (S.getR D t).2 = some (ks, dx) := hgf
          rw [hgf2] at his
          obtain ⟨rfl, hown⟩ := his
          obtain ⟨a', c', hv⟩ := hown.form
          injection hv with hv1 hv2 hv3
          subst hv1 hv2 hv3 hz
          have HX : Hid (getF S D t = some (ks, d) ∧ OwnI wr.heap.size w2 (.slice a ks.length c) ks ∧ Below wr.heap.size wr w2) := ⟨hgf, hown, hb2⟩
          have hks := getF_in hgf
          clear hn0 hs0 hown hb2 he0 hgf hgf2
          go_wp2_with (first
            | (at_builtin; refine Elem.halt ?_)
            | fail)
          refine ⟨?_⟩
          have hB4 : Below wr.heap.size wr ((w2.alloc (.cells #[.slice a ks.length c, .string d] 58)).alloc (.cells #[.slice a ks.length c, .string d] 58)) := (HX.out.2.2.alloc HX.out.2.2.size _).alloc (by have := HX.out.2.2.size; simp; omega) _
          have hn1 : ((w2.alloc (.cells #[.slice a ks.length c, .string d] 58)).alloc (.cells #[.slice a ks.length c, .string d] 58)).heap[w2.heap.size]? = some (.cells #[.slice a ks.length c, .string d] 58 (0, 0)) := by
            rw [heap_alloc_other _ (by simp)]; exact heap_alloc_last _ _
          have hn2 : ((w2.alloc (.cells #[.slice a ks.length c, .string d] 58)).alloc (.cells #[.slice a ks.length c, .string d] 58)).heap[w2.heap.size + 1]? = some (.cells #[.slice a ks.length c, .string d] 58 (0, 0)) := by
            have := heap_alloc_last (w2.alloc (.cells #[.slice a ks.length c, .string d] 58)) (.cells #[.slice a ks.length c, .string d] 58)
            simpa using this
          have hown4 : OwnI wr.heap.size ((w2.alloc (.cells #[.slice a ks.length c, .string d] 58)).alloc (.cells #[.slice a ks.length c, .string d] 58)) (.slice a ks.length c) ks := (HX.out.2.1.alloc _).alloc _
          have hge2 := HX.out.2.2.size
          generalize (w2.alloc (.cells #[.slice a ks.length c, .string d] 58)).alloc (.cells #[.slice a ks.length c, .string d] 58) = w4 at hB4 hn1 hn2 hown4 ⊢
          have hglt := HR.out.que.lt
          have hbase0 := HR.out.below.size
          have hob4 : OwnB w.heap.size g w4 (.slice ao xs.length co) xs := HR.out.own.chg (g' := g) (Chg.of_below hB4) (.inl rfl)
          have hvlt : ∀ k, (Value.slice ao xs.length co).ownBlock = some k → k < wr.heap.size := fun k hk => by
            obtain ⟨cells, h1, _⟩ := HR.out.own.own
            exact (World.ownsRow.lt h1 k hk).2
          have hks2 : Ints (fun k => w.heap.size ≤ k ∧ k ≠ g ∧ some k ≠ (Value.slice ao xs.length co).ownBlock) w4 (.slice a ks.length c) ks := ints_apart hown4 hks hbase0 hglt hvlt
          refine wpList_append_blk (v := .slice ao xs.length co) (xs := xs) (y := (ks, d)) rfl _ _ rfl (by have := hB4.size; omega) rfl hob4 (by have := hB4.size; omega) rfl hn2 hks2 (by omega) ?_
          intro vo' w5 ho5 hb5 hg5
          have hn5 : w5.heap[w2.heap.size]? = some (.cells #[.slice a ks.length c, .string d] 58 (0, 0)) := (hg5.block _ (heap_lt hn1) (fun e => by have := hvlt _ e.symm; omega)).trans hn1
          have hch5 : Chg (match (Value.slice ao xs.length co).ownBlock with | some r => [r] | none => []) w4 w5 := by
            refine ⟨hg5.os, hg5.tape, hg5.output, hg5.size, fun k hk hm => hg5.block k hk (fun e => ?_)⟩
            rw [← e] at hm
            simp at hm
          have hmm : ∀ k, k ∈ (match (Value.slice ao xs.length co).ownBlock with | some r => [r] | none => []) → (Value.slice ao xs.length co).ownBlock = some k := by
            intro k hk
            split at hk
            · rename_i r hr; simp at hk; rw [hk]; exact hr
            · simp at hk
          have hq5 : Que g w5 (.slice (some ⟨g, off, none⟩) (t :: rest).length cap) (t :: rest) := (HR.out.que.on (T := []) (Chg.of_below hB4) (by simp)).on hch5 (fun hm => HR.out.own.ng (hmm g hm))
          have hmore : More w5 (.slice a ks.length c) ks := by
            refine More.of_own (hown4.chg hch5 (fun q hq => hvlt q (hmm q hq)))
          have hB5 : Below w.heap.size w w5 := (HR.out.below.trans (hB4.mono HR.out.below.size)).trans hb5
          have hst5 : StAt w5 B S D := HS.out.on hB5
          have H5 : Hid (Bel2 w B S D (belowF S D i) g f w2.heap.size vo' (.slice (some ⟨g, off, none⟩) (t :: rest).length cap) xs (t :: rest) a c (ks, d) w5) := ⟨hB5, hst5, hq5, HR.out.base, ho5, hn5, hmore, by omega⟩
          have n0 : w5.cell? ⟨w2.heap.size, 0, none⟩ = some (.slice a ks.length c) := cell_at hn5 0
          clear hB4 hn1 hn2 hown4 hob4 hks2 ho5 hb5 hg5 hn5 hch5 hmm hq5 hmore hB5 hst5 hvlt
          obtain ⟨ao', co', hvo⟩ := H5.out.own.form
          subst hvo
          go_wp2_with (first
            | (at_builtin; refine Elem.halt ?_)
            | fail)
          refine ⟨?_⟩
          refine wpList_append_que (l := t :: rest) (ks := ks) rfl _ _ rfl rfl rfl H5.out.que H5.out.more (by have hf := HR.out.fuel; have hm := HR.out.most; simp at hf ⊢; omega) ?_
          intro v6 w6 g6 hq6 hc6 hg6
          have hbg : w.heap.size ≤ g6 := by
            have := HR.out.base
            have := H5.out.below.size
            omega
          have hB6 : Below w.heap.size w w6 := H5.out.below.trans (hc6.below H5.out.below.size (by have := HR.out.base; simp; omega))
          have H6 : Hid (Below w.heap.size w w6 ∧ OwnB w.heap.size g6 w6 (.slice ao' (xs ++ [(ks, d)]).length co') (xs ++ [(ks, d)]) ∧ Que g6 w6 v6 (t :: (rest ++ ks)) ∧ w.heap.size ≤ g6) := ⟨hB6, H5.out.own.chg hc6 hg6, hq6, hbg⟩
          obtain ⟨off6, cap6, hv6, hcap6, _⟩ := Que.form hq6
          subst hv6
          clear hq6 hc6 hg6 hbg hB6 n0
          simp only [List.cons_append, List.length_cons] at hcap6 ⊢
          obtain ⟨_, hq7⟩ := Que.head H6.out.2.2.1
          have HQ7 : Hid _ := hq7
          clear hq7
          have HN : Hid _ := HR.out.next (x := (ks, d)) hx HX.out.1 H6.out.1 (HS.out.on H6.out.1) HQ7.out H6.out.2.2.2 H6.out.2.1
          go_wp2_with fail
          obtain ⟨off7, cap7, hqe, hqc, _⟩ := Que.form HQ7.out
          have hl1 : (rest ++ ks).length = rest.length + ks.length := List.length_append
          rw [hl1] at hqe hqc
          refine ⟨⟨xs ++ [(ks, d)], rest ++ ks, g6, f - 1, off7, cap7, ao', co', by simp, by rw [hl1]; exact hqe, by omega, ?_⟩, by simp only [vlen]; omega⟩
          have h8 := HN.out
          rw [hl1] at h8
          simp only [List.length_append, List.length_cons, List.length_nil] at h8
          exact h8
      · have hx' : xs.length = 200 := by omega
        go_wp2_with fail
        go_ret
        exact ⟨_, rfl, HR.out.done (.inr hx'), HR.out.below⟩
end Go.Proofs.YtanpkghdgdkdlaaGreat.Sto
