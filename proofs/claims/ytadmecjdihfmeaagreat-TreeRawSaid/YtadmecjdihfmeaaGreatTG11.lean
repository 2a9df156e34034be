/- TreShort TreDo TreAlso TreStepW TreMade: several texts of one proof, laid as one file (a claim has at most 60 files). No condition. -/
import Derived.Test.YtadmecjdihfmeaaGreatRead
import Derived.Test.YtadmecjdihfmeaaGreatStoPut
import Derived.Deep.LoopGhost
import Derived.Deep.QuietTactic
import Derived.BigQuiet
import Derived.Lib.SmallJoins
import Derived.Lib.MinMax
import Derived.Test.YtadmecjdihfmeaaGreatTG3
import Derived.Test.YtadmecjdihfmeaaGreatTG9
import Derived.Test.YtadmecjdihfmeaaGreatTG10
import Derived.Test.YtadmecjdihfmeaaGreatTG6
import Derived.Test.YtadmecjdihfmeaaGreatStoAwake
import Derived.Test.YtadmecjdihfmeaaGreatStoLive
import Derived.Test.YtadmecjdihfmeaaGreatTG8
/- Layer 7: scripts in memory; short. -/
namespace Go.Proofs.YtadmecjdihfmeaaGreat.Tre
set_option linter.unusedVariables false
set_option linter.unusedSimpArgs false
set_option maxRecDepth 100000
open Go.RowKit Go.Lib Go.Proofs.YtadmecjdihfmeaaGreat.Mem Go.Proofs.YtadmecjdihfmeaaGreat.Oct Go.Proofs.YtadmecjdihfmeaaGreat.Dev Go.Proofs.YtadmecjdihfmeaaGreat.Sto

/-- a change -/
structure DoE where
  op : Int
  key : ByteArray
  val : ByteArray
instance : Inhabited DoE := ⟨⟨0, ⟨#[]⟩, ⟨#[]⟩⟩⟩
def DoE.fits (k : DoE) : Prop := (Lit.int .i64 k.op).wf = true ∧ k.key.size ≤ 140737488351232 ∧ k.val.size ≤ 140737488351232
def DoE.v (k : DoE) : Value := .agg #[.int .i64 k.op, .string k.key, .string k.val]
def DoIs (w : World) (cs : List Value) (k : DoE) : Prop := cs = [.int .i64 k.op, .string k.key, .string k.val] ∧ k.fits
def Does (p : Nat → Prop) (w : World) (v : Value) (l : List DoE) : Prop := SliceOf 3 DoIs p w v l
theorem Does.on {p : Nat → Prop} {w w' : World} {v : Value} {l : List DoE} (h : Does p w v l) (hb : Below w.heap.size w w') : Does p w' v l := by
  rcases h with h | ⟨b, o, c, e, hp, hm, hc⟩
  · exact .inl h
  · refine .inr ⟨b, o, c, e, hp, hm, fun j hj => ?_⟩
    obtain ⟨cs, h1, h2, h3⟩ := hc j hj
    refine ⟨cs, h1, fun q hq => ?_, h3⟩
    have h6 := h2 q hq
    rw [List.getElem?_eq_getElem (by omega)] at h6 ⊢
    exact (hb.cell (World.block_lt_of_cell? w _ h6)).trans h6
theorem Does.wide {w : World} {v : Value} {l : List DoE} {n m : Nat} (h : Does (· < n) w v l) (hb : n ≤ m) : Does (· < m) w v l := by
  rcases h with h | ⟨b, o, c, e, hp, hm, hc⟩
  · exact .inl h
  · exact .inr ⟨b, o, c, e, Nat.lt_of_lt_of_le hp hb, hm, hc⟩
theorem Does.len {p : Nat → Prop} {w : World} {v : Value} {l : List DoE} (h : Does p w v l) : ∃ a c, v = .slice a l.length c ∧ l.length ≤ 9223372036854775807 := by
  obtain ⟨a, c, e, hm, _⟩ := SliceOf.form h
  exact ⟨a, c, e, hm⟩
theorem Does.item {p : Nat → Prop} {w : World} {a : Option Addr} {c : Nat} {l : List DoE} (h : Does p w (.slice a l.length c) l) (j : Nat) (hj : j < l.length) : ∃ b o : Nat, a = some ⟨b, o, none⟩ ∧
    w.cell? ⟨b, o + j * 3, none⟩ = some (.int .i64 l[j].op) ∧ w.cell? ⟨b, o + j * 3 + 1, none⟩ = some (.string l[j].key) ∧ w.cell? ⟨b, o + j * 3 + 2, none⟩ = some (.string l[j].val) ∧ l[j].fits := by
  obtain ⟨a', c', e, _, hc⟩ := SliceOf.form h
  injection e with e _ _
  subst e
  obtain ⟨b, o, h1, h2, cs, h3, h4, h5, h6⟩ := hc j hj
  subst h5
  exact ⟨b, o, h1, h4 0 (by omega), h4 1 (by omega), h4 2 (by omega), h6⟩
/-- a script, as 'short' reads it -/
def Rd (w : World) (a : Option Addr) (n : Nat) : Prop := n ≤ 9223372036854775807 ∧ ∀ j, j < n → ∃ (b o : Nat) (s t : ByteArray), a = some ⟨b, o, none⟩ ∧ w.cell? ⟨b, o + j * 3 + 1, none⟩ = some (.string s) ∧ w.cell? ⟨b, o + j * 3 + 2, none⟩ = some (.string t) ∧ s.size ≤ 140737488351232 ∧ t.size ≤ 140737488351232
theorem Does.rd {p : Nat → Prop} {w : World} {a : Option Addr} {c : Nat} {l : List DoE} (h : Does p w (.slice a l.length c) l) : Rd w a l.length := by
  obtain ⟨a', c', e, hm⟩ := h.len
  refine ⟨hm, fun j hj => ?_⟩
  obtain ⟨b, o, h1, _, h2, h3, h4⟩ := h.item j hj
  exact ⟨b, o, _, _, h1, h2, h3, h4.2.1, h4.2.2⟩
def ShortIs (w : World) (n : Nat) (e : Ending) (w' : World) : Prop := ∃ x, e = .returned (.bool x) ∧ (x = true → n ≤ 300) ∧ Below w.heap.size w w'
set_option maxHeartbeats 4000000 in
theorem short_any (w : World) (a : Option Addr) (m c : Nat) (h : Rd w a m) : Calls Tryz.prog 10 #[.slice a m c] w (ShortIs w m) := by
  have H : Hid (Rd w a m) := h
  have hm := h.1
  clear h
  go_enter Tryz.func10, Tryz.ntmps10
  go_wp2
  go_loopw [3, 4] (fun x i wr => ∃ (j : Nat) (xi : Int), j ≤ m ∧ i = .int .i64 j ∧ x = .int .i64 xi ∧ Hid (Below w.heap.size w wr)) (fun _ i _ => m - (intOf i).toNat)
  case atStart => exact ⟨0, _, by omega, rfl, rfl, Below.refl _ _⟩
  case round =>
    obtain ⟨j, xi, hj, rfl, rfl, hT⟩ := hrel
    by_cases hlt : j < m
    · by_cases h3 : (j : Int) ≤ 300
      · by_cases h8 : xi ≤ 16384
        · obtain ⟨b, o, s, t, rfl, h1, h2, hs, ht⟩ := H.out.2 j hlt
          have hb : Below w.heap.size w wr := hT.out
          have h1' : wr.cell? ⟨b, o + j * 3 + 1, none⟩ = some (.string s) := (hb.cell (World.block_lt_of_cell? w _ h1)).trans h1
          have h2' : wr.cell? ⟨b, o + j * 3 + 2, none⟩ = some (.string t) := (hb.cell (World.block_lt_of_cell? w _ h2)).trans h2
          clear h1 h2 hb
          go_wp2_with fail
          go_quiet (fail)
          go_wp2
          go_roundw
          case rel => exact ⟨j + 1, _, by omega, by go_num, rfl, hT.out.trans (Joins.below_draws _ _ _)⟩
          case measure => simp [intOf]; omega
        · by_cases hm3 : (m : Int) ≤ 300
          · go_wp2
            go_ret
            exact ⟨_, rfl, fun _ => by omega, hT.out⟩
          · go_wp2
            go_ret
            exact ⟨_, rfl, fun hx => by simp at hx, hT.out⟩
      · go_wp2
        go_ret
        exact ⟨_, rfl, fun hx => by simp at hx, hT.out⟩
    · by_cases h3 : (m : Int) ≤ 300
      · by_cases h8 : xi ≤ 16384
        · go_wp2
          go_ret
          exact ⟨_, rfl, fun _ => by omega, hT.out⟩
        · go_wp2
          go_ret
          exact ⟨_, rfl, fun _ => by omega, hT.out⟩
      · go_wp2
        go_ret
        exact ⟨_, rfl, fun hx => by simp at hx, hT.out⟩
end Go.Proofs.YtadmecjdihfmeaaGreat.Tre

/- Layer 7: the scripts of changes, in plain Lean. -/
namespace Go.Proofs.YtadmecjdihfmeaaGreat.Tre
set_option linter.unusedVariables false
set_option linter.unusedSimpArgs false
open Go.RowKit Go.Proofs.YtadmecjdihfmeaaGreat.Mem Go.Proofs.YtadmecjdihfmeaaGreat.Oct Go.Proofs.YtadmecjdihfmeaaGreat.Dev Go.Proofs.YtadmecjdihfmeaaGreat.Sto

/-- does it put? -/
def DoE.put (k : DoE) : Bool := decide (bits BinOp.and IntKind.i64 k.op 7 < 5)
def oneE (es : List En) (k : DoE) : List En := (alsoE es k.put k.key k.val).1
/-- a list behind a script -/
def playE (l : List DoE) (es : List En) : List En := l.foldl oneE es
theorem playE_len : ∀ (l : List DoE) (es : List En), (playE l es).length ≤ es.length + l.length
  | [], es => Nat.le_refl _
  | k :: l, es => by
    have h1 := playE_len l (oneE es k)
    have h2 : (oneE es k).length ≤ es.length + 1 := alsoE_len es k.put k.key k.val
    have h3 : playE (k :: l) es = playE l (oneE es k) := rfl
    rw [h3, List.length_cons]
    omega
theorem playE_take {l : List DoE} {j : Nat} (hj : j < l.length) (es : List En) : playE (l.take (j + 1)) es = oneE (playE (l.take j) es) l[j] := by
  unfold playE
  rw [List.take_add_one, List.getElem?_eq_getElem hj, List.foldl_append]
  rfl
theorem playE_take_len (l : List DoE) (j : Nat) : (playE (l.take j) []).length ≤ j := by
  have := playE_len (l.take j) []
  have := List.length_take_le j l
  simp at *
  omega
/-- a tree held twice -/
theorem St.dup {n m : Nat} (hm : m < 1099511627776) {S : StS} {D : DevS} {root : Int} {es : List En} (h : St n m S D [(root, es)]) : St n (m + 1) (if root = 0 then S else S.holds root) D [(root, es), (root, es)] := by
  have h0 : St n m S D ((0, []) :: [(root, es)]) := by
    refine ⟨h.run, h.loose, h.held.congr h.run (fun i hi => ?_), h.kept, fun p hp => ?_⟩
    · simp only [List.map_cons, List.count_cons]
      have : ((0 : Int) == i) = false := by simp; omega
      rw [this]
      simp
    · rcases List.mem_cons.1 hp with rfl | hp
      · exact ⟨List.Pairwise.nil, fun h0 => absurd rfl h0, fun _ => rfl⟩
      · exact h.trees p hp
  have := h0.take (next := root) (es' := es) (k := 0) hm (Went.refl h.run 0) (h.trees (root, es) (by simp)) (h.loose.mono (fun i hi => hi.elim))
  unfold takeF at this
  rw [if_pos rfl] at this
  exact this
theorem lt_nil8 (a : ByteArray) : lt a nil8 = false := by
  unfold lt
  have : nil8.toList = [] := by simp [nil8]
  rw [this]
  cases a.toList <;> rfl
theorem rangeE_all (es : List En) (most : Int) (h : (es.length : Int) ≤ most) : rangeE es nil8 nil8 most = es := by
  unfold rangeE
  have : es.filter (inR nil8 nil8) = es := List.filter_eq_self.2 (fun x hx => by unfold inR; simp [lt_nil8, nil8])
  rw [this]
  exact List.take_of_length_le (by omega)
end Go.Proofs.YtadmecjdihfmeaaGreat.Tre

/- Layer 7: also, walked. -/
namespace Go.Proofs.YtadmecjdihfmeaaGreat.Tre
set_option linter.unusedVariables false
set_option linter.unusedSimpArgs false
set_option maxRecDepth 100000
open Go.RowKit Go.Lib Go.Proofs.YtadmecjdihfmeaaGreat.Mem Go.Proofs.YtadmecjdihfmeaaGreat.Oct Go.Proofs.YtadmecjdihfmeaaGreat.Dev Go.Proofs.YtadmecjdihfmeaaGreat.Sto

def AlsoIs (p : Nat → Prop) (w : World) (r : List En × Int) (e : Ending) (w' : World) : Prop :=
  ∃ v', e = .returned (.tuple #[v', .int .i64 r.2]) ∧ Ents (fun q => p q ∨ (w.heap.size ≤ q ∧ q < w'.heap.size)) w' v' r.1 ∧ Below w.heap.size w w'
theorem rightK_size {k : ByteArray} (h : rightK k = true) : k.size ≤ 64 := by
  simp [rightK] at h
  omega
set_option maxHeartbeats 4000000 in
theorem also_any (p : Nat → Prop) (w : World) (v : Value) (l : List En) (k : DoE) (h : Ents p w v l) (hp : ∀ q, p q → q < w.heap.size) (hl : l.length ≤ 400000) (hs : SortE l) :
    Calls Tryz.prog 20 #[v, k.v] w (AlsoIs p w (alsoE l k.put k.key k.val)) := by
  obtain ⟨w1, hw1⟩ : ∃ w1, w1 = w.alloc (.cells #[.int .i64 k.op, .string k.key, .string k.val] 45) := ⟨_, rfl⟩
  have hb1 : Below w.heap.size w w1 := by rw [hw1]; exact (Below.refl _ _).alloc (Nat.le_refl _) _
  have hx1 : w1.heap[w.heap.size]? = some (.cells #[.int .i64 k.op, .string k.key, .string k.val] 45 (0, 0)) := by rw [hw1]; exact heap_alloc_last _ _
  have hE : Ents p w1 v l := h.on hb1
  have hlt : ∀ q, p q → q < w1.heap.size := fun q hq => Nat.lt_of_lt_of_le (hp q hq) hb1.size
  have c0 : w1.cell? ⟨w.heap.size, 0, none⟩ = some (.int .i64 k.op) := cell_at hx1 0
  have c1 : w1.cell? ⟨w.heap.size, 1, none⟩ = some (.string k.key) := cell_at hx1 1
  have c2 : w1.cell? ⟨w.heap.size, 2, none⟩ = some (.string k.val) := cell_at hx1 2
  have hkeep : ∀ w' : World, Below w1.heap.size w1 w' → Ents (fun q => p q ∨ (w.heap.size ≤ q ∧ q < w'.heap.size)) w' v l ∧ Below w.heap.size w w' := fun w' hb => ⟨(hE.on hb).mono (fun q hq => .inl hq), hb1.trans (hb.mono hb1.size)⟩
  have hnew : ∀ (w' : World) (v' : Value) (l' : List En), OwnE w1.heap.size w' v' l' → l'.length ≤ 9223372036854775807 → Below w1.heap.size w1 w' → Ents (fun q => p q ∨ (w.heap.size ≤ q ∧ q < w'.heap.size)) w' v' l' ∧ Below w.heap.size w w' := fun w' v' l' ho hl' hb =>
    ⟨(ho.ents hl').mono (fun q hq => .inr ⟨Nat.le_trans hb1.size hq.1, hq.2⟩), hb1.trans (hb.mono hb1.size)⟩
  have hput := alsoE_len l k.put k.key k.val
  have H : Hid (Ents p w1 v l ∧ (∀ q, p q → q < w1.heap.size) ∧ l.length ≤ 400000 ∧ SortE l) := ⟨hE, hlt, hl, hs⟩
  have HK : Hid _ := hkeep
  have HN : Hid _ := hnew
  have HP : Hid _ := hput
  clear h hp hl hs hb1 hx1 hE hlt hkeep hnew hput
  unfold DoE.v
  go_enter Tryz.func20, Tryz.ntmps20
  go_wp2_with fail
  rw [← hw1]
  clear hw1
  refine (refKey_any k.key w1).mono ?_
  rintro e w2 ⟨rfl, hw2⟩
  subst hw2
  cases hk : rightK k.key with
  | false =>
    have HA : Hid (alsoE l k.put k.key k.val = (l, 22)) := by show _ = _; unfold alsoE; exact if_pos (.inl hk)
    clear hk
    go_wp2_with fail
    go_ret2
    exact ⟨v, by rw [HA.out]; rfl, by rw [HA.out]; exact (HK.out _ (Below.refl _ _)).1, (HK.out _ (Below.refl _ _)).2⟩
  | true =>
    have hks := rightK_size hk
    have hbit : k.put = decide (bits BinOp.and IntKind.i64 k.op 7 < 5) := rfl
    obtain ⟨x, hx⟩ : ∃ x, x = bits BinOp.and IntKind.i64 k.op 7 := ⟨_, rfl⟩
    rw [← hx] at hbit ⊢
    clear hx
    have HKS : Hid (k.key.size ≤ 64) := hks
    clear hks
    by_cases h5 : x < 5
    · have HPT : Hid (k.put = true) := by show _ = _; rw [hbit]; simp [h5]
      clear hbit
      go_wp2_with fail
      refine (refVal_any k.val w2).mono ?_
      rintro e w3 ⟨rfl, hw3⟩
      subst hw3
      by_cases hv : k.val.size ≤ 300
      · have hv' : decide (k.val.size ≤ 300) = true := by simp [hv]
        have HA : Hid (alsoE l k.put k.key k.val = (putE l k.key k.val, 0)) := by
          show _ = _
          unfold alsoE
          rw [HPT.out, if_neg (by rw [hk]; simp; omega), if_pos rfl]
        rw [hv']
        clear hv' hv hk
        go_wp2_with fail
        refine (refPut_any p w3 v l k.key k.val H.out.1 (by have := H.out.2.2.1; omega) (by have := HKS.out; omega)).mono ?_
        rintro e w4 ⟨v4, rfl, ho, hb⟩
        rw [refPut_ok H.out.2.2.2] at ho
        have hlen : (putE l k.key k.val).length ≤ 9223372036854775807 := by
          have h1 := HP.out
          rw [HA.out] at h1
          have := H.out.2.2.1
          simp at h1
          omega
        have HF : Hid _ := HN.out w4 v4 _ ho hlen hb
        clear ho hb hlen
        go_wp2_with fail
        go_ret2
        exact ⟨v4, by rw [HA.out]; rfl, by rw [HA.out]; exact HF.out.1, HF.out.2⟩
      · have hv' : decide (k.val.size ≤ 300) = false := by simp [hv]
        have HA : Hid (alsoE l k.put k.key k.val = (l, 22)) := by show _ = _; unfold alsoE; exact if_pos (.inr ⟨HPT.out, by omega⟩)
        rw [hv']
        clear hv' hv hk
        go_wp2_with fail
        go_ret2
        exact ⟨v, by rw [HA.out]; rfl, by rw [HA.out]; exact (HK.out _ (Below.refl _ _)).1, (HK.out _ (Below.refl _ _)).2⟩
    · have HPT : Hid (k.put = false) := by show _ = _; rw [hbit]; simp [h5]
      have HA : Hid (alsoE l k.put k.key k.val = (delE l k.key, 0)) := by
        show _ = _
        unfold alsoE
        rw [HPT.out, if_neg (by rw [hk]; simp), if_neg (by decide)]
      clear hbit hk
      go_wp2_with fail
      refine (refDel_any p w2 v l k.key H.out.1 H.out.2.1 (by have := H.out.2.2.1; omega)).mono ?_
      rintro e w4 ⟨v4, rfl, ho, hb⟩
      rw [refDel_ok H.out.2.2.2] at ho
      have hlen : (delE l k.key).length ≤ 9223372036854775807 := by
        have h1 := HP.out
        rw [HA.out] at h1
        have := H.out.2.2.1
        simp at h1
        omega
      have HF : Hid _ := HN.out w4 v4 _ ho hlen hb
      clear ho hb hlen
      go_wp2_with fail
      go_ret2
      exact ⟨v4, by rw [HA.out]; rfl, by rw [HA.out]; exact HF.out.1, HF.out.2⟩
end Go.Proofs.YtadmecjdihfmeaaGreat.Tre

/- Layer 7: step, walked. -/
namespace Go.Proofs.YtadmecjdihfmeaaGreat.Tre
set_option linter.unusedVariables false
set_option linter.unusedSimpArgs false
set_option maxRecDepth 100000
open Go.RowKit Go.Lib Go.Proofs.YtadmecjdihfmeaaGreat.Mem Go.Proofs.YtadmecjdihfmeaaGreat.Oct Go.Proofs.YtadmecjdihfmeaaGreat.Dev Go.Proofs.YtadmecjdihfmeaaGreat.Sto

/-- what there is behind the hold, and the drop -/
structure StepW (n : Nat) (S : StS) (D : DevS) (root : Int) (k : DoE) (r : Ch Int) : Prop where
  ok : r.err = 0
  held : ∀ c, r.st.cells r.out = some c → -9223372036854775808 ≤ c.held ∧ c.held < 9223372036854775807
  wf1 : WF n r.st []
  wf2 : r.out ≠ 0 → WF n (r.st.holds r.out) []
  st : (stepF S D n root k.put k.key k.val).st = takeF r.st n root r.out
  dv : (stepF S D n root k.put k.key k.val).dv = r.dv
  out : (stepF S D n root k.put k.key k.val).out = r.out
theorem step_parts {n m : Nat} (hn : 8 ≤ n ∧ n ≤ 4096) (hm : m < 1099511627775) {S : StS} {D : DevS} {root : Int} {es : List En} {l : List (Int × List En)} (h : St n m S D ((root, es) :: l)) (hes : es.length ≤ 1000) (hfr : sizes ((root, es) :: l) + 52 ≤ n) (k : DoE) :
    (turnF S D root k.put k.key k.val = ⟨22, 0, S, D⟩ ∧ (alsoE es k.put k.key k.val).2 = 22 ∧ stepF S D n root k.put k.key k.val = ⟨22, root, S, D⟩ ∧ S.sweep n = S) ∨
    (StepW n S D root k (turnF S D root k.put k.key k.val) ∧ (alsoE es k.put k.key k.val).2 = 0) := by
  have hf := h.free.1
  have ht := h.trees (root, es) (by simp)
  rcases turn_ok hn (put := k.put) (key := k.key) (val := k.val) h.run ht hes (by omega) with ⟨h1, h2, h3⟩ | ⟨h1, h2⟩
  · left
    have hsw : S.sweep n = S := sweep_clean h.run.inv.wf (fun i g1 g2 g3 => (h.loose i g1 g2 g3).elim)
    refine ⟨h2, by rw [h3], ?_, hsw⟩
    unfold stepF
    rw [h2, if_pos (show (22 : Int) ≠ 0 by decide), hsw]
  · right
    have e : stepF S D n root k.put k.key k.val = ⟨0, (turnF S D root k.put k.key k.val).out, takeF (turnF S D root k.put k.key k.val).st n root (turnF S D root k.put k.key k.val).out, (turnF S D root k.put k.key k.val).dv⟩ := by
      unfold stepF
      rw [if_neg (by rw [h2.err]; decide)]
    have hrun := h2.went.run
    refine ⟨⟨h2.err, fun c hc => held_small hrun.inv (by omega) _ c hc, hrun.inv.wf, fun h0 => ?_, by rw [e], by rw [e], by rw [e]⟩, h1⟩
    obtain ⟨nd, hr⟩ := h2.tree.node h0
    have := (run_hold hrun (by omega) hr.has).inv.wf
    unfold StS.holds
    rw [if_pos hr.has]
    exact this
def StepIs (w0 w : World) (B : Blk) (n : Nat) (S : StS) (D : DevS) (root : Int) (es : List En) (k : DoE) (e : Ending) (w' : World) : Prop :=
  e = .returned (.tuple #[.int .i64 (stepF S D n root k.put k.key k.val).out, .int .i64 (alsoE es k.put k.key k.val).2]) ∧ Sc w0 B (stepF S D n root k.put k.key k.val).st (stepF S D n root k.put k.key k.val).dv w' ∧ Chg B.all w w'
theorem turn_any (w : World) (B : Blk) (S : StS) (D : DevS) (root : Int) (k : DoE) (h : StAt w B S D) (hw : Wok S D) :
    (k.put = true → Calls Tryz.prog 30 #[.pointer (some ⟨B.s, 0, none⟩), .int .i64 root, .string k.key, .string k.val] w (RootIs w B (turnF S D root k.put k.key k.val))) ∧
    (k.put = false → Calls Tryz.prog 31 #[.pointer (some ⟨B.s, 0, none⟩), .int .i64 root, .string k.key] w (RootIs w B (turnF S D root k.put k.key k.val))) := by
  refine ⟨fun hp => ?_, fun hp => ?_⟩
  · unfold turnF; rw [if_pos hp]; exact treePut_any w B S D root k.key k.val h hw
  · unfold turnF; rw [if_neg (by rw [hp]; decide)]; exact treeDel_any w B S D root k.key h hw
theorem St.wok {n m : Nat} (hn : 8 ≤ n ∧ n ≤ 4096) {S : StS} {D : DevS} {l : List (Int × List En)} (h : St n m S D l) : Wok S D := by
  have hd := h.run.good.dn
  have e : D.n.toNat = n := by omega
  exact ⟨by rw [e]; exact h.run.inv.wf, by omega, by omega⟩
theorem step_ok' {n m : Nat} (hn : 8 ≤ n ∧ n ≤ 4096) (hm : m < 1099511627775) {S : StS} {D : DevS} {root : Int} {es : List En} {l : List (Int × List En)} (h : St n m S D ((root, es) :: l)) (hes : es.length ≤ 1000) (hfr : sizes ((root, es) :: l) + 52 ≤ n) (k : DoE) :
    St n (m + 1) (stepF S D n root k.put k.key k.val).st (stepF S D n root k.put k.key k.val).dv (((stepF S D n root k.put k.key k.val).out, (alsoE es k.put k.key k.val).1) :: l) := (step_ok hn (by omega) h hes hfr k.put k.key k.val).2
set_option maxHeartbeats 8000000 in
theorem step_any (w0 w : World) (B : Blk) (n m : Nat) (S : StS) (D : DevS) (root : Int) (es : List En) (l : List (Int × List En)) (k : DoE) (hn : 8 ≤ n ∧ n ≤ 4096) (hm : m < 1099511627775) (hsc : Sc w0 B S D w) (hst : St n m S D ((root, es) :: l)) (hes : es.length ≤ 1000) (hfr : sizes ((root, es) :: l) + 52 ≤ n) :
    Calls Tryz.prog 19 #[.pointer (some ⟨B.s, 0, none⟩), .int .i64 root, k.v] w (StepIs w0 w B n S D root es k) := by
  obtain ⟨w1, hw1⟩ : ∃ w1, w1 = w.alloc (.cells #[.int .i64 k.op, .string k.key, .string k.val] 45) := ⟨_, rfl⟩
  have hb1 : Below w.heap.size w w1 := by rw [hw1]; exact (Below.refl _ _).alloc (Nat.le_refl _) _
  have hx1 : w1.heap[w.heap.size]? = some (.cells #[.int .i64 k.op, .string k.key, .string k.val] 45 (0, 0)) := by rw [hw1]; exact heap_alloc_last _ _
  have c0 : w1.cell? ⟨w.heap.size, 0, none⟩ = some (.int .i64 k.op) := cell_at hx1 0
  have c1 : w1.cell? ⟨w.heap.size, 1, none⟩ = some (.string k.key) := cell_at hx1 1
  have c2 : w1.cell? ⟨w.heap.size, 2, none⟩ = some (.string k.val) := cell_at hx1 2
  obtain ⟨r, hr⟩ : ∃ r, r = turnF S D root k.put k.key k.val := ⟨_, rfl⟩
  have hcase := step_parts hn hm hst hes hfr k
  have hT := turn_any w1 B S D root k (hsc.st.on hb1) (hst.wok hn)
  have hwf := hst.run.inv.wf
  rw [← hr] at hcase hT
  have HT1 : Hid (k.put = true → Calls Tryz.prog 30 #[.pointer (some ⟨B.s, 0, none⟩), .int .i64 root, .string k.key, .string k.val] w1 (RootIs w1 B r)) := hT.1
  have HT2 : Hid (k.put = false → Calls Tryz.prog 31 #[.pointer (some ⟨B.s, 0, none⟩), .int .i64 root, .string k.key] w1 (RootIs w1 B r)) := hT.2
  have hch1 : Chg B.all w w1 := Chg.of_below hb1
  have H : Hid (Sc w0 B S D w1 ∧ Chg B.all w w1 ∧ WF n S [] ∧ n ≤ 4096) := ⟨hsc.on hb1, hch1, hwf, hn.2⟩
  have HC : Hid _ := hcase
  clear hb1 hx1 hT hwf hcase hch1 hsc hst hes hfr hn hm hr
  have hbit : k.put = decide (bits BinOp.and IntKind.i64 k.op 7 < 5) := rfl
  unfold DoE.v
  go_enter Tryz.func19, Tryz.ntmps19
  by_cases h5 : bits BinOp.and IntKind.i64 k.op 7 < 5
  all_goals first
    | (have HP : Hid (k.put = true) := by show _ = _; rw [hbit]; simp [h5]
       clear hbit
       go_wp2_with fail
       rw [← hw1]
       clear hw1
       refine (HT1.out HP.out).mono ?_
       rintro e wx ⟨rfl, hs2, hc2⟩
       have HX : Hid (StAt wx B r.st r.dv ∧ Chg B.all w1 wx) := ⟨hs2, hc2⟩
       clear hs2 hc2)
    | (have HP : Hid (k.put = false) := by show _ = _; rw [hbit]; simp [h5]
       clear hbit
       go_wp2_with fail
       rw [← hw1]
       clear hw1
       refine (HT2.out HP.out).mono ?_
       rintro e wx ⟨rfl, hs2, hc2⟩
       have HX : Hid (StAt wx B r.st r.dv ∧ Chg B.all w1 wx) := ⟨hs2, hc2⟩
       clear hs2 hc2)
  all_goals
    have hsc' : ∀ {S' : StS} {D' : DevS} {w' : World}, StAt w' B S' D' → Chg B.all w1 w' → Sc w0 B S' D' w' ∧ Chg B.all w w' := fun h1 h2 => ⟨H.out.1.turn (Blk.Next.refl _ _) h1 h2, H.out.2.1.trans h2⟩
    have HSC : Hid (∀ {S' : StS} {D' : DevS} {w' : World}, StAt w' B S' D' → Chg B.all w1 w' → Sc w0 B S' D' w' ∧ Chg B.all w w') := hsc'
    clear hsc' HT1 HT2 c0 c1 c2
    rcases HC.out with ⟨ht, ha, hs, hsw⟩ | ⟨hS, ha⟩
    · have e1 : r.err = 22 := by rw [ht]
      have HST : Hid (StAt wx B S D ∧ Chg B.all w1 wx) := by have := HX.out; rw [ht] at this; exact this
      have HF : Hid ((alsoE es k.put k.key k.val).2 = 22 ∧ stepF S D n root k.put k.key k.val = ⟨22, root, S, D⟩ ∧ S.sweep n = S) := ⟨ha, hs, hsw⟩
      rw [e1]
      clear e1 HX ht ha hs hsw HC
      go_wp2_with fail
      refine (storeSweep_any wx B S D n HST.out.1 H.out.2.2.1 H.out.2.2.2).mono ?_
      rintro e w3 ⟨rfl, hs3, hc3⟩
      rw [HF.out.2.2] at hs3
      have HE : Hid (Sc w0 B S D w3 ∧ Chg B.all w w3) := HSC.out hs3 (HST.out.2.trans hc3)
      clear hs3 hc3
      go_wp2_with fail
      go_ret2
      exact ⟨by rw [HF.out.1, HF.out.2.1]; rfl, by rw [HF.out.2.1]; exact HE.out.1, HE.out.2⟩
    · have HF : Hid (StepW n S D root k r ∧ (alsoE es k.put k.key k.val).2 = 0) := ⟨hS, ha⟩
      have e1 : r.err = 0 := hS.ok
      have HT : Hid (takeF r.st n root r.out = if root = 0 then (if r.out = 0 then r.st else r.st.holds r.out) else ((if r.out = 0 then r.st else r.st.holds r.out).drop n root)) := rfl
      obtain ⟨o, ho⟩ : ∃ o, o = r.out := ⟨_, rfl⟩
      have HO : Hid (o = r.out) := ho
      rw [e1, ← ho]
      rw [← ho] at HT
      clear e1 ha hS HC ho
      by_cases h0 : o = 0
      · have h0' : (o != 0) = false := by simp [h0]
        have HO0 : Hid (o = 0) := h0
        have H3 : Hid (StAt wx B (if o = 0 then r.st else r.st.holds o) r.dv ∧ Chg B.all w1 wx ∧ WF n (if o = 0 then r.st else r.st.holds o) []) := by
          have h := HX.out
          rw [if_pos h0]
          exact ⟨h.1, h.2, HF.out.1.wf1⟩
        clear h0 HX
        by_cases hr0 : root = 0
        · have hr0' : (root != 0) = false := by simp [hr0]
          have HE : Hid (Sc w0 B (takeF r.st n root o) r.dv wx ∧ Chg B.all w wx) := by
            have := HSC.out H3.out.1 H3.out.2.1
            rw [HT.out, if_pos hr0]
            exact this
          clear hr0
          go_wp2_with fail
          go_ret2
          exact ⟨by first | (rw [HF.out.2, HF.out.1.out, HO.out]; done) | (rw [HF.out.2, HF.out.1.out, HO.out]; rfl) | (rw [HF.out.2, HF.out.1.out, ← HO.out, HO0.out]; rfl), by rw [HF.out.1.st, HF.out.1.dv, ← HO.out]; exact HE.out.1, HE.out.2⟩
        · have hr0' : (root != 0) = true := by simpa using hr0
          have HT2 : Hid (takeF r.st n root o = (if o = 0 then r.st else r.st.holds o).drop n root) := by show _ = _; rw [HT.out, if_neg hr0]
          clear hr0
          go_wp2_with fail
          refine (storeDrop_any wx B _ _ n root H3.out.1 H3.out.2.2).mono ?_
          rintro e w4 ⟨rfl, hs4, hc4⟩
          rw [← HT2.out] at hs4
          have HE : Hid (Sc w0 B (takeF r.st n root o) r.dv w4 ∧ Chg B.all w w4) := HSC.out hs4 (H3.out.2.1.trans hc4)
          clear hs4 hc4
          go_wp2_with fail
          go_ret2
          exact ⟨by first | (rw [HF.out.2, HF.out.1.out, HO.out]; done) | (rw [HF.out.2, HF.out.1.out, HO.out]; rfl) | (rw [HF.out.2, HF.out.1.out, ← HO.out, HO0.out]; rfl), by rw [HF.out.1.st, HF.out.1.dv, ← HO.out]; exact HE.out.1, HE.out.2⟩
      · have h0' : (o != 0) = true := by simpa using h0
        have HN : Hid (o ≠ 0) := h0
        clear h0
        go_wp2_with fail
        refine (storeHold_any wx B r.st r.dv o HX.out.1 (fun c hc => HF.out.1.held c (by rw [← HO.out]; exact hc))).mono ?_
        rintro e w3 ⟨rfl, hs3, hc3⟩
        have H3 : Hid (StAt w3 B (if o = 0 then r.st else r.st.holds o) r.dv ∧ Chg B.all w1 w3 ∧ WF n (if o = 0 then r.st else r.st.holds o) []) := by
          rw [if_neg HN.out]
          exact ⟨hs3, HX.out.2.trans hc3, by have := HF.out.1.wf2; rw [← HO.out] at this; exact this HN.out⟩
        clear hs3 hc3 HX
        by_cases hr0 : root = 0
        · have hr0' : (root != 0) = false := by simp [hr0]
          have HE : Hid (Sc w0 B (takeF r.st n root o) r.dv w3 ∧ Chg B.all w w3) := by
            have := HSC.out H3.out.1 H3.out.2.1
            rw [HT.out, if_pos hr0]
            exact this
          clear hr0
          go_wp2_with fail
          go_ret2
          exact ⟨by first | (rw [HF.out.2, HF.out.1.out, HO.out]; done) | (rw [HF.out.2, HF.out.1.out, HO.out]; rfl) | (rw [HF.out.2, HF.out.1.out, ← HO.out, HO0.out]; rfl), by rw [HF.out.1.st, HF.out.1.dv, ← HO.out]; exact HE.out.1, HE.out.2⟩
        · have hr0' : (root != 0) = true := by simpa using hr0
          have HT2 : Hid (takeF r.st n root o = (if o = 0 then r.st else r.st.holds o).drop n root) := by show _ = _; rw [HT.out, if_neg hr0]
          clear hr0
          go_wp2_with fail
          refine (storeDrop_any w3 B _ _ n root H3.out.1 H3.out.2.2).mono ?_
          rintro e w4 ⟨rfl, hs4, hc4⟩
          rw [← HT2.out] at hs4
          have HE : Hid (Sc w0 B (takeF r.st n root o) r.dv w4 ∧ Chg B.all w w4) := HSC.out hs4 (H3.out.2.1.trans hc4)
          clear hs4 hc4
          go_wp2_with fail
          go_ret2
          exact ⟨by first | (rw [HF.out.2, HF.out.1.out, HO.out]; done) | (rw [HF.out.2, HF.out.1.out, HO.out]; rfl) | (rw [HF.out.2, HF.out.1.out, ← HO.out, HO0.out]; rfl), by rw [HF.out.1.st, HF.out.1.dv, ← HO.out]; exact HE.out.1, HE.out.2⟩
end Go.Proofs.YtadmecjdihfmeaaGreat.Tre

/- Layer 7: made, all. -/
namespace Go.Proofs.YtadmecjdihfmeaaGreat.Tre
set_option linter.unusedVariables false
set_option linter.unusedSimpArgs false
set_option maxRecDepth 100000
open Go.RowKit Go.Lib Go.Proofs.YtadmecjdihfmeaaGreat.Mem Go.Proofs.YtadmecjdihfmeaaGreat.Oct Go.Proofs.YtadmecjdihfmeaaGreat.Dev Go.Proofs.YtadmecjdihfmeaaGreat.Sto

/-- blocks that a law's walk has made and that no store turns -/
def Oth (w0 : World) (B : Blk) (w : World) : Nat → Prop := fun q => w0.heap.size ≤ q ∧ q < w.heap.size ∧ q ∉ B.all
/-- a tree behind changes, beside other trees -/
structure Made (w0 : World) (B : Blk) (n m : Nat) (L : List (Int × List En)) (root : Int) (es : List En) (v : Value) (w : World) : Prop where
  ex : ∃ S D, Sc w0 B S D w ∧ St n m S D ((root, es) :: L)
  row : Ents (Oth w0 B w) w v es
theorem Ents.oth {w0 w w' : World} {B : Blk} {v : Value} {l : List En} (h : Ents (Oth w0 B w) w v l) (hc : Chg B.all w w') : Ents (Oth w0 B w') w' v l :=
  (h.chg hc (fun k hk => hk.2.2)).mono (fun q hq => ⟨hq.1, Nat.lt_of_lt_of_le hq.2.1 hc.size, hq.2.2⟩)
theorem Made.on {w0 w w' : World} {B : Blk} {n m : Nat} {L : List (Int × List En)} {root : Int} {es : List En} {v : Value} (h : Made w0 B n m L root es v w) (hb : Below w.heap.size w w') : Made w0 B n m L root es v w' := by
  obtain ⟨S, D, h1, h2⟩ := h.ex
  exact ⟨⟨S, D, h1.on hb, h2⟩, h.row.oth (Chg.of_below hb)⟩
theorem Made.sort {w0 w : World} {B : Blk} {n m : Nat} {L : List (Int × List En)} {root : Int} {es : List En} {v : Value} (h : Made w0 B n m L root es v w) : SortE es := by
  obtain ⟨S, D, h1, h2⟩ := h.ex
  exact (h2.trees (root, es) (by simp)).sort
/-- a step, as the loops of the laws take it -/
def StepR (w0 : World) (B : Blk) (n m : Nat) (L : List (Int × List En)) (es : List En) (k : DoE) (v : Value) (e : Ending) (w' : World) : Prop :=
  ∃ root', e = .returned (.tuple #[.int .i64 root', .int .i64 (alsoE es k.put k.key k.val).2]) ∧ (∃ S D, Sc w0 B S D w' ∧ St n (m + 1) S D ((root', oneE es k) :: L)) ∧ Ents (Oth w0 B w') w' v es
theorem Made.step {w0 w : World} {B : Blk} {n m : Nat} {L : List (Int × List En)} {root : Int} {es : List En} {v : Value} (k : DoE) (hn : 8 ≤ n ∧ n ≤ 4096) (hm : m < 1099511627775) (h : Made w0 B n m L root es v w) (hes : es.length ≤ 1000) (hfr : sizes ((root, es) :: L) + 52 ≤ n) :
    Calls Tryz.prog 19 #[.pointer (some ⟨B.s, 0, none⟩), .int .i64 root, k.v] w fun e w' => StepR w0 B n m L es k v e w' ∧ Chg B.all w w' := by
  obtain ⟨S, D, h1, h2⟩ := h.ex
  refine (step_any w0 w B n m S D root es L k hn hm h1 h2 hes hfr).mono ?_
  rintro e w' ⟨rfl, hs, hc⟩
  exact ⟨⟨_, rfl, ⟨_, _, hs, step_ok' hn hm h2 hes hfr k⟩, h.row.oth hc⟩, hc⟩
theorem blk_lt {w0 w : World} {B : Blk} {S : StS} {D : DevS} (h : Sc w0 B S D w) : ∀ q ∈ B.all, q < w.heap.size := h.st.lt
def AlsoR (w0 : World) (B : Blk) (n m : Nat) (L : List (Int × List En)) (root : Int) (r : List En × Int) (e : Ending) (w' : World) : Prop := ∃ v', e = .returned (.tuple #[v', .int .i64 r.2]) ∧ Made w0 B n m L root r.1 v' w'
/-- the list beside it -/
theorem also_made {w0 w : World} {B : Blk} {n m : Nat} {L : List (Int × List En)} {root : Int} {es : List En} {v : Value} (k : DoE) (he : ∃ S D, Sc w0 B S D w ∧ St n m S D ((root, oneE es k) :: L)) (hr : Ents (Oth w0 B w) w v es) (hes : es.length ≤ 400000) (hs : SortE es) :
    Calls Tryz.prog 20 #[v, k.v] w fun e w' => AlsoR w0 B n m L root (alsoE es k.put k.key k.val) e w' ∧ Below w.heap.size w w' := by
  obtain ⟨S, D, h1, h2⟩ := he
  refine (also_any _ w v es k hr (fun q hq => hq.2.1) hes hs).mono ?_
  rintro e w' ⟨v', rfl, hE, hb⟩
  refine ⟨⟨v', rfl, ⟨S, D, h1.on hb, h2⟩, hE.mono (fun q hq => ?_)⟩, hb⟩
  rcases hq with hq | hq
  · exact ⟨hq.1, Nat.lt_of_lt_of_le hq.2.1 hb.size, hq.2.2⟩
  · exact ⟨Nat.le_trans h1.below.size hq.1, hq.2, fun hm => absurd (blk_lt h1 q hm) (by omega)⟩
theorem st_v (k : DoE) : Value.agg #[.int .i64 k.op, .string k.key, .string k.val] = k.v := rfl
set_option maxHeartbeats 8000000 in
theorem made_any (w0 w : World) (B : Blk) (n : Nat) (S : StS) (D : DevS) (a : Option Addr) (c : Nat) (l : List DoE) (hn : 8 ≤ n ∧ n ≤ 4096) (hl : l.length ≤ 300) (hln : l.length + 52 ≤ n) (hsc : Sc w0 B S D w) (hst : St n 0 S D [(0, [])]) (hd : Does (· < w0.heap.size) w0 (.slice a l.length c) l) :
    Calls Tryz.prog 13 #[.pointer (some ⟨B.s, 0, none⟩), .slice a l.length c] w fun e w' => ∃ root v, e = .returned (.tuple #[.int .i64 root, v]) ∧ Made w0 B n l.length [] root (playE l []) v w' := by
  have H : Hid (Does (· < w0.heap.size) w0 (.slice a l.length c) l ∧ (8 ≤ n ∧ n ≤ 4096) ∧ l.length + 52 ≤ n) := ⟨hd, hn, hln⟩
  have HM0 : Hid (Made w0 B n 0 [] 0 (playE (l.take 0) []) (.slice none 0 0) w) := ⟨⟨S, D, hsc, hst⟩, .inl ⟨rfl, _, _, rfl⟩⟩
  have hml : l.length ≤ 9223372036854775807 := by omega
  clear hd hn hln hsc hst
  go_enter Tryz.func13, Tryz.ntmps13
  go_wp2_with fail
  go_loopw [6, 7, 12] (fun v6 v7 v12 wr => ∃ (j : Nat) (root : Int), j ≤ l.length ∧ v6 = .int .i64 root ∧ v12 = .int .i64 j ∧ Hid (Made w0 B n j [] root (playE (l.take j) []) v7 wr)) (fun _ _ v12 _ => l.length - (intOf v12).toNat)
  case atStart => exact ⟨0, 0, by omega, rfl, rfl, HM0⟩
  case round =>
    obtain ⟨j, root, hj, rfl, rfl, HT⟩ := hrel
    by_cases hlt : j < l.length
    · have hlt' : (j : Int) < (l.length : Int) := by omega
      obtain ⟨S1, D1, hsc1, hst1⟩ := HT.out.ex
      obtain ⟨b, o, rfl, q0, q1, q2, hfit⟩ := (H.out.1.on hsc1.below).item j hlt
      obtain ⟨k, hk⟩ : ∃ k, k = l[j] := ⟨_, rfl⟩
      have HP : Hid (playE (l.take (j + 1)) [] = oneE (playE (l.take j) []) k) := by rw [hk]; exact playE_take hlt []
      obtain ⟨es, hes⟩ : ∃ es, es = playE (l.take j) [] := ⟨_, rfl⟩
      have hel : es.length ≤ j := by rw [hes]; exact playE_take_len l j
      rw [← hes] at HP HT
      rw [← hk] at q0 q1 q2
      obtain ⟨w1, hw1⟩ : ∃ w1, w1 = wr.alloc (.cells #[.int .i64 k.op, .string k.key, .string k.val] 45) := ⟨_, rfl⟩
      obtain ⟨kb, hkb⟩ : ∃ kb, kb = wr.heap.size := ⟨_, rfl⟩
      have hb1 : Below wr.heap.size wr w1 := by rw [hw1]; exact (Below.refl _ _).alloc (Nat.le_refl _) _
      have hx1 : w1.heap[kb]? = some (.cells #[.int .i64 k.op, .string k.key, .string k.val] 45 (0, 0)) := by rw [hw1, hkb]; exact heap_alloc_last _ _
      have H1 : Hid (Made w0 B n j [] root es u7 w1 ∧ w1.heap[kb]? = some (.cells #[.int .i64 k.op, .string k.key, .string k.val] 45 (0, 0)) ∧ kb ∉ B.all) := ⟨HT.out.on hb1, hx1, fun hm => absurd (blk_lt hsc1 kb hm) (by omega)⟩
      have z0 : w1.cell? ⟨kb, 0, none⟩ = some (.int .i64 k.op) := cell_at hx1 0
      have z1 : w1.cell? ⟨kb, 1, none⟩ = some (.string k.key) := cell_at hx1 1
      have z2 : w1.cell? ⟨kb, 2, none⟩ = some (.string k.val) := cell_at hx1 2
      have HE : Hid (es.length ≤ j ∧ j < l.length ∧ l.length ≤ 300) := ⟨hel, hlt, hl⟩
      clear HT hk hes hel hx1 hb1 hsc1 hst1 hfit
      go_wp2_with fail
      rw [← hkb, ← hw1]
      clear hw1 hkb q0 q1 q2
      go_wp2_with fail
      refine (H1.out.1.step k H.out.2.1 (by have := HE.out; omega) (by have := HE.out; omega) (by have := HE.out; have := H.out.2.2; simp [sizes]; omega)).mono ?_
      rintro e w2 ⟨⟨root', rfl, hst2, hro2⟩, hc2⟩
      have hx2 : w2.heap[kb]? = some (.cells #[.int .i64 k.op, .string k.key, .string k.val] 45 (0, 0)) := (hc2.block _ (heap_lt H1.out.2.1) H1.out.2.2).trans H1.out.2.1
      have H2 : Hid ((∃ S D, Sc w0 B S D w2 ∧ St n (j + 1) S D [(root', oneE es k)]) ∧ Ents (Oth w0 B w2) w2 u7 es ∧ SortE es) := ⟨hst2, hro2, H1.out.1.sort⟩
      have z0 : w2.cell? ⟨kb, 0, none⟩ = some (.int .i64 k.op) := cell_at hx2 0
      have z1 : w2.cell? ⟨kb, 1, none⟩ = some (.string k.key) := cell_at hx2 1
      have z2 : w2.cell? ⟨kb, 2, none⟩ = some (.string k.val) := cell_at hx2 2
      clear hst2 hro2 hc2 hx2 H1
      go_wp2_with fail
      refine (also_made k H2.out.1 H2.out.2.1 (by have := HE.out; omega) H2.out.2.2).mono ?_
      rintro e w3 ⟨⟨v3, rfl, hM⟩, hb3⟩
      have H3 : Hid (Made w0 B n (j + 1) [] root' (playE (l.take (j + 1)) []) v3 w3) := by rw [HP.out]; exact hM
      clear hM hb3
      go_wp2_with fail
      go_roundw
      case rel => exact ⟨j + 1, root', by omega, rfl, by go_num, H3⟩
      case measure => simp [intOf]; omega
    · have HR : Hid (l.take j = l) := by show _ = _; rw [List.take_of_length_le (by omega)]
      have hjl : j = l.length := by omega
      subst hjl
      go_wp2_with fail
      go_ret2
      exact ⟨root, _, rfl, by have := HT.out; rw [HR.out] at this; exact this⟩
def AllIs (w : World) (es : List En) (e : Ending) (w' : World) : Prop := ∃ v, e = .returned v ∧ OwnE w.heap.size w' v es ∧ Below w.heap.size w w'
theorem range_ok {S : StS} {D : DevS} {root : Int} {es : List En} (h : Tree S D root es) (hes : es.length ≤ 1048576) (frm upt : ByteArray) (most : Int) (h0 : root ≠ 0) (hm : 0 < most) : RangeOk S D root frm upt most := by
  intro n hn
  have hr := RangeF_ok h frm upt most
  unfold RangeF at hr
  rw [if_neg (by rintro (h | h); exact h0 h; omega), hn] at hr
  dsimp only at hr
  split at hr
  · rename_i hne
    have := congrArg Prod.fst hr
    exact absurd this hne
  · have h2 := congrArg Prod.snd hr
    dsimp only at h2
    rw [h2]
    unfold rangeE
    rw [List.length_take]
    have := List.length_filter_le (inR frm upt) es
    omega
theorem load_none {S : StS} {D : DevS} {i : Int} (h : S.has i = false) : loadF S D i = .error 22 := by
  unfold loadF StS.getR
  rw [h]
  rfl
theorem range_any {n m : Nat} {S : StS} {D : DevS} {root : Int} {es : List En} (hr : Run n m S D) (h : Tree S D root es) (hes : es.length ≤ 1048576) (frm upt : ByteArray) (most : Int) : RangeOk S D root frm upt most := by
  by_cases h0 : root = 0
  · intro nd hnd
    have hh : S.has root = false := by
      cases hx : S.has root with
      | false => rfl
      | true => have := (has_ge hr hx).1; omega
    rw [load_none hh] at hnd
    cases hnd
  · by_cases hm : 0 < most
    · exact range_ok h hes frm upt most h0 hm
    · exact fun nd _ => walk_le S D frm upt most (n := 1048576) (by omega) nd.level nd.items [] (by simp)
set_option maxHeartbeats 4000000 in
theorem all_any {w0 w : World} {B : Blk} {n m : Nat} {S : StS} {D : DevS} {l : List (Int × List En)} {root : Int} {es : List En} (hsc : Sc w0 B S D w) (hst : St n m S D l) (hmem : (root, es) ∈ l) (hes : es.length ≤ 1048576) :
    Calls Tryz.prog 24 #[.pointer (some ⟨B.s, 0, none⟩), .int .i64 root] w (AllIs w es) := by
  have ht : Tree S D root es := hst.trees _ hmem
  have hR : RangeF S D root nil8 nil8 1073741824 = (0, es) := by rw [RangeF_ok ht, rangeE_all es _ (by omega)]
  have HC : Hid (StAt w B S D ∧ RangeOk S D root nil8 nil8 1073741824 ∧ RangeF S D root nil8 nil8 1073741824 = (0, es)) := ⟨hsc.st, range_any hst.run ht hes _ _ _, hR⟩
  clear hsc hst hmem hes ht hR
  go_enter Tryz.func24, Tryz.ntmps24
  go_wp2_with fail
  refine (treeRange_any w B S D root nil8 nil8 1073741824 HC.out.1 HC.out.2.1).mono ?_
  rintro e w1 ⟨v, rfl, ho, hb⟩
  rw [HC.out.2.2] at ho ⊢
  have H1 : Hid (OwnE w.heap.size w1 v es ∧ Below w.heap.size w w1) := ⟨ho, hb⟩
  clear ho hb HC
  go_wp2_with fail
  go_ret
  exact ⟨v, rfl, H1.out.1, H1.out.2⟩
end Go.Proofs.YtadmecjdihfmeaaGreat.Tre

