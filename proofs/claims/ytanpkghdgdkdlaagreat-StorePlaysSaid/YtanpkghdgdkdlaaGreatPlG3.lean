/- RefOpenP RefSto RefHeight RefSmall RefCount RefKeep: several texts of one proof, laid as one file (a claim has at most 60 files). No condition. -/
import Derived.Test.YtanpkghdgdkdlaaGreatStoDisk
import Derived.Test.YtanpkghdgdkdlaaGreatPlG2
import Derived.Test.YtanpkghdgdkdlaaGreatRefDev
import Derived.Test.YtanpkghdgdkdlaaGreatStoShort
import Derived.Lib.MinMax
import Derived.Test.YtanpkghdgdkdlaaGreatStoFree
/- Layer 6 in plain Lean: what a store that is opened has, whatever lies on the device. -/
namespace Go.Proofs.YtanpkghdgdkdlaaGreat.Sto
set_option linter.unusedVariables false
set_option linter.unusedSimpArgs false
open Go.RowKit Go.Proofs.YtanpkghdgdkdlaaGreat.Mem Go.Proofs.YtanpkghdgdkdlaaGreat.Oct Go.Proofs.YtanpkghdgdkdlaaGreat.Dev

/-- what is there lies on the device, and nobody holds it -/
def Laid (D : DevS) (S : StS) : Prop := ∀ j c, S.cells j = some c → (∃ d, getP (D.read j) D.n = some (c.kids, d)) ∧ c.held = 0
theorem Laid.name {D : DevS} {S : StS} (h : Laid D S) {k : Int} (hk : S.has k = true) (b : Int) : Laid D (S.name k b) := by
  intro j c hj
  obtain ⟨c0, h0, e1, e2, e3⟩ := (fade_name hk b).cells j c hj
  rw [e2, e3]
  exact h j c0 h0
theorem kids_laid {D : DevS} {n : Nat} {A : Int → Bool} {r : StS → Int → Except Int (Int × StS)} {P : List Int → Prop}
    (hr : ∀ (S : StS) (k : Int) (pd : List Int) (h : Int) (S' : StS), WF n S pd → P pd → (2 ≤ k ∧ k < n) → Laid D S → r S k = .ok (h, S') → Reached n S A pd k h S' ∧ Laid D S')
    (hn : n ≤ 4096) (hP : ∀ pd, P pd → pd.length < 1048576) :
    ∀ (ks : List Int) (h : Int) (S : StS) (pd : List Int) (h' : Int) (S' : StS), WF n S pd → (∀ a b, a ++ b = ks.reverse → P (b ++ pd)) → (∀ k ∈ ks, 2 ≤ k ∧ k < n) → Laid D S → kidsF r ks h S = .ok (h', S') → Laid D S'
  | [], h, S, pd, h', S', hw, _, _, hl, he => by cases he; exact hl
  | k :: ks, h, S, pd, h', S', hw, hp, hk, hl, he => by
    rw [kidsF] at he
    split at he
    · cases he
    · rename_i h1 S1 h2
      have hp0 : P pd := by simpa using hp (k :: ks).reverse [] (by simp)
      obtain ⟨R, L⟩ := hr S k pd h1 S1 hw hp0 (hk k (by simp)) hl h2
      have W := R.wf.more R.has hn (hP pd hp0)
      exact kids_laid hr hn hP ks (max h h1) (S1.name k 1) (k :: pd) h' S' W (fun a b hab => by
        have := hp a (b ++ [k]) (by rw [← List.append_assoc, hab]; simp)
        simpa using this) (fun q hq => hk q (by simp [hq])) (L.name R.has 1) he
theorem reach_laid {D : DevS} {n : Nat} (hD : D.n = n) (hn : n ≤ 4096) : ∀ (f : Nat) (S : StS) (A : Int → Bool) (i : Int) (pd : List Int) (h : Int) (S' : StS), WF n S pd → pd.length + 16 * f ≤ 1000000 → (2 ≤ i ∧ i < n) → Laid D S → reachF D f S A i = .ok (h, S') → Laid D S'
  | 0, S, A, i, pd, h, S', hw, hl, hi, hd, hr => by
    rw [reachF] at hr
    obtain ⟨ha, ⟨c, hc, rfl, rfl⟩ | ⟨_, l, d, _, hk⟩⟩ := reachK_ok hr
    · exact hd
    · cases hk
  | f + 1, S, A, i, pd, h, S', hw, hl, hi, hd, hr => by
    rw [reachF] at hr
    obtain ⟨ha, ⟨c, hc, rfl, rfl⟩ | ⟨hc, l, d, hrd, hk⟩⟩ := reachK_ok hr
    · exact hd
    · have hin := readP_in hrd
      unfold endF at hk
      split at hk
      · cases hk
      · rename_i h1 S1 hkf
        split at hk
        · cases hk
        · rename_i hlt
          cases hk
          have I := kids_laid (n := n) (D := D) (A := fun j => if j = i then true else A j) (P := fun p => p.length + 16 * f ≤ 1000000)
            (fun T k p h2 T' hw' hp hk hl2 he => ⟨reach_ok hD hn f T _ k p h2 T' hw' hp hk he, reach_laid hD hn f T _ k p h2 T' hw' hp hk hl2 he⟩) hn (fun p hp => by omega) l 0 S pd h1 S1 hw
            (fun a b hab => by
              have := congrArg List.length hab
              simp at this ⊢
              have := hin.1.1
              omega) (fun k hk => by have := hin.1.2 k hk; rw [hD] at this; exact this) hd hkf
          intro j c hj
          have hj' : upd S1.cells i (some ⟨0, 0, h1 + 1, l⟩) j = some c := hj
          by_cases hji : j = i
          · subst hji
            rw [upd_same] at hj'; cases hj'
            exact ⟨⟨d, hin.2.2.2⟩, rfl⟩
          · rw [upd_other _ _ _ hji] at hj'
            exact I j c hj'
/-- with power there is one error -/
theorem kids_err5 {n : Int} {r : StS → Int → Except Int (Int × StS)} (hr : ∀ S k e, 2 ≤ k ∧ k < n → r S k = .error e → e = 5) : ∀ (ks : List Int) (h : Int) (S : StS) (e : Int), (∀ k ∈ ks, 2 ≤ k ∧ k < n) → kidsF r ks h S = .error e → e = 5
  | [], h, S, e, _, he => by cases he
  | k :: ks, h, S, e, hk, he => by
    rw [kidsF] at he
    split at he
    · rename_i e' h1; cases he; exact hr _ _ _ (hk k (by simp)) h1
    · exact kids_err5 hr ks _ _ e (fun q hq => hk q (by simp [hq])) he
theorem read_err5 {D : DevS} (ho : D.off = false) {i : Int} (hi : 2 ≤ i ∧ i < D.n) (h : (readP D i).2 = none) : (readP D i).1 = 5 := by
  have hre := (read_vw (D := D) ho (i := i) ⟨by omega, hi.2⟩).2
  unfold readP at h ⊢
  rw [if_pos hre] at h ⊢
  split
  · rename_i x hx; rw [hx] at h; cases h
  · rfl
theorem reachK_err5 {D : DevS} (ho : D.off = false) {S : StS} {A : Int → Bool} {i : Int} (hi : 2 ≤ i ∧ i < D.n) {k : List Int → Except Int (Int × StS)} {e : Int} (hr : reachK D S A i k = .error e) (hk : ∀ l, (∀ x ∈ l, 2 ≤ x ∧ x < D.n) → k l = .error e → e = 5) : e = 5 := by
  unfold reachK at hr
  split at hr
  · cases hr; rfl
  · split at hr
    · cases hr
    · split at hr
      · rename_i h; cases hr; exact read_err5 ho hi h
      · rename_i h; exact hk _ (readP_in h).1.2 hr
theorem reach_err5 {D : DevS} (ho : D.off = false) : ∀ (f : Nat) (S : StS) (A : Int → Bool) (i e : Int), 2 ≤ i ∧ i < D.n → reachF D f S A i = .error e → e = 5
  | 0, S, A, i, e, hi, hr => by
    rw [reachF] at hr
    exact reachK_err5 ho hi hr (fun l _ h => by cases h; rfl)
  | f + 1, S, A, i, e, hi, hr => by
    rw [reachF] at hr
    refine reachK_err5 ho hi hr (fun l hl h => ?_)
    unfold endF at h
    split at h
    · rename_i e' h1; cases h; exact kids_err5 (n := D.n) (fun T k e hk he => reach_err5 ho f T _ k e hk he) _ _ _ _ hl h1
    · split at h
      · cases h; rfl
      · cases h
/-- what is opened, whatever lies there -/
structure Opn (n : Nat) (S : StS) : Prop where
  wf : WF n S []
  kept : S.kept = S.has
theorem open_opn {D : DevS} {n : Nat} (hD : D.n = n) (hn : 8 ≤ n ∧ n ≤ 4096) {S : StS} (h : openOut D = .ok S) : Opn n S := by
  unfold openOut at h
  split at h
  · cases h
  · split at h
    · cases h
    · rename_i x hx
      have hin := bestJ_in D 2 x hx
      have hw0 := none_wf n x
      split at h
      · cases h; exact ⟨hw0.same rfl, rfl⟩
      · rename_i hr
        split at h
        · cases h
        · rename_i h1 S1 hre
          cases h
          have hDn : D.n.toNat = n := by omega
          rw [hDn] at hre
          have hroot : 2 ≤ (x.2.1 : Int) ∧ (x.2.1 : Int) < n := by rcases hin.2.2.1 with h0 | h0 <;> omega
          have R := reach_frame hD hn.2 hw0 hn.2 hroot hre
          have L := reach_laid hD hn.2 n (openS x) (fun _ => false) _ [] h1 S1 hw0 (by simp; omega) hroot (fun j c hj => by cases hj) hre
          obtain ⟨cr, hcr⟩ := has_iff.1 R.has
          have hheld : (S1.cel (x.2.1 : Int)).held = 0 := by rw [cel_some hcr]; exact (L _ cr hcr).2
          have hw2 := R.wf.hold (i := (x.2.1 : Int)) (by_ := 1) R.has (by rw [hheld]; omega)
          exact ⟨hw2.same rfl, rfl⟩
end Go.Proofs.YtanpkghdgdkdlaaGreat.Sto

/- Layer 6: the reference's store in memory. -/
namespace Go.Proofs.YtanpkghdgdkdlaaGreat.Sto
set_option linter.unusedVariables false
set_option linter.unusedSimpArgs false
set_option maxRecDepth 100000
open Go.RowKit Go.Lib Go.Proofs.YtanpkghdgdkdlaaGreat.Mem Go.Proofs.YtanpkghdgdkdlaaGreat.Oct Go.Proofs.YtanpkghdgdkdlaaGreat.Dev

/-- the seven blocks of a reference store and its device; and blocks where kids never lie -/
structure RBlk where
  s : Nat
  c : Nat
  p : Nat
  x : Nat
  xk : Nat
  xd : Nat
  xi : Nat
  f : List Nat
def RBlk.all (B : RBlk) : List Nat := [B.s, B.c, B.p, B.x, B.xk, B.xd, B.xi]
def RBlk.out (B : RBlk) (q : Nat) : Prop := q ∉ B.all ∧ q ∉ B.f
abbrev KV := Nat → Option Addr × Nat
/-- three cells to a place -/
def Cells3 (w : World) (c n : Nat) (S : StS) (k : KV) : Prop := ∃ arr : Array Value, w.heap[c]? = some (.cells arr 111 (0, 0)) ∧ arr.size = n * 3 ∧
  ∀ j : Nat, j < n → arr[j * 3]? = some (.bool (S.has j)) ∧ arr[j * 3 + 1]? = some (.slice (k j).1 (S.cel j).kids.length (k j).2) ∧ arr[j * 3 + 2]? = some (.int .i64 (S.cel j).held)
section
variable {w w' : World} {c n : Nat} {S : StS} {k : KV}
theorem Cells3.lt (h : Cells3 w c n S k) : c < w.heap.size := by obtain ⟨arr, h1, _⟩ := h; exact heap_lt h1
theorem Cells3.of_heap (h : Cells3 w c n S k) (he : w'.heap[c]? = w.heap[c]?) : Cells3 w' c n S k := by obtain ⟨arr, h1, h2⟩ := h; exact ⟨arr, he.trans h1, h2⟩
theorem Cells3.on (h : Cells3 w c n S k) (hb : Below w.heap.size w w') : Cells3 w' c n S k := h.of_heap (hb.block c h.lt)
theorem Cells3.chg {T : List Nat} (h : Cells3 w c n S k) (ht : Chg T w w') (hd : c ∉ T) : Cells3 w' c n S k := h.of_heap (ht.block c h.lt hd)
theorem Cells3.at (h : Cells3 w c n S k) (j : Nat) (hj : j < n) : w.cell? ⟨c, j * 3, none⟩ = some (.bool (S.has j)) ∧ w.cell? ⟨c, j * 3 + 1, none⟩ = some (.slice (k j).1 (S.cel j).kids.length (k j).2) ∧ w.cell? ⟨c, j * 3 + 2, none⟩ = some (.int .i64 (S.cel j).held) := by
  obtain ⟨arr, h1, h2, h3⟩ := h
  rw [cell_at h1, cell_at h1, cell_at h1]
  exact h3 j hj
theorem Cells3.frozen (h : Cells3 w c n S k) (o : Nat) : w.frozen? ⟨c, o, none⟩ = false := by obtain ⟨arr, h1, _⟩ := h; exact frozen_at h1 o
theorem setC_has (S : StS) (i : Int) (o : Option Cel) : (S.setC i o).has i = o.isSome := by show (upd S.cells i o i).isSome = _; rw [upd_same]
theorem setC_has' (S : StS) {i j : Int} (o : Option Cel) (h : j ≠ i) : (S.setC i o).has j = S.has j := by show (upd S.cells i o j).isSome = _; rw [upd_other _ _ _ h]; rfl
theorem setC_cel (S : StS) (i : Int) (o : Option Cel) : (S.setC i o).cel i = o.getD noCel := by show (upd S.cells i o i).getD noCel = _; rw [upd_same]
theorem setC_cel' (S : StS) {i j : Int} (o : Option Cel) (h : j ≠ i) : (S.setC i o).cel j = S.cel j := by show (upd S.cells i o j).getD noCel = _; rw [upd_other _ _ _ h]; rfl
/-- a place is written whole -/
theorem Cells3.put (h : Cells3 w c n S k) (j : Nat) (hj : j < n) (o : Option Cel) (a : Option Addr) (cap : Nat) :
    Cells3 (((w.setCell ⟨c, j * 3, none⟩ (.bool o.isSome)).setCell ⟨c, j * 3 + 1, none⟩ (.slice a (o.getD noCel).kids.length cap)).setCell ⟨c, j * 3 + 2, none⟩ (.int .i64 (o.getD noCel).held)) c n (S.setC j o) (updN k j (a, cap)) := by
  obtain ⟨arr, h1, h2, h3⟩ := h
  refine ⟨_, heap_set_at (heap_set_at (heap_set_at h1 (j * 3) _) (j * 3 + 1) _) (j * 3 + 2) _, by simpa using h2, fun i hi => ?_⟩
  obtain ⟨e1, e2, e3⟩ := h3 i hi
  by_cases hij : i = j
  · subst hij
    rw [setC_has, setC_cel, updN_same]
    refine ⟨?_, ?_, ?_⟩
    · simp [Array.getElem?_setIfInBounds, h2]; omega
    · simp [Array.getElem?_setIfInBounds, h2]; omega
    · simp [Array.getElem?_setIfInBounds, h2]; omega
  · have hne : (i : Int) ≠ (j : Int) := by omega
    rw [setC_has' _ _ hne, setC_cel' _ _ hne, updN_other _ _ _ hij]
    have a1 : ¬ j * 3 + 2 = i * 3 := by omega
    have a2 : ¬ j * 3 + 1 = i * 3 := by omega
    have a3 : ¬ j * 3 = i * 3 := by omega
    have b1 : ¬ j * 3 + 2 = i * 3 + 1 := by omega
    have b2 : ¬ j * 3 + 1 = i * 3 + 1 := by omega
    have b3 : ¬ j * 3 = i * 3 + 1 := by omega
    have c1 : ¬ j * 3 + 2 = i * 3 + 2 := by omega
    have c2 : ¬ j * 3 + 1 = i * 3 + 2 := by omega
    have c3 : ¬ j * 3 = i * 3 + 2 := by omega
    rw [Array.getElem?_setIfInBounds_ne a1, Array.getElem?_setIfInBounds_ne a2, Array.getElem?_setIfInBounds_ne a3, Array.getElem?_setIfInBounds_ne b1, Array.getElem?_setIfInBounds_ne b2, Array.getElem?_setIfInBounds_ne b3,
      Array.getElem?_setIfInBounds_ne c1, Array.getElem?_setIfInBounds_ne c2, Array.getElem?_setIfInBounds_ne c3]
    exact ⟨e1, e2, e3⟩
/-- one that is there is held otherwise -/
theorem Cells3.hold (h : Cells3 w c n S k) (j : Nat) (hj : j < n) (hh : S.has j = true) (b : Int) : Cells3 (w.setCell ⟨c, j * 3 + 2, none⟩ (.int .i64 ((S.cel j).held + b))) c n (S.hold j b) k := by
  obtain ⟨arr, h1, h2, h3⟩ := h
  refine ⟨_, heap_set_at h1 (j * 3 + 2) _, by simpa using h2, fun i hi => ?_⟩
  obtain ⟨e1, e2, e3⟩ := h3 i hi
  by_cases hij : i = j
  · subst hij
    have q1 : (S.hold i b).has i = true := setC_has _ _ _
    have q2 : (S.hold i b).cel i = { S.cel i with held := (S.cel i).held + b } := setC_cel _ _ _
    rw [q1, q2]
    rw [hh] at e1
    refine ⟨?_, ?_, ?_⟩
    · rw [Array.getElem?_setIfInBounds_ne (by omega)]; exact e1
    · rw [Array.getElem?_setIfInBounds_ne (by omega)]; exact e2
    · simp [Array.getElem?_setIfInBounds, h2]; omega
  · have hne : (i : Int) ≠ (j : Int) := by omega
    have q1 : (S.hold j b).has i = S.has i := setC_has' _ _ hne
    have q2 : (S.hold j b).cel i = S.cel i := setC_cel' _ _ hne
    rw [q1, q2, Array.getElem?_setIfInBounds_ne (by omega), Array.getElem?_setIfInBounds_ne (by omega), Array.getElem?_setIfInBounds_ne (by omega)]
    exact ⟨e1, e2, e3⟩
/-- the same cells, told of another store -/
theorem Cells3.congr {S' : StS} (h : Cells3 w c n S k) (hs : ∀ i : Nat, i < n → S'.has i = S.has i ∧ (S'.cel i).kids = (S.cel i).kids ∧ (S'.cel i).held = (S.cel i).held) : Cells3 w c n S' k := by
  obtain ⟨arr, h1, h2, h3⟩ := h
  refine ⟨arr, h1, h2, fun i hi => ?_⟩
  rw [(hs i hi).1, (hs i hi).2.1, (hs i hi).2.2]
  exact h3 i hi
end
/-- a row of nothing -/
theorem cells_made {w : World} {c n : Nat} (h : w.heap[c]? = some (.cells (madeCells #[.bool false, .slice none 0 0, .int .i64 0] (n * 3)) 111 (0, 0))) {S : StS} (hs : ∀ i : Int, S.has i = false) : Cells3 w c n S (fun _ => (none, 0)) := by
  refine ⟨_, h, by simp [madeCells], fun j hj => ?_⟩
  have hcel : S.cel j = noCel := by
    have := hs j
    unfold StS.has at this
    unfold StS.cel
    cases hc : S.cells j with
    | none => rfl
    | some c => rw [hc] at this; cases this
  have m0 : j * 3 % 3 = 0 := by omega
  have m1 : (j * 3 + 1) % 3 = 1 := by omega
  have m2 : (j * 3 + 2) % 3 = 2 := by omega
  rw [hs, hcel]
  refine ⟨?_, ?_, ?_⟩
  · have : j * 3 < n * 3 := by omega
    simp [madeCells, this, m0]
  · have : j * 3 + 1 < n * 3 := by omega
    simp [madeCells, this, m1]
    exact rfl
  · have : j * 3 + 2 < n * 3 := by omega
    simp [madeCells, this, m2]
    rfl
/-- THE REFERENCE'S STORE -/
structure RSt (w : World) (B : RBlk) (S : StS) (D : DevS) : Prop where
  box : w.heap[B.s]? = some (.cells #[.int .i64 S.gen, .int .i64 S.root, .string S.note, .pointer (some ⟨B.x, 0, none⟩), .slice (some ⟨B.c, 0, none⟩) D.n.toNat D.n.toNat, .slice (some ⟨B.p, 0, none⟩) D.n.toNat D.n.toNat] 114 (0, 0))
  dev : RefAt w B.x B.xk B.xd B.xi D
  small : D.small
  cells : ∃ k, Cells3 w B.c D.n.toNat S k ∧ ∀ j : Nat, j < D.n.toNat → Ints B.out w (.slice (k j).1 (S.cel j).kids.length (k j).2) (S.cel j).kids
  kept : Arr Value.bool w B.p D.n.toNat 4 (fun j => S.kept j)
  nd : B.all.Nodup
  low : ∀ q ∈ B.f, q < w.heap.size
  dom : ∀ i, S.has i = true → 0 ≤ i ∧ i < D.n
  kdom : ∀ i, S.kept i = true → 0 ≤ i ∧ i < D.n
section
variable {w w' : World} {B : RBlk} {S : StS} {D : DevS}
theorem RSt.on (h : RSt w B S D) (hb : Below w.heap.size w w') : RSt w' B S D := by
  obtain ⟨k, hc, hk⟩ := h.cells
  exact ⟨(hb.block _ (heap_lt h.box)).trans h.box, h.dev.on hb, h.small, ⟨k, hc.on hb, fun j hj => Ints.on (hk j hj) hb⟩, Arr.on h.kept hb, h.nd, fun q hq => Nat.lt_of_lt_of_le (h.low q hq) hb.size, h.dom, h.kdom⟩
theorem RSt.lt (h : RSt w B S D) : ∀ q ∈ B.all, q < w.heap.size := by
  obtain ⟨k, hc, _⟩ := h.cells
  obtain ⟨d1, d2, d3, d4⟩ := h.dev.lt
  intro q hq
  simp only [RBlk.all, List.mem_cons, List.mem_nil_iff, or_false] at hq
  rcases hq with rfl | rfl | rfl | rfl | rfl | rfl | rfl
  · exact heap_lt h.box
  · exact hc.lt
  · exact h.kept.lt
  · exact d1
  · exact d2
  · exact d3
  · exact d4
theorem RSt.cell (h : RSt w B S D) : w.cell? ⟨B.s, 0, none⟩ = some (.int .i64 S.gen) ∧ w.cell? ⟨B.s, 1, none⟩ = some (.int .i64 S.root) ∧ w.cell? ⟨B.s, 2, none⟩ = some (.string S.note) ∧ w.cell? ⟨B.s, 3, none⟩ = some (.pointer (some ⟨B.x, 0, none⟩)) ∧
    w.cell? ⟨B.s, 4, none⟩ = some (.slice (some ⟨B.c, 0, none⟩) D.n.toNat D.n.toNat) ∧ w.cell? ⟨B.s, 5, none⟩ = some (.slice (some ⟨B.p, 0, none⟩) D.n.toNat D.n.toNat) ∧ ∀ j, w.frozen? ⟨B.s, j, none⟩ = false :=
  ⟨cell_at h.box 0, cell_at h.box 1, cell_at h.box 2, cell_at h.box 3, cell_at h.box 4, cell_at h.box 5, fun j => frozen_at h.box j⟩
theorem RSt.nat (h : RSt w B S D) : (D.n.toNat : Int) = D.n ∧ 8 ≤ D.n.toNat ∧ D.n.toNat ≤ 4096 := h.dev.nat
/-- what lies at a place -/
theorem RSt.at (h : RSt w B S D) (j : Nat) (hj : j < D.n.toNat) : ∃ a k, w.cell? ⟨B.c, j * 3, none⟩ = some (.bool (S.has j)) ∧ w.cell? ⟨B.c, j * 3 + 1, none⟩ = some (.slice a (S.cel j).kids.length k) ∧ w.cell? ⟨B.c, j * 3 + 2, none⟩ = some (.int .i64 (S.cel j).held) ∧
    Ints B.out w (.slice a (S.cel j).kids.length k) (S.cel j).kids ∧ w.cell? ⟨B.p, j, none⟩ = some (.bool (S.kept j)) := by
  obtain ⟨k, hc, hk⟩ := h.cells
  obtain ⟨h1, h2, h3⟩ := hc.at j hj
  exact ⟨(k j).1, (k j).2, h1, h2, h3, hk j hj, h.kept.cell j hj⟩
end
end Go.Proofs.YtanpkghdgdkdlaaGreat.Sto

/- Layer 6: how high a block of a device is, by the reference. -/
namespace Go.Proofs.YtanpkghdgdkdlaaGreat.Sto
set_option linter.unusedVariables false
set_option linter.unusedSimpArgs false
set_option maxRecDepth 100000
open Go.RowKit Go.Lib Go.Proofs.YtanpkghdgdkdlaaGreat.Mem Go.Proofs.YtanpkghdgdkdlaaGreat.Oct Go.Proofs.YtanpkghdgdkdlaaGreat.Dev

/-- what is seen of a place -/
def seenV (S : StS) (A : Int → Bool) (j : Int) : Int := if A j = true then -1 else match S.cells j with | some c => c.high | none => 0
def SeenAt (w : World) (g n : Nat) (S : StS) (A : Int → Bool) : Prop := Arr (Value.int .i64) w g n 3 (fun j => seenV S A j)
theorem seenV_name {S : StS} {k : Int} (hk : S.has k = true) (A : Int → Bool) (j : Int) : seenV (S.name k 1) A j = seenV S A j := by
  obtain ⟨c, hc⟩ := has_iff.1 hk
  unfold seenV
  rw [name_cells hc]
  by_cases hj : j = k
  · subst hj; rw [upd_same, hc]
  · rw [upd_other _ _ _ hj]
theorem SeenAt.name {w : World} {g n : Nat} {S : StS} {A : Int → Bool} {k : Int} (h : SeenAt w g n S A) (hk : S.has k = true) : SeenAt w g n (S.name k 1) A := Arr.congr h (fun j _ => seenV_name hk A j)
/-- one is opened -/
theorem SeenAt.enter {w : World} {g n : Nat} {S : StS} {A : Int → Bool} (h : SeenAt w g n S A) (q : Nat) : SeenAt (w.setCell ⟨g, q, none⟩ (.int .i64 (-1))) g n S (above1 A q) := by
  refine Arr.congr (Arr.set h q (-1)) (fun j _ => ?_)
  by_cases hj : j = q
  · subst hj; rw [updN_same]; unfold seenV above1; rw [if_pos (by simp)]
  · rw [updN_other _ _ _ hj]
    have hne : (j : Int) ≠ (q : Int) := by omega
    unfold seenV above1
    simp only [if_neg hne]
/-- one has been gone through -/
theorem SeenAt.leave {w : World} {g n : Nat} {S : StS} {A : Int → Bool} {q : Nat} (h : SeenAt w g n S (above1 A q)) (ha : A q = false) (v : Int) (l : List Int) : SeenAt (w.setCell ⟨g, q, none⟩ (.int .i64 v)) g n (S.setC q (some ⟨0, 0, v, l⟩)) A := by
  refine Arr.congr (Arr.set h q v) (fun j _ => ?_)
  by_cases hj : j = q
  · subst hj
    rw [updN_same]; unfold seenV
    rw [if_neg (by simp [ha])]
    show (match upd S.cells (j : Int) (some ⟨0, 0, v, l⟩) (j : Int) with | some c => c.high | none => 0) = v
    rw [upd_same]
  · rw [updN_other _ _ _ hj]
    have hne : (j : Int) ≠ (q : Int) := by omega
    unfold seenV above1
    simp only [if_neg hne]
    show (if A (j : Int) = true then -1 else match upd S.cells (q : Int) (some ⟨0, 0, v, l⟩) (j : Int) with | some c => c.high | none => 0) = _
    rw [upd_other _ _ _ hne]
def HPost (w : World) (g n : Nat) (A : Int → Bool) (r : Except Int (Int × StS)) (e : Ending) (w' : World) : Prop := match r with
  | .ok (h, S') => e = .returned (.int .i64 h) ∧ SeenAt w' g n S' A ∧ Chg [g] w w'
  | .error _ => e = .returned (.int .i64 0) ∧ Chg [g] w w'
theorem rheight_above (w : World) (x g n : Nat) (D : DevS) (S : StS) (A : Int → Bool) (q : Nat) (f : Nat) (hg : SeenAt w g n S A) (hq : q < n) (hn : n ≤ 4096) (ha : A q = true) :
    Calls Tryz.prog 53 #[.pointer (some ⟨x, 0, none⟩), .int .i64 q, .int .i64 64, .slice (some ⟨g, 0, none⟩) n n] w (HPost w g n A (reachF D f S A q)) := by
  have hr : reachF D f S A q = .error 5 := by cases f <;> (rw [reachF, reachK, if_pos ha])
  rw [hr]
  have c0 : w.cell? ⟨g, q, none⟩ = some (.int .i64 (-1)) := by
    have := Arr.cell hg q hq
    rw [this]; unfold seenV; rw [if_pos ha]
  clear hg ha hr
  go_enter Tryz.func53, Tryz.ntmps53
  go_wp2
  go_ret
  exact ⟨rfl, Chg.refl _ _⟩
set_option maxHeartbeats 16000000 in
theorem rheight_any (D : DevS) (x xk xd xi g n : Nat) (hD : D.n = n) (hn : n ≤ 4096) (ho : D.off = false) (hs : D.small) (hng : g ≠ x ∧ g ≠ xk ∧ g ≠ xd ∧ g ≠ xi) : ∀ (f : Nat) (w : World) (S : StS) (A : Int → Bool) (pd : List Int) (q : Nat),
    RefAt w x xk xd xi D → SeenAt w g n S A → WF n S pd → unk A n ≤ f → pd.length + 16 * f ≤ 1000000 → (2 ≤ q ∧ q < n) →
    Calls Tryz.prog 53 #[.pointer (some ⟨x, 0, none⟩), .int .i64 q, .int .i64 64, .slice (some ⟨g, 0, none⟩) n n] w (HPost w g n A (reachF D f S A q)) := by
  intro f
  induction f with
  | zero =>
    intro w S A pd q h hg hw hu hp hi
    exact rheight_above w x g n D S A q 0 hg hi.2 hn (unk_none (K := A) (n := n) (Nat.le_zero.1 hu) ⟨by omega, by omega⟩)
  | succ f ih =>
    intro w S A pd q h hg hw hu hp hi
    cases ha : A q with
    | true => exact rheight_above w x g n D S A q _ hg hi.2 hn ha
    | false =>
      obtain ⟨R, hR⟩ : ∃ R, R = reachF D (f + 1) S A q := ⟨_, rfl⟩
      rw [← hR]
      rw [reachF, reachK, if_neg (by simp [ha])] at hR
      obtain ⟨hi0, hi1⟩ := hi
      have c0 : w.cell? ⟨g, q, none⟩ = some (.int .i64 (seenV S A q)) := Arr.cell hg q hi1
      cases hc : S.cells q with
      | some c =>
        rw [hc] at hR
        dsimp only at hR
        have hsv : seenV S A q = c.high := by unfold seenV; rw [if_neg (by simp [ha]), hc]
        have hhi := hw.high _ c hc
        have hb : (c.high != 0) = true := by simp; omega
        have hmx : max c.high 0 = c.high := by omega
        rw [hsv] at c0
        have H : Hid (SeenAt w g n S A) := hg
        obtain ⟨v, hv⟩ : ∃ v, v = c.high := ⟨_, rfl⟩
        rw [← hv] at c0 hR hb hmx
        have hlt : ¬ v < 0 := by omega
        clear h hg ih hw hu hp hc hsv hhi
        go_enter Tryz.func53, Tryz.ntmps53
        go_wp2
        go_ret
        first | rw [hR] | skip
        exact ⟨congrArg (fun z => Ending.returned (.int .i64 z)) (by rw [hv] at hmx; exact hmx), H.out, Chg.refl _ _⟩
      | none =>
        rw [hc] at hR
        dsimp only at hR
        have hsv : seenV S A q = 0 := by unfold seenV; rw [if_neg (by simp [ha]), hc]
        rw [hsv] at c0
        have HR : Hid (R = _) := hR
        have HI : Hid (∀ (w : World) (S : StS) (A : Int → Bool) (pd : List Int) (q : Nat), RefAt w x xk xd xi D → SeenAt w g n S A → WF n S pd → unk A n ≤ f → pd.length + 16 * f ≤ 1000000 → (2 ≤ q ∧ q < n) →
          Calls Tryz.prog 53 #[.pointer (some ⟨x, 0, none⟩), .int .i64 q, .int .i64 64, .slice (some ⟨g, 0, none⟩) n n] w (HPost w g n A (reachF D f S A q))) := ih
        have H : Hid (RefAt w x xk xd xi D ∧ SeenAt w g n S A) := ⟨h, hg⟩
        have HW : Hid (WF n S pd ∧ unk A n ≤ f + 1 ∧ pd.length + 16 * (f + 1) ≤ 1000000 ∧ A q = false ∧ S.cells q = none) := ⟨hw, hu, hp, ha, hc⟩
        have hdq : (2 : Int) ≤ q ∧ (q : Int) < D.n := by omega
        have hrv := read_vw (D := D) ho (i := q) ⟨by omega, hdq.2⟩
        have hrp := readP_vw (D := D) ho (i := q) ⟨by omega, hdq.2⟩
        rw [← hrv.1] at hrp
        have hre := hrv.2
        have hsz := read_size hs q
        have c1 := h.cells.1
        have hDn : D.n.toNat = n := by omega
        rw [hDn] at c1
        have HP : Hid ((readP D q).2 = getP (D.read q) D.n ∧ (D.read q).size ≤ 4096) := ⟨hrp, hsz⟩
        clear h hg ih hw hu hp hR ha hc hsv hrv hrp hsz hdq
        go_enter Tryz.func53, Tryz.ntmps53
        go_wp2_with fail
        refine (rread_any w x xk xd xi D q H.out.1).mono ?_
        rintro e w1 ⟨rfl, rfl⟩
        rw [hre]
        clear hre
        go_wp2_with fail
        refine (rblock_any (D.read q) (n : Int) w (by have := HP.out.2; omega)).mono ?_
        rintro e w2 ⟨v, rfl, hown, hb⟩
        have H2 : Hid (Below w.heap.size w w2) := hb
        clear hb
        have hP2 : (readP D q).2 = getP (D.read q) n := by rw [HP.out.1, hD]
        cases hgp : getP (D.read q) (n : Int) with
        | none =>
          have hbr : blkR (D.read q) n = (([], ⟨#[]⟩), false) := by unfold blkR; rw [hgp]
          have HR2 : Hid (R = .error 5) := by
            have h1 : (readP D q).2 = none := by rw [hP2, hgp]
            have h2 := read_err5 ho (i := q) ⟨by omega, by omega⟩ h1
            rw [HR.out, h1, h2]
            exact rfl
          rw [hbr] at hown ⊢
          obtain ⟨a, c, rfl⟩ := hown.form
          have hg3 : SeenAt (w2.alloc (.cells #[.slice a 0 c, .string ⟨#[]⟩] 58)) g n S A := Arr.on H.out.2 (H2.out.alloc H2.out.size _)
          have f0 := Arr.cell hg3 q hi1
          have f1 := Arr.frozen hg3 q
          have HC : Hid (Chg [g] w ((w2.alloc (.cells #[.slice a 0 c, .string ⟨#[]⟩] 58)).setCell ⟨g, q, none⟩ (.int .i64 (-1)))) := (((Chg.of_below H2.out).alloc _).setCell _ _ (.inl (by simp)))
          clear hown hg3 hP2 hgp hbr HR HI
          go_wp2_with fail
          go_ret
          rw [HR2.out]
          exact ⟨rfl, HC.out⟩
        | some p =>
          obtain ⟨l, d⟩ := p
          have hbr : blkR (D.read q) n = ((l, d), true) := by unfold blkR; rw [hgp]
          have hin := getP_in hgp
          have HR2 : Hid (R = endF q l (kidsF (fun T k => reachF D f T (above1 A q) k) l 0 S)) := by rw [HR.out, hP2, hgp]; exact rfl
          rw [hbr] at hown ⊢
          obtain ⟨a, c, rfl⟩ := hown.form
          dsimp only at hown ⊢
          have hl16 := hin.1
          obtain ⟨w3, hw3⟩ : ∃ w3, w3 = w2.alloc (.cells #[.slice a l.length c, .string d] 58) := ⟨_, rfl⟩
          have hbb : Below w.heap.size w w3 := by rw [hw3]; exact H2.out.alloc H2.out.size _
          have hbox : w3.heap[w2.heap.size]? = some (.cells #[.slice a l.length c, .string d] 58 (0, 0)) := by rw [hw3]; exact heap_alloc_last _ _
          have hi3 : Ints (fun k => w.heap.size ≤ k ∧ k < w2.heap.size) w3 (.slice a l.length c) l := by rw [hw3]; exact (hown.ints (by omega)).chg (T := []) ((Chg.refl _ _).alloc _) (by simp)
          have hr3 : RefAt w3 x xk xd xi D := H.out.1.on hbb
          have hg3 : SeenAt w3 g n S A := Arr.on H.out.2 hbb
          have f0 := Arr.cell hg3 q hi1
          have f1 := Arr.frozen hg3 q
          have hg4 := hg3.enter q
          have hc4 : Chg [g] w3 (w3.setCell ⟨g, q, none⟩ (.int .i64 (-1))) := (Chg.refl _ _).setCell _ _ (.inl (by simp))
          obtain ⟨w4, hw4⟩ : ∃ w4, w4 = w3.setCell ⟨g, q, none⟩ (.int .i64 (-1)) := ⟨_, rfl⟩
          rw [← hw4] at hg4 hc4
          have hglt : g < w.heap.size := Arr.lt H.out.2
          have hz : w.heap.size ≤ w2.heap.size := H2.out.size
          have H4 : Hid (RefAt w4 x xk xd xi D ∧ SeenAt w4 g n S (above1 A q) ∧ Chg [g] w w4) :=
            ⟨hr3.chg hc4 (by simpa using Ne.symm hng.1) (by simpa using Ne.symm hng.2.1) (by simpa using Ne.symm hng.2.2.1) (by simpa using Ne.symm hng.2.2.2), hg4, (Chg.of_below hbb).trans hc4⟩
          have HI4 : Hid (Ints (fun k => w.heap.size ≤ k) w4 (.slice a l.length c) l) := (hi3.chg hc4 (fun k hk => by simp; omega)).mono (fun k hk => hk.1)
          have x0 : w4.cell? ⟨w2.heap.size, 0, none⟩ = some (.slice a l.length c) := cell_at ((hc4.block _ (heap_lt hbox) (by simp; omega)).trans hbox) 0
          have HIN : Hid (∀ x ∈ l, 2 ≤ x ∧ x < n) := hin.2
          rw [hw4, hw3] at x0
          rw [hw3] at f0 f1
          have HLT : Hid (g < w.heap.size) := hglt
          clear hown hbb hbox hi3 hr3 hg3 hg4 hc4 hglt hz hP2 hgp hbr HR hin
          go_wp2_with fail
          rw [← hw3, ← hw4]
          clear f0 f1 x0
          obtain ⟨rr, hrr⟩ : ∃ rr : StS → Int → Except Int (Int × StS), rr = fun T k => reachF D f T (above1 A q) k := ⟨_, rfl⟩
          rw [← hrr] at HR2
          have HRR : Hid (∀ T k, rr T k = reachF D f T (above1 A q) k) := fun T k => by rw [hrr]
          have HU : Hid (unk (above1 A q) n ≤ f) := by
            have := unk_set (K := A) (i := q) HW.out.2.2.2.1 n (by omega) (by omega)
            have h2 := HW.out.2.1
            show unk (fun j => if j = (q : Int) then true else A j) n ≤ f
            omega
          clear hrr
          go_loopw [13, 55] (fun v13 v55 wr => ∃ (j : Nat) (T : StS) (h : Int), j ≤ l.length ∧ v13 = .int .i64 h ∧ v55 = .int .i64 j ∧ 0 ≤ h ∧ h ≤ 64 ∧ Hid (RefAt wr x xk xd xi D ∧ SeenAt wr g n T (above1 A q) ∧ WF n T ((l.take j).reverse ++ pd) ∧ Chg [g] w wr ∧ Chg [g] w4 wr ∧ kidsF rr (l.drop j) h T = kidsF rr l 0 S)) (fun _ v55 _ => l.length - (intOf v55).toNat)
          case atStart => exact ⟨0, S, 0, by omega, rfl, rfl, by omega, by omega, H4.out.1, H4.out.2.1, HW.out.1, H4.out.2.2, Chg.refl _ _, rfl⟩
          case round =>
            obtain ⟨j, T, h, hj, rfl, rfl, hh0, hh1, HT⟩ := hrel
            by_cases hlt : j < l.length
            · have hdr : l.drop j = l[j] :: l.drop (j + 1) := List.drop_eq_getElem_cons hlt
              obtain ⟨a', k', e', _, hcell⟩ := (Ints.chg HI4.out HT.out.2.2.2.2.1 (fun q hq hm => by have := HLT.out; simp at hm; omega)).form
              obtain ⟨b, o, ha, hcj⟩ := hcell j hlt
              have haa : a = a' := by injection e'
              subst haa
              subst ha
              have htk : (l.take (j + 1)).reverse = l[j] :: (l.take j).reverse := by rw [List.take_add_one, List.getElem?_eq_getElem hlt]; simp
              obtain ⟨kj, hkj⟩ : ∃ kj, kj = l[j] := ⟨_, rfl⟩
              have hkin := HIN.out kj (by rw [hkj]; exact List.getElem_mem hlt)
              rw [← hkj] at hcj hdr htk
              have hfold := HT.out.2.2.2.2.2
              rw [hdr, kidsF, HRR.out] at hfold
              have hplen : ((l.take j).reverse ++ pd).length + 16 * f ≤ 1000000 := by
                have := HW.out.2.2.1
                simp [List.length_take]
                omega
              obtain ⟨kq, hkq⟩ : ∃ kq : Nat, kj = (kq : Int) := ⟨kj.toNat, by omega⟩
              subst hkq
              have hkin2 : 2 ≤ kq ∧ kq < n := by omega
              have hcall := HI.out wr T (above1 A q) _ kq HT.out.1 HT.out.2.1 HT.out.2.2.1 HU.out hplen hkin2
              have HTK : Hid ((l.take (j + 1)).reverse = (kq : Int) :: (l.take j).reverse) := htk
              cases hk : reachF D f T (above1 A q) kq with
              | error x0 =>
                rw [hk] at hcall hfold
                have HR3 : Hid (R = .error x0) := by rw [HR2.out, ← hfold]; exact rfl
                clear e' hcell hdr hfold hkj hkin hplen htk hk HI HR2
                go_wp2_with (first
                  | (go_at_call 53; refine hcall.mono ?_; rintro e w5 ⟨rfl, hc5⟩; have H5 : Hid (Chg [g] w w5) := HT.out.2.2.2.1.trans hc5; clear hc5 hcall)
                  | fail)
                go_ret
                rw [HR3.out]
                exact ⟨rfl, H5.out⟩
              | ok p =>
                obtain ⟨h', T'⟩ := p
                rw [hk] at hcall hfold
                have hre := reach_ok hD hn f T (above1 A q) kq _ h' T' HT.out.2.2.1 hplen hkin hk
                obtain ⟨ck, hck⟩ := has_iff.1 hre.has
                have hh' : 1 ≤ h' ∧ h' ≤ 64 := by
                  have h1 := hre.high
                  rw [cel_some hck] at h1
                  have h2 := hre.wf.high kq ck hck
                  rw [h1] at h2
                  exact h2
                have HN : Hid (WF n (T'.name kq 1) ((l.take (j + 1)).reverse ++ pd) ∧ kidsF rr (l.drop (j + 1)) (max h h') (T'.name kq 1) = kidsF rr l 0 S) := by
                  refine ⟨?_, hfold⟩
                  rw [HTK.out]
                  exact hre.wf.more hre.has hn (by omega)
                have HH : Hid (T'.has kq = true) := hre.has
                obtain ⟨hh2, hh3⟩ := hh'
                have hb : (h' == 0) = false := by simp; omega
                clear e' hcell hdr hfold hkj hkin hplen htk hk HI hre hck
                go_wp2_with (first
                  | (go_at_call 53; refine hcall.mono ?_; rintro e w5 ⟨rfl, hg5, hc5⟩; have H5 : Hid (RefAt w5 x xk xd xi D ∧ SeenAt w5 g n (T'.name kq 1) (above1 A q) ∧ Chg [g] w w5 ∧ Chg [g] w4 w5) := ⟨HT.out.1.chg hc5 (by simpa using Ne.symm hng.1) (by simpa using Ne.symm hng.2.1) (by simpa using Ne.symm hng.2.2.1) (by simpa using Ne.symm hng.2.2.2), hg5.name HH.out, HT.out.2.2.2.1.trans hc5, HT.out.2.2.2.2.1.trans hc5⟩; clear hg5 hc5 hcall)
                  | fail)
                go_roundw
                case rel => exact ⟨j + 1, _, max h h', by omega, rfl, by go_num, by omega, by omega, H5.out.1, H5.out.2.1, HN.out.1, H5.out.2.2.1, H5.out.2.2.2, HN.out.2⟩
                case measure => simp [intOf]; omega
            · have hjl : j = l.length := by omega
              subst hjl
              have HK : Hid (kidsF rr l 0 S = .ok (h, T)) := by
                have := HT.out.2.2.2.2.2
                rw [List.drop_length] at this
                exact this.symm
              by_cases h64 : 64 ≤ h
              · have HR3 : Hid (R = .error 5) := by rw [HR2.out, HK.out, endF, if_pos h64]; exact rfl
                have HT2 : Hid (Chg [g] w wr) := HT.out.2.2.2.1
                clear HT HR2 HI
                go_wp2
                go_ret
                rw [HR3.out]
                exact ⟨rfl, HT2.out⟩
              · have HR3 : Hid (R = .ok (h + 1, T.setC q (some ⟨0, 0, h + 1, l⟩))) := by rw [HR2.out, HK.out, endF, if_neg h64]; exact rfl
                have g0 := Arr.cell HT.out.2.1 q hi1
                have g1 := Arr.frozen HT.out.2.1 q
                have H6 : Hid (SeenAt (wr.setCell ⟨g, q, none⟩ (.int .i64 (h + 1))) g n (T.setC q (some ⟨0, 0, h + 1, l⟩)) A ∧ Chg [g] w (wr.setCell ⟨g, q, none⟩ (.int .i64 (h + 1)))) :=
                  ⟨HT.out.2.1.leave HW.out.2.2.2.1 _ _, HT.out.2.2.2.1.setCell _ _ (.inl (by simp))⟩
                have hwr : IntKind.i64.wrap (h + 1) = h + 1 := by rw [IntKind.wrap_i64]; omega
                clear HT HR2 HI
                go_wp2_with fail
                go_ret
                rw [HR3.out]
                exact ⟨rfl, H6.out⟩
end Go.Proofs.YtanpkghdgdkdlaaGreat.Sto

/- Layer 6: the reference's small functions. -/
namespace Go.Proofs.YtanpkghdgdkdlaaGreat.Sto
set_option linter.unusedVariables false
set_option linter.unusedSimpArgs false
set_option maxRecDepth 100000
open Go.RowKit Go.Lib Go.Proofs.YtanpkghdgdkdlaaGreat.Mem Go.Proofs.YtanpkghdgdkdlaaGreat.Oct Go.Proofs.YtanpkghdgdkdlaaGreat.Dev

theorem info_cell : (Tryz.prog.info? 111).map (fun i => (i.zero, i.size, i.bytes)) = some (some (.agg #[.bool false, .slice none 0 0, .int .i64 0]), 3, 40) := by kernel_rfl
theorem run_make_cells (n : Nat) (hn : n ≤ 4096) (w : World) : (Instr.makeSlice 112 (.int .i64 (n : Int)) (.int .i64 (n : Int))).run Tryz.prog w =
    .ok (.slice (some ⟨w.heap.size, 0, none⟩) n n) (w.alloc (.cells (madeCells #[.bool false, .slice none 0 0, .int .i64 0] (n * 3)) 111)) := by
  obtain ⟨i, hi, hzz⟩ := Option.map_eq_some_iff.1 info_cell
  simp only [Prod.mk.injEq] at hzz
  obtain ⟨hz, hs, hb⟩ := hzz
  have hr := run_make (P := Tryz.prog) w 112 111 i _ Tryz.underlying112 hi hz .i64 .i64 n n (by omega) (Int.le_refl _) (by rw [hb]; omega) (by omega)
  simp only [Int.toNat_natCast, hs] at hr
  exact hr
/-- a store in which nothing is there -/
def bareS (g r : Int) (nt : ByteArray) : StS := ⟨g, r, nt, fun _ => none, fun _ => false⟩
theorem bare_at (w : World) (c p s x xk xd xi : Nat) (g r : Int) (nt : ByteArray) (D : DevS) (hd : RefAt w x xk xd xi D) (hs : D.small)
    (h1 : w.heap[c]? = some (.cells (madeCells #[.bool false, .slice none 0 0, .int .i64 0] (D.n.toNat * 3)) 111 (0, 0)))
    (h2 : w.heap[p]? = some (.cells (madeCells #[.bool false] D.n.toNat) 4 (0, 0)))
    (h3 : w.heap[s]? = some (.cells #[.int .i64 g, .int .i64 r, .string nt, .pointer (some ⟨x, 0, none⟩), .slice (some ⟨c, 0, none⟩) D.n.toNat D.n.toNat, .slice (some ⟨p, 0, none⟩) D.n.toNat D.n.toNat] 114 (0, 0)))
    (hnd : [s, c, p, x, xk, xd, xi].Nodup) : RSt w ⟨s, c, p, x, xk, xd, xi, []⟩ (bareS g r nt) D :=
  ⟨h3, hd, hs, ⟨_, cells_made h1 (fun _ => rfl), fun j hj => .inl ⟨rfl, none, 0, rfl⟩⟩, made_arr (enc := Value.bool) (z := false) h2 (fun _ _ => rfl), hnd, fun q hq => (by cases hq), fun i hi => (by cases hi), fun i hi => (by cases hi)⟩
set_option maxHeartbeats 2000000 in
theorem rbare_any (w : World) (x xk xd xi : Nat) (D : DevS) (g r : Int) (nt : ByteArray) (hd : RefAt w x xk xd xi D) (hs : D.small) :
    Calls Tryz.prog 52 #[.pointer (some ⟨x, 0, none⟩), .agg #[.int .i64 g, .int .i64 r, .string nt]] w fun e w' => ∃ s c p, e = .returned (.pointer (some ⟨s, 0, none⟩)) ∧ RSt w' ⟨s, c, p, x, xk, xd, xi, []⟩ (bareS g r nt) D ∧ Below w.heap.size w w' ∧
      w.heap.size ≤ s ∧ w.heap.size ≤ c ∧ w.heap.size ≤ p := by
  have hnat := hd.nat
  obtain ⟨n, hn⟩ : ∃ n, n = D.n.toNat := ⟨_, rfl⟩
  rw [← hn] at hnat
  have h8 : 8 ≤ n ∧ n ≤ 4096 := hnat.2
  have hm1 := run_make_cells n (by omega)
  have hm2 := run_make_row' (P := Tryz.prog) 85 4 (.bool false) 1 Tryz.underlying85 info_bool rfl .i64 .i64 n (by omega) (by omega)
  have hlt := hd.lt
  have hne := hd.ne
  have H : Hid (RefAt w x xk xd xi D ∧ D.small ∧ n = D.n.toNat) := ⟨hd, hs, hn⟩
  have hd1 : RefAt (w.alloc (.cells #[.int .i64 g, .int .i64 r, .string nt] 89)).drew x xk xd xi D := hd.on (((Below.refl _ _).alloc (Nat.le_refl _) _).drew)
  have c0 := hd1.cells.1
  have b0 : (w.alloc (.cells #[.int .i64 g, .int .i64 r, .string nt] 89)).drew.heap[w.heap.size]? = some (.cells #[.int .i64 g, .int .i64 r, .string nt] 89 (0, 0)) := heap_alloc_last _ _
  have b1 := cell_at b0 0
  have b2 := cell_at b0 1
  have b3 := cell_at b0 2
  have c00 := hd.cells.1
  rw [← hn] at c0 c00
  clear hd hs hd1 b0 hn hnat
  go_enter Tryz.func52, Tryz.ntmps52
  go_wp2_with fail
  go_region
  all_goals go_wp2
  all_goals
    go_ret
    obtain ⟨q1, q2, q3, q4, hb⟩ := four_at w _ _ _ _
    have hH := H.out
    refine ⟨w.heap.size + 1 + 1 + 1, _, _, ?_, bare_at _ _ _ _ _ _ _ _ _ _ _ _ (hH.1.on hb) hH.2.1 (by rw [← hH.2.2]; first | exact q2 | exact q3) (by rw [← hH.2.2]; first | exact q2 | exact q3) (by rw [← hH.2.2]; exact q4) ?_, hb, by omega, by omega, by omega⟩
    · rfl
    · simp only [List.nodup_cons, List.mem_cons, List.mem_nil_iff, or_false, not_or, List.nodup_nil, not_false_eq_true, and_true]
      omega
end Go.Proofs.YtanpkghdgdkdlaaGreat.Sto

/- Layer 6: what the reference's store tells of itself: Has, Named, Free, Live. -/
namespace Go.Proofs.YtanpkghdgdkdlaaGreat.Sto
set_option linter.unusedVariables false
set_option linter.unusedSimpArgs false
set_option maxRecDepth 100000
open Go.RowKit Go.Lib Go.Proofs.YtanpkghdgdkdlaaGreat.Mem Go.Proofs.YtanpkghdgdkdlaaGreat.Oct Go.Proofs.YtanpkghdgdkdlaaGreat.Dev

theorem rhas_any (w : World) (B : RBlk) (S : StS) (D : DevS) (i : Int) (h : RSt w B S D) :
    Calls Tryz.prog 57 #[.pointer (some ⟨B.s, 0, none⟩), .int .i64 i] w fun e w' => e = .returned (.bool (S.has i)) ∧ w = w' := by
  have hnat := h.nat
  obtain ⟨c0, c1, c2, c3, c4, c5, cf⟩ := h.cell
  obtain ⟨n, hn⟩ : ∃ n, n = D.n.toNat := ⟨_, rfl⟩
  rw [← hn] at c4 c5 hnat
  have h8 : 8 ≤ n ∧ n ≤ 4096 := hnat.2
  by_cases h0 : 0 ≤ i
  · by_cases h1 : i < n
    · obtain ⟨j, rfl⟩ := Int.eq_ofNat_of_zero_le h0
      have hj : j < n := by omega
      obtain ⟨a, k, d0, d1, d2, _, _⟩ := h.at j (by omega)
      clear h c0 c1 c2 c3 c5 cf d1 d2 hn hnat
      have q0 : decide ((0 : Int) ≤ (j : Int)) = true := by simp
      have q1 : decide ((j : Int) < (n : Int)) = true := by simpa using h1
      go_enter Tryz.func57, Tryz.ntmps57
      go_wp2
      go_ret
      exact ⟨rfl, rfl⟩
    · have hf : S.has i = false := by
        cases hh : S.has i with
        | false => rfl
        | true => have := h.dom i hh; omega
      rw [hf]
      have q0 : decide ((0 : Int) ≤ i) = true := by simpa using h0
      have q1 : decide (i < (n : Int)) = false := by simpa using h1
      clear h c0 c1 c2 c3 c5 cf hf hn hnat
      go_enter Tryz.func57, Tryz.ntmps57
      go_wp2
      go_ret
      exact ⟨rfl, rfl⟩
  · have hf : S.has i = false := by
      cases hh : S.has i with
      | false => rfl
      | true => have := h.dom i hh; omega
    rw [hf]
    have q0 : decide ((0 : Int) ≤ i) = false := by simpa using h0
    clear h c0 c1 c2 c3 c5 cf hf hn hnat
    go_enter Tryz.func57, Tryz.ntmps57
    go_wp2
    go_ret
    exact ⟨rfl, rfl⟩
/-! ### Free -/
def frN (S : StS) : Nat → Nat
  | 0 => 0
  | j + 1 => frN S j + (if (2 ≤ j ∧ S.freeAt j = true) then 1 else 0)
theorem frN_le (S : StS) : ∀ j, frN S j ≤ j
  | 0 => Nat.le_refl _
  | j + 1 => by
    have := frN_le S j
    rw [frN]; split <;> omega
theorem keptOnly_succ (S : StS) (n : Nat) : S.keptOnly (n + 1) = S.keptOnly n + (if S.kept n = true ∧ S.has n = false then 1 else 0) := by
  unfold StS.keptOnly
  rw [List.range_succ, List.map_append, List.filter_append, List.length_append]
  congr 1
  cases hk : S.kept n <;> cases hh : S.has n <;> simp [List.filter_cons, hk, hh]
theorem frN_eq {S : StS} (h1 : ∀ i, S.has i = true → 2 ≤ i) (h2 : ∀ i, S.kept i = true → 2 ≤ i) : ∀ n : Nat, (frN S n : Int) + S.keptOnly n + num S.cells n = if 2 ≤ n then (n : Int) - 2 else 0
  | 0 => by simp [frN, StS.keptOnly, num]
  | n + 1 => by
    have ih := frN_eq h1 h2 n
    have h3 : (if (2 ≤ n ∧ S.freeAt n = true) then 1 else 0) + (if S.kept n = true ∧ S.has n = false then 1 else 0) + (if (S.cells (n : Int)).isSome = true then 1 else 0) = if 2 ≤ n then 1 else 0 := by
      have hh : (S.cells (n : Int)).isSome = S.has n := rfl
      rw [hh]
      by_cases hn : 2 ≤ n
      · rw [if_pos hn]
        cases hk : S.kept n <;> cases hb : S.has n <;> simp [StS.freeAt, hk, hb, hn]
      · rw [if_neg hn]
        have e1 : S.kept n = false := by
          cases hk : S.kept n with
          | false => rfl
          | true => have := h2 _ hk; omega
        have e2 : S.has n = false := by
          cases hk : S.has n with
          | false => rfl
          | true => have := h1 _ hk; omega
        rw [e1, e2]
        simp [hn]
    rw [frN, keptOnly_succ, num]
    obtain ⟨x, hx⟩ : ∃ x, x = (if (2 ≤ n ∧ S.freeAt n = true) then 1 else 0) := ⟨_, rfl⟩
    obtain ⟨y, hy⟩ : ∃ y, y = (if S.kept n = true ∧ S.has n = false then 1 else 0) := ⟨_, rfl⟩
    obtain ⟨z, hz⟩ : ∃ z, z = (if (S.cells (n : Int)).isSome = true then 1 else 0) := ⟨_, rfl⟩
    rw [← hx, ← hy, ← hz] at h3 ⊢
    clear hx hy hz
    by_cases hn : 2 ≤ n
    · rw [if_pos hn] at ih h3
      rw [if_pos (by omega)]
      omega
    · rw [if_neg hn] at ih h3
      by_cases hn1 : 2 ≤ n + 1
      · rw [if_pos hn1]; omega
      · rw [if_neg hn1]; omega
theorem frN_freeN {S : StS} {n : Nat} (h1 : ∀ i, S.has i = true → 2 ≤ i) (h2 : ∀ i, S.kept i = true → 2 ≤ i) (hn : 2 ≤ n) : (frN S n : Int) = S.freeN n := by
  have := frN_eq h1 h2 n
  rw [if_pos hn] at this
  unfold StS.freeN
  omega
set_option maxHeartbeats 2000000 in
theorem rfree_any (w : World) (B : RBlk) (S : StS) (D : DevS) (h : RSt w B S D) :
    Calls Tryz.prog 55 #[.pointer (some ⟨B.s, 0, none⟩)] w fun e w' => e = .returned (.int .i64 (frN S D.n.toNat)) ∧ w = w' := by
  have hnat := h.nat
  obtain ⟨c0, c1, c2, c3, c4, c5, cf⟩ := h.cell
  have H : Hid (RSt w B S D) := h
  obtain ⟨n, hn⟩ : ∃ n, n = D.n.toNat := ⟨_, rfl⟩
  rw [← hn] at c4 c5 hnat ⊢
  have h8 : 8 ≤ n ∧ n ≤ 4096 := hnat.2
  have HN : Hid (n = D.n.toNat) := hn
  clear h c0 c1 c2 c3 cf hn hnat
  go_enter Tryz.func55, Tryz.ntmps55
  go_wp2_with fail
  go_loopw [3, 10] (fun v3 v10 wr => ∃ j : Nat, j ≤ n ∧ v3 = .int .i64 (frN S j) ∧ v10 = .int .i64 j ∧ w = wr) (fun _ v10 _ => n - (intOf v10).toNat)
  case atStart => exact ⟨0, by omega, rfl, rfl, rfl⟩
  case round =>
    obtain ⟨j, hj, rfl, rfl, rfl⟩ := hrel
    have hle := frN_le S j
    by_cases hlt : j < n
    · obtain ⟨a, k, d0, d1, d2, _, d4⟩ := H.out.at j (by have := HN.out; omega)
      have hs : Hid (frN S (j + 1) = frN S j + (if (2 ≤ j ∧ S.freeAt j = true) then 1 else 0)) := rfl
      clear d1 d2
      by_cases h2 : 2 ≤ j
      · have q0 : decide ((1 : Int) < (j : Int)) = true := by simp; omega
        cases hb : S.has j with
        | true =>
          have he : Hid (frN S (j + 1) = frN S j) := by rw [hs.out, if_neg (by simp [StS.freeAt, hb])]; exact rfl
          rw [hb] at d0
          clear hs hb
          go_wp2_with fail
          go_roundw
          case rel => exact ⟨j + 1, by omega, by rw [he.out], by go_num, (by first | exact rfl | exact trivial)⟩
          case measure => simp [intOf]; omega
        | false =>
          cases hk : S.kept j with
          | true =>
            have he : Hid (frN S (j + 1) = frN S j) := by rw [hs.out, if_neg (by simp [StS.freeAt, hk])]; exact rfl
            rw [hb] at d0
            rw [hk] at d4
            clear hs hb hk
            go_wp2_with fail
            go_roundw
            case rel => exact ⟨j + 1, by omega, by rw [he.out], by go_num, (by first | exact rfl | exact trivial)⟩
            case measure => simp [intOf]; omega
          | false =>
            have he : Hid (frN S (j + 1) = frN S j + 1) := by rw [hs.out, if_pos ⟨h2, by simp [StS.freeAt, hb, hk]⟩]; exact rfl
            rw [hb] at d0
            rw [hk] at d4
            clear hs hb hk
            go_wp2_with fail
            go_roundw
            case rel => exact ⟨j + 1, by omega, by rw [he.out]; go_num, by go_num, (by first | exact rfl | exact trivial)⟩
            case measure => simp [intOf]; omega
      · have q0 : decide ((1 : Int) < (j : Int)) = false := by simp; omega
        have he : Hid (frN S (j + 1) = frN S j) := by rw [hs.out, if_neg (fun h => h2 h.1)]; exact rfl
        clear hs
        go_wp2_with fail
        go_roundw
        case rel => exact ⟨j + 1, by omega, by rw [he.out], by go_num, (by first | exact rfl | exact trivial)⟩
        case measure => simp [intOf]; omega
    · have hjn : j = n := by omega
      subst hjn
      go_wp2_with fail
      go_ret
      exact ⟨rfl, rfl⟩
/-! ### Named -/
theorem ints_item {p : Nat → Prop} {w : World} {a : Option Addr} {c n : Nat} {l : List Int} (h : Ints p w (.slice a n c) l) (j : Nat) (hj : j < l.length) : ∃ b o, a = some ⟨b, o, none⟩ ∧ p b ∧ w.cell? ⟨b, o + j, none⟩ = some (.int .i64 l[j]) := by
  rcases h with ⟨rfl, _⟩ | ⟨b, o, c', e, hp, hl, hc⟩
  · simp at hj
  · injection e with e _ _
    exact ⟨b, o, e, hp, hc j hj⟩
theorem kc_cel (S : StS) (j i : Int) : kc (S.cells j) i = (S.cel j).kids.count i := by
  unfold StS.cel
  cases S.cells j <;> rfl
set_option maxHeartbeats 2000000 in
theorem rnamed_any (w : World) (B : RBlk) (S : StS) (D : DevS) (i : Int) (h : RSt w B S D) (hl : ∀ j c, S.cells j = some c → c.kids.length ≤ 16) :
    Calls Tryz.prog 58 #[.pointer (some ⟨B.s, 0, none⟩), .int .i64 i] w fun e w' => e = .returned (.int .i64 (cnt S.cells i D.n.toNat)) ∧ Below w.heap.size w w' := by
  have hnat := h.nat
  obtain ⟨c0, c1, c2, c3, c4, c5, cf⟩ := h.cell
  have H : Hid (RSt w B S D ∧ ∀ j c, S.cells j = some c → c.kids.length ≤ 16) := ⟨h, hl⟩
  obtain ⟨n, hn⟩ : ∃ n, n = D.n.toNat := ⟨_, rfl⟩
  rw [← hn] at c4 c5 hnat ⊢
  have h8 : 8 ≤ n ∧ n ≤ 4096 := hnat.2
  have HN : Hid (n = D.n.toNat) := hn
  clear h c0 c1 c2 c3 cf hn hnat hl
  go_enter Tryz.func58, Tryz.ntmps58
  go_wp2_with fail
  go_loopw [5, 15] (fun v5 v15 wr => ∃ j : Nat, j ≤ n ∧ v5 = .int .i64 (cnt S.cells i j) ∧ v15 = .int .i64 j ∧ Hid (Below w.heap.size w wr)) (fun _ v15 _ => n - (intOf v15).toNat)
  case atStart => exact ⟨0, by omega, rfl, rfl, Below.refl _ _⟩
  case round =>
    obtain ⟨j, hj, rfl, rfl, HB⟩ := hrel
    have hcl : cnt S.cells i j ≤ 16 * j := cnt_le H.out.2 i j
    by_cases hlt : j < n
    · obtain ⟨a, k, d0, d1, d2, hi, _⟩ := (H.out.1.on HB.out).at j (by have := HN.out; omega)
      have hs : Hid (cnt S.cells i (j + 1) = cnt S.cells i j + (S.cel j).kids.count i) := by rw [cnt, kc_cel]; exact rfl
      have hk16 : (S.cel j).kids.length ≤ 16 := by
        cases hc : S.cells (j : Int) with
        | none => rw [show S.cel j = noCel by unfold StS.cel; rw [hc]; rfl]; exact Nat.zero_le _
        | some c => rw [cel_some hc]; exact H.out.2 _ c hc
      have HH : Hid (∀ q, q < (S.cel j).kids.length → S.has j = true) := fun q hq => by
        cases hb : S.has j with
        | true => rfl
        | false =>
          rw [show S.cel j = noCel by unfold StS.cel StS.has at *; cases hc : S.cells (j : Int) with | none => rfl | some c => rw [hc] at hb; cases hb] at hq
          exact absurd hq (Nat.not_lt_zero _)
      obtain ⟨l, hll⟩ : ∃ l, l = (S.cel j).kids := ⟨_, rfl⟩
      obtain ⟨hd, hdd⟩ : ∃ v, v = (S.cel j).held := ⟨_, rfl⟩
      rw [← hll] at d1 hi hs hk16 HH
      rw [← hdd] at d2
      obtain ⟨N, hN⟩ : ∃ N, N = cnt S.cells i j := ⟨_, rfl⟩
      rw [← hN] at hs hcl ⊢
      have HI : Hid (Ints B.out wr (.slice a l.length k) l) := hi
      clear hi hll hdd hN
      go_wp2_with fail
      obtain ⟨w3, hw3⟩ : ∃ w3, w3 = wr.alloc (.cells #[.bool (S.has j), .slice a l.length k, .int .i64 hd] 111) := ⟨_, rfl⟩
      have hb3 : Below wr.heap.size wr w3 := by rw [hw3]; exact (Below.refl _ _).alloc (Nat.le_refl _) _
      have hx3 : w3.heap[wr.heap.size]? = some (.cells #[.bool (S.has j), .slice a l.length k, .int .i64 hd] 111 (0, 0)) := by rw [hw3]; exact heap_alloc_last _ _
      have HX : Hid (Below w.heap.size w w3) := HB.out.trans (hb3.mono HB.out.size)
      have HI3 : Hid (Ints B.out w3 (.slice a l.length k) l) := Ints.on HI.out hb3
      have e0 := cell_at hx3 0
      rw [← hw3]
      clear hw3 hb3 hx3 d0 d1 d2
      simp only [List.getElem?_toArray, List.getElem?_cons_zero] at e0
      go_loopw [5, 22] (fun v5 v22 wx => ∃ q : Nat, q ≤ l.length ∧ v5 = .int .i64 ((N + (l.take q).count i : Nat) : Int) ∧ v22 = .int .i64 q ∧ w3 = wx) (fun _ v22 _ => l.length - (intOf v22).toNat)
      case atStart => exact ⟨0, by omega, by simp, rfl, rfl⟩
      case round =>
        obtain ⟨q, hq, rfl, rfl, rfl⟩ := hrel
        have hct : (l.take q).count i ≤ q := Nat.le_trans List.count_le_length (by simp; omega)
        by_cases hq2 : q < l.length
        · obtain ⟨b, o, ha, _, hcj⟩ := ints_item HI3.out q hq2
          subst ha
          have htk : l.take (q + 1) = l.take q ++ [l[q]] := by rw [List.take_add_one, List.getElem?_eq_getElem hq2]; rfl
          have hhas := HH.out q hq2
          obtain ⟨kq, hkq⟩ : ∃ kq, kq = l[q] := ⟨_, rfl⟩
          rw [← hkq] at htk hcj
          by_cases he : kq = i
          · have hs2 : Hid ((l.take (q + 1)).count i = (l.take q).count i + 1) := by rw [htk, List.count_append, he]; simp [Hid]
            have hb : (kq == i) = true := by simpa using he
            rw [hhas] at e0
            clear hkq htk he hhas
            obtain ⟨M, hM⟩ : ∃ M, M = (l.take q).count i := ⟨_, rfl⟩
            rw [← hM] at hct hs2 ⊢
            clear hM
            go_wp2_with fail
            go_roundw
            case rel => exact ⟨q + 1, by omega, by rw [hs2.out]; go_num, by go_num, (by first | exact rfl | exact trivial)⟩
            case measure => simp [intOf]; omega
          · have hs2 : Hid ((l.take (q + 1)).count i = (l.take q).count i) := by rw [htk, List.count_append, List.count_cons_of_ne he]; simp [Hid]
            have hb : (kq == i) = false := by simpa using he
            rw [hhas] at e0
            clear hkq htk he hhas
            obtain ⟨M, hM⟩ : ∃ M, M = (l.take q).count i := ⟨_, rfl⟩
            rw [← hM] at hct hs2 ⊢
            clear hM
            go_wp2_with fail
            go_roundw
            case rel => exact ⟨q + 1, by omega, by rw [hs2.out], by go_num, (by first | exact rfl | exact trivial)⟩
            case measure => simp [intOf]; omega
        · have hql : q = l.length := by omega
          subst hql
          have hs3 : Hid (cnt S.cells i (j + 1) = N + (l.take l.length).count i) := by rw [hs.out, List.take_length]; exact rfl
          go_wp2_with fail
          go_roundw
          case rel => exact ⟨j + 1, by omega, by rw [hs3.out], by go_num, HX.out⟩
          case measure => simp [intOf]; omega
    · have hjn : j = n := by omega
      subst hjn
      go_wp2_with fail
      go_ret
      exact ⟨rfl, HB.out⟩
/-! ### Live -/
theorem live_succ (S : StS) (j : Nat) : S.live (j + 1) = S.live j ++ (if S.has j = true then [(j : Int)] else []) := by
  unfold StS.live
  rw [List.range_succ, List.map_append, List.filter_append]
  congr 1
  simp only [List.map_cons, List.map_nil, List.filter_cons, List.filter_nil]
theorem live_le (S : StS) (j : Nat) : (S.live j).length ≤ j := by
  unfold StS.live
  exact Nat.le_trans (List.length_filter_le _ _) (by simp)
set_option maxHeartbeats 2000000 in
theorem rlive_any (w : World) (B : RBlk) (S : StS) (D : DevS) (h : RSt w B S D) :
    Calls Tryz.prog 56 #[.pointer (some ⟨B.s, 0, none⟩)] w fun e w' => ∃ v, e = .returned v ∧ Ints (w.heap.size ≤ ·) w' v (S.live D.n.toNat) ∧ Below w.heap.size w w' := by
  have hnat := h.nat
  have H : Hid (RSt w B S D) := h
  obtain ⟨c0, c1, c2, c3, c4, c5, cf⟩ := h.cell
  obtain ⟨n, hn⟩ : ∃ n, n = D.n.toNat := ⟨_, rfl⟩
  rw [← hn] at c4 c5 hnat ⊢
  have h8 : 8 ≤ n ∧ n ≤ 4096 := hnat.2
  have HN : Hid (n = D.n.toNat) := hn
  clear h c0 c1 c2 c3 cf hn hnat
  obtain ⟨i0, hi, hz0, hz1, hz2⟩ := info_parts info_int
  go_enter Tryz.func56, Tryz.ntmps56
  go_wp2_with fail
  clear c4 c5
  go_loopw [3, 10] (fun v i wr => ∃ j : Nat, j ≤ n ∧ i = .int .i64 j ∧ wr.ownsRow w.heap.size 3 1 v (S.live j).length ((S.live j).map (Value.int .i64)) ∧ Hid (Below w.heap.size w wr)) (fun _ i _ => n - (intOf i).toNat)
  case atStart => exact ⟨0, by omega, rfl, World.ownsRow_nil _ _ _ _, Below.refl _ _⟩
  case round =>
    obtain ⟨j, hj, rfl, hown, hT⟩ := hrel
    have hR : RSt wr B S D := H.out.on hT.out
    obtain ⟨c0, c1, c2, c3, c4, c5, cf⟩ := hR.cell
    rw [← HN.out] at c4
    clear c0 c1 c2 c3 c5 cf
    have HO : Hid (wr.ownsRow w.heap.size 3 1 u3 (S.live j).length ((S.live j).map (Value.int .i64))) := hown
    clear hown
    by_cases hlt : j < n
    · obtain ⟨a, k, d0, d1, d2, _, _⟩ := hR.at j (by have := HN.out; omega)
      clear hR d1 d2
      cases hd : S.has (j : Int) with
      | false =>
        rw [hd] at d0
        have hm : Hid (S.live (j + 1) = S.live j) := by rw [live_succ, hd]; simp [Hid]
        clear hd
        go_wp2_with fail
        go_roundw
        case rel => exact ⟨j + 1, by omega, by go_num, by rw [hm.out]; exact HO.out, hT⟩
        case measure => simp [intOf]; omega
      | true =>
        rw [hd] at d0
        have hm : Hid (S.live (j + 1) = S.live j ++ [(j : Int)]) := by rw [live_succ, hd]; simp [Hid]
        have hml := live_le S j
        clear hd
        go_wp2_with (first
          | (at_builtin; refine wpList_append_own _ rfl _ _ 23 rfl w.heap.size 3 i0 (.int .i64 0) 1 8 Tryz.underlying23 hi hz0 hz1 hz2 rfl (by decide) _ _ _ rfl (World.ownsRow.alloc HO.out _) ⟨wr.heap.size, 0, none⟩ 1 1 [.int .i64 j] rfl rfl ?c1 ?c2 ?c3 ?c4 ?c5 ?_)
          | fail)
        case c1 =>
          intro j u hj
          match j, hj with
          | 0, hj => simp at hj; subst hj; simp [Addr.add]
        case c2 => intro u hu; simp at hu; subst hu; rfl
        case c3 => unfold maxLen; omega
        case c4 => omega
        case c5 => have := hT.out.size; simp; omega
        · intro v' w4 hown' hgrow _
          have hb4 : Below w.heap.size wr w4 := ((Below.refl _ _).alloc hT.out.size _).trans (Dev.below_of_grown' hgrow (fun k hk => (World.ownsRow.lt HO.out k hk).1) (by have := hT.out.size; simp; omega))
          have HX : Hid (w4.ownsRow w.heap.size 3 1 v' (S.live (j + 1)).length ((S.live (j + 1)).map (Value.int .i64)) ∧ Below w.heap.size w w4) := by
            refine ⟨?_, hT.out.trans hb4⟩
            rw [hm.out]
            simpa using hown'
          clear hown' hgrow hb4
          go_wp2
          go_roundw
          case rel => exact ⟨j + 1, by omega, by go_num, HX.out.1, HX.out.2⟩
          case measure => simp [intOf]; omega
    · have hjN : j = n := by omega
      subst hjN
      have hI := Ints.of_own (l := S.live j) HO.out (by have := live_le S j; omega)
      have HI : Hid _ := hI
      clear hI hR HO
      go_wp2_with fail
      go_ret
      exact ⟨_, rfl, HI.out, hT.out⟩
end Go.Proofs.YtanpkghdgdkdlaaGreat.Sto

/- Layer 6: a reference store that is changed. -/
namespace Go.Proofs.YtanpkghdgdkdlaaGreat.Sto
set_option linter.unusedVariables false
set_option linter.unusedSimpArgs false
set_option maxRecDepth 100000
open Go.RowKit Go.Lib Go.Proofs.YtanpkghdgdkdlaaGreat.Mem Go.Proofs.YtanpkghdgdkdlaaGreat.Oct Go.Proofs.YtanpkghdgdkdlaaGreat.Dev

section
variable {w w' : World} {B : RBlk} {S S' : StS} {D D' : DevS}
theorem RBlk.mem_c (B : RBlk) : B.c ∈ B.all := by simp [RBlk.all]
theorem RBlk.mem_p (B : RBlk) : B.p ∈ B.all := by simp [RBlk.all]
theorem RBlk.mem_s (B : RBlk) : B.s ∈ B.all := by simp [RBlk.all]
theorem RSt.ne (h : RSt w B S D) : (B.s ≠ B.c ∧ B.s ≠ B.p ∧ B.c ≠ B.p) ∧ (B.x ≠ B.s ∧ B.x ≠ B.c ∧ B.x ≠ B.p) ∧ (B.xk ≠ B.s ∧ B.xk ≠ B.c ∧ B.xk ≠ B.p) ∧ (B.xd ≠ B.s ∧ B.xd ≠ B.c ∧ B.xd ≠ B.p) ∧ (B.xi ≠ B.s ∧ B.xi ≠ B.c ∧ B.xi ≠ B.p) := by
  have := h.nd
  simp only [RBlk.all, List.nodup_cons, List.mem_cons, List.mem_nil_iff, or_false, not_or, List.nodup_nil, not_false_eq_true, and_true] at this
  obtain ⟨⟨a1, a2, a3, a4, a5, a6⟩, ⟨b1, b2, b3, b4, b5⟩, ⟨c1, c2, c3, c4⟩, _⟩ := this
  exact ⟨⟨a1, a2, b1⟩, ⟨Ne.symm a3, Ne.symm b2, Ne.symm c1⟩, ⟨Ne.symm a4, Ne.symm b3, Ne.symm c2⟩, ⟨Ne.symm a5, Ne.symm b4, Ne.symm c3⟩, Ne.symm a6, Ne.symm b5, Ne.symm c4⟩
theorem one_ne {a b : Nat} (h : a ≠ b) : a ∉ [b] := by simpa using h
theorem four_ne {a b c d e : Nat} (h1 : b ≠ a) (h2 : c ≠ a) (h3 : d ≠ a) (h4 : e ≠ a) : a ∉ [b, c, d, e] := by
  simp only [List.mem_cons, List.mem_nil_iff, or_false, not_or]
  exact ⟨Ne.symm h1, Ne.symm h2, Ne.symm h3, Ne.symm h4⟩
/-- blocks where nothing of it lies are written -/
theorem RSt.off {T : List Nat} (h : RSt w B S D) (hc : Chg T w w') (hT : ∀ t ∈ T, t ∉ B.all ∧ (t ∈ B.f)) : RSt w' B S D := by
  have hm : ∀ q ∈ B.all, q ∉ T := fun q hq ht => (hT q ht).1 hq
  obtain ⟨k, hk, hi⟩ := h.cells
  refine ⟨(hc.block _ (heap_lt h.box) (hm _ B.mem_s)).trans h.box, h.dev.chg hc (hm _ (by simp [RBlk.all])) (hm _ (by simp [RBlk.all])) (hm _ (by simp [RBlk.all])) (hm _ (by simp [RBlk.all])), h.small, ⟨k, hk.chg hc (hm _ B.mem_c), fun j hj => (hi j hj).chg hc (fun q hq ht => hq.2 (hT q ht).2)⟩, h.kept.chg hc (hm _ B.mem_p), h.nd, fun q hq => Nat.lt_of_lt_of_le (h.low q hq) hc.size, h.dom, h.kdom⟩
/-- its own device is changed -/
theorem RSt.dev' (h : RSt w B S D) (hc : Chg [B.x, B.xk, B.xd, B.xi] w w') (hd : RefAt w' B.x B.xk B.xd B.xi D') (hs : D'.small) (hn : D'.n = D.n) : RSt w' B S D' := by
  obtain ⟨⟨n1, n2, n3⟩, ⟨x1, x2, x3⟩, ⟨k1, k2, k3⟩, ⟨d1, d2, d3⟩, i1, i2, i3⟩ := h.ne
  obtain ⟨k, hk, hi⟩ := h.cells
  have hb := h.box
  have hkp := h.kept
  have hdm := h.dom
  have hkd := h.kdom
  rw [← hn] at hb hk hi hkp hdm hkd
  refine ⟨(hc.block _ (heap_lt h.box) (four_ne x1 k1 d1 i1)).trans hb, hd, hs, ⟨k, hk.chg hc (four_ne x2 k2 d2 i2), fun j hj => (hi j hj).chg hc (fun q hq ht => hq.1 (by
    simp only [List.mem_cons, List.mem_nil_iff, or_false] at ht
    rcases ht with rfl | rfl | rfl | rfl <;> simp [RBlk.all]))⟩, hkp.chg hc (four_ne x3 k3 d3 i3), h.nd, fun q hq => Nat.lt_of_lt_of_le (h.low q hq) hc.size, hdm, hkd⟩
/-- the same, told otherwise -/
theorem RSt.congr (h : RSt w B S D) (h1 : S'.gen = S.gen) (h2 : S'.root = S.root) (h3 : S'.note = S.note) (h4 : ∀ i, S'.kept i = S.kept i) (h5 : ∀ i, S'.has i = S.has i) (h6 : ∀ i, (S'.cel i).kids = (S.cel i).kids) (h7 : ∀ i, (S'.cel i).held = (S.cel i).held) : RSt w B S' D := by
  obtain ⟨k, hk, hi⟩ := h.cells
  refine ⟨by rw [h1, h2, h3]; exact h.box, h.dev, h.small, ⟨k, hk.congr (fun i _ => ⟨h5 i, h6 i, h7 i⟩), fun j hj => by rw [h6]; exact hi j hj⟩, h.kept.congr (fun j _ => h4 j), h.nd, h.low, fun i hi => h.dom i (by rw [← h5]; exact hi), fun i hi => h.kdom i (by rw [← h4]; exact hi)⟩
/-- cells are written -/
theorem RSt.cells' (h : RSt w B S D) (hc : Chg [B.c] w w') {k : KV} (hk : Cells3 w' B.c D.n.toNat S' k) (hi : ∀ j : Nat, j < D.n.toNat → Ints B.out w' (.slice (k j).1 (S'.cel j).kids.length (k j).2) (S'.cel j).kids)
    (h1 : S'.gen = S.gen) (h2 : S'.root = S.root) (h3 : S'.note = S.note) (h4 : S'.kept = S.kept) (hdom : ∀ i, S'.has i = true → 0 ≤ i ∧ i < D.n) : RSt w' B S' D := by
  obtain ⟨⟨n1, n2, n3⟩, ⟨x1, x2, x3⟩, ⟨k1, k2, k3⟩, ⟨d1, d2, d3⟩, i1, i2, i3⟩ := h.ne
  refine ⟨by rw [h1, h2, h3]; exact (hc.block _ (heap_lt h.box) (one_ne n1)).trans h.box, h.dev.chg hc (one_ne x2) (one_ne k2) (one_ne d2) (one_ne i2), h.small, ⟨k, hk, hi⟩, by rw [h4]; exact h.kept.chg hc (one_ne (Ne.symm n3)), h.nd, fun q hq => Nat.lt_of_lt_of_le (h.low q hq) hc.size, hdom, by rw [h4]; exact h.kdom⟩
theorem Ints.c {v : Value} {l : List Int} (h : Ints B.out w v l) (hc : Chg [B.c] w w') : Ints B.out w' v l := Ints.chg h hc (fun q hq hm => hq.1 (by simp at hm; subst hm; exact B.mem_c))
abbrev put3 (w : World) (c j : Nat) (o : Option Cel) (a : Option Addr) (cap : Nat) : World := ((w.setCell ⟨c, j * 3, none⟩ (.bool o.isSome)).setCell ⟨c, j * 3 + 1, none⟩ (.slice a (o.getD noCel).kids.length cap)).setCell ⟨c, j * 3 + 2, none⟩ (.int .i64 (o.getD noCel).held)
theorem put3_chg (w : World) (c j : Nat) (o : Option Cel) (a : Option Addr) (cap : Nat) : Chg [c] w (put3 w c j o a cap) :=
  (((Chg.refl _ _).setCell _ _ (.inl (by simp))).setCell _ _ (.inl (by simp))).setCell _ _ (.inl (by simp))
/-- a place is laid -/
theorem RSt.put (h : RSt w B S D) (j : Nat) (hj : j < D.n.toNat) (o : Option Cel) (a : Option Addr) (cap : Nat) (hk : Ints B.out w (.slice a (o.getD noCel).kids.length cap) (o.getD noCel).kids) : RSt (put3 w B.c j o a cap) B (S.setC j o) D := by
  obtain ⟨k, hc, hi⟩ := h.cells
  have hch := put3_chg w B.c j o a cap
  have hnat := h.nat
  refine h.cells' hch (hc.put j hj o a cap) (fun i hi2 => ?_) rfl rfl rfl rfl (fun i hi2 => ?_)
  · by_cases hij : i = j
    · subst hij; rw [updN_same, setC_cel]; exact Ints.c hk hch
    · have hne : (i : Int) ≠ (j : Int) := by omega
      rw [updN_other _ _ _ hij, setC_cel' _ _ hne]; exact Ints.c (hi i hi2) hch
  · by_cases hij : i = (j : Int)
    · subst hij; omega
    · rw [setC_has' _ _ hij] at hi2; exact h.dom i hi2
/-- one that is there is held otherwise -/
theorem RSt.hold (h : RSt w B S D) (j : Nat) (hj : j < D.n.toNat) (hh : S.has j = true) (b : Int) : RSt (w.setCell ⟨B.c, j * 3 + 2, none⟩ (.int .i64 ((S.cel j).held + b))) B (S.hold j b) D := by
  obtain ⟨k, hc, hi⟩ := h.cells
  have hch : Chg [B.c] w (w.setCell ⟨B.c, j * 3 + 2, none⟩ (.int .i64 ((S.cel j).held + b))) := (Chg.refl _ _).setCell _ _ (.inl (by simp))
  refine h.cells' hch (hc.hold j hj hh b) (fun i hi2 => ?_) rfl rfl rfl rfl (fun i hi2 => ?_)
  · have e : ((S.hold j b).cel i).kids = (S.cel i).kids := by
      by_cases hij : (i : Int) = (j : Int)
      · rw [hij]
        have q2 : (S.hold j b).cel j = { S.cel j with held := (S.cel j).held + b } := setC_cel _ _ _
        rw [q2]
      · have q2 : (S.hold j b).cel i = S.cel i := setC_cel' _ _ hij
        rw [q2]
    rw [e]
    exact Ints.c (hi i hi2) hch
  · by_cases hij : i = (j : Int)
    · subst hij; exact h.dom _ hh
    · have q1 : (S.hold j b).has i = S.has i := setC_has' _ _ hij
      rw [q1] at hi2; exact h.dom i hi2
/-- a mark of what is kept -/
theorem RSt.mark (h : RSt w B S D) (j : Nat) (hj : j < D.n.toNat) (b : Bool) : RSt (w.setCell ⟨B.p, j, none⟩ (.bool b)) B { S with kept := fun i => if i = (j : Int) then b else S.kept i } D := by
  obtain ⟨⟨n1, n2, n3⟩, ⟨x1, x2, x3⟩, ⟨k1, k2, k3⟩, ⟨d1, d2, d3⟩, i1, i2, i3⟩ := h.ne
  obtain ⟨k, hk, hi⟩ := h.cells
  have hc : Chg [B.p] w (w.setCell ⟨B.p, j, none⟩ (.bool b)) := (Chg.refl _ _).setCell _ _ (.inl (by simp))
  have hnat := h.nat
  refine ⟨(hc.block _ (heap_lt h.box) (one_ne n2)).trans h.box, h.dev.chg hc (one_ne x3) (one_ne k3) (one_ne d3) (one_ne i3), h.small, ⟨k, hk.chg hc (one_ne n3), fun j hj => Ints.chg (hi j hj) hc (fun q hq hm => hq.1 (by simp at hm; subst hm; exact B.mem_p))⟩, ?_, h.nd, fun q hq => Nat.lt_of_lt_of_le (h.low q hq) hc.size, h.dom, fun i hi => ?_⟩
  · refine (h.kept.set j b).congr (fun i _ => ?_)
    by_cases hij : i = j
    · subst hij; rw [updN_same]; simp
    · rw [updN_other _ _ _ hij]
      have hne : (i : Int) ≠ (j : Int) := by omega
      simp [hne]
  · by_cases hij : i = (j : Int)
    · subst hij; omega
    · simp only [if_neg hij] at hi; exact h.kdom i hi
/-- blocks that kids keep away from -/
theorem RSt.free {F : List Nat} (h : RSt w B S D) (hno : ∀ i, S.has i = false) (hF : ∀ q ∈ F, q < w.heap.size) : RSt w { B with f := F } S D := by
  obtain ⟨k, hk, hi⟩ := h.cells
  refine ⟨h.box, h.dev, h.small, ⟨k, hk, fun j hj => ?_⟩, h.kept, h.nd, hF, h.dom, h.kdom⟩
  have hcel : S.cel j = noCel := by
    have := hno j
    unfold StS.has at this
    unfold StS.cel
    cases hc : S.cells j with
    | none => rfl
    | some c => rw [hc] at this; cases this
  rw [hcel]
  exact .inl ⟨rfl, _, _, rfl⟩
end
end Go.Proofs.YtanpkghdgdkdlaaGreat.Sto

