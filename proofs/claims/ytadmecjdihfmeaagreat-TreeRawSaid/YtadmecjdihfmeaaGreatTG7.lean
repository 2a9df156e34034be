/- TreGet TreCheck TreEnt: several texts of one proof, laid as one file (a claim has at most 60 files). No condition. -/
import Derived.Test.YtadmecjdihfmeaaGreatTG3
import Derived.Test.YtadmecjdihfmeaaGreatTG4
import Derived.Deep.DeepCutAuto
import Derived.BigQuiet
import Derived.Maps.AppendAt
/- Layer 7: Get. -/
namespace Go.Proofs.YtadmecjdihfmeaaGreat.Tre
set_option linter.unusedVariables false
set_option linter.unusedSimpArgs false
set_option maxRecDepth 100000
open Go.RowKit Go.Lib Go.Proofs.YtadmecjdihfmeaaGreat.Mem Go.Proofs.YtadmecjdihfmeaaGreat.Oct Go.Proofs.YtadmecjdihfmeaaGreat.Dev Go.Proofs.YtadmecjdihfmeaaGreat.Sto

theorem way_lt' {l : List It} {key : ByteArray} (hl : 1 ≤ l.length) : wayF l key < l.length := by
  have h1 := placeF_le l key
  unfold wayF
  split
  · rename_i hf
    obtain ⟨h2, _⟩ := foundF_iff.1 hf
    exact h2
  · omega
/-- what Get goes on with -/
def contF (S : StS) (D : DevS) (key : ByteArray) : Except Int Nd → Except Int (Option ByteArray)
  | .error e => .error e
  | .ok n => getF S D key n.level n.items
theorem cont_next {S : StS} {D : DevS} {key : ByteArray} {n : Nd} (hn : 0 < n.level) (hl : 1 ≤ n.items.length) : contF S D key (.ok n) = contF S D key (belowF S D n.level (n.items[wayF n.items key]'(way_lt' hl)).kid) := by
  obtain ⟨lv, l⟩ := n
  match lv, hn with
  | f + 1, _ =>
    have hl' : 1 ≤ l.length := hl
    show getF S D key (f + 1) l = _
    rw [getF, List.getElem?_eq_getElem (way_lt' hl')]
    dsimp only [Option.getD_some]
    cases hb : belowF S D (f + 1) (l[wayF l key]'(way_lt' hl')).kid with
    | error e => rfl
    | ok k =>
      have := (belowF_ok hb).2
      dsimp only [contF]
      rw [show k.level = f by omega]
def lvlAt (w : World) (g : Nat) : Nat := match w.cell? ⟨g, 0, none⟩ with | some (.int _ z) => z.toNat | _ => 0
/-- the node that Get stands at -/
structure GetR (w : World) (B : Blk) (S : StS) (D : DevS) (root : Int) (key : ByteArray) (g : Nat) (G : Except Int Nd) (wr : World) : Prop where
  below : Below w.heap.size w wr
  st0 : StAt w B S D
  ge : w.heap.size ≤ g
  node : ∃ a c, wr.heap[g]? = some (.cells #[.int .i64 (ndOf G).level, .slice a (ndOf G).items.length c] 79 (0, 0)) ∧ Its (fun q => w.heap.size ≤ q ∧ q ≠ g) wr (.slice a (ndOf G).items.length c) (ndOf G).items
  go : GetF S D root key = contF S D key G
  ok : ∀ n, G = .ok n → NdOk n
  ne : ∀ e, G = .error e → e ≠ 0
theorem GetR.st {w : World} {B : Blk} {S : StS} {D : DevS} {root : Int} {key : ByteArray} {g : Nat} {G : Except Int Nd} {wr : World} (h : GetR w B S D root key g G wr) : StAt wr B S D := h.st0.on h.below
theorem get_step {w : World} {B : Blk} {S : StS} {D : DevS} {root : Int} {key : ByteArray} {g : Nat} {n : Nd} {wr w4 w5 : World} {a a5 : Option Addr} {c c5 i : Nat} {GB : Except Int Nd} (hl0 : 0 < n.level) (h : GetR w B S D root key g (.ok n) wr) (hx : wr.heap[g]? = some (.cells #[.int .i64 n.level, .slice a n.items.length c] 79 (0, 0)))
    (hb : Below wr.heap.size wr w5) (hI : Its (w4.heap.size ≤ ·) w5 (.slice a5 (ndOf GB).items.length c5) (ndOf GB).items) (hb4 : Below wr.heap.size wr w4) (hi : i < n.items.length) (hc : contF S D key (.ok n) = contF S D key GB) (hGB : GB = belowF S D n.level (n.items[i]'hi).kid) :
    Hid (GetR w B S D root key g GB ((w5.setCell ⟨g, 0, none⟩ (.int .i64 (ndOf GB).level)).setCell ⟨g, 1, none⟩ (.slice a5 (ndOf GB).items.length c5))) ∧ lvlAt ((w5.setCell ⟨g, 0, none⟩ (.int .i64 (ndOf GB).level)).setCell ⟨g, 1, none⟩ (.slice a5 (ndOf GB).items.length c5)) g < lvlAt wr g := by
  have hx5 := (hb.block _ (heap_lt hx)).trans hx
  have hbox := heap_set_at (heap_set_at hx5 0 (.int .i64 (ndOf GB).level)) 1 (.slice a5 (ndOf GB).items.length c5)
  have hcg : Chg [g] w5 ((w5.setCell ⟨g, 0, none⟩ (.int .i64 (ndOf GB).level)).setCell ⟨g, 1, none⟩ (.slice a5 (ndOf GB).items.length c5)) := ((Chg.refl _ _).setCell _ _ (.inl (by simp))).setCell _ _ (.inl (by simp))
  have hbase : Below w.heap.size w5 ((w5.setCell ⟨g, 0, none⟩ (.int .i64 (ndOf GB).level)).setCell ⟨g, 1, none⟩ (.slice a5 (ndOf GB).items.length c5)) := hcg.below (Nat.le_trans h.below.size hb.size) (fun q hq => by have := h.ge; simp at hq; omega)
  have hgl := heap_lt hx
  constructor
  · refine ⟨(h.below.trans (hb.mono h.below.size)).trans hbase, h.st0, h.ge, ⟨a5, c5, hbox, (hI.chg hcg (fun q hq hm => by simp at hm; have := hb4.size; omega)).mono (fun q hq => ?_)⟩, h.go.trans hc, fun k hk => ?_, fun e he => ?_⟩
    · have h1 := h.below.size
      have h2 := hb4.size
      exact ⟨by omega, by omega⟩
    · rw [hGB] at hk; exact (loadF_ok (belowF_ok hk).1).1
    · rw [hGB] at he; exact belowF_ne he
  · have e1 : lvlAt ((w5.setCell ⟨g, 0, none⟩ (.int .i64 (ndOf GB).level)).setCell ⟨g, 1, none⟩ (.slice a5 (ndOf GB).items.length c5)) g = (ndOf GB).level := by
      unfold lvlAt
      rw [cell_at hbox 0]
      simp
    have e2 : lvlAt wr g = n.level := by
      unfold lvlAt
      rw [cell_at hx 0]
      simp
    rw [e1, e2]
    rcases ndOf_cases GB (fun e he => by rw [hGB] at he; exact belowF_ne he) with ⟨k, hk, hn, _⟩ | ⟨er, _, hn, _, _⟩
    · rw [hn]
      rw [hGB] at hk
      have := (belowF_ok hk).2
      omega
    · rw [hn]; exact hl0
def valOf : Except Int (Option ByteArray) → ByteArray × Bool
  | .ok (some v) => (v, true)
  | _ => (nil8, false)
def GetIs (w : World) (r : Except Int (Option ByteArray)) (e : Ending) (w' : World) : Prop := e = .returned (.tuple #[.string (valOf r).1, .bool (valOf r).2, .int .i64 (erOf r)]) ∧ Below w.heap.size w w'
set_option maxHeartbeats 8000000 in
theorem treeGet_any (w : World) (B : Blk) (S : StS) (D : DevS) (root : Int) (key : ByteArray) (h : StAt w B S D) :
    Calls Tryz.prog 21 #[.pointer (some ⟨B.s, 0, none⟩), .int .i64 root, .string key] w (GetIs w (GetF S D root key)) := by
  have H : Hid (StAt w B S D) := h
  clear h
  by_cases h0 : root = 0
  · have HR : Hid (GetF S D root key = .ok none) := by show GetF S D root key = _; unfold GetF; exact if_pos h0
    have h0' : (root == 0) = true := by simpa using h0
    clear h0
    go_enter Tryz.func21, Tryz.ntmps21
    go_wp2_with fail
    go_ret3
    exact ⟨by rw [HR.out]; rfl, Below.refl _ _⟩
  · have HR : Hid (GetF S D root key = contF S D key (loadF S D root)) := by
      show GetF S D root key = _
      unfold GetF
      rw [if_neg h0]
      cases loadF S D root <;> rfl
    have h0' : (root == 0) = false := by simpa using h0
    clear h0
    go_enter Tryz.func21, Tryz.ntmps21
    go_wp2_with fail
    refine (load_any w B S D root H.out).mono ?_
    rintro e w2 ⟨v2, rfl, hI2, hb2⟩
    obtain ⟨a2, c2, rfl, _, _⟩ := hI2.form
    have HG : Hid (GetR w B S D root key w2.heap.size (loadF S D root) (w2.alloc (.cells #[.int .i64 (ndOf (loadF S D root)).level, .slice a2 (ndOf (loadF S D root)).items.length c2] 79))) := by
      have hb3 : Below w2.heap.size w2 (w2.alloc (.cells #[.int .i64 (ndOf (loadF S D root)).level, .slice a2 (ndOf (loadF S D root)).items.length c2] 79)) := (Below.refl _ _).alloc (Nat.le_refl _) _
      refine ⟨hb2.trans (hb3.mono hb2.size), H.out, hb2.size, ⟨a2, c2, heap_alloc_last _ _, (hI2.real.on hb3).mono (fun q hq => ⟨hq.1, by have := hq.2; omega⟩)⟩, HR.out, fun n hn => (loadF_ok hn).1, fun e he => loadF_ne he⟩
    clear hI2 HR
    obtain ⟨G, hG⟩ : ∃ G, G = loadF S D root := ⟨_, rfl⟩
    obtain ⟨w3, hw3⟩ : ∃ w3, w3 = w2.alloc (.cells #[.int .i64 (ndOf (loadF S D root)).level, .slice a2 (ndOf (loadF S D root)).items.length c2] 79) := ⟨_, rfl⟩
    obtain ⟨g, hg⟩ : ∃ g, g = w2.heap.size := ⟨_, rfl⟩
    rw [← hw3, ← hg, ← hG] at HG
    obtain ⟨er, her⟩ : ∃ er, er = erOf G := ⟨_, rfl⟩
    rw [← hG, ← her]
    rw [← hG] at hw3
    have HER : Hid (er = erOf G) := her
    clear hG her
    go_wp2_with fail
    rw [← hw3, ← hg]
    clear hw3 hg hb2
    go_loopw [10] (fun v10 wr => ∃ G : Except Int Nd, v10 = .int .i64 (erOf G) ∧ Hid (GetR w B S D root key g G wr)) (fun _ wr => lvlAt wr g)
    case atStart => exact ⟨G, by rw [HER.out], HG.out⟩
    case round =>
      obtain ⟨G', rfl, HT⟩ := hrel
      clear HER HG
      rcases ndOf_cases G' (fun e he => HT.out.ne e he) with ⟨n, rfl, hn, he⟩ | ⟨e1, rfl, hn, he, hz⟩
      · obtain ⟨a, c, hx, hI⟩ := HT.out.node
        simp only [hn] at hx hI
        have y0 : wr.cell? ⟨g, 0, none⟩ = some (.int .i64 n.level) := cell_at hx 0
        have y1 : wr.cell? ⟨g, 1, none⟩ = some (.slice a n.items.length c) := cell_at hx 1
        have HOK : Hid (NdOk n) := HT.out.ok n rfl
        have hlv20 := HOK.out.level
        have hlen := HOK.out.len
        have HX : Hid (wr.heap[g]? = some (.cells #[.int .i64 n.level, .slice a n.items.length c] 79 (0, 0)) ∧ Its (fun q => w.heap.size ≤ q ∧ q ≠ g) wr (.slice a n.items.length c) n.items) := ⟨hx, hI⟩
        clear hx hI hn
        rw [he]
        by_cases hl0 : 0 < n.level
        · have hl0' : (0 : Int) < (n.level : Int) := by omega
          have hwl := way_lt' (key := key) hlen.1
          obtain ⟨i, hi⟩ : ∃ i, i = wayF n.items key := ⟨_, rfl⟩
          have hil : i < n.items.length := by rw [hi]; exact hwl
          have HWY : Hid (∀ wq, Its (fun q => w.heap.size ≤ q ∧ q ≠ g) wq (.slice a n.items.length c) n.items → Calls Tryz.prog 43 #[.slice a n.items.length c, .string key] wq fun e w' => e = .returned (.int .i64 i) ∧ Below wq.heap.size wq w') := fun wq hq => by rw [hi]; exact way_any _ wq _ n.items key HOK.out.its.rise (by omega) hq
          obtain ⟨GB, hGB⟩ : ∃ GB, GB = belowF S D n.level (n.items[i]'hil).kid := ⟨_, rfl⟩
          have HCN : Hid (contF S D key (.ok n) = contF S D key GB ∧ GB = belowF S D n.level (n.items[i]'hil).kid) := ⟨by rw [hGB]; subst hi; exact cont_next hl0 hlen.1, hGB⟩
          clear hwl hi hGB
          have z0 : wr.drew.cell? ⟨g, 0, none⟩ = some (.int .i64 n.level) := y0
          have z1 : wr.drew.cell? ⟨g, 1, none⟩ = some (.slice a n.items.length c) := y1
          go_wp2_with fail
          go_region_with (first
            | (go_at_call 43; refine (HWY.out wr.drew (HX.out.2.on (Below.refl _ _).drew)).mono ?_; rintro e w4 ⟨rfl, hb4⟩; have H4 : Hid (Below wr.heap.size wr w4) := (Below.refl _ _).drew.trans (hb4.mono (Nat.le_refl _)); have x0 : w4.cell? ⟨g, 0, none⟩ = some (.int .i64 n.level) := cell_on H4.out y0; have x1 : w4.cell? ⟨g, 1, none⟩ = some (.slice a n.items.length c) := cell_on H4.out y1; clear hb4)
            | (go_at_call 42; refine (below_any _ w4 B S D n.level _ n.items i hil ⟨by omega, by omega⟩ (HT.out.st.on H4.out) (HX.out.2.on H4.out)).mono ?_; rw [← HCN.out.2]; rintro e w5 ⟨v5, rfl, hI5, hb5⟩; obtain ⟨a5, c5, rfl, _, _⟩ := hI5.form; have H5 : Hid (Below wr.heap.size wr w5 ∧ Its (w4.heap.size ≤ ·) w5 (.slice a5 (ndOf GB).items.length c5) (ndOf GB).items) := ⟨H4.out.trans (hb5.mono H4.out.size), hI5⟩; have hx5 := (H5.out.1.block _ (heap_lt HX.out.1)).trans HX.out.1; have x0 : w5.cell? ⟨g, 0, none⟩ = some (.int .i64 n.level) := cell_at hx5 0; have x1 : w5.cell? ⟨g, 1, none⟩ = some (.slice a n.items.length c) := cell_at hx5 1; have xf : ∀ j, w5.frozen? ⟨g, j, none⟩ = false := frozen_at hx5; clear hI5 hb5 hx5)
            | fail)
          all_goals (go_wp2_with fail; go_roundw)
          case rel => (repeat apply Exists.intro); exact ⟨⟨GB, rfl, (get_step hl0 HT.out HX.out.1 H5.out.1 H5.out.2 H4.out hil HCN.out.1 HCN.out.2).1⟩, rfl⟩
          case measure => exact (get_step hl0 HT.out HX.out.1 H5.out.1 H5.out.2 H4.out hil HCN.out.1 HCN.out.2).2
          case rel => (repeat apply Exists.intro); exact ⟨⟨GB, rfl, (get_step hl0 HT.out HX.out.1 H5.out.1 H5.out.2 H4.out hil HCN.out.1 HCN.out.2).1⟩, rfl⟩
          case measure => exact (get_step hl0 HT.out HX.out.1 H5.out.1 H5.out.2 H4.out hil HCN.out.1 HCN.out.2).2
          case rel => (repeat apply Exists.intro); exact ⟨⟨GB, rfl, (get_step hl0 HT.out HX.out.1 H5.out.1 H5.out.2 H4.out hil HCN.out.1 HCN.out.2).1⟩, rfl⟩
          case measure => exact (get_step hl0 HT.out HX.out.1 H5.out.1 H5.out.2 H4.out hil HCN.out.1 HCN.out.2).2
        · have hl0' : ¬ (0 : Int) < (n.level : Int) := by omega
          have HL0 : Hid (n.level = 0) := by show n.level = 0; omega
          clear hl0
          have HGO : Hid (GetF S D root key = .ok (if foundF n.items key = true then some (n.items[placeF n.items key]?.getD default).val else none)) := by
            have := HT.out.go
            unfold contF at this
            dsimp only at this
            rw [HL0.out] at this
            exact this
          have HPL : Hid (Calls Tryz.prog 44 #[.slice a n.items.length c, .string key] wr fun e w' => e = .returned (.tuple #[.int .i64 (placeF n.items key), .bool (foundF n.items key)]) ∧ Below wr.heap.size wr w') := place_any _ wr _ n.items key HOK.out.its.rise (by omega) HX.out.2
          obtain ⟨p, hp⟩ : ∃ p, p = placeF n.items key := ⟨_, rfl⟩
          rw [← hp] at HGO HPL
          have HPF : Hid (foundF n.items key = true → p < n.items.length) := fun hf => by obtain ⟨h1, _⟩ := foundF_iff.1 hf; omega
          have HLV : Hid ((n.level : Int) = 0) := by show (n.level : Int) = 0; have := HL0.out; omega
          clear hp
          go_wp2_with fail
          refine Calls.mono HPL.out ?_
          rintro e w4 ⟨rfl, hb4⟩
          have H4 : Hid (Below w.heap.size w w4 ∧ Its (fun q => w.heap.size ≤ q ∧ q ≠ g) w4 (.slice a n.items.length c) n.items) := ⟨HT.out.below.trans (hb4.mono HT.out.below.size), HX.out.2.on hb4⟩
          have hx4 := (hb4.block _ (heap_lt HX.out.1)).trans HX.out.1
          have y1 : w4.cell? ⟨g, 1, none⟩ = some (.slice a n.items.length c) := cell_at hx4 1
          clear hb4 HPL hx4
          cases hfo : foundF n.items key with
          | true =>
            have hpl := HPF.out hfo
            obtain ⟨b, o, rfl, _, _, q1, _⟩ := H4.out.2.at p hpl
            obtain ⟨vl, hvl⟩ : ∃ vl, vl = n.items[p].val := ⟨_, rfl⟩
            rw [← hvl] at q1
            have HRR : Hid (GetF S D root key = .ok (some vl)) := by
              rw [HGO.out, hfo, if_pos rfl, List.getElem?_eq_getElem hpl, hvl]
              rfl
            clear HGO hvl
            go_wp2_with fail
            go_ret3
            exact ⟨by rw [HRR.out]; rfl, H4.out.1⟩
          | false =>
            have HRR : Hid (GetF S D root key = .ok none) := by
              have := HGO.out
              rw [hfo] at this
              exact this
            clear HGO
            go_wp2_with fail
            go_ret3
            exact ⟨by rw [HRR.out]; rfl, H4.out.1⟩
      · have HRR : Hid (GetF S D root key = .error e1) := HT.out.go
        rw [he]
        have hz' : (e1 != 0) = true := by simpa using hz
        have hz'' : (e1 == 0) = false := by simpa using hz
        clear hn he hz
        go_wp2_with fail
        go_ret3
        exact ⟨by rw [HRR.out]; rfl, HT.out.below⟩
end Go.Proofs.YtadmecjdihfmeaaGreat.Tre

/- Layer 7: checked, Check. -/
namespace Go.Proofs.YtadmecjdihfmeaaGreat.Tre
set_option linter.unusedVariables false
set_option linter.unusedSimpArgs false
set_option maxRecDepth 100000
open Go.RowKit Go.Lib Go.Proofs.YtadmecjdihfmeaaGreat.Mem Go.Proofs.YtadmecjdihfmeaaGreat.Oct Go.Proofs.YtadmecjdihfmeaaGreat.Dev Go.Proofs.YtadmecjdihfmeaaGreat.Sto

def CheckIs (w : World) (r : Int × Nat) (e : Ending) (w' : World) : Prop := e = .returned (.tuple #[.int .i64 (IntKind.i64.wrap (r.2 : Nat)), .int .i64 r.1]) ∧ Below w.heap.size w w'
theorem wrap_sum64 (a b : Nat) : wrap64 (wrap64 (a : Int) + wrap64 (b : Int)) = IntKind.i64.wrap ((a + b : Nat) : Int) := by
  rw [IntKind.wrap_i64]
  unfold wrap64
  omega
theorem wrap_eq (x : Int) : IntKind.i64.wrap x = wrap64 x := by
  rw [IntKind.wrap_i64]
  try unfold wrap64
  try rfl
theorem geq_at' (a b : ByteArray) : (!(Op.bytesLess a.toList b.toList)) = !lt a b := rfl
set_option maxHeartbeats 16000000 in
theorem checked_any (B : Blk) (S : StS) (D : DevS) : ∀ (f : Nat) (w : World) (p : Nat → Prop) (v : Value) (l : List It) (stop : ByteArray), f ≤ 20 → StAt w B S D → Its p w v l → 1 ≤ l.length ∧ l.length ≤ 8 →
    Calls Tryz.prog 45 #[.pointer (some ⟨B.s, 0, none⟩), .agg #[.int .i64 f, v], .string stop] w (CheckIs w (checkedF S D f l stop)) := by
  intro f
  induction f with
  | zero =>
    intro w p v l stop hf h hI hl
    obtain ⟨a, c, rfl, _, _⟩ := hI.form
    obtain ⟨w1, hw1⟩ : ∃ w1, w1 = w.alloc (.cells #[.int .i64 0, .slice a l.length c] 79) := ⟨_, rfl⟩
    have hb1 : Below w.heap.size w w1 := by rw [hw1]; exact (Below.refl _ _).alloc (Nat.le_refl _) _
    have hx1 : w1.heap[w.heap.size]? = some (.cells #[.int .i64 0, .slice a l.length c] 79 (0, 0)) := by rw [hw1]; exact heap_alloc_last _ _
    have y0 : w1.cell? ⟨w.heap.size, 0, none⟩ = some (.int .i64 0) := cell_at hx1 0
    have y1 : w1.cell? ⟨w.heap.size, 1, none⟩ = some (.slice a l.length c) := cell_at hx1 1
    obtain ⟨m, hm⟩ : ∃ m, m + 1 = l.length := ⟨l.length - 1, by omega⟩
    obtain ⟨b, o, rfl, _, q0, _, _⟩ := (hI.on hb1).at m (by omega)
    obtain ⟨ky, hky⟩ : ∃ ky, ky = (l[m]'(by omega)).key := ⟨_, rfl⟩
    rw [← hky] at q0
    have hlast : (l.getLast?.getD default).key = ky := by
      rw [List.getLast?_eq_getElem?, show l.length - 1 = m by omega, List.getElem?_eq_getElem (by omega), hky]
      rfl
    obtain ⟨late, hlate⟩ : ∃ late, late = lateC stop l := ⟨_, rfl⟩
    have HLT : Hid (late = (!stop.toList.isEmpty && !lt ky stop)) := by show late = _; rw [hlate, ← hlast]; rfl
    have H1 : Hid (Below w.heap.size w w1 ∧ w1.heap[w.heap.size]? = some (.cells #[.int .i64 0, .slice (some ⟨b, o, none⟩) l.length c] 79 (0, 0)) ∧ StAt w1 B S D ∧ Its p w1 (.slice (some ⟨b, o, none⟩) l.length c) l) := ⟨hb1, hx1, h.on hb1, hI.on hb1⟩
    rw [hw1] at y0 y1 q0
    have hm' : (l.length : Int) - 1 = (m : Int) := by omega
    have hm2 : (m : Int) < (l.length : Int) := by omega
    have hgl := geq_at' ky stop
    have HR : Hid (checkedF S D 0 l stop = if late = true then (201, 0) else (0, l.length)) := by show checkedF S D 0 l stop = _; rw [hlate]; rfl
    have HWL : Hid (IntKind.i64.wrap ((l.length : Nat) : Int) = (l.length : Int)) := by show _ = _; rw [IntKind.wrap_i64]; omega
    clear h hI hb1 hx1 hky hlast hlate
    go_enter Tryz.func45, Tryz.ntmps45
    go_upto_region 1 with fail
    go_cut [29] from 15 to 28 (fun v29 wx => v29 = .bool late ∧ wx = w1)
    case first =>
      cases hse : stop.toList.isEmpty with
      | true =>
        have hl2 : late = false := by have := HLT.out; rw [hse] at this; exact this
        go_wp2_with fail
        go_meet
        exact ⟨by rw [hl2], hw1.symm⟩
      | false =>
        cases hlk : lt ky stop with
        | true =>
          have hl2 : late = false := by have := HLT.out; rw [hse, hlk] at this; exact this
          rw [hlk] at hgl
          go_wp2_with fail
          go_meet
          exact ⟨by rw [hl2], hw1.symm⟩
        | false =>
          have hl2 : late = true := by have := HLT.out; rw [hse, hlk] at this; exact this
          rw [hlk] at hgl
          go_wp2_with fail
          go_meet
          exact ⟨by rw [hl2], hw1.symm⟩
    case rest =>
    obtain ⟨rfl, hwc⟩ := hcut
    have hwc' := hwc.symm
    clear hwc
    subst hwc'
    clear hgl q0 hm' hm2 y0 y1 hw1
    have y0 : w1.cell? ⟨w.heap.size, 0, none⟩ = some (.int .i64 0) := cell_at H1.out.2.1 0
    have y1 : w1.cell? ⟨w.heap.size, 1, none⟩ = some (.slice (some ⟨b, o, none⟩) l.length c) := cell_at H1.out.2.1 1
    cases late with
    | true =>
      go_wp2_with fail
      go_ret2
      exact ⟨by rw [HR.out]; rfl, H1.out.1⟩
    | false =>
      go_wp2_with fail
      go_ret2
      exact ⟨by rw [HR.out]; show _ = Ending.returned (.tuple #[.int .i64 (IntKind.i64.wrap (l.length : Nat)), .int .i64 0]); rw [HWL.out]; rfl, H1.out.1⟩
  | succ f ih =>
    intro w p v l stop hf h hI hl
    obtain ⟨a, c, rfl, _, _⟩ := hI.form
    obtain ⟨w1, hw1⟩ : ∃ w1, w1 = w.alloc (.cells #[.int .i64 ((f + 1 : Nat) : Int), .slice a l.length c] 79) := ⟨_, rfl⟩
    have hb1 : Below w.heap.size w w1 := by rw [hw1]; exact (Below.refl _ _).alloc (Nat.le_refl _) _
    have hx1 : w1.heap[w.heap.size]? = some (.cells #[.int .i64 ((f + 1 : Nat) : Int), .slice a l.length c] 79 (0, 0)) := by rw [hw1]; exact heap_alloc_last _ _
    have y0 : w1.cell? ⟨w.heap.size, 0, none⟩ = some (.int .i64 ((f + 1 : Nat) : Int)) := cell_at hx1 0
    have y1 : w1.cell? ⟨w.heap.size, 1, none⟩ = some (.slice a l.length c) := cell_at hx1 1
    obtain ⟨m, hm⟩ : ∃ m, m + 1 = l.length := ⟨l.length - 1, by omega⟩
    obtain ⟨b, o, rfl, _, q0, _, _⟩ := (hI.on hb1).at m (by omega)
    obtain ⟨ky, hky⟩ : ∃ ky, ky = (l[m]'(by omega)).key := ⟨_, rfl⟩
    rw [← hky] at q0
    have hlast : (l.getLast?.getD default).key = ky := by
      rw [List.getLast?_eq_getElem?, show l.length - 1 = m by omega, List.getElem?_eq_getElem (by omega), hky]
      rfl
    obtain ⟨late, hlate⟩ : ∃ late, late = lateC stop l := ⟨_, rfl⟩
    have HLT : Hid (late = (!stop.toList.isEmpty && !lt ky stop)) := by show late = _; rw [hlate, ← hlast]; rfl
    have H1 : Hid (Below w.heap.size w w1 ∧ w1.heap[w.heap.size]? = some (.cells #[.int .i64 ((f + 1 : Nat) : Int), .slice (some ⟨b, o, none⟩) l.length c] 79 (0, 0)) ∧ StAt w1 B S D ∧ Its p w1 (.slice (some ⟨b, o, none⟩) l.length c) l) := ⟨hb1, hx1, h.on hb1, hI.on hb1⟩
    rw [hw1] at y0 y1 q0
    have hm' : (l.length : Int) - 1 = (m : Int) := by omega
    have hm2 : (m : Int) < (l.length : Int) := by omega
    have hgl := geq_at' ky stop
    obtain ⟨F, hF⟩ : ∃ F : Int, F = ((f + 1 : Nat) : Int) := ⟨_, rfl⟩
    have HF : Hid (F = ((f + 1 : Nat) : Int)) := hF
    have hz : ¬ F = 0 := by omega
    have hz2 : (F == 0) = false := by simpa using hz
    rw [← hF] at hw1 y0 y1 q0 H1 ⊢
    have HR : Hid (checkedF S D (f + 1) l stop = if late = true then (201, 0) else nodeC (checkedF S D f) (belowF S D (f + 1)) stop l 0) := by show checkedF S D (f + 1) l stop = _; rw [hlate]; rfl
    clear h hI hb1 hx1 hky hlast hlate hF
    go_enter Tryz.func45, Tryz.ntmps45
    go_upto_region 1 with fail
    go_cut [29] from 15 to 28 (fun v29 wx => v29 = .bool late ∧ wx = w1)
    case first =>
      cases hse : stop.toList.isEmpty with
      | true =>
        have hl2 : late = false := by have := HLT.out; rw [hse] at this; exact this
        go_wp2_with fail
        go_meet
        exact ⟨by rw [hl2], hw1.symm⟩
      | false =>
        cases hlk : lt ky stop with
        | true =>
          have hl2 : late = false := by have := HLT.out; rw [hse, hlk] at this; exact this
          rw [hlk] at hgl
          go_wp2_with fail
          go_meet
          exact ⟨by rw [hl2], hw1.symm⟩
        | false =>
          have hl2 : late = true := by have := HLT.out; rw [hse, hlk] at this; exact this
          rw [hlk] at hgl
          go_wp2_with fail
          go_meet
          exact ⟨by rw [hl2], hw1.symm⟩
    case rest =>
    obtain ⟨rfl, hwc⟩ := hcut
    have hwc' := hwc.symm
    clear hwc
    subst hwc'
    clear hgl q0 hm' hm2 y0 y1 hw1
    have y0 : w1.cell? ⟨w.heap.size, 0, none⟩ = some (.int .i64 F) := cell_at H1.out.2.1 0
    have y1 : w1.cell? ⟨w.heap.size, 1, none⟩ = some (.slice (some ⟨b, o, none⟩) l.length c) := cell_at H1.out.2.1 1
    cases late with
    | true =>
      go_wp2_with fail
      go_ret2
      exact ⟨by rw [HR.out]; rfl, H1.out.1⟩
    | false =>
      have HR2 : Hid (checkedF S D (f + 1) l stop = nodeC (checkedF S D f) (belowF S D (f + 1)) stop l 0) := by have := HR.out; rw [if_neg (by decide)] at this; exact this
      clear HR
      go_wp2_with fail
      go_loopw [8, 39] (fun v8 v39 wr => ∃ j : Nat, j ≤ l.length ∧ v39 = .int .i64 j ∧ ∃ sum : Nat, v8 = .int .i64 (IntKind.i64.wrap (sum : Int)) ∧ Hid (nodeC (checkedF S D f) (belowF S D (f + 1)) stop (l.drop j) sum = checkedF S D (f + 1) l stop ∧ Below w1.heap.size w1 wr ∧ Below w.heap.size w wr)) (fun _ v39 _ => l.length - (intOf v39).toNat)
      case atStart => exact ⟨0, by omega, rfl, 0, rfl, HR2.out.symm, Below.refl _ _, H1.out.1⟩
      case round =>
        obtain ⟨j, hj, rfl, sum, rfl, HT⟩ := hrel
        by_cases hlt : j < l.length
        · have hlt' : (j : Int) < (l.length : Int) := by omega
          have hb1r : Below w1.heap.size w1 wr := HT.out.2.1
          have hxr := (hb1r.block _ (heap_lt H1.out.2.1)).trans H1.out.2.1
          have z0 : wr.cell? ⟨w.heap.size, 0, none⟩ = some (.int .i64 F) := cell_at hxr 0
          have z1 : wr.cell? ⟨w.heap.size, 1, none⟩ = some (.slice (some ⟨b, o, none⟩) l.length c) := cell_at hxr 1
          have hIr : Its p wr (.slice (some ⟨b, o, none⟩) l.length c) l := H1.out.2.2.2.on hb1r
          obtain ⟨b', o', hbo, _, q0, q1, q2⟩ := hIr.at j hlt
          obtain ⟨rfl, rfl⟩ : b = b' ∧ o = o' := by injection hbo with h1; injection h1 with h1 h2; exact ⟨h1, h2⟩
          obtain ⟨x, hx⟩ : ∃ x, x = l[j] := ⟨_, rfl⟩
          rw [← hx] at q0 q1 q2
          have hdr : l.drop j = x :: l.drop (j + 1) := by rw [List.drop_eq_getElem_cons hlt, hx]
          have HN0 : Hid (nodeC (checkedF S D f) (belowF S D (f + 1)) stop (x :: l.drop (j + 1)) sum = checkedF S D (f + 1) l stop) := by have := HT.out.1; rw [hdr] at this; exact this
          have HX : Hid (x = l[j]) := hx
          have HI : Hid (Its p wr (.slice (some ⟨b, o, none⟩) l.length c) l ∧ StAt wr B S D ∧ Below w1.heap.size w1 wr ∧ wr.heap[w.heap.size]? = some (.cells #[.int .i64 F, .slice (some ⟨b, o, none⟩) l.length c] 79 (0, 0))) := ⟨hIr, H1.out.2.2.1.on hb1r, HT.out.2.1, hxr⟩
          have hb2 : Below wr.heap.size wr (wr.alloc (.cells #[.string x.key, .string x.val, .int .i64 x.kid] 83)) := (Below.refl _ _).alloc (Nat.le_refl _) _
          have z0' : (wr.alloc (.cells #[.string x.key, .string x.val, .int .i64 x.kid] 83)).cell? ⟨w.heap.size, 0, none⟩ = some (.int .i64 F) := cell_on hb2 z0
          have z1' : (wr.alloc (.cells #[.string x.key, .string x.val, .int .i64 x.kid] 83)).cell? ⟨w.heap.size, 1, none⟩ = some (.slice (some ⟨b, o, none⟩) l.length c) := cell_on hb2 z1
          clear hbo hdr hx HT hb1r hxr hIr
          go_wp2_with fail
          clear z0' z1'
          have hx2 := heap_alloc_last wr (.cells #[.string x.key, .string x.val, .int .i64 x.kid] 83)
          obtain ⟨w2, hw2⟩ : ∃ w2, w2 = wr.alloc (.cells #[.string x.key, .string x.val, .int .i64 x.kid] 83) := ⟨_, rfl⟩
          rw [← hw2] at hb2 hx2 ⊢
          have H2 : Hid (Below w1.heap.size w1 w2 ∧ StAt w2 B S D ∧ Its p w2 (.slice (some ⟨b, o, none⟩) l.length c) l ∧ w2.heap[w.heap.size]? = some (.cells #[.int .i64 F, .slice (some ⟨b, o, none⟩) l.length c] 79 (0, 0)) ∧ w2.heap[wr.heap.size]? = some (.cells #[.string x.key, .string x.val, .int .i64 x.kid] 83 (0, 0))) :=
            ⟨HI.out.2.2.1.trans (hb2.mono HI.out.2.2.1.size), HI.out.2.1.on hb2, HI.out.1.on hb2, (hb2.block _ (heap_lt HI.out.2.2.2)).trans HI.out.2.2.2, hx2⟩
          clear hw2 hb2 hx2 z0 z1 q0 q1 q2 HI
          rw [HF.out]
          refine (below_any p w2 B S D (f + 1) _ l j hlt ⟨by omega, by omega⟩ H2.out.2.1 H2.out.2.2.1).mono ?_
          rw [← HF.out, ← HX.out]
          rintro e w4 ⟨v4, rfl, hI4, hb4⟩
          obtain ⟨a5, c5, rfl, _, _⟩ := hI4.form
          have H4 : Hid (Below w1.heap.size w1 w4 ∧ StAt w4 B S D ∧ Its p w4 (.slice (some ⟨b, o, none⟩) l.length c) l ∧ w4.heap[w.heap.size]? = some (.cells #[.int .i64 F, .slice (some ⟨b, o, none⟩) l.length c] 79 (0, 0)) ∧ w4.heap[wr.heap.size]? = some (.cells #[.string x.key, .string x.val, .int .i64 x.kid] 83 (0, 0)) ∧ Its (fun _ => True) w4 (.slice a5 (ndOf (belowF S D (f + 1) x.kid)).items.length c5) (ndOf (belowF S D (f + 1) x.kid)).items) :=
            ⟨H2.out.1.trans (hb4.mono H2.out.1.size), H2.out.2.1.on hb4, H2.out.2.2.1.on hb4, (hb4.block _ (heap_lt H2.out.2.2.2.1)).trans H2.out.2.2.2.1, (hb4.block _ (heap_lt H2.out.2.2.2.2)).trans H2.out.2.2.2.2, hI4.mono (fun _ _ => trivial)⟩
          clear hI4 hb4 H2
          rcases ndOf_cases (belowF S D (f + 1) x.kid) (fun e he => belowF_ne he) with ⟨k, hk, hn, he⟩ | ⟨er, hk, hn, he, hz3⟩
          · have hok := (loadF_ok (belowF_ok hk).1).1
            have hlv : k.level = f := by have := (belowF_ok hk).2; omega
            have hN1 := HN0.out
            rw [nodeC, hk] at hN1
            have HOK0 : Hid (NdOk k ∧ k.level = f ∧ (if k.items.length < 4 ∨ (k.items[0]?.getD default).key ≠ x.key then ((201 : Int), 0) else if (checkedF S D f k.items (nextK stop (l.drop (j + 1)))).1 ≠ 0 then ((checkedF S D f k.items (nextK stop (l.drop (j + 1)))).1, 0) else nodeC (checkedF S D f) (belowF S D (f + 1)) stop (l.drop (j + 1)) (sum + (checkedF S D f k.items (nextK stop (l.drop (j + 1)))).2)) = checkedF S D (f + 1) l stop) := ⟨hok, hlv, hN1⟩
            have hk8 := hok.len
            have hkp : 0 < k.items.length := by omega
            rw [hn] at H4
            rw [hn, he, hlv]
            clear hN1 hok hlv hn he hk HN0
            obtain ⟨b5, o5, hbo5, _, r0, _, _⟩ := H4.out.2.2.2.2.2.at 0 (by omega)
            subst hbo5
            obtain ⟨kk, hkk⟩ : ∃ kk, kk = (k.items[0]'(by omega)).key := ⟨_, rfl⟩
            rw [← hkk] at r0
            have HKK : Hid ((k.items[0]?.getD default).key = kk) := by show _ = _; rw [List.getElem?_eq_getElem (by omega), hkk]; rfl
            simp only [Nat.zero_mul, Nat.add_zero] at r0
            obtain ⟨w5, hw5⟩ : ∃ w5, w5 = w4.alloc (.cells #[.int .i64 f, .slice (some ⟨b5, o5, none⟩) k.items.length c5] 79) := ⟨_, rfl⟩
            have hb5 : Below w4.heap.size w4 w5 := by rw [hw5]; exact (Below.refl _ _).alloc (Nat.le_refl _) _
            have hx5 : w5.heap[w4.heap.size]? = some (.cells #[.int .i64 f, .slice (some ⟨b5, o5, none⟩) k.items.length c5] 79 (0, 0)) := by rw [hw5]; exact heap_alloc_last _ _
            have H5 : Hid (Below w1.heap.size w1 w5 ∧ StAt w5 B S D ∧ Its (fun _ => True) w5 (.slice (some ⟨b5, o5, none⟩) k.items.length c5) k.items) := ⟨H4.out.1.trans (hb5.mono H4.out.1.size), H4.out.2.1.on hb5, H4.out.2.2.2.2.2.on hb5⟩
            have HIL : Hid (Its p w5 (.slice (some ⟨b, o, none⟩) l.length c) l) := H4.out.2.2.1.on hb5
            have hxb := (hb5.block _ (heap_lt H4.out.2.2.2.2.1)).trans H4.out.2.2.2.2.1
            have hxn := (hb5.block _ (heap_lt H4.out.2.2.2.1)).trans H4.out.2.2.2.1
            have s0 : w5.cell? ⟨wr.heap.size, 0, none⟩ = some (.string x.key) := cell_at hxb 0
            have n1 : w5.cell? ⟨w.heap.size, 1, none⟩ = some (.slice (some ⟨b, o, none⟩) l.length c) := cell_at hxn 1
            have k0 : w5.cell? ⟨w4.heap.size, 0, none⟩ = some (.int .i64 f) := cell_at hx5 0
            have k1 : w5.cell? ⟨w4.heap.size, 1, none⟩ = some (.slice (some ⟨b5, o5, none⟩) k.items.length c5) := cell_at hx5 1
            have r0' : w5.cell? ⟨b5, o5, none⟩ = some (.string kk) := cell_on hb5 r0
            have HW5 : Hid (w5 = w4.alloc (.cells #[.int .i64 f, .slice (some ⟨b5, o5, none⟩) k.items.length c5] 79)) := hw5
            clear r0 hb5 hx5 hxb hxn hkk
            by_cases h4 : k.items.length < 4
            · have HRR : Hid (checkedF S D (f + 1) l stop = (201, 0)) := by have := HOK0.out.2.2; rw [if_pos (.inl h4)] at this; exact this.symm
              have hd4 : decide ((k.items.length : Int) < 4) = true := by simp; omega
              have h4' : (k.items.length : Int) < 4 := by omega
              clear HOK0 h4
              go_wp2_with fail
              rw [← hw5]
              go_quiet (fail)
              go_wp2_with fail
              go_ret2
              exact ⟨by rw [HRR.out]; rfl, H1.out.1.trans ((H5.out.1.trans ((drewN_any _).mono H5.out.1.size)).mono H1.out.1.size)⟩
            · have hd4 : decide ((k.items.length : Int) < 4) = false := by simp; omega
              have h4' : ¬ (k.items.length : Int) < 4 := by omega
              by_cases hkx : kk = x.key
              · have HOK : Hid (NdOk k ∧ k.level = f ∧ (if (checkedF S D f k.items (nextK stop (l.drop (j + 1)))).1 ≠ 0 then ((checkedF S D f k.items (nextK stop (l.drop (j + 1)))).1, 0) else nodeC (checkedF S D f) (belowF S D (f + 1)) stop (l.drop (j + 1)) (sum + (checkedF S D f k.items (nextK stop (l.drop (j + 1)))).2)) = checkedF S D (f + 1) l stop) := by
                  have := HOK0.out
                  rw [HKK.out] at this
                  refine ⟨this.1, this.2.1, ?_⟩
                  have h9 := this.2.2
                  rw [if_neg (by rw [hkx]; simp; omega)] at h9
                  exact h9
                have hke : (!(kk.toList == x.key.toList)) = false := by rw [hkx]; simp
                have HKE : Hid ((!(kk.toList == x.key.toList)) = false) := hke
                clear HOK0 h4 hkx HKK hke
                go_wp2_with fail
                rw [← hw5]
                clear hw5
                go_quiet (fail)
                rw [HKE.out]
                clear hd4 h4'
                obtain ⟨w6, hw6⟩ : ∃ w6, w6 = w5.drewN nq := ⟨_, rfl⟩
                have H6 : Hid (Below w5.heap.size w5 w6) := by rw [hw6]; exact drewN_any _
                rw [← hw6]
                clear hw6 HW5
                have k0' := cell_on H6.out k0
                have k1' := cell_on H6.out k1
                have n1' := cell_on H6.out n1
                have HIL6 : Hid (Its p w6 (.slice (some ⟨b, o, none⟩) l.length c) l) := HIL.out.on H6.out
                clear k0 k1 n1 s0 r0' HIL
                by_cases hj1 : j + 1 < l.length
                · have hj1' : (j : Int) + 1 < (l.length : Int) := by omega
                  obtain ⟨last, hlast⟩ : ∃ last, last = (l[j + 1]'hj1).key := ⟨_, rfl⟩
                  have HLS : Hid (nextK stop (l.drop (j + 1)) = last) := by show _ = _; rw [List.drop_eq_getElem_cons hj1, hlast]; rfl
                  obtain ⟨bb, oo, hbo, _, q0, _, _⟩ := HIL6.out.at (j + 1) hj1
                  obtain ⟨rfl, rfl⟩ : b = bb ∧ o = oo := by injection hbo with h1; injection h1 with h1 h2; exact ⟨h1, h2⟩
                  rw [← hlast] at q0
                  have q0' : w6.cell? ⟨b, o + (j + 1) * 3, none⟩ = some (.string last) := q0
                  clear hbo hlast q0
                  have HIH : Hid (Calls Tryz.prog 45 #[.pointer (some ⟨B.s, 0, none⟩), .agg #[.int .i64 f, (.slice (some ⟨b5, o5, none⟩) k.items.length c5)], .string last] w6 (CheckIs w6 (checkedF S D f k.items last))) := ih w6 _ _ k.items last (by omega) (H5.out.2.1.on H6.out) (H5.out.2.2.on H6.out) HOK.out.1.len
                  obtain ⟨cr, hcr⟩ : ∃ cr, cr = checkedF S D f k.items last := ⟨_, rfl⟩
                  have HNX : Hid ((cr.1 ≠ 0 → checkedF S D (f + 1) l stop = (cr.1, 0)) ∧ (cr.1 = 0 → nodeC (checkedF S D f) (belowF S D (f + 1)) stop (l.drop (j + 1)) (sum + cr.2) = checkedF S D (f + 1) l stop)) := by
                    rw [hcr]
                    have h9 := HOK.out.2.2
                    rw [HLS.out] at h9
                    refine ⟨fun h => ?_, fun h => ?_⟩
                    · rw [if_pos h] at h9; exact h9.symm
                    · rw [if_neg (by rw [h]; decide)] at h9; exact h9
                  rw [← hcr] at HIH
                  clear hcr
                  go_wp2_with fail
                  refine Calls.mono HIH.out ?_
                  rintro e w7 ⟨rfl, hb7⟩
                  have H7 : Hid (Below w1.heap.size w1 w7) := H5.out.1.trans ((H6.out.trans (hb7.mono H6.out.size)).mono H5.out.1.size)
                  clear hb7 HIH
                  by_cases hcz : cr.1 = 0
                  · have hcz' : (cr.1 != 0) = false := by simp [hcz]
                    have HST := HNX.out.2 hcz
                    clear hcz HNX
                    go_wp2_with fail
                    go_roundw
                    case rel => exact ⟨j + 1, by omega, by go_num, sum + cr.2, congrArg (Value.int IntKind.i64) (wrap_sum64 sum cr.2), HST, H7.out, H1.out.1.trans (H7.out.mono H1.out.1.size)⟩
                    case measure => simp [intOf]; omega
                  · have hcz' : (cr.1 != 0) = true := by simpa using hcz
                    have HST := HNX.out.1 hcz
                    have HRR : Hid (checkedF S D (f + 1) l stop = (cr.1, 0)) := HST
                    clear hcz HNX HST
                    go_wp2_with fail
                    go_ret2
                    exact ⟨by rw [HRR.out]; rfl, H1.out.1.trans (H7.out.mono H1.out.1.size)⟩
                · have hj1' : ¬ (j : Int) + 1 < (l.length : Int) := by omega
                  have HLS : Hid (nextK stop (l.drop (j + 1)) = stop) := by show _ = _; rw [List.drop_of_length_le (by omega)]; rfl
                  have HIH : Hid (Calls Tryz.prog 45 #[.pointer (some ⟨B.s, 0, none⟩), .agg #[.int .i64 f, (.slice (some ⟨b5, o5, none⟩) k.items.length c5)], .string stop] w6 (CheckIs w6 (checkedF S D f k.items stop))) := ih w6 _ _ k.items stop (by omega) (H5.out.2.1.on H6.out) (H5.out.2.2.on H6.out) HOK.out.1.len
                  obtain ⟨cr, hcr⟩ : ∃ cr, cr = checkedF S D f k.items stop := ⟨_, rfl⟩
                  have HNX : Hid ((cr.1 ≠ 0 → checkedF S D (f + 1) l stop = (cr.1, 0)) ∧ (cr.1 = 0 → nodeC (checkedF S D f) (belowF S D (f + 1)) stop (l.drop (j + 1)) (sum + cr.2) = checkedF S D (f + 1) l stop)) := by
                    rw [hcr]
                    have h9 := HOK.out.2.2
                    rw [HLS.out] at h9
                    refine ⟨fun h => ?_, fun h => ?_⟩
                    · rw [if_pos h] at h9; exact h9.symm
                    · rw [if_neg (by rw [h]; decide)] at h9; exact h9
                  rw [← hcr] at HIH
                  clear hcr
                  go_wp2_with fail
                  refine Calls.mono HIH.out ?_
                  rintro e w7 ⟨rfl, hb7⟩
                  have H7 : Hid (Below w1.heap.size w1 w7) := H5.out.1.trans ((H6.out.trans (hb7.mono H6.out.size)).mono H5.out.1.size)
                  clear hb7 HIH
                  by_cases hcz : cr.1 = 0
                  · have hcz' : (cr.1 != 0) = false := by simp [hcz]
                    have HST := HNX.out.2 hcz
                    clear hcz HNX
                    go_wp2_with fail
                    go_roundw
                    case rel => exact ⟨j + 1, by omega, by go_num, sum + cr.2, congrArg (Value.int IntKind.i64) (wrap_sum64 sum cr.2), HST, H7.out, H1.out.1.trans (H7.out.mono H1.out.1.size)⟩
                    case measure => simp [intOf]; omega
                  · have hcz' : (cr.1 != 0) = true := by simpa using hcz
                    have HST := HNX.out.1 hcz
                    have HRR : Hid (checkedF S D (f + 1) l stop = (cr.1, 0)) := HST
                    clear hcz HNX HST
                    go_wp2_with fail
                    go_ret2
                    exact ⟨by rw [HRR.out]; rfl, H1.out.1.trans (H7.out.mono H1.out.1.size)⟩
              · have HRR : Hid (checkedF S D (f + 1) l stop = (201, 0)) := by have := HOK0.out.2.2; rw [HKK.out, if_pos (.inr hkx)] at this; exact this.symm
                have HKE : Hid ((!(kk.toList == x.key.toList)) = true) := by show _ = _; rw [Bool.not_eq_true', Bool.eq_false_iff]; exact fun h => hkx (key_eq.1 h)
                clear HOK0 h4 hkx HKK
                go_wp2_with fail
                rw [← hw5]
                clear hw5
                go_quiet (fail)
                rw [HKE.out]
                go_wp2_with fail
                go_ret2
                exact ⟨by rw [HRR.out]; rfl, H1.out.1.trans ((H5.out.1.trans ((drewN_any _).mono H5.out.1.size)).mono H1.out.1.size)⟩
          · have hN1 := HN0.out
            rw [nodeC, hk] at hN1
            have HRR : Hid (checkedF S D (f + 1) l stop = (er, 0)) := hN1.symm
            have hz3' : (er != 0) = true := by simpa using hz3
            rw [hn] at H4
            rw [hn, he]
            clear hN1 HN0 hn he hk hz3
            go_wp2_with fail
            go_ret2
            have hb5 : ∀ o, Below w4.heap.size w4 (w4.alloc o) := fun o => (Below.refl _ _).alloc (Nat.le_refl _) _
            exact ⟨by rw [HRR.out]; rfl, H1.out.1.trans ((H4.out.1.trans ((hb5 _).mono H4.out.1.size)).mono H1.out.1.size)⟩
        · have HE : Hid (checkedF S D (f + 1) l stop = (0, sum)) := by
            have := HT.out.1
            rw [List.drop_of_length_le (by omega)] at this
            exact this.symm
          have hlt' : ¬ (j : Int) < (l.length : Int) := by omega
          go_wp2_with fail
          go_ret2
          exact ⟨by rw [HE.out]; rfl, HT.out.2.2⟩
set_option maxHeartbeats 4000000 in
theorem treeCheck_any (w : World) (B : Blk) (S : StS) (D : DevS) (root : Int) (h : StAt w B S D) :
    Calls Tryz.prog 23 #[.pointer (some ⟨B.s, 0, none⟩), .int .i64 root] w (CheckIs w (CheckF S D root)) := by
  have H : Hid (StAt w B S D) := h
  clear h
  by_cases h0 : root = 0
  · have HR : Hid (CheckF S D root = (0, 0)) := by show CheckF S D root = _; unfold CheckF; exact if_pos h0
    have h0' : (root == 0) = true := by simpa using h0
    clear h0
    go_enter Tryz.func23, Tryz.ntmps23
    go_wp2_with fail
    go_ret2
    exact ⟨by rw [HR.out]; rfl, Below.refl _ _⟩
  · have HR : Hid ((∀ e, loadF S D root = .error e → CheckF S D root = (e, 0)) ∧ ∀ n, loadF S D root = .ok n → CheckF S D root = if 0 < n.level ∧ n.items.length < 2 then (201, 0) else checkedF S D n.level n.items nil8) := by
      constructor
      · intro e he; unfold CheckF; rw [if_neg h0, he]
      · intro n hn; unfold CheckF; rw [if_neg h0, hn]
    have h0' : (root == 0) = false := by simpa using h0
    clear h0
    go_enter Tryz.func23, Tryz.ntmps23
    go_wp2_with fail
    refine (load_any w B S D root H.out).mono ?_
    rintro e w2 ⟨v2, rfl, hI2, hb2⟩
    obtain ⟨a2, c2, rfl, _, _⟩ := hI2.form
    rcases ndOf_cases (loadF S D root) (fun e he => loadF_ne he) with ⟨n, hl, hn, he⟩ | ⟨er, hl, hn, he, hz⟩
    · have hok := (loadF_ok hl).1
      have HRN : Hid (CheckF S D root = if 0 < n.level ∧ n.items.length < 2 then (201, 0) else checkedF S D n.level n.items nil8) := HR.out.2 n hl
      have hlen := hok.len
      have hlv := hok.level
      rw [hn] at hI2
      have H2 : Hid (Below w.heap.size w w2 ∧ StAt w2 B S D ∧ Its (fun _ => True) w2 (.slice a2 n.items.length c2) n.items) := ⟨hb2, H.out.on hb2, hI2.mono (fun _ _ => trivial)⟩
      rw [hn, he]
      clear HR hl hn he hok hI2 hb2
      obtain ⟨w3, hw3⟩ : ∃ w3, w3 = w2.alloc (.cells #[.int .i64 n.level, .slice a2 n.items.length c2] 79) := ⟨_, rfl⟩
      have hb3 : Below w2.heap.size w2 w3 := by rw [hw3]; exact (Below.refl _ _).alloc (Nat.le_refl _) _
      have H3 : Hid (Below w.heap.size w w3 ∧ StAt w3 B S D ∧ Its (fun _ => True) w3 (.slice a2 n.items.length c2) n.items) := ⟨H2.out.1.trans (hb3.mono H2.out.1.size), H2.out.2.1.on hb3, H2.out.2.2.on hb3⟩
      clear hb3
      by_cases hbad : 0 < n.level ∧ n.items.length < 2
      · have HRR : Hid (CheckF S D root = (201, 0)) := by have := HRN.out; rw [if_pos hbad] at this; exact this
        have g1 : (0 : Int) < (n.level : Int) := by omega
        have g2 : (n.items.length : Int) < 2 := by omega
        clear HRN hbad
        go_wp2_with fail
        go_ret2
        exact ⟨by rw [HRR.out]; rfl, by rw [← hw3]; exact H3.out.1⟩
      · have HRR : Hid (CheckF S D root = checkedF S D n.level n.items nil8) := by have := HRN.out; rw [if_neg hbad] at this; exact this
        have hcases : n.level = 0 ∨ (0 < n.level ∧ ¬ n.items.length < 2) := by omega
        clear HRN hbad
        rcases hcases with h0l | ⟨h0l, h2l⟩
        · have g1 : ¬ (0 : Int) < (n.level : Int) := by omega
          clear h0l
          go_wp2_with fail
          rw [← hw3]
          refine (checked_any B S D n.level w3 _ _ n.items nil8 hlv H3.out.2.1 H3.out.2.2 hlen).mono ?_
          rw [← HRR.out]
          rintro e w4 ⟨rfl, hb4⟩
          have HB4 : Hid (Below w.heap.size w w4) := H3.out.1.trans (hb4.mono H3.out.1.size)
          clear hb4
          go_wp2_with fail
          go_ret2
          exact ⟨by show _ = Ending.returned (.tuple #[.int .i64 (IntKind.i64.wrap ((CheckF S D root).2 : Nat)), .int .i64 (CheckF S D root).1]); rw [wrap_eq]; rfl, HB4.out⟩
        · have g1 : (0 : Int) < (n.level : Int) := by omega
          have g2 : ¬ (n.items.length : Int) < 2 := by omega
          clear h0l h2l
          go_wp2_with fail
          rw [← hw3]
          refine (checked_any B S D n.level w3 _ _ n.items nil8 hlv H3.out.2.1 H3.out.2.2 hlen).mono ?_
          rw [← HRR.out]
          rintro e w4 ⟨rfl, hb4⟩
          have HB4 : Hid (Below w.heap.size w w4) := H3.out.1.trans (hb4.mono H3.out.1.size)
          clear hb4
          go_wp2_with fail
          go_ret2
          exact ⟨by show _ = Ending.returned (.tuple #[.int .i64 (IntKind.i64.wrap ((CheckF S D root).2 : Nat)), .int .i64 (CheckF S D root).1]); rw [wrap_eq]; rfl, HB4.out⟩
    · have HRR : Hid (CheckF S D root = (er, 0)) := HR.out.1 er hl
      have hz' : (er != 0) = true := by simpa using hz
      have HB2 : Hid (Below w.heap.size w w2) := hb2
      rw [hn, he]
      clear HR hl hn he hz hI2 hb2
      go_wp2_with fail
      go_ret2
      have hb3 : ∀ o, Below w2.heap.size w2 (w2.alloc o) := fun o => (Below.refl _ _).alloc (Nat.le_refl _) _
      exact ⟨by rw [HRR.out]; rfl, HB2.out.trans ((hb3 _).mono HB2.out.size)⟩
end Go.Proofs.YtadmecjdihfmeaaGreat.Tre

/- Layer 7: rows of entries in memory. -/
namespace Go.Proofs.YtadmecjdihfmeaaGreat.Tre
set_option linter.unusedVariables false
set_option linter.unusedSimpArgs false
set_option maxRecDepth 100000
open Go.RowKit Go.Lib Go.Proofs.YtadmecjdihfmeaaGreat.Mem Go.Proofs.YtadmecjdihfmeaaGreat.Oct Go.Proofs.YtadmecjdihfmeaaGreat.Dev Go.Proofs.YtadmecjdihfmeaaGreat.Sto

abbrev enL (x : En) : List Value := [.string x.1, .string x.2]
/-- entries of a call's own -/
def OwnE (base : Nat) (w : World) (v : Value) (l : List En) : Prop := w.ownsRow base 41 2 v l.length (l.flatMap enL)
theorem OwnE.nil (base : Nat) (w : World) : OwnE base w (.slice none 0 0) [] := ⟨rfl, .inl ⟨rfl, rfl⟩⟩
theorem OwnE.form {base : Nat} {w : World} {v : Value} {l : List En} (h : OwnE base w v l) : ∃ a c, v = .slice a l.length c := by
  rcases h.2 with ⟨rfl, h0⟩ | ⟨g, cap, cur, rfl, _⟩
  · exact ⟨none, 0, by rw [h0]⟩
  · exact ⟨_, _, rfl⟩
theorem OwnE.mono {base base' : Nat} {w : World} {v : Value} {l : List En} (h : OwnE base w v l) (hb : base' ≤ base) : OwnE base' w v l := own_base h hb
theorem OwnE.chg {base : Nat} {w w' : World} {v : Value} {l : List En} {T : List Nat} (h : OwnE base w v l) (hc : Chg T w w') (hT : ∀ t ∈ T, v.ownBlock ≠ some t) : OwnE base w' v l := own_chg h hc hT
theorem OwnE.on {base : Nat} {w w' : World} {v : Value} {l : List En} (h : OwnE base w v l) (hb : Below w.heap.size w w') : OwnE base w' v l := h.chg (Chg.of_below hb : Chg [] w w') (by simp)
theorem info_ent : (Tryz.prog.info? 41).map (fun i => (i.zero, i.size, i.bytes)) = some (some (.agg #[.string ⟨#[]⟩, .string ⟨#[]⟩]), 2, 32) := by kernel_rfl
theorem ent_len (l : List En) : (l.flatMap enL).length = l.length * 2 := by
  induction l with
  | nil => rfl
  | cons x l ih => rw [List.flatMap_cons, List.length_append, ih, List.length_cons]; simp; omega
theorem ent_at (l : List En) (j q : Nat) (hj : j < l.length) (hq : q < 2) : (l.flatMap enL)[j * 2 + q]? = (enL l[j])[q]? := by
  induction l generalizing j with
  | nil => simp at hj
  | cons x l ih =>
    rw [List.flatMap_cons]
    match j with
    | 0 =>
      rw [List.getElem?_append_left (by simp; omega)]
      simp
    | j + 1 =>
      rw [List.getElem?_append_right (by simp; omega)]
      have := ih j (by simpa using hj)
      simp only [List.getElem_cons_succ]
      rw [← this]
      congr 1
      simp; omega
/-- 'append(out, e)', out the call's own -/
theorem wpList_append_ent {w : World} {ops : Array Oper} {rest : List Oper} {o : Oper} {a : Act} {Q : Exit → Act → World → Prop} (hgd : o.guard = none) (s x : Operand)
    (ho : o.op = .call { callee := .builtin .append, args := #[s, x], argTypes := #[27, 27] }) (base : Nat) (hbase : base ≤ w.heap.size)
    (v : Value) (l : List En) (hs : a.eval s = v) (hown : OwnE base w v l) (b : Nat) (y : En) (hx : a.eval x = .slice (some ⟨b, 0, none⟩) 1 1) (h0 : w.cell? ⟨b, 0, none⟩ = some (.string y.1)) (h1 : w.cell? ⟨b, 1, none⟩ = some (.string y.2)) (hl : l.length ≤ 1048576)
    (h : ∀ v' w', OwnE base w' v' (l ++ [y]) → w.grownBy w' v.ownBlock → (v'.ownBlock = v.ownBlock ∨ v'.ownBlock = some w.heap.size) → wpList Tryz.prog ops Q rest (a.put o.dst v') w') : wpList Tryz.prog ops Q (o :: rest) a w := by
  obtain ⟨i0, hi0, hz0, hz1, hz2⟩ := info_parts info_ent
  refine wpList_append_own_at _ hgd s x 27 ho base 41 i0 (.agg #[.string ⟨#[]⟩, .string ⟨#[]⟩]) 2 32 Tryz.underlying27 hi0 hz0 hz1 hz2 rfl (by decide) v _ _ hs hown ⟨b, 0, none⟩ 1 1 (enL y) hx rfl (fun j u hj => ?_) (fun u hu => ?_) (by unfold maxLen; omega) (by omega) hbase (fun v' w' g1 g2 _ g3 => h v' w' ?_ g2 g3)
  · match j with
    | 0 => simp at hj; rw [← hj]; exact h0
    | 1 => simp at hj; rw [← hj]; exact h1
    | j + 2 => simp at hj
  · simp at hu
    rcases hu with rfl | rfl <;> rfl
  · unfold OwnE
    simpa using g1
/-- 'append(out, e)' in a region that draws its order -/
theorem step_append_ent {ops : Array Oper} {o : Oper} {a : Act} {w : World} {K : Act → World → Prop} {Q : Exit → Act → World → Prop} {E : Prop} (hgd : o.guard = none) (s x : Operand)
    (ho : o.op = .call { callee := .builtin .append, args := #[s, x], argTypes := #[27, 27] }) (base : Nat) (hbase : base ≤ w.heap.size)
    (v : Value) (l : List En) (hs : a.eval s = v) (hown : OwnE base w v l) (b : Nat) (y : En) (hx : a.eval x = .slice (some ⟨b, 0, none⟩) 1 1) (h0 : w.cell? ⟨b, 0, none⟩ = some (.string y.1)) (h1 : w.cell? ⟨b, 1, none⟩ = some (.string y.2)) (hl : l.length ≤ 1048576)
    (h : ∀ v' w', OwnE base w' v' (l ++ [y]) → w.grownBy w' v.ownBlock → (v'.ownBlock = v.ownBlock ∨ v'.ownBlock = some w.heap.size) → K (a.put o.dst v') w') : if Region.wanted o (yielded ops a.tmps) = true then Oper.wp Tryz.prog o a w K Q else E := by
  have hw : Region.wanted o (yielded ops a.tmps) = true := by simp [Region.wanted, hgd]
  rw [if_pos hw]
  obtain ⟨i0, hi0, hz0, hz1, hz2⟩ := info_parts info_ent
  obtain ⟨v', w', hr, g1, g2, _, g3⟩ := run_append_own_at (P := Tryz.prog) w base 27 o.type 41 i0 (.agg #[.string ⟨#[]⟩, .string ⟨#[]⟩]) 2 32 Tryz.underlying27 hi0 hz0 hz1 hz2 rfl (by decide) v _ _ hown ⟨b, 0, none⟩ 1 1 (enL y) rfl (fun j u hj => by
    match j with
    | 0 => simp at hj; rw [← hj]; exact h0
    | 1 => simp at hj; rw [← hj]; exact h1
    | j + 2 => simp at hj) (fun u hu => by
    simp at hu
    rcases hu with rfl | rfl <;> rfl) (by unfold maxLen; omega) (by omega) hbase
  unfold Oper.wp execOp
  simp only [ho, resolve, invoke, builtin, Sem.run_bind, Sem.run_pure, Result.andThen_ok, List.map_toArray, List.map_cons, List.map_nil, hs, hx, hr]
  refine h v' w' ?_ g2 g3
  unfold OwnE
  simpa using g1
/-- entries that nobody turns any more -/
def EnR (w : World) (cs : List Value) (x : En) : Prop := cs = enL x
def Ents (p : Nat → Prop) (w : World) (v : Value) (l : List En) : Prop := SliceOf 2 EnR p w v l
theorem Ents.chg {p : Nat → Prop} {T : List Nat} {w w' : World} {v : Value} {l : List En} (h : Ents p w v l) (ht : Chg T w w') (hd : ∀ k, p k → k ∉ T) : Ents p w' v l := by
  rcases h with h | ⟨b, o, c, e, hp, hm, hc⟩
  · exact .inl h
  · refine .inr ⟨b, o, c, e, hp, hm, fun j hj => ?_⟩
    obtain ⟨cs, h1, h2, h3⟩ := hc j hj
    refine ⟨cs, h1, fun q hq => ?_, h3⟩
    have h4 := h2 q hq
    rw [List.getElem?_eq_getElem (by omega)] at h4 ⊢
    exact ht.cell (hd b hp) h4
theorem Ents.on {p : Nat → Prop} {w w' : World} {v : Value} {l : List En} (h : Ents p w v l) (hb : Below w.heap.size w w') : Ents p w' v l := h.chg (T := []) (Chg.of_below hb) (by simp)
theorem Ents.mono {p q : Nat → Prop} {w : World} {v : Value} {l : List En} (h : Ents p w v l) (hq : ∀ k, p k → q k) : Ents q w v l := by
  rcases h with h | ⟨b, o, c, e, hp, hm, hc⟩
  · exact .inl h
  · exact .inr ⟨b, o, c, e, hq b hp, hm, hc⟩
theorem Ents.form {p : Nat → Prop} {w : World} {v : Value} {l : List En} (h : Ents p w v l) : ∃ a c, v = .slice a l.length c ∧ l.length ≤ 9223372036854775807 := by
  rcases h with ⟨rfl, a, c, e⟩ | ⟨b, o, c, e, hp, hm, hc⟩
  · exact ⟨a, c, e, by simp⟩
  · exact ⟨_, _, e, hm⟩
theorem Ents.at {p : Nat → Prop} {w : World} {a : Option Addr} {n c : Nat} {l : List En} (h : Ents p w (.slice a n c) l) (j : Nat) (hj : j < l.length) : ∃ b o, a = some ⟨b, o, none⟩ ∧ p b ∧ w.cell? ⟨b, o + j * 2, none⟩ = some (.string l[j].1) ∧ w.cell? ⟨b, o + j * 2 + 1, none⟩ = some (.string l[j].2) := by
  rcases h with ⟨rfl, a, c, e⟩ | ⟨b, o, c', e, hp, hm, hc⟩
  · simp at hj
  · injection e with e1 e2 e3
    subst e1
    obtain ⟨cs, h1, h2, h3⟩ := hc j hj
    unfold EnR at h3
    subst h3
    exact ⟨b, o, rfl, hp, by simpa using h2 0 (by omega), by simpa [Nat.add_assoc] using h2 1 (by omega)⟩
theorem OwnE.ents {base : Nat} {w : World} {v : Value} {l : List En} (h : OwnE base w v l) (hl : l.length ≤ 9223372036854775807) : Ents (fun q => base ≤ q ∧ q < w.heap.size) w v l := by
  rcases h.2 with ⟨rfl, h0⟩ | ⟨g, cap, cur, rfl, hg, hb, hr⟩
  · exact .inl ⟨List.length_eq_zero_iff.1 h0, none, 0, rfl⟩
  · refine .inr ⟨g, 0, cap, rfl, ⟨hg, heap_lt hb⟩, hl, fun j hj => ⟨enL l[j], rfl, fun q hq => ?_, rfl⟩⟩
    have hf := ent_at l j q hj hq
    rw [List.getElem?_eq_getElem (by rw [ent_len]; omega)] at hf
    rw [← hf]
    have := World.ownsRow.cells h rfl (j * 2 + q) _ (List.getElem?_eq_getElem (by rw [ent_len]; omega))
    rw [add_at] at this
    exact this
end Go.Proofs.YtadmecjdihfmeaaGreat.Tre

