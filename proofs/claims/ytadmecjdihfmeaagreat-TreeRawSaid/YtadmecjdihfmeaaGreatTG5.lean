/- TreConcat TreLaid: several texts of one proof, laid as one file (a claim has at most 60 files). No condition. -/
import Derived.Test.YtadmecjdihfmeaaGreatTG4
import Derived.Lib.AppendZeros
import Derived.Lib.SliceRun
import Derived.Lib.Walk
import Derived.Deep.DeepCutAuto
/- Layer 7: slices.Grow and slices.Concat of items; swap. -/
namespace Go.Proofs.YtadmecjdihfmeaaGreat.Tre
set_option linter.unusedVariables false
set_option linter.unusedSimpArgs false
set_option maxRecDepth 100000
open Go.RowKit Go.Lib Go.Proofs.YtadmecjdihfmeaaGreat.Mem Go.Proofs.YtadmecjdihfmeaaGreat.Oct Go.Proofs.YtadmecjdihfmeaaGreat.Dev Go.Proofs.YtadmecjdihfmeaaGreat.Sto

/-- a row of items of a call's own, handed back -/
def OwnIs (w : World) (l : List It) (e : Ending) (w' : World) : Prop := ∃ v, e = .returned v ∧ OwnT w.heap.size w' v l ∧ Below w.heap.size w w'
set_option maxHeartbeats 4000000 in
theorem grow_any (w : World) (n : Nat) (hn : n ≤ 1048576) : Calls Tryz.prog 104 #[.slice none 0 0, .int .i64 n] w (OwnIs w []) := by
  obtain ⟨i0, hi0, hz0, hz1, hz2⟩ := info_parts info_item
  rcases Nat.eq_zero_or_pos n with h0 | h0
  · subst h0
    have HO : Hid (OwnT w.heap.size w (.slice none 0 0) []) := OwnT.nil _ _
    go_enter Tryz.func104, Tryz.ntmps104
    go_wp2
    go_ret
    exact ⟨_, rfl, HO.out, Below.refl _ _⟩
  · obtain ⟨G, hG⟩ : ∃ G, G = grownCap w n 0 83 := ⟨_, rfl⟩
    obtain ⟨cs, hcs⟩ : ∃ cs, cs = Builtin.zeroCells (Value.agg #[.string ⟨#[]⟩, .string ⟨#[]⟩, .int .i64 0]).cells n ++ Builtin.zeroCells (Value.agg #[.string ⟨#[]⟩, .string ⟨#[]⟩, .int .i64 0]).cells (grownCap w n 0 83 - n) := ⟨_, rfl⟩
    have hrun : ∀ ty, (Builtin.append_ #[77, 3] ty #[.slice none 0 0, .int .i64 n]).run Tryz.prog w = .ok (.slice (some ⟨w.heap.size, 0, none⟩) n G) (w.drew.alloc (.cells cs 83)) := fun ty => by
      rw [hG, hcs]
      exact run_append_nil_zeros w 77 3 ty 83 i0 _ .i64 .i64 Tryz.underlying77 Tryz.underlying3 hi0 hz0 n h0 (by rw [hz1]; decide) (by omega) (by rw [hz2]; omega)
    have hGn : n ≤ G := by rw [hG]; exact grownCap_ge w _ _ _
    have hGm : G ≤ 9223372036854775807 := by
      have := grownCap_le_maxLen w n 0 83 (by unfold maxLen; omega)
      rw [← hG] at this
      unfold maxLen at this
      omega
    have hsz : cs.size = G * 3 := by
      rw [hcs, ← hG, Array.size_append, size_zeroCells, size_zeroCells]
      show n * 3 + (G - n) * 3 = _
      omega
    have HO : Hid (OwnT w.heap.size (w.drew.alloc (.cells cs 83)) (.slice (some ⟨w.heap.size, 0, none⟩) 0 G) []) := World.ownsRow_made w.drew cs G (Nat.le_refl _) (by unfold maxLen; omega) hsz
    clear hG hcs hsz hi0 hz0 hz1 hz2
    go_enter Tryz.func104, Tryz.ntmps104
    go_wp2_with (at_builtin; refine Lib.wpList_append_run _ rfl _ _ _ _ rfl _ _ rfl rfl _ _ (hrun _) ?_)
    go_ret
    exact ⟨_, rfl, HO.out, ((Below.refl _ _).drew).alloc (Nat.le_refl _) _⟩
/-- rows of items in a row -/
def Rws (w : World) (v : Value) (ls : List (List It)) : Prop := ∃ b o c, v = .slice (some ⟨b, o, none⟩) ls.length c ∧ ∀ j (h : j < ls.length), ∃ vj, w.cell? ⟨b, o + j, none⟩ = some vj ∧ Its (fun _ => True) w vj ls[j]
theorem Rws.on {w w' : World} {v : Value} {ls : List (List It)} (h : Rws w v ls) (hb : Below w.heap.size w w') : Rws w' v ls := by
  obtain ⟨b, o, c, rfl, hc⟩ := h
  refine ⟨b, o, c, rfl, fun j hj => ?_⟩
  obtain ⟨vj, h1, h2⟩ := hc j hj
  exact ⟨vj, cell_on hb h1, h2.on hb⟩
theorem sum_take (ls : List (List It)) (j : Nat) (hj : j < ls.length) : (ls.take (j + 1)).flatten = (ls.take j).flatten ++ ls[j] := by
  rw [List.take_succ_eq_append_getElem hj, List.flatten_append]
  simp
theorem take_le (ls : List (List It)) (j : Nat) : (ls.take j).flatten.length ≤ ls.flatten.length := by
  have : ls.flatten = (ls.take j).flatten ++ (ls.drop j).flatten := by rw [← List.flatten_append, List.take_append_drop]
  rw [this, List.length_append]
  omega
set_option maxHeartbeats 8000000 in
theorem concat_any (w : World) (v : Value) (ls : List (List It)) (h : Rws w v ls) (hl : ls.length ≤ 1024) (hs : ls.flatten.length ≤ 4096) :
    Calls Tryz.prog 97 #[v] w (OwnIs w ls.flatten) := by
  have H : Hid (Rws w v ls) := h
  obtain ⟨b, o, c, rfl, _⟩ := h
  obtain ⟨n, hn⟩ : ∃ n, n = ls.length := ⟨_, rfl⟩
  rw [← hn] at H hl ⊢
  have HN : Hid (n = ls.length ∧ ls.flatten.length ≤ 4096) := ⟨hn, hs⟩
  clear hn hs
  go_enter Tryz.func97, Tryz.ntmps97
  go_wp2_with fail
  go_loopw [3, 11] (fun v3 v11 wr => wr = w ∧ ∃ j : Nat, j ≤ n ∧ v11 = .int .i64 j ∧ v3 = .int .i64 ((ls.take j).flatten.length : Nat)) (fun _ v11 _ => n - (intOf v11).toNat)
  case atStart => exact ⟨rfl, 0, by omega, rfl, by simp⟩
  case round =>
    obtain ⟨hww, j, hj, rfl, rfl⟩ := hrel
    have hww2 := hww.symm
    clear hww
    subst hww2
    by_cases hlt : j < n
    · have hjl : j < ls.length := by have := HN.out.1; omega
      obtain ⟨b', o', c', e', hc⟩ := H.out
      injection e' with e1 e2 e3
      injection e1 with e1
      obtain ⟨rfl, rfl⟩ : b = b' ∧ o = o' := by injection e1 with e1 e2; exact ⟨e1, e2⟩
      obtain ⟨vj, h1, h2⟩ := hc j hjl
      obtain ⟨aj, cj, rfl, hf1, hf2⟩ := h2.form
      clear hf1 hf2
      have hst := sum_take ls j hjl
      have hle1 := take_le ls j
      have hle2 := take_le ls (j + 1)
      have hsum := HN.out.2
      obtain ⟨p, hp⟩ : ∃ p, p = (ls.take j).flatten.length := ⟨_, rfl⟩
      obtain ⟨q, hq⟩ : ∃ q, q = ls[j].length := ⟨_, rfl⟩
      have hpq : (ls.take (j + 1)).flatten.length = p + q := by rw [hst, List.length_append, ← hp, ← hq]
      rw [← hp]
      rw [← hq] at h1
      rw [hpq] at hle2
      have hpqb : p + q ≤ 4096 := by omega
      have HPQ : Hid ((ls.take (j + 1)).flatten.length = p + q) := hpq
      have hlt' : (j : Int) < (n : Int) := by omega
      have hneg : ¬ ((p : Int) + (q : Int) < 0) := by omega
      clear hst hle1 hle2 hsum hp hq hpq e2 e3 hc h2 hjl
      go_wp2_with fail
      go_roundw
      case rel => exact ⟨trivial, j + 1, by omega, by go_num, by rw [HPQ.out]; go_num⟩
      case measure => simp [intOf]; omega
    · obtain rfl : j = n := by omega
      have htl : ls.take j = ls := by rw [List.take_of_length_le (by have := HN.out.1; omega)]
      rw [htl]
      have hsum := HN.out.2
      obtain ⟨m, hm⟩ : ∃ m, m = ls.flatten.length := ⟨_, rfl⟩
      have HM : Hid (m = ls.flatten.length) := hm
      rw [← hm] at hsum ⊢
      clear hm htl
      go_wp2_with fail
      refine (grow_any w m (by omega)).mono ?_
      rintro e w2 ⟨v2, rfl, hown, hb2⟩
      have H2 : Hid (OwnT w.heap.size w2 v2 [] ∧ Below w.heap.size w w2) := ⟨hown, hb2⟩
      clear hown hb2
      go_wp2_with fail
      go_loopw [6, 27] (fun v6 v27 wr => ∃ i : Nat, i ≤ j ∧ v27 = .int .i64 i ∧ Hid (Below w.heap.size w wr ∧ OwnT w.heap.size wr v6 (ls.take i).flatten)) (fun _ v27 _ => j - (intOf v27).toNat)
      case atStart => exact ⟨0, by omega, rfl, H2.out.2, by simpa using H2.out.1⟩
      case round =>
        obtain ⟨i, hi, rfl, HT⟩ := hrel
        by_cases hlt2 : i < j
        · have hil : i < ls.length := by have := HN.out.1; omega
          obtain ⟨b', o', c', e', hc⟩ := H.out.on HT.out.1
          injection e' with e1 e2 e3
          injection e1 with e1
          obtain ⟨rfl, rfl⟩ : b = b' ∧ o = o' := by injection e1 with e1 e2; exact ⟨e1, e2⟩
          obtain ⟨vi, h1, h2⟩ := hc i hil
          have hst := sum_take ls i hil
          have hle2 := take_le ls (i + 1)
          obtain ⟨li, hli⟩ : ∃ li, li = ls[i] := ⟨_, rfl⟩
          rw [← hli] at hst h2
          have hle3 := HN.out.2
          have HPQ : Hid ((ls.take (i + 1)).flatten = (ls.take i).flatten ++ li ∧ (ls.take i).flatten.length + li.length ≤ 4096) := ⟨hst, by rw [hst, List.length_append] at hle2; omega⟩
          have HI : Hid (Its (fun _ => True) wr vi li) := h2
          have hlt2' : (i : Int) < (j : Int) := by omega
          clear hst hle2 hle3 e2 e3 hc h2 hil hli
          go_wp2_with (at_builtin; refine wpList_append_its (p := fun _ => True) rfl _ _ rfl w.heap.size HT.out.1.size _ _ rfl HT.out.2 _ _ rfl HI.out (by have := HPQ.out.2; omega) ?_; intro v7 w3 hown hg; have HG : Hid (OwnT w.heap.size w3 v7 ((ls.take i).flatten ++ li) ∧ wr.grownBy w3 u6.ownBlock) := ⟨hown, hg⟩; clear hown hg)
          go_roundw
          case rel =>
            refine ⟨i + 1, by omega, by go_num, ?_, by rw [HPQ.out.1]; exact HG.out.1⟩
            refine HT.out.1.trans ((grown_chg HG.out.2).below HT.out.1.size (fun q hq => ?_))
            have := World.ownsRow.lt HT.out.2 q (by simpa using hq)
            exact this.1
          case measure => simp [intOf]; omega
        · obtain rfl : i = j := by omega
          have HTL : Hid (ls.take i = ls) := by show ls.take i = ls; rw [List.take_of_length_le (by have := HN.out.1; omega)]
          go_wp2_with fail
          go_ret
          exact ⟨_, rfl, by have := HT.out.2; rw [HTL.out] at this; exact this, HT.out.1⟩
/-- a row's end -/
theorem Its.drop {p : Nat → Prop} {w : World} {ad : Addr} {c : Nat} {l : List It} (h : Its p w (.slice (some ad) l.length c) l) (j : Nat) (hj : j ≤ l.length) : Its p w (.slice (if c = j then some ad else some (ad.add (j * 3))) (l.length - j) (c - j)) (l.drop j) := by
  have hcap := h.cap
  have hlen : (l.drop j).length = l.length - j := List.length_drop
  refine ⟨?_, fun a' n c' e => by injection e with e0 e1 e2; exact ⟨by omega, fun h0 => by rw [h0] at e0; split at e0 <;> cases e0⟩⟩
  by_cases hjl : j < l.length
  · rw [if_neg (by omega)]
    rcases h.1 with ⟨rfl, a', c', e⟩ | ⟨b, o, c', e, hp, hm, hc⟩
    · simp at hjl
    · injection e with e0 e1 e2
      injection e0 with e0
      subst e0 e2
      refine .inr ⟨b, o + j * 3, c - j, by rw [hlen]; simp [Addr.add], hp, by rw [hlen]; omega, fun k hk => ?_⟩
      rw [hlen] at hk
      obtain ⟨cs, h1, h2, h3⟩ := hc (j + k) (by omega)
      refine ⟨cs, h1, fun q hq => ?_, by rw [List.getElem_drop]; exact h3⟩
      rw [show o + j * 3 + (k * 3 + q) = o + ((j + k) * 3 + q) by omega]
      exact h2 q hq
  · left
    exact ⟨List.length_eq_zero_iff.1 (by rw [hlen]; omega), (if c = j then some ad else some (ad.add (j * 3))), c - j, by rw [show l.length - j = 0 by omega]⟩
/-- a row's beginning -/
theorem Its.take {p : Nat → Prop} {w : World} {a : Option Addr} {c : Nat} {l : List It} (h : Its p w (.slice a l.length c) l) (i : Nat) (hi : i ≤ l.length) : Its p w (.slice a i c) (l.take i) := by
  have hcap := h.cap
  have hlen : (l.take i).length = i := by rw [List.length_take]; omega
  refine ⟨?_, fun a' n c' e => by injection e with e0 e1 e2; exact ⟨by omega, fun h0 => by have := (h.2 a _ c rfl).2; rw [e0, h0] at this; rw [← e2]; exact this rfl⟩⟩
  rcases h.1 with ⟨rfl, a', c', e⟩ | ⟨b, o, c', e, hp, hm, hc⟩
  · left
    refine ⟨by simp, a, c, ?_⟩
    simp at hi
    subst hi
    rfl
  · injection e with e0 e1 e2
    subst e0 e2
    refine .inr ⟨b, o, c, by rw [hlen], hp, by rw [hlen]; omega, fun j hj => ?_⟩
    rw [hlen] at hj
    obtain ⟨cs, h1, h2, h3⟩ := hc j (by omega)
    exact ⟨cs, h1, h2, by rw [List.getElem_take]; exact h3⟩
theorem rws3 {p1 p2 p3 : Nat → Prop} {w : World} {v1 v2 v3 : Value} {l1 l2 l3 : List It} (h1 : Its p1 w v1 l1) (h2 : Its p2 w v2 l2) (h3 : Its p3 w v3 l3) (t : TypeId) : Rws (w.alloc (.cells #[v1, v2, v3] t)).drew (.slice (some ⟨w.heap.size, 0, none⟩) 3 3) [l1, l2, l3] := by
  have hb : Below w.heap.size w (w.alloc (.cells #[v1, v2, v3] t)).drew := ((Below.refl _ _).alloc (Nat.le_refl _) _).drew
  have hx : (w.alloc (.cells #[v1, v2, v3] t)).drew.heap[w.heap.size]? = some (.cells #[v1, v2, v3] t (0, 0)) := heap_alloc_last _ _
  refine ⟨_, 0, 3, rfl, fun j hj => ?_⟩
  match j, hj with
  | 0, _ => exact ⟨v1, cell_at hx 0, (h1.on hb).mono (fun _ _ => trivial)⟩
  | 1, _ => exact ⟨v2, cell_at hx 1, (h2.on hb).mono (fun _ _ => trivial)⟩
  | 2, _ => exact ⟨v3, cell_at hx 2, (h3.on hb).mono (fun _ _ => trivial)⟩
theorem concat3 (w : World) {p1 p2 p3 : Nat → Prop} {v1 v2 v3 : Value} {l1 l2 l3 : List It} (h1 : Its p1 w v1 l1) (h2 : Its p2 w v2 l2) (h3 : Its p3 w v3 l3) (hl : l1.length + l2.length + l3.length ≤ 4096) :
    Calls Tryz.prog 97 #[.slice (some ⟨w.heap.size, 0, none⟩) 3 3] (w.alloc (.cells #[v1, v2, v3] 77)).drew (OwnIs w (l1 ++ (l2 ++ l3))) := by
  refine (concat_any _ _ [l1, l2, l3] (rws3 h1 h2 h3 77) (by simp) (by simp; omega)).mono ?_
  rintro e w2 ⟨v2, rfl, hown, hb2⟩
  refine ⟨v2, rfl, ?_, (((Below.refl _ _).alloc (Nat.le_refl _) _).drew).trans (hb2.mono (by simp))⟩
  have h4 : OwnT w.heap.size w2 v2 [l1, l2, l3].flatten := hown.mono (by simp)
  simpa using h4
set_option maxHeartbeats 4000000 in
theorem swap_any (p q : Nat → Prop) (w : World) (v vm : Value) (l m : List It) (i j : Nat) (h : Its p w v l) (hm : Its q w vm m) (hij : i ≤ j ∧ j ≤ l.length) (hl : l.length ≤ 1024 ∧ m.length ≤ 1024) :
    Calls Tryz.prog 80 #[v, .int .i64 i, .int .i64 j, vm] w (OwnIs w (swapF l i j m)) := by
  obtain ⟨a, c, rfl, _, hn⟩ := h.form
  obtain ⟨am, cm, rfl, _, hnm⟩ := hm.form
  have hcap := h.cap
  have hi1 : i ≤ c := by omega
  have hj1 : j ≤ l.length := by omega
  go_enter Tryz.func80, Tryz.ntmps80
  cases a with
  | none =>
    obtain ⟨rfl, rfl⟩ := hn rfl
    simp at hij
    obtain rfl : j = 0 := by omega
    obtain rfl : i = 0 := by omega
    go_wp2_with fail
    have HC := concat3 w (p1 := p) (p3 := p) Its.nil hm Its.nil (by simp; omega)
    clear hm h hn hnm
    go_region_with (go_at_call 97; refine HC.mono ?_; rintro e w2 ⟨v2, rfl, hown, hb2⟩; have H2 : Hid (OwnIs w (swapF [] 0 0 m) (.returned v2) w2) := ⟨v2, rfl, by simpa [swapF] using hown, hb2⟩; clear hown hb2)
    go_wp2_with fail
    go_ret
    exact H2.out
  | some ad =>
    have hlt : (l.take i).length = i := by rw [List.length_take]; omega
    have hld : (l.drop j).length = l.length - j := List.length_drop
    have hdr := h.drop j hj1
    have htk := h.take i (by omega)
    obtain ⟨b, o, sp⟩ := ad
    by_cases hcj : c = j
    · rw [if_pos hcj] at hdr
      subst hcj
      rw [Nat.sub_self, show l.length - c = 0 by omega] at hdr
      have HC := concat3 w htk hm hdr (by simp; omega)
      clear hm h hn hnm hdr htk
      go_wp2_with fail
      go_region_with (go_at_call 97; refine HC.mono ?_; rintro e w2 ⟨v2, rfl, hown, hb2⟩; have H2 : Hid (OwnIs w (swapF l i c m) (.returned v2) w2) := ⟨v2, rfl, by simpa [swapF] using hown, hb2⟩; clear hown hb2)
      go_wp2_with fail
      go_ret
      exact H2.out
    · rw [if_neg hcj] at hdr
      have HC := concat3 w htk hm hdr (by simp; omega)
      clear hm h hn hnm hdr htk
      go_wp2_with fail
      go_region_with (go_at_call 97; refine HC.mono ?_; rintro e w2 ⟨v2, rfl, hown, hb2⟩; have H2 : Hid (OwnIs w (swapF l i j m) (.returned v2) w2) := ⟨v2, rfl, by simpa [swapF] using hown, hb2⟩; clear hown hb2)
      go_wp2_with fail
      go_ret
      exact H2.out
end Go.Proofs.YtadmecjdihfmeaaGreat.Tre

/- Layer 7: laid. -/
namespace Go.Proofs.YtadmecjdihfmeaaGreat.Tre
set_option linter.unusedVariables false
set_option linter.unusedSimpArgs false
set_option maxRecDepth 100000
open Go.RowKit Go.Lib Go.Proofs.YtadmecjdihfmeaaGreat.Mem Go.Proofs.YtadmecjdihfmeaaGreat.Oct Go.Proofs.YtadmecjdihfmeaaGreat.Dev Go.Proofs.YtadmecjdihfmeaaGreat.Sto

def LaidIs (w : World) (B : Blk) (r : Ch (List It)) (e : Ending) (w' : World) : Prop := ∃ v, e = .returned (.tuple #[v, .int .i64 r.err]) ∧ OwnT w.heap.size w' v r.out ∧ StAt w' B r.st r.dv ∧ Chg B.all w w'
/-- more blocks that are kept from kids -/
def _root_.Go.Proofs.YtadmecjdihfmeaaGreat.Sto.Blk.off (B : Blk) (X : List Nat) : Blk := { B with x := X ++ B.x }
theorem _root_.Go.Proofs.YtadmecjdihfmeaaGreat.Sto.StAt.bares {w : World} {B : Blk} {S : StS} {D : DevS} {X : List Nat} (h : StAt w (B.off X) S D) : StAt w B S D := by
  obtain ⟨mm, hm⟩ := h.cells
  refine ⟨h.box, h.dev, ⟨mm, ⟨hm.is, hm.eq, fun i c a k hi => ?_⟩⟩, h.kept, h.nd, h.small, fun q hq => h.low q (List.mem_append_right _ hq)⟩
  exact (hm.kids i c a k hi).mono (fun q hq => ⟨hq.1, fun hm2 => hq.2 (List.mem_append_right _ hm2)⟩)
/-- the parts in memory -/
def PartsR (B : Blk) (N : Nat) (w : World) (v : Value) (ps : List (List It)) : Prop := ∃ b c, v = .slice (some ⟨b, 0, none⟩) ps.length c ∧ N ≤ b ∧ b < w.heap.size ∧ ∀ j (h : j < ps.length), ∃ vj, w.cell? ⟨b, j, none⟩ = some vj ∧ Its (fun q => q ∉ B.all ∧ q < N) w vj ps[j]
theorem PartsR.chg {B : Blk} {N : Nat} {w w' : World} {v : Value} {ps : List (List It)} (h : PartsR B N w v ps) {T : List Nat} (hc : Chg T w w') (h1 : ∀ b, N ≤ b → b < w.heap.size → (∃ c, v = .slice (some ⟨b, 0, none⟩) ps.length c) → b ∉ T) (h2 : ∀ q ∈ T, q ∈ B.all ∨ N ≤ q) : PartsR B N w' v ps := by
  obtain ⟨b, c, rfl, hN, hb, hcc⟩ := h
  refine ⟨b, c, rfl, hN, Nat.lt_of_lt_of_le hb hc.size, fun j hj => ?_⟩
  obtain ⟨vj, g1, g2⟩ := hcc j hj
  refine ⟨vj, hc.cell (h1 b hN hb ⟨c, rfl⟩) g1, g2.chg hc (fun k hk hm => ?_)⟩
  rcases h2 k hm with h3 | h3
  · exact hk.1 h3
  · have := hk.2; omega
theorem parts_len (l : List It) : 1 ≤ (partsF l).length ∧ (partsF l).length ≤ 2 := by unfold partsF; split <;> simp
theorem parts1 {B : Blk} {w : World} {ad : Addr} {c : Nat} {l : List It} (h : Its (fun q => q ∉ B.all ∧ q < w.heap.size) w (.slice (some ad) l.length c) l) (h8 : ¬ 8 < l.length) :
    Hid (Below w.heap.size w (w.alloc (.cells #[.slice (some ad) l.length c] 77)) ∧ PartsR B w.heap.size (w.alloc (.cells #[.slice (some ad) l.length c] 77)) (.slice (some ⟨w.heap.size, 0, none⟩) 1 1) (partsF l)) := by
  have hb : Below w.heap.size w (w.alloc (.cells #[.slice (some ad) l.length c] 77)) := (Below.refl _ _).alloc (Nat.le_refl _) _
  have hx := heap_alloc_last w (.cells #[.slice (some ad) l.length c] 77)
  have hp : partsF l = [l] := by unfold partsF; rw [if_neg h8]
  refine ⟨hb, w.heap.size, 1, by rw [hp]; rfl, Nat.le_refl _, heap_lt hx, fun j hj => ?_⟩
  simp only [hp] at hj ⊢
  obtain rfl : j = 0 := by simpa using hj
  exact ⟨_, cell_at hx 0, h.on hb⟩
theorem parts2 {B : Blk} {w : World} {ad : Addr} {c : Nat} {l : List It} (h : Its (fun q => q ∉ B.all ∧ q < w.heap.size) w (.slice (some ad) l.length c) l) (h8 : 8 < l.length) :
    Hid (Below w.heap.size w ((w.alloc (.cells #[.slice (some ad) l.length c] 77)).alloc (.cells #[.slice (some ad) (l.length / 2) c, .slice (some (ad.add (l.length / 2 * 3))) (l.length - l.length / 2) (c - l.length / 2)] 77)).drew ∧
      PartsR B w.heap.size ((w.alloc (.cells #[.slice (some ad) l.length c] 77)).alloc (.cells #[.slice (some ad) (l.length / 2) c, .slice (some (ad.add (l.length / 2 * 3))) (l.length - l.length / 2) (c - l.length / 2)] 77)).drew (.slice (some ⟨w.heap.size + 1, 0, none⟩) 2 2) (partsF l)) := by
  obtain ⟨w1, hw1⟩ : ∃ w1, w1 = w.alloc (.cells #[.slice (some ad) l.length c] 77) := ⟨_, rfl⟩
  have hb1 : Below w.heap.size w w1 := by rw [hw1]; exact (Below.refl _ _).alloc (Nat.le_refl _) _
  have hz1 : w1.heap.size = w.heap.size + 1 := by rw [hw1]; simp
  rw [← hw1, ← hz1]
  have hb2 : Below w.heap.size w (w1.alloc (.cells #[.slice (some ad) (l.length / 2) c, .slice (some (ad.add (l.length / 2 * 3))) (l.length - l.length / 2) (c - l.length / 2)] 77)).drew := (hb1.alloc hb1.size _).drew
  have hx : (w1.alloc (.cells #[.slice (some ad) (l.length / 2) c, .slice (some (ad.add (l.length / 2 * 3))) (l.length - l.length / 2) (c - l.length / 2)] 77)).drew.heap[w1.heap.size]? = _ := heap_alloc_last w1 _
  have hp : partsF l = [l.take (l.length / 2), l.drop (l.length / 2)] := by unfold partsF; rw [if_pos h8]
  have hcap := h.cap
  refine ⟨hb2, w1.heap.size, 2, by rw [hp]; rfl, by omega, heap_lt hx, fun j hj => ?_⟩
  simp only [hp] at hj ⊢
  match j, hj with
  | 0, _ => exact ⟨_, cell_at hx 0, (h.take (l.length / 2) (by omega)).on hb2⟩
  | 1, _ =>
    have h2 := (h.drop (l.length / 2) (by omega)).on hb2
    rw [if_neg (by omega)] at h2
    exact ⟨_, cell_at hx 1, h2⟩
theorem parts_mem {l p : List It} (h : p ∈ partsF l) : ∀ x ∈ p, x ∈ l := by
  intro x hx
  unfold partsF at h
  split at h
  · simp at h
    rcases h with rfl | rfl
    · exact List.mem_of_mem_take hx
    · exact List.mem_of_mem_drop hx
  · simp at h; subst h; exact hx
theorem parts_size {l p : List It} (hl : 1 ≤ l.length ∧ l.length ≤ 64) (h : p ∈ partsF l) : 1 ≤ p.length ∧ p.length ≤ 64 := by
  unfold partsF at h
  split at h
  · simp at h
    rcases h with rfl | rfl
    · rw [List.length_take]; omega
    · rw [List.length_drop]; omega
  · simp at h; subst h; exact hl
/-- the loop over parts -/
structure LaidL (w : World) (B : Blk) (S : StS) (D : DevS) (lv : Nat) (l : List It) (pb pc n : Nat) (wr : World) (v : Value) (j : Nat) (S' : StS) (D' : DevS) (out : List It) (X : List Nat) : Prop where
  go : savesF lv ((partsF l).drop j) S' D' out = laidF S D lv l
  st : StAt wr (B.off X) S' D'
  ok : Wok S' D'
  chg : Chg B.all w wr
  own : OwnT w.heap.size wr v out
  len : out.length = j
  parts : j < 2 → PartsR B w.heap.size wr (.slice (some ⟨pb, 0, none⟩) n pc) (partsF l)
  shut : j < 2 → ∀ g, v.ownBlock = some g → g ∈ X
  first : j = 0 → v = .slice none 0 0
theorem LaidL.next {w : World} {B : Blk} {S : StS} {D : DevS} {lv : Nat} {l : List It} {pb pc n : Nat} {wr : World} {v : Value} {j : Nat} {S' : StS} {D' : DevS} {out : List It} {X : List Nat} (h : LaidL w B S D lv l pb pc n wr v j S' D' out X)
    {w2 w3 : World} {S2 : StS} {D2 : DevS} {x : It} (hgo : savesF lv ((partsF l).drop (j + 1)) S2 D2 (out ++ [x]) = laidF S D lv l) (hs2 : StAt w2 (B.off X) S2 D2) (hc2 : Chg B.all wr w2) (hb3 : Below w2.heap.size w2 w3) (hok : Wok S2 D2) (hj : j < 2) (hB : ∀ q ∈ B.all, q < w.heap.size) :
    OwnT (if j = 0 then w3.heap.size else w.heap.size) w3 v out ∧ ∀ v' w4, OwnT (if j = 0 then w3.heap.size else w.heap.size) w4 v' (out ++ [x]) → w3.grownBy w4 v.ownBlock → ∃ X', LaidL w B S D lv l pb pc n w4 v' (j + 1) S2 D2 (out ++ [x]) X' := by
  have hs3 := hs2.on hb3
  have hsz : w.heap.size ≤ w3.heap.size := Nat.le_trans h.chg.size (Nat.le_trans hc2.size hb3.size)
  have hown3 : OwnT w.heap.size w3 v out := own_chg (own_chg h.own hc2 (fun q hq e => by
    have h1 := hB q hq
    have h2 := (World.ownsRow.lt h.own q e).1
    omega)) (Chg.of_below hb3 : Chg [] w2 w3) (fun q hq => by simp at hq)
  have hc3 : Chg B.all w w3 := h.chg.trans (hc2.trans (Chg.of_below hb3))
  by_cases h0 : j = 0
  · have hv := h.first h0
    subst hv
    have hout : out = [] := List.length_eq_zero_iff.1 (h.len.trans h0)
    subst hout
    rw [if_pos h0]
    refine ⟨OwnT.nil _ _, fun v' w4 ho hg => ?_⟩
    have hb4 : Below w3.heap.size w3 w4 := (grown_chg hg).below (Nat.le_refl _) (fun q hq => by simp [Value.ownBlock] at hq)
    rcases ho.2 with ⟨_, h1⟩ | ⟨g, cap, cur, rfl, hgb, hgx, hr⟩
    · simp at h1
    · refine ⟨g :: X, hgo, hs3.shield hb4 ⟨hgb, heap_lt hgx⟩, hok, hc3.trans (Chg.of_below hb4), own_base ho hsz, by simp [h0], fun _ => ?_, fun _ g' hg' => ?_, fun h1 => by omega⟩
      · refine (((h.parts hj).chg hc2 (fun b hb _ _ hm => by have := hB b hm; omega) (fun q hq => .inl hq)).chg (Chg.of_below hb3 : Chg [] w2 w3) (by simp) (by simp)).chg (Chg.of_below hb4 : Chg [] w3 w4) (by simp) (by simp)
      · have : g = g' := by injection hg'
        subst this; simp
  · rw [if_neg h0]
    refine ⟨hown3, fun v' w4 ho hg => ⟨X, hgo, ?_, hok, ?_, ho, by rw [List.length_append, h.len]; rfl, fun h1 => by omega, fun h1 => by omega, fun h1 => by omega⟩⟩
    · cases hv : v.ownBlock with
      | none =>
        rw [hv] at hg
        exact hs3.on ((grown_chg hg).below (Nat.le_refl _) (fun q hq => by simp at hq))
      | some g =>
        rw [hv] at hg
        have hge := (World.ownsRow.lt h.own g hv).1
        exact StAt.off4 (g := g) hs3 (List.mem_append_left _ (h.shut hj g hv)) (fun hm => by have := hB g hm; omega) (by have := grown_chg hg; simpa using this)
    · refine hc3.trans' (grown_chg hg) (fun q hq => .inr ?_)
      exact (World.ownsRow.lt h.own q (by simpa using hq)).1
/-- behind a save: the item in a variable, and in a row of its own -/
def boxed (w2 : World) (x : It) : World := (w2.alloc (.cells #[.string x.key, .string x.val, .int .i64 x.kid] 83)).alloc (.cells #[.string x.key, .string x.val, .int .i64 x.kid] 83)
theorem boxed_below (w2 : World) (x : It) : Below w2.heap.size w2 (boxed w2 x) := ((Below.refl _ _).alloc (Nat.le_refl _) _).alloc (by simp) _
theorem laid_one (w2 : World) (x : It) : Its (fun _ => True) (boxed w2 x) (.slice (some ⟨w2.heap.size + 1, 0, none⟩) 1 1) [x] := by
  have hx : (boxed w2 x).heap[w2.heap.size + 1]? = some (.cells #[.string x.key, .string x.val, .int .i64 x.kid] 83 (0, 0)) := by
    have := heap_alloc_last (w2.alloc (.cells #[.string x.key, .string x.val, .int .i64 x.kid] 83)) (.cells #[.string x.key, .string x.val, .int .i64 x.kid] 83)
    simpa [boxed] using this
  exact Its.one (cell_at hx 0) (cell_at hx 1) (cell_at hx 2)
theorem laid_app {w : World} {B : Blk} {S : StS} {D : DevS} {lv : Nat} {l : List It} {pb pc n : Nat} {wr : World} {v : Value} {j : Nat} {S' : StS} {D' : DevS} {out : List It} {X : List Nat} {w2 : World} {r : Ch It} (HT : Hid (LaidL w B S D lv l pb pc n wr v j S' D' out X))
    (HGO : Hid ((r.err ≠ 0 → laidF S D lv l = ⟨r.err, [], r.st, r.dv⟩) ∧ (r.err = 0 → savesF lv ((partsF l).drop (j + 1)) r.st r.dv (out ++ [r.out]) = laidF S D lv l))) (H2 : Hid (StAt w2 (B.off X) r.st r.dv ∧ Chg B.all wr w2)) (HW : Hid (Wok r.st r.dv ∧ pb < wr.heap.size ∧ w.heap.size ≤ pb)) (hre : r.err = 0) (hj : j < 2) (hB : ∀ q ∈ B.all, q < w.heap.size) :
    OwnT (if j = 0 then (boxed w2 r.out).heap.size else w.heap.size) (boxed w2 r.out) v out ∧ (if j = 0 then (boxed w2 r.out).heap.size else w.heap.size) ≤ (boxed w2 r.out).heap.size ∧ ∀ v' w4, OwnT (if j = 0 then (boxed w2 r.out).heap.size else w.heap.size) w4 v' (out ++ [r.out]) → (boxed w2 r.out).grownBy w4 v.ownBlock → ∃ X', LaidL w B S D lv l pb pc n w4 v' (j + 1) r.st r.dv (out ++ [r.out]) X' := by
  have hb := boxed_below w2 r.out
  obtain ⟨h1, h2⟩ := HT.out.next (HGO.out.2 hre) H2.out.1 H2.out.2 hb HW.out.1 hj hB
  refine ⟨h1, ?_, h2⟩
  split
  · exact Nat.le_refl _
  · exact Nat.le_trans HT.out.chg.size (Nat.le_trans H2.out.2.size hb.size)
set_option maxHeartbeats 8000000 in
theorem laid_any (w : World) (B : Blk) (S : StS) (D : DevS) (lv : Nat) (v : Value) (l : List It) (h : StAt w B S D) (hw : Wok S D) (hI : Its (· ∉ B.all) w v l) (hf : FitI l) (hl : 1 ≤ l.length ∧ l.length ≤ 64) (hlv : lv < 256) :
    Calls Tryz.prog 79 #[.pointer (some ⟨B.s, 0, none⟩), .int .i64 lv, v] w (LaidIs w B (laidF S D lv l)) := by
  obtain ⟨a, c, rfl, _, _⟩ := hI.form
  have hcap := hI.cap
  have hI1 := hI.real
  obtain ⟨ad, rfl⟩ : ∃ ad, a = some ad := by obtain ⟨b, o, e, _⟩ := hI.at 0 (by omega); exact ⟨_, e⟩
  have H : Hid (StAt w B S D ∧ Wok S D ∧ Its (fun q => q ∉ B.all ∧ q < w.heap.size) w (.slice (some ad) l.length c) l ∧ FitI l) := ⟨h, hw, hI1, hf⟩
  clear h hw hI hI1 hf
  go_enter Tryz.func79, Tryz.ntmps79
  go_upto_if 18 with fail
  go_cut [8] from 19 to 29 (fun v8 wx => Hid (Below w.heap.size w wx ∧ PartsR B w.heap.size wx v8 (partsF l)))
  case first =>
    by_cases h8 : 8 < l.length
    · have h8' : (8 : Int) < (l.length : Int) := by omega
      obtain ⟨m, hm⟩ : ∃ m, m = l.length / 2 := ⟨_, rfl⟩
      have hq : (l.length : Int).tdiv 2 = (m : Int) := by rw [Int.tdiv_eq_ediv_of_nonneg (by omega)]; omega
      have hm1 : (m : Int) ≤ (c : Int) := by omega
      have hm2 : (m : Int) ≤ (l.length : Int) := by omega
      have hm3 : ¬ c = m := by omega
      go_wp2_with fail
      go_region
      all_goals (go_wp2_with fail; go_meet)
      all_goals (exact parts2 H.out.2.2.1 h8)
    · have h8' : ¬ (8 : Int) < (l.length : Int) := by omega
      go_wp2_with fail
      go_meet
      case rel => exact parts1 H.out.2.2.1 h8
  case rest =>
    have HP : Hid (Below w.heap.size w wc ∧ PartsR B w.heap.size wc u8 (partsF l)) := hcut
    obtain ⟨pb, pc, hu8, _⟩ := hcut.2
    subst hu8
    have hpl := parts_len l
    obtain ⟨n, hn⟩ : ∃ n, n = (partsF l).length := ⟨_, rfl⟩
    rw [← hn] at HP hpl ⊢
    have HN : Hid (n = (partsF l).length) := hn
    clear hcut hn
    go_wp2_with fail
    go_loopw [9, 32] (fun v9 v32 wr => ∃ j : Nat, j ≤ n ∧ v32 = .int .i64 j ∧ ∃ (S' : StS) (D' : DevS) (out : List It) (X : List Nat), Hid (LaidL w B S D lv l pb pc n wr v9 j S' D' out X)) (fun _ v32 _ => n - (intOf v32).toNat)
    case atStart =>
      refine ⟨0, by omega, rfl, S, D, [], [], ?_⟩
      exact ⟨rfl, H.out.1.on HP.out.1, H.out.2.1, Chg.of_below HP.out.1, OwnT.nil _ _, rfl, fun _ => HP.out.2, fun _ g hg => (by cases hg), fun _ => rfl⟩
    case round =>
      obtain ⟨j, hj, rfl, S', D', out, X, HT⟩ := hrel
      by_cases hlt : j < n
      · have hjp : j < (partsF l).length := by have := HN.out; omega
        obtain ⟨b', c', e', hNb, hbl, hcc⟩ := HT.out.parts (by omega)
        injection e' with e1 e2 e3
        injection e1 with e1
        obtain rfl : pb = b' := by injection e1
        obtain ⟨vj, g1, g2⟩ := hcc j hjp
        obtain ⟨p, hp⟩ : ∃ p, p = (partsF l)[j] := ⟨_, rfl⟩
        rw [← hp] at g2
        obtain ⟨aj, cj, rfl, _, _⟩ := g2.form
        have hpm : p ∈ partsF l := by rw [hp]; exact List.getElem_mem _
        have hdrop : (partsF l).drop j = p :: (partsF l).drop (j + 1) := by rw [List.drop_eq_getElem_cons hjp, hp]
        obtain ⟨r, hr⟩ : ∃ r, r = saveF S' D' lv p := ⟨_, rfl⟩
        have HGO : Hid ((r.err ≠ 0 → laidF S D lv l = ⟨r.err, [], r.st, r.dv⟩) ∧ (r.err = 0 → savesF lv ((partsF l).drop (j + 1)) r.st r.dv (out ++ [r.out]) = laidF S D lv l)) := by
          have h1 := HT.out.go
          rw [hdrop, savesF, ← hr] at h1
          refine ⟨fun h2 => ?_, fun h2 => ?_⟩
          · rw [if_pos h2] at h1; exact h1.symm
          · rw [if_neg (by rw [h2]; decide)] at h1; exact h1
        have hsv : Calls Tryz.prog 55 #[.pointer (some ⟨B.s, 0, none⟩), .agg #[.int .i64 lv, .slice aj p.length cj]] wr (SaveIs wr (B.off X) r) := by
          rw [hr]
          exact save_any wr (B.off X) S' D' lv _ p HT.out.st HT.out.ok (g2.mono (fun q hq => hq.1)) (fun x hx => H.out.2.2.2 x (parts_mem hpm x hx)) (parts_size hl hpm) hlv
        have hwok : Wok r.st r.dv := by rw [hr]; exact HT.out.ok.save lv p
        have HW : Hid (Wok r.st r.dv ∧ pb < wr.heap.size ∧ w.heap.size ≤ pb) := ⟨hwok, hbl, hNb⟩
        have hlt' : (j : Int) < (n : Int) := by omega
        clear hp hpm hdrop hr hwok hcc g2 e2 e3 e1 hbl hNb hjp
        by_cases hre : r.err = 0
        · have hre' : (r.err != 0) = false := by simp [hre]
          go_wp2_with (first
            | (go_at_call 55; refine hsv.mono ?_; rintro e w2 ⟨rfl, hs2, hc2⟩; have H2 : Hid (StAt w2 (B.off X) r.st r.dv ∧ Chg B.all wr w2) := ⟨hs2, hc2⟩; clear hs2 hc2 hsv)
            | (at_builtin; obtain ⟨HA, HC, HB⟩ := laid_app HT HGO H2 HW hre (by omega) (fun q hq => H.out.1.lt q hq); refine wpList_append_its (w := boxed w2 r.out) (p := fun _ => True) rfl _ _ rfl _ HC _ out rfl HA _ [r.out] rfl (laid_one w2 r.out) (by rw [HT.out.len]; simp; omega) ?_; intro v7 w4 hown hg; have HN2 : Hid (∃ X', LaidL w B S D lv l pb pc n w4 v7 (j + 1) r.st r.dv (out ++ [r.out]) X') := HB _ _ hown hg; clear hown hg HA HB)
            | fail)
          go_roundw
          case rel =>
            obtain ⟨X', hX⟩ := HN2.out
            exact ⟨j + 1, by omega, by go_num, _, _, _, X', hX⟩
          case measure => simp [intOf]; omega
        · have hre' : (r.err != 0) = true := by simpa using hre
          have HE := HGO.out.1 hre
          go_wp2_with (go_at_call 55; refine hsv.mono ?_; rintro e w2 ⟨rfl, hs2, hc2⟩; have H2 : Hid (StAt w2 (B.off X) r.st r.dv ∧ Chg B.all wr w2) := ⟨hs2, hc2⟩; clear hs2 hc2 hsv)
          go_ret2
          have hb3 : Below w2.heap.size w2 (w2.alloc (.cells #[.string r.out.key, .string r.out.val, .int .i64 r.out.kid] 83)) := (Below.refl _ _).alloc (Nat.le_refl _) _
          refine ⟨.slice none 0 0, by rw [HE]; rfl, by rw [HE]; exact OwnT.nil _ _, by rw [HE]; exact (H2.out.1.on hb3).bares, (HT.out.chg.trans H2.out.2).trans (Chg.of_below hb3)⟩
      · obtain rfl : j = n := by omega
        have HE : Hid (laidF S D lv l = ⟨0, out, S', D'⟩) := by
          have h1 := HT.out.go
          rw [List.drop_of_length_le (by have := HN.out; omega)] at h1
          exact h1.symm
        go_wp2_with fail
        go_ret2
        exact ⟨_, by rw [HE.out]; rfl, by rw [HE.out]; exact HT.out.own, by rw [HE.out]; exact HT.out.st.bares, HT.out.chg⟩
end Go.Proofs.YtadmecjdihfmeaaGreat.Tre

