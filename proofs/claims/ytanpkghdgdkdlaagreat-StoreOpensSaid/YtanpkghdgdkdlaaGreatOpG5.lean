/- StoLawOpens StoLawsOpens: several texts of one proof, laid as one file (a claim has at most 60 files). No condition. -/
import Derived.Test.YtanpkghdgdkdlaaGreatOpG4
import Derived.Test.YtanpkghdgdkdlaaGreatStoAwake
import Derived.Test.YtanpkghdgdkdlaaGreatStoLoop
import Derived.Deep.RegionHeld3
import Derived.Test.YtanpkghdgdkdlaaGreatRows
import Derived.Test.YtanpkghdgdkdlaaGreatLaw
import Derived.Test.YtanpkghdgdkdlaaGreatRead
import Derived.ChangeSame
/- StoreOpens, walked. -/
namespace Go.Proofs.YtanpkghdgdkdlaaGreat.Sto
set_option linter.unusedVariables false
set_option linter.unusedSimpArgs false
set_option maxRecDepth 100000
open Go.RowKit Go.Lib Go.Proofs.YtanpkghdgdkdlaaGreat.Mem Go.Proofs.YtanpkghdgdkdlaaGreat.Oct Go.Proofs.YtanpkghdgdkdlaaGreat.Dev

/-- a raw block, as it lies in memory -/
def RawIs (p : Nat → Prop) (w : World) (cs : List Value) (k : DoT) : Prop := ∃ a c, cs = [.int .i64 k.op, .int .i64 k.i, .slice a k.kids.length c, .string k.s] ∧ k.fits ∧ Ints p w (.slice a k.kids.length c) k.kids ∧ k.kids.length ≤ c ∧ c ≤ 9223372036854775807
def Raws (p : Nat → Prop) (w : World) (v : Value) (l : List DoT) : Prop := SliceOf 4 (RawIs p) p w v l
theorem Raws.below {B : Nat} {w w' : World} {v : Value} {l : List DoT} (h : Raws (· < B) w v l) (hb : Below B w w') : Raws (· < B) w' v l :=
  SliceOf.below h hb (fun cs k ⟨a, c, h1, h2, h3, h4⟩ => ⟨a, c, h1, h2, h3.below hb, h4⟩)
theorem Raws.len {p : Nat → Prop} {w : World} {v : Value} {l : List DoT} (h : Raws p w v l) : ∃ a c, v = .slice a l.length c ∧ l.length ≤ 9223372036854775807 := by
  obtain ⟨a, c, e, hm, _⟩ := SliceOf.form h
  exact ⟨a, c, e, hm⟩
theorem Raws.item {p : Nat → Prop} {w : World} {a : Option Addr} {c : Nat} {l : List DoT} (h : Raws p w (.slice a l.length c) l) (j : Nat) (hj : j < l.length) : ∃ (k : DoT) (b o : Nat) (ka : Option Addr) (kc : Nat), l[j]? = some k ∧ a = some ⟨b, o, none⟩ ∧
    w.cell? ⟨b, o + j * 4, none⟩ = some (.int .i64 k.op) ∧ w.cell? ⟨b, o + j * 4 + 1, none⟩ = some (.int .i64 k.i) ∧ w.cell? ⟨b, o + j * 4 + 2, none⟩ = some (.slice ka k.kids.length kc) ∧
      w.cell? ⟨b, o + j * 4 + 3, none⟩ = some (.string k.s) ∧ k.fits ∧ Ints p w (.slice ka k.kids.length kc) k.kids ∧ k.kids.length ≤ kc ∧ kc ≤ 9223372036854775807 := by
  obtain ⟨a', c', e, _, hc⟩ := SliceOf.form h
  injection e with e _ _
  subst e
  obtain ⟨b, o, h1, h2, cs, h3, h4, ka, kc, h5, h6, h7, h8⟩ := hc j hj
  subst h5
  exact ⟨l[j], b, o, ka, kc, List.getElem?_eq_getElem hj, h1, h4 0 (by omega), h4 1 (by omega), h4 2 (by omega), h4 3 (by omega), h6, h7, h8⟩
/-- few bytes, as far as was counted -/
def Bulk (l : List DoT) (j : Nat) (m : Int) : Prop := 0 ≤ m ∧ m ≤ 30000 ∧ ∀ q, q < j → ∀ k, l[q]? = some k → k.s.size ≤ 8192 ∨ 8192 < m
theorem Bulk.next {l : List DoT} {j : Nat} {m x : Int} {k : DoT} (h : Bulk l j m) (hm : m ≤ 8192) (hk : l[j]? = some k) (hx : x = m + (min (k.s.size : Int) 8193 + min (k.kids.length : Int) 8193)) : Bulk l (j + 1) x := by
  obtain ⟨h1, h2, h3⟩ := h
  refine ⟨by omega, by omega, fun q hq k' hk' => ?_⟩
  by_cases hqj : q = j
  · subst hqj
    rw [hk] at hk'; cases hk'
    omega
  · rcases h3 q (by omega) k' hk' with h | h
    · exact .inl h
    · right; omega
/-- what stands while a block is laid -/
structure Lay (w w' : World) (b bk bd x xk xd xi bx : Nat) (D1 D2 : DevS) (k : DoT) (ka : Option Addr) (kc : Nat) : Prop where
  dev : At w' b bk bd D1
  ref : RefAt w' x xk xd xi D2
  below : Below w.heap.size w w'
  box : w'.heap[bx]? = some (.cells #[.int .i64 k.op, .int .i64 k.i, .slice ka k.kids.length kc, .string k.s] 25 (0, 0))
  kids : Ints (· < w.heap.size) w' (.slice ka k.kids.length kc) k.kids
section
variable {w w' w'' : World} {b bk bd x xk xd xi bx : Nat} {D1 D2 : DevS} {k : DoT} {ka : Option Addr} {kc : Nat}
theorem Lay.on (h : Lay w w' b bk bd x xk xd xi bx D1 D2 k ka kc) (hb : Below w'.heap.size w' w'') : Lay w w'' b bk bd x xk xd xi bx D1 D2 k ka kc :=
  ⟨h.dev.on6 hb, h.ref.on hb, h.below.trans (hb.mono h.below.size), (hb.block _ (heap_lt h.box)).trans h.box, Ints.on h.kids hb⟩
theorem Lay.kids' (h : Lay w w' b bk bd x xk xd xi bx D1 D2 k ka kc) : Ints (· < w'.heap.size) w' (.slice ka k.kids.length kc) k.kids := Ints.mono h.kids (fun q hq => Nat.lt_of_lt_of_le hq h.below.size)
theorem Lay.held (h : Lay w w' b bk bd x xk xd xi bx D1 D2 k ka kc) : w'.cell? ⟨bx, 0, none⟩ = some (.int .i64 k.op) ∧ w'.cell? ⟨bx, 1, none⟩ = some (.int .i64 k.i) ∧ w'.cell? ⟨bx, 2, none⟩ = some (.slice ka k.kids.length kc) ∧ w'.cell? ⟨bx, 3, none⟩ = some (.string k.s) :=
  ⟨cell_at h.box 0, cell_at h.box 1, cell_at h.box 2, cell_at h.box 3⟩
/-- which block lies where -/
def Apart (w : World) (b bk bd x xk xd xi bx : Nat) : Prop := (w.heap.size ≤ b ∧ w.heap.size ≤ bk ∧ w.heap.size ≤ bd) ∧ (w.heap.size ≤ x ∧ w.heap.size ≤ xk ∧ w.heap.size ≤ xd ∧ w.heap.size ≤ xi) ∧ (∀ p ∈ [b, bk, bd], p < bx ∧ p ∉ [x, xk, xd, xi]) ∧ ∀ p ∈ [x, xk, xd, xi], p < bx ∧ p ∉ [b, bk, bd]
theorem Lay.write (h : Lay w w' b bk bd x xk xd xi bx D1 D2 k ka kc) (hx : Apart w b bk bd x xk xd xi bx) {D : DevS} (hd : At w'' b bk bd D) (hc : Chg [b, bk, bd] w' w'') : Lay w w'' b bk bd x xk xd xi bx D D2 k ka kc := by
  obtain ⟨h1, h2, h3, h4⟩ := hx
  refine ⟨hd, h.ref.chg hc (h4 x (by simp)).2 (h4 xk (by simp)).2 (h4 xd (by simp)).2 (h4 xi (by simp)).2, h.below.trans (hc.below h.below.size (fun q hq => ?_)), (hc.block _ (heap_lt h.box) (fun hm => Nat.lt_irrefl _ (h3 _ hm).1)).trans h.box, Ints.chg h.kids hc (fun q hq hm => ?_)⟩
  · simp only [List.mem_cons, List.mem_nil_iff, or_false] at hq; rcases hq with rfl | rfl | rfl <;> omega
  · simp only [List.mem_cons, List.mem_nil_iff, or_false] at hm; rcases hm with rfl | rfl | rfl <;> omega
theorem Lay.rwrite (h : Lay w w' b bk bd x xk xd xi bx D1 D2 k ka kc) (hx : Apart w b bk bd x xk xd xi bx) {D : DevS} (hd : RefAt w'' x xk xd xi D) (hc : Chg [x, xk, xd, xi] w' w'') : Lay w w'' b bk bd x xk xd xi bx D1 D k ka kc := by
  obtain ⟨h1, h2, h3, h4⟩ := hx
  refine ⟨h.dev.of_touch hc (h3 b (by simp)).2 (h3 bk (by simp)).2 (h3 bd (by simp)).2, hd, h.below.trans (hc.below h.below.size (fun q hq => ?_)), (hc.block _ (heap_lt h.box) (fun hm => Nat.lt_irrefl _ (h4 _ hm).1)).trans h.box, Ints.chg h.kids hc (fun q hq hm => ?_)⟩
  · simp only [List.mem_cons, List.mem_nil_iff, or_false] at hq; rcases hq with rfl | rfl | rfl | rfl <;> omega
  · simp only [List.mem_cons, List.mem_nil_iff, or_false] at hm; rcases hm with rfl | rfl | rfl | rfl <;> omega
end
theorem write_n6 (D : DevS) (i : Int) (s : ByteArray) : (D.write i s).n = D.n := by
  unfold DevS.write DevS.spend
  repeat' split
  all_goals rfl
set_option maxHeartbeats 8000000 in
/-- StoreOpens -/
theorem storeOpens_any (w : World) (n : Int) (v : Value) (l : List DoT) (h : Raws (· < w.heap.size) w v l) :
    Calls Tryz.prog 3 #[.int .i64 n, v] w fun e w' => e = .returned (.bool true) ∧ Below w.heap.size w w' := by
  obtain ⟨a, c, rfl, hlen⟩ := h.len
  have H : Hid (Raws (· < w.heap.size) w (.slice a l.length c) l) := h
  clear h
  go_enter Tryz.func3, Tryz.ntmps3
  go_wp2_with fail
  go_loopw [5, 6] (fun v5 v6 wr => ∃ (j : Nat) (m : Int), j ≤ l.length ∧ v5 = .int .i64 m ∧ v6 = .int .i64 j ∧ Hid (Bulk l j m ∧ Below w.heap.size w wr)) (fun _ v6 _ => l.length - (intOf v6).toNat)
  case atStart => exact ⟨0, 0, by omega, rfl, rfl, ⟨by omega, by omega, fun q hq => by omega⟩, Below.refl _ _⟩
  case round =>
    obtain ⟨j, m, hj, rfl, rfl, HT⟩ := hrel
    by_cases hall : j < l.length ∧ j ≤ 60 ∧ m ≤ 8192
    · obtain ⟨hlt, h60, h82⟩ := hall
      obtain ⟨k, b, o, ka, kc, hk, rfl, _, _, q2, q3, _⟩ := (H.out.below HT.out.2).item j hlt
      have hmr := HT.out.1
      have hmr1 := hmr.1
      have HNX : Hid (∀ x, x = m + (min (k.s.size : Int) 8193 + min (k.kids.length : Int) 8193) → Bulk l (j + 1) x) := fun x hx => hmr.next h82 hk hx
      clear hmr hk
      go_wp2_with fail
      go_quiet (fail)
      go_wp2
      go_roundw
      case rel => exact ⟨j + 1, _, by omega, rfl, by go_num, HNX.out _ (by go_num), HT.out.2.trans (Joins.below_draws _ _ _)⟩
      case measure => simp [intOf]; omega
    · by_cases q1 : j < l.length
      · by_cases q2 : j ≤ 60
        · have q3 : ¬ m ≤ 8192 := fun h => hall ⟨q1, q2, h⟩
          by_cases q4 : l.length ≤ 60
          · go_wp2_with fail
            refine (awake_any wr).mono ?_
            rintro e w9 ⟨rfl, hb9⟩
            have H9 : Hid (Below w.heap.size w w9) := HT.out.2.trans (hb9.mono HT.out.2.size)
            clear hb9
            go_wp2_with fail
            go_ret
            exact ⟨rfl, H9.out⟩
          · go_wp2_with fail
            refine (awake_any wr).mono ?_
            rintro e w9 ⟨rfl, hb9⟩
            have H9 : Hid (Below w.heap.size w w9) := HT.out.2.trans (hb9.mono HT.out.2.size)
            clear hb9
            go_wp2_with fail
            go_ret
            exact ⟨rfl, H9.out⟩
        · have q4 : ¬ l.length ≤ 60 := by omega
          go_wp2_with fail
          refine (awake_any wr).mono ?_
          rintro e w9 ⟨rfl, hb9⟩
          have H9 : Hid (Below w.heap.size w w9) := HT.out.2.trans (hb9.mono HT.out.2.size)
          clear hb9
          go_wp2_with fail
          go_ret
          exact ⟨rfl, H9.out⟩
      · by_cases q4 : l.length ≤ 60
        · by_cases q3 : m ≤ 8192
          · have HBK : Hid (∀ (q : Nat) (k : DoT), l[q]? = some k → k.s.size ≤ 8192) := fun q k hk => by
              have hq : q < l.length := (List.getElem?_eq_some_iff.1 hk).1
              rcases HT.out.1.2.2 q (by omega) k hk with h | h
              · exact h
              · omega
            have HT2 : Hid (Below w.heap.size w wr) := HT.out.2
            clear HT
            go_wp2_with fail
            refine (size_fn n wr).mono ?_
            rintro e w2 ⟨rfl, rfl⟩
            obtain ⟨N, hN, hN8, hN40⟩ := size_nat n
            rw [hN]
            go_wp2_with fail
            refine (new_yes wr N (by omega)).mono ?_
            rintro e w3 ⟨b, bk, bd, rfl, hA, hb, hb1, hb2, hb3⟩
            have HA : Hid (At w3 b bk bd (DevS.new N) ∧ Below w.heap.size w w3 ∧ w.heap.size ≤ b ∧ w.heap.size ≤ bk ∧ w.heap.size ≤ bd) := by
              have := HT2.out.size
              exact ⟨hA, HT2.out.trans (hb.mono this), by omega, by omega, by omega⟩
            clear hA hb hb1 hb2 hb3
            go_wp2_with fail
            refine (size_fn n w3).mono ?_
            rintro e w4 ⟨rfl, rfl⟩
            rw [hN]
            go_wp2_with fail
            refine (rnew_yes w3 N (by omega)).mono ?_
            rintro e w4 ⟨x, xk, xd, xi, rfl, hR, hb, hb1, hb2, hb3, hb4⟩
            have HR : Hid (At w4 b bk bd (DevS.new N) ∧ RefAt w4 x xk xd xi (DevS.new N) ∧ Below w.heap.size w w4) := ⟨HA.out.1.on6 hb, hR, HA.out.2.1.trans (hb.mono HA.out.2.1.size)⟩
            have HG : Hid ((w.heap.size ≤ b ∧ w.heap.size ≤ bk ∧ w.heap.size ≤ bd) ∧ (b < w3.heap.size ∧ bk < w3.heap.size ∧ bd < w3.heap.size) ∧ (w3.heap.size ≤ x ∧ w3.heap.size ≤ xk ∧ w3.heap.size ≤ xd ∧ w3.heap.size ≤ xi) ∧ w.heap.size ≤ w3.heap.size) :=
              ⟨HA.out.2.2, ⟨heap_lt HA.out.1.heap, HA.out.1.kept.lt, HA.out.1.dirty.lt⟩, ⟨hb1, hb2, hb3, hb4⟩, HA.out.2.1.size⟩
            clear hR hb hb1 hb2 hb3 hb4 HA HT2 q3 hall
            go_wp2_with fail
            go_loopw [71] (fun v71 wr => ∃ (j : Nat) (D : DevS), j ≤ l.length ∧ v71 = .int .i64 j ∧ Hid (At wr b bk bd D ∧ RefAt wr x xk xd xi D ∧ Below w.heap.size w wr ∧ D.n = N ∧ D.small)) (fun v71 _ => l.length - (intOf v71).toNat)
            case atStart => exact ⟨0, DevS.new N, by omega, rfl, HR.out.1, HR.out.2.1, HR.out.2.2, rfl, new_small N⟩
            case round =>
              obtain ⟨j, D, hj, rfl, HT⟩ := hrel
              by_cases hlt : j < l.length
              · obtain ⟨k, bb, o, ka, kc, hk, rfl, q0, q1, q2, q3, hf, hki, hkc, hkc2⟩ := (H.out.below HT.out.2.2.1).item j hlt
                have HSZ : Hid (k.s.size ≤ 8192 ∧ k.fits ∧ k.kids.length ≤ kc ∧ kc ≤ 9223372036854775807) := ⟨HBK.out j k hk, hf, hkc, hkc2⟩
                obtain ⟨w5, hw5⟩ : ∃ w5, w5 = wr.alloc (.cells #[.int .i64 k.op, .int .i64 k.i, .slice ka k.kids.length kc, .string k.s] 25) := ⟨_, rfl⟩
                have hb5 : Below wr.heap.size wr w5 := by rw [hw5]; exact (Below.refl _ _).alloc (Nat.le_refl _) _
                have hx5 : w5.heap[wr.heap.size]? = some (.cells #[.int .i64 k.op, .int .i64 k.i, .slice ka k.kids.length kc, .string k.s] 25 (0, 0)) := by rw [hw5]; exact heap_alloc_last _ _
                obtain ⟨bx, hbx⟩ : ∃ bx, bx = wr.heap.size := ⟨_, rfl⟩
                have A5 : Hid (Lay w w5 b bk bd x xk xd xi bx D D k ka kc) := by
                  rw [hbx]
                  exact ⟨HT.out.1.on6 hb5, HT.out.2.1.on hb5, HT.out.2.2.1.trans (hb5.mono HT.out.2.2.1.size), hx5, Ints.on hki hb5⟩
                have HAP : Hid (Apart w b bk bd x xk xd xi bx) := by
                  have h1 := HT.out.1
                  have h2 := HT.out.2.1.lt
                  have h3 := heap_lt h1.heap
                  have h4 := h1.kept.lt
                  have h5 := h1.dirty.lt
                  obtain ⟨g1, g2, g3, g4⟩ := HG.out
                  refine ⟨g1, by omega, fun p hp => ?_, fun p hp => ?_⟩
                  · simp only [List.mem_cons, List.mem_nil_iff, or_false, not_or] at hp ⊢
                    rcases hp with rfl | rfl | rfl
                    · exact ⟨by omega, by omega, by omega, by omega, by omega⟩
                    · exact ⟨by omega, by omega, by omega, by omega, by omega⟩
                    · exact ⟨by omega, by omega, by omega, by omega, by omega⟩
                  · simp only [List.mem_cons, List.mem_nil_iff, or_false, not_or] at hp ⊢
                    rcases hp with rfl | rfl | rfl | rfl
                    · exact ⟨by omega, by omega, by omega, by omega⟩
                    · exact ⟨by omega, by omega, by omega, by omega⟩
                    · exact ⟨by omega, by omega, by omega, by omega⟩
                    · exact ⟨by omega, by omega, by omega, by omega⟩
                have HD : Hid (D.n = N ∧ D.small) := HT.out.2.2.2
                clear hk hf hki hkc hkc2 hb5 hx5 HT
                go_wp2_with fail
                rw [← hw5, ← hbx]
                clear hw5 hbx q0 q1 q2 q3
                have A6 : Hid (Lay w w5.drew b bk bd x xk xd xi bx D D k ka kc) := A5.out.on ((Below.refl _ _).drew)
                obtain ⟨d0, d1, d2, d3⟩ := A6.out.held
                have hcv : IntKind.u64.wrap (N : Int) = N := by rw [IntKind.wrap_u64]; omega
                have hnz : ((N : Int) == 0) = false := by simp; omega
                have hnz2 : ¬ (N : Int) = 0 := by omega
                have hnz3 : ¬ N = 0 := by omega
                clear A5 d1 d2 d3
                go_region_held3 (fun w' => w'.cell? ⟨bx, 0, none⟩ = some (.int .i64 k.op))
                  (exact d0)
                  (first
                    | (go_at_call 8; refine (size_fn n _).mono ?_; rintro e w6 ⟨rfl, rfl⟩; rw [hN])
                    | fail)
                go_wp2_with fail
                generalize IntKind.i64.wrap ((IntKind.u64.wrap k.op).tmod ↑N) = pi
                clear d0 hcv hnz hnz2 hnz3
                generalize w5.drew = w6 at A6 ⊢
                have A7 : Hid (Lay w w6.drew b bk bd x xk xd xi bx D D k ka kc) := A6.out.on ((Below.refl _ _).drew)
                obtain ⟨d0, d1, d2, d3⟩ := A7.out.held
                clear A6
                have HFIT : Hid (∀ a n c, (Value.slice ka k.kids.length kc) = .slice a n c → n ≤ c ∧ c ≤ 9223372036854775807) := fun a n c e => by
                  injection e with e1 e2 e3
                  rw [← e2, ← e3]
                  exact HSZ.out.2.2
                obtain ⟨E, hE⟩ : ∃ E, E = D.writeE pi (rawZ k) := ⟨_, rfl⟩
                have hEE : (E != E) = false := by simp
                have HE : Hid (D.writeE pi (rawZ k) = E) := hE.symm
                clear hE
                go_region_held3 (fun w' => w'.cell? ⟨bx, 0, none⟩ = some (.int .i64 k.op) ∧ w'.cell? ⟨bx, 1, none⟩ = some (.int .i64 k.i) ∧ w'.cell? ⟨bx, 2, none⟩ = some (.slice ka k.kids.length kc) ∧ w'.cell? ⟨bx, 3, none⟩ = some (.string k.s))
                  (first | exact ⟨d0, d1, d2, d3⟩ | exact A11.out.held | exact A10.out.held | exact A9.out.held | exact A8.out.held)
                  (first
                    | (go_at_call 12; refine (rwrite_any _ x xk xd xi D pi (rawZ k) A10.out.ref).mono ?_; rintro e w11 ⟨rfl, h11, t11⟩; have A11 : Hid (Lay w w11 b bk bd x xk xd xi bx (D.write pi (rawZ k)) (D.write pi (rawZ k)) k ka kc) := A10.out.rwrite HAP.out h11 t11; clear h11 t11; rw [HE.out])
                    | (go_at_call 10; refine (write_any _ b bk bd D pi (rawZ k) A8.out.dev).mono ?_; rintro e w9 ⟨rfl, h9, t9⟩; have A9 : Hid (Lay w w9 b bk bd x xk xd xi bx (D.write pi (rawZ k)) D k ka kc) := A8.out.write HAP.out h9 t9; clear h9 t9; rw [HE.out])
                    | (go_at_call 11; refine (raw_any _ k _ HSZ.out.2.1 A9.out.kids' HFIT.out HSZ.out.1).mono ?_; rintro e w10 ⟨rfl, hb10⟩; have A10 : Hid (Lay w w10 b bk bd x xk xd xi bx (D.write pi (rawZ k)) D k ka kc) := A9.out.on hb10; clear hb10)
                    | (go_at_call 11; refine (raw_any _ k _ HSZ.out.2.1 A7.out.kids' HFIT.out HSZ.out.1).mono ?_; rintro e w8 ⟨rfl, hb8⟩; have A8 : Hid (Lay w w8 b bk bd x xk xd xi bx D D k ka kc) := A7.out.on hb8; clear hb8)
                    | fail)
                clear d0 d1 d2 d3
                go_wp2_with fail
                go_roundw
                case rel => exact ⟨j + 1, D.write pi (rawZ k), by omega, by go_num, A11.out.dev, A11.out.ref, A11.out.below, (write_n6 _ _ _).trans HD.out.1, write_small HD.out.2 _ _⟩
                case measure => simp [intOf]; omega
              · have hbw : ∀ q ∈ [b, bk, bd], w.heap.size ≤ q := by
                  have hg := HG.out.1
                  intro q hq
                  simp only [List.mem_cons, List.mem_nil_iff, or_false] at hq
                  rcases hq with rfl | rfl | rfl <;> omega
                have hne : ∀ q ∈ [x, xk, xd, xi], q ∉ [b, bk, bd] := by
                  obtain ⟨g1, g2, g3, g4⟩ := HG.out
                  intro q hq
                  simp only [List.mem_cons, List.mem_nil_iff, or_false, not_or] at hq ⊢
                  rcases hq with rfl | rfl | rfl | rfl
                  · exact ⟨by omega, by omega, by omega⟩
                  · exact ⟨by omega, by omega, by omega⟩
                  · exact ⟨by omega, by omega, by omega⟩
                  · exact ⟨by omega, by omega, by omega⟩
                have HW : Hid ((∀ q ∈ [b, bk, bd], w.heap.size ≤ q) ∧ ∀ q ∈ [x, xk, xd, xi], q ∉ [b, bk, bd]) := ⟨hbw, hne⟩
                clear hbw hne HR
                go_wp2_with fail
                have hop := open_any wr b bk bd D HT.out.1 HT.out.2.2.2.2
                have hrp : ∀ w', Chg [b, bk, bd] wr w' → Calls Tryz.prog 14 #[.pointer (some ⟨x, 0, none⟩)] w' (ROpenPost w' x xk xd xi [] D (openOut D)) := fun w' hc =>
                  ropen_any w' x xk xd xi [] D (HT.out.2.1.chg hc (HW.out.2 x (by simp)) (HW.out.2 xk (by simp)) (HW.out.2 xd (by simp)) (HW.out.2 xi (by simp))) HT.out.2.2.2.2 (fun q hq => by cases hq)
                cases ho : openOut D with
                | error z =>
                  rw [ho] at hop hrp
                  have HRP : Hid (∀ w', Chg [b, bk, bd] wr w' → Calls Tryz.prog 14 #[.pointer (some ⟨x, 0, none⟩)] w' (ROpenPost w' x xk xd xi [] D (.error z))) := hrp
                  have hzz : (z == z) = true := by simp
                  clear hrp ho
                  refine hop.mono ?_
                  rintro e w3 ⟨rfl, _, _, hc⟩
                  have H3 : Hid (Chg [b, bk, bd] wr w3 ∧ Below w.heap.size w w3) := ⟨hc, HT.out.2.2.1.trans (hc.below HT.out.2.2.1.size HW.out.1)⟩
                  clear hc hop
                  go_wp2_with fail
                  refine (HRP.out w3 H3.out.1).mono ?_
                  rintro e w4 ⟨rfl, hb⟩
                  have H4 : Hid (Below w.heap.size w w4) := H3.out.2.trans (hb.mono H3.out.2.size)
                  clear hb HRP
                  go_wp2_with fail
                  refine (tells_nil w4).mono ?_
                  rintro e w5 ⟨rfl, rfl⟩
                  go_wp2_with fail
                  refine (awake_any w4).mono ?_
                  rintro e w9 ⟨rfl, hb9⟩
                  have H9 : Hid (Below w.heap.size w w9) := H4.out.trans (hb9.mono H4.out.size)
                  clear hb9
                  go_wp2_with fail
                  go_ret
                  exact ⟨rfl, H9.out⟩
                | ok S =>
                  have hopn := open_opn (D := D) (n := N) HT.out.2.2.2.1 (by omega) ho
                  have HO : Hid (WF N S [] ∧ ∀ i, S.kept i = true → 2 ≤ i ∧ i < N) := ⟨hopn.wf, fun i hi => by
                    rw [hopn.kept] at hi
                    obtain ⟨c, hc⟩ := has_iff.1 hi
                    exact hopn.wf.dom i c hc⟩
                  rw [ho] at hop hrp
                  have HRP : Hid (∀ w', Chg [b, bk, bd] wr w' → Calls Tryz.prog 14 #[.pointer (some ⟨x, 0, none⟩)] w' (ROpenPost w' x xk xd xi [] D (.ok S))) := hrp
                  clear hrp ho hopn
                  refine hop.mono ?_
                  rintro e w3 ⟨B, hov, rfl, hst, hc⟩
                  have H3 : Hid (Chg [b, bk, bd] wr w3 ∧ Below w.heap.size w w3 ∧ StAt w3 B S D) := ⟨hc, HT.out.2.2.1.trans (hc.below HT.out.2.2.1.size HW.out.1), hst⟩
                  clear hc hop hov hst
                  go_wp2_with fail
                  refine (HRP.out w3 H3.out.1).mono ?_
                  rintro e w4 ⟨s, c', p, rfl, hrs, hb, _⟩
                  have H4 : Hid (Below w.heap.size w w4 ∧ StAt w4 B S D ∧ RSt w4 ⟨s, c', p, x, xk, xd, xi, []⟩ S D) := ⟨H3.out.2.1.trans (hb.mono H3.out.2.1.size), H3.out.2.2.on hb, hrs⟩
                  clear hb HRP hrs
                  go_wp2_with fail
                  refine (tells_any w4 B ⟨s, c', p, x, xk, xd, xi, []⟩ S D D N H4.out.2.1 H4.out.2.2 HT.out.2.2.2.1 HT.out.2.2.2.1 HO.out.1 HO.out.2).mono ?_
                  rintro e w5 ⟨rfl, hb5⟩
                  have H5 : Hid (Below w.heap.size w w5) := H4.out.1.trans (hb5.mono H4.out.1.size)
                  clear hb5
                  go_wp2_with fail
                  refine (awake_any w5).mono ?_
                  rintro e w9 ⟨rfl, hb9⟩
                  have H9 : Hid (Below w.heap.size w w9) := H5.out.trans (hb9.mono H5.out.size)
                  clear hb9
                  go_wp2_with fail
                  go_ret
                  exact ⟨rfl, H9.out⟩
          · go_wp2_with fail
            refine (awake_any wr).mono ?_
            rintro e w9 ⟨rfl, hb9⟩
            have H9 : Hid (Below w.heap.size w w9) := HT.out.2.trans (hb9.mono HT.out.2.size)
            clear hb9
            go_wp2_with fail
            go_ret
            exact ⟨rfl, H9.out⟩
        · go_wp2_with fail
          refine (awake_any wr).mono ?_
          rintro e w9 ⟨rfl, hb9⟩
          have H9 : Hid (Below w.heap.size w w9) := HT.out.2.trans (hb9.mono HT.out.2.size)
          clear hb9
          go_wp2_with fail
          go_ret
          exact ⟨rfl, H9.out⟩
end Go.Proofs.YtanpkghdgdkdlaaGreat.Sto

/- Statements of layer 6: for every input the law returns true. No condition. (Printed by wip/tools/storelaws.py.) -/
namespace Go.Proofs.YtanpkghdgdkdlaaGreat.Sto
set_option maxRecDepth 100000
set_option linter.unusedVariables false
set_option linter.unusedSimpArgs false
open Go.ChangeShapes Go.WideShapes Go.ChangeAt Go.RowKit Go.WideMaps Go.WideElems Go.Proofs.YtanpkghdgdkdlaaGreat.Mem
open Go.ChangeMaps (open_string shut_string)

theorem own : ownKnob Tryz.prog.godebug = none := by kernel_rfl
theorem laidOut : laidOutB Tryz.prog = true := by kernel_rfl

instance : Inhabited DoT := ⟨⟨0, 0, [], ⟨#[]⟩⟩⟩
theorem do_of {H : Type} {enc : TypeId × Value → H} {p : Nat → Prop} {W : World} {n0 n1 n2 n3 : Nat} {c0 c1 c2 c3 : Value} {y0 y1 y2 y3 : DataW H × List MemPlace}
    (h0 : DataW.trod enc Tryz.prog W 0 (fun _ => true) true n0 3 [c0] = some y0) (h1 : DataW.trod enc Tryz.prog W 0 (fun _ => true) true n1 3 [c1] = some y1)
    (h2 : DataW.trod enc Tryz.prog W 0 (fun _ => true) true n2 23 [c2] = some y2) (h3 : DataW.trod enc Tryz.prog W 0 (fun _ => true) true n3 9 [c3] = some y3) (hp : ∀ z ∈ y2.2, p z.block)
    (hw : Mem.Reached ((DataW.agg [y0.1, y1.1, y2.1, y3.1]).weights Tryz.prog 25)) : ∃ k, DoIs p W [c0, c1, c2, c3] k := by
  obtain ⟨x0, q0, _, w0⟩ := DataW.trod_int Tryz.underlying3 h0
  obtain ⟨x1, q1, _, w1⟩ := DataW.trod_int Tryz.underlying3 h1
  obtain ⟨x3, q3, r3, w3⟩ := DataW.trod_string Tryz.underlying9 h3
  rw [r3] at hw
  simp only [DataW.weights, Tryz.underlying25] at hw
  obtain ⟨v2, l2, q2, hi, _, hb⟩ := open_ints_w Tryz.underlying23 Tryz.underlying3 (by kernel_rfl) h2 hp (fun n hn => hw n (by simp [DataW.weightsEach, hn]))
  have hs := open_str_w (t := 9) (P := Tryz.prog) (H := H) (s := x3) (fun n hn => hw n (by simp [DataW.weightsEach, hn]))
  have e8 : Tryz.prog.bytesOf 3 = 8 := by kernel_rfl
  rw [e8] at hb
  simp only [List.cons.injEq, and_true] at q0 q1 q2 q3
  subst q0 q1 q2 q3
  exact ⟨⟨x0, x1, l2, x3⟩, _, rfl, ⟨w0, w1, hs, by simpa [reachBytes] using hb⟩, hi⟩
theorem cap_of {H : Type} {enc : TypeId × Value → H} {W : World} {n2 : Nat} {c2 : Value} {y2 : DataW H × List MemPlace} (h2 : DataW.trod enc Tryz.prog W 0 (fun _ => true) true n2 23 [c2] = some y2) : ∃ a n c, c2 = .slice a n c ∧ n ≤ c ∧ c ≤ 9223372036854775807 := by
  rcases Deep.open_slice Tryz.underlying23 h2 with ⟨e, _⟩ | ⟨a, len, cap, m, n, D, Pl, e, _, hl, hm, _⟩
  · injection e with e
    exact ⟨none, 0, 0, e, by omega, by omega⟩
  · injection e with e
    exact ⟨_, len, cap, e, hl, hm⟩
theorem raw_of {H : Type} {enc : TypeId × Value → H} {p : Nat → Prop} {W : World} {n0 n1 n2 n3 : Nat} {c0 c1 c2 c3 : Value} {y0 y1 y2 y3 : DataW H × List MemPlace}
    (h0 : DataW.trod enc Tryz.prog W 0 (fun _ => true) true n0 3 [c0] = some y0) (h1 : DataW.trod enc Tryz.prog W 0 (fun _ => true) true n1 3 [c1] = some y1)
    (h2 : DataW.trod enc Tryz.prog W 0 (fun _ => true) true n2 23 [c2] = some y2) (h3 : DataW.trod enc Tryz.prog W 0 (fun _ => true) true n3 9 [c3] = some y3) (hp : ∀ z ∈ y2.2, p z.block)
    (hw : Mem.Reached ((DataW.agg [y0.1, y1.1, y2.1, y3.1]).weights Tryz.prog 25)) : ∃ k, RawIs p W [c0, c1, c2, c3] k := by
  obtain ⟨a, n, c, hc, h4, h5⟩ := cap_of h2
  obtain ⟨k, kv, hcs, hf, hi⟩ := do_of h0 h1 h2 h3 hp hw
  simp only [List.cons.injEq, and_true] at hcs
  obtain ⟨e0, e1, e2, e3⟩ := hcs
  subst e2
  obtain ⟨a', c', e, _⟩ := hi.form
  rw [hc] at e
  injection e with ea en ec
  subst ea en ec
  subst hc
  exact ⟨k, a, c, by rw [e0, e1, e3], hf, hi, h4, h5⟩
/-- A []Do that came in. -/
theorem open_dos {H : Type} {enc : TypeId × Value → H} {W : World} {base : Nat} {v : Value} {d : DataW H} {ps : List MemPlace} (hval : Value.okWide Tryz.prog W .any base 22 v)
    (h : DataW.Trod enc Tryz.prog W 0 (fun _ => true) true 22 v d ps) (hp : ∀ x ∈ ps, x.block < W.heap.size) (hw : Mem.Reached (d.weights Tryz.prog 22)) : ∃ l, Raws (· < W.heap.size) W v l := by
  obtain ⟨a, len, cap, rfl⟩ := okWide_slice Tryz.underlying22 hval
  obtain ⟨fuel, hf⟩ := h
  obtain ⟨v', l, hv, hs, _⟩ := open_slice_w (α := DoT) (sz := 4) (R := RawIs (· < W.heap.size)) (p := (· < W.heap.size)) Tryz.underlying22 (by kernel_rfl) (by omega) hf hp hw (fun n cs' y htr hz hr => by
    obtain ⟨y0, y1, y2, y3, m, rfl, hl, h0, h1, h2, h3⟩ := Joins.trod_struct4 (f0 := _) (f1 := _) (f2 := _) (f3 := _) Tryz.underlying25 htr
    have hl4 : cs'.length = 4 := hl
    match cs', hl4 with
    | [c0, c1, c2, c3], _ => exact raw_of h0 h1 h2 h3 (fun z hzz => hz z (by simp [hzz])) hr)
  have e : v' = .slice a len cap := by simpa [Value.cells] using hv.symm
  subst e
  exact ⟨l, hs⟩
theorem wf_range {i : Int} (h : (Lit.int .i64 i).wf = true) : -9223372036854775808 ≤ i ∧ i ≤ 9223372036854775807 := by
  simp only [Lit.wf, IntKind.min, IntKind.max, IntKind.signed, IntKind.bits, Bool.and_eq_true] at h
  simp at h
  omega

set_option maxRecDepth 100000 in
theorem storeOpens_lifted (os : Os) (started : os.Started) (H : Type) (enc : TypeId × Value → H) :
    ReturnsInHanded {} Tryz.checked os 3 .any (Rows.storeOpensSpec.pre6 enc Tryz.prog Tryz.f3 Rows.storeOpensRow.domain false) (Rows.storeOpensSpec.post enc Tryz.prog Tryz.f3 false true false false) := by
  refine LawFrame.lifted (C := Tryz.checked) (tb := 4) own started (by kernel_rfl) Tryz.func3
    (ChangeSpec.witness6 (enc := enc) (C := Tryz.checked) false ⟨#[], #[.int .i64 0, .slice none 0 0], []⟩ 8 (by kernel_rfl) (by kernel_rfl) (by kernel_rfl) (by kernel_rfl))
    laidOut (by kernel_rfl) ⟨rfl, fun H ds hd => by match ds, hd with | [d0, d1], _ => exact ⟨rfl, rfl, rfl⟩⟩ rfl Tryz.underlying4 ?_
  intro W base args ds p hval0 hA0 hlt hfz hsz0
  have hval : ∀ (j : Nat) t v, Tryz.f3.params[j]? = some t → args[j]? = some v → Value.okWide Tryz.prog W .any base t v := hval0
  have hA : DataW.TrodAll enc Tryz.prog W 0 (fun _ => true) true Tryz.f3.params.toList args.toList ds p := hA0
  have hsz : (DataW.weightsEach Tryz.prog Tryz.f3.params.toList ds).all (· ≤ reachBytes) = true := hsz0
  rw [Tryz.params3] at hA hval hsz
  obtain ⟨v0, v1, d0, d1, p0, p1, rfl, rfl, rfl, h0, h1⟩ := trodAll_two hA
  obtain ⟨n, rfl, rfl, rfl, wn⟩ := open_int Tryz.underlying3 (hval 0 3 v0 rfl rfl) h0
  obtain ⟨l, Hl⟩ := open_dos (hval 1 22 v1 rfl rfl) h1 (fun x hx => hlt x (by simp [hx])) (fun n hn => of_decide_eq_true (List.all_eq_true.1 hsz n (by simp [DataW.weightsEach, hn])))
  exact storeOpens_any W n v1 l Hl
theorem storeOpens_holds : Rows.StoreOpensSaid :=
  OpenClaim.holds_of_wide 3 Tryz.f3 rfl rfl rfl rfl rfl rfl rfl ⟨rfl, rfl, rfl, rfl, rfl⟩ rfl rfl rfl rfl rfl (by kernel_rfl) Tryz.func3 (by kernel_rfl)
    (of_decide_eq_true (by kernel_rfl)) (by unfold Func.isWrapper; rw [if_neg (of_decide_eq_false (by kernel_rfl))]; exact ⟨rfl, rfl⟩)
    (fun os started H enc _ => storeOpens_lifted os started H enc)

end Go.Proofs.YtanpkghdgdkdlaaGreat.Sto

