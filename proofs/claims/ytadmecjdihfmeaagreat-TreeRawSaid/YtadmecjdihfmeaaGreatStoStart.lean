/- Layer 6 in plain Lean: a beginning; what goes well; the example. -/
import Derived.Test.YtadmecjdihfmeaaGreatStoBfs
import Derived.Test.YtadmecjdihfmeaaGreatStoFormat
namespace Go.Proofs.YtadmecjdihfmeaaGreat.Sto
set_option linter.unusedVariables false
set_option linter.unusedSimpArgs false
open Go.RowKit Go.Proofs.YtadmecjdihfmeaaGreat.Mem Go.Proofs.YtadmecjdihfmeaaGreat.Oct Go.Proofs.YtadmecjdihfmeaaGreat.Dev

theorem begins_nob (n : Int) : beginsP nob n = none := rfl
theorem Pow.new (n : Int) : Pow (DevS.new n) := ⟨rfl, rfl⟩
/-- a new store on a new device -/
theorem format_run (n : Nat) (hn : 8 ≤ n ∧ n ≤ 4096) {note : ByteArray} (hnt : note.size ≤ 3900) : ∃ D, formatOut (DevS.new n) note = (0, D, true) ∧ Run n 0 (StS.fresh note) D := by
  have p0 := Pow.new n
  have p1 : Pow (wiped (DevS.new n) 1) := p0.write 0 nob
  have p2 : Pow (wiped (DevS.new n) 2) := p1.write 1 nob
  have hnob : nob.size ≤ 4096 := by decide
  have n1 : (wiped (DevS.new n) 1).n = n := wiped_n _ _
  have n2 : (wiped (DevS.new n) 2).n = n := wiped_n _ _
  have hsz := super_size (n := n) 1 0 hnt
  have w0 : (DevS.new n).writeE 0 nob = 0 := p0.writeE ⟨by omega, by show (0 : Int) < n; omega⟩ hnob
  have w1 : (wiped (DevS.new n) 1).writeE 1 nob = 0 := p1.writeE ⟨by omega, by rw [n1]; omega⟩ hnob
  have f2 := p2.flushE
  have p3 := p2.flush
  have n3 : (wiped (DevS.new n) 2).flush.n = n := (flush_n _).trans n2
  have eN : (DevS.new n).n.toNat = n := by show (n : Int).toNat = n; omega
  have w3 : (wiped (DevS.new n) 2).flush.writeE 1 (superB 1 0 n note) = 0 := p3.writeE ⟨by omega, by rw [n3]; omega⟩ hsz
  have p4 := p3.write 1 (superB 1 0 n note)
  have f4 := p4.flushE
  have n5 : ((wiped (DevS.new n) 2).flush.write 1 (superB 1 0 n note)).flush.n = n := (flush_n _).trans ((write_n _ _ _).trans n3)
  refine ⟨((wiped (DevS.new n) 2).flush.write 1 (superB 1 0 n note)).flush, ?_, ?_⟩
  · unfold formatOut
    rw [if_neg (by omega), if_neg (by rw [w0]; decide), if_neg (by rw [w1]; decide), if_neg (by rw [f2]; decide), eN, if_neg (by rw [w3]; decide), f4]
  · have hk : ∀ i, kp ((wiped (DevS.new n) 2).flush.write 1 (superB 1 0 n note)).flush i = if i = 1 then superB 1 0 n note else vw (wiped (DevS.new n) 2) i := by
      intro i
      rw [kp_flush f4, vw_write w3, vw_flush f2]
    have hv : ∀ i, vw (wiped (DevS.new n) 2) i = nob := by
      intro i
      have h2 : vw (wiped (DevS.new n) 2) i = if i = 1 then nob else vw (wiped (DevS.new n) 1) i := vw_write w1 i
      have h1 : vw (wiped (DevS.new n) 1) i = if i = 0 then nob else vw (DevS.new n) i := vw_write w0 i
      rw [h2, h1]
      split
      · rfl
      · split
        · rfl
        · rfl
    have hd : ((wiped (DevS.new n) 2).flush.write 1 (superB 1 0 n note)).flush.dirty = fun _ => none := (flush_good f4).2
    refine ⟨⟨n5, fun i c h => (by cases h), ⟨⟨?_, ?_⟩, ⟨fun h => absurd rfl h, fun i h => (by cases h), ⟨fun _ => 0, fun i h => (by cases h)⟩, fun Q _ _ i h => (by cases h)⟩⟩, fun i _ => by rw [hd]⟩, fresh_inv n hnt, p4.flush⟩
    · show beginsP (kp _ ((1 : Int).tmod 2)) n = _
      rw [show (1 : Int).tmod 2 = 1 from rfl, hk, if_pos rfl]
      have := beginsP_super (n := n) (g := 1) (r := 0) (nt := note) ⟨by omega, by omega⟩ ⟨by omega, by omega⟩ (.inl rfl) hnt
      rw [show ((n : Int)).toNat = n by omega] at this
      exact this
    · intro x hx
      have hx' : beginsP (kp ((wiped (DevS.new n) 2).flush.write 1 (superB 1 0 n note)).flush (((1 : Int) + 1).tmod 2)) n = some x := hx
      rw [show ((1 : Int) + 1).tmod 2 = 0 from rfl, hk, if_neg (by decide), hv, begins_nob] at hx'
      cases hx'
/-- a Put that goes well -/
theorem Run.put_ok {n m : Nat} {S : StS} {D : DevS} (h : Run n m S D) (hn : 8 ≤ n ∧ n ≤ 4096) {kids : List Int} {data : ByteArray} (hb : ¬ putBad S kids data) (hf : S.free n ≠ 0) : putOut S D kids data = (S.free n, 0, (S.names kids).setC (S.free n) (some ⟨0, 0, S.highOf kids + 1, kids⟩), D.write (S.free n) (blockB kids data)) ∧ D.writeE (S.free n) (blockB kids data) = 0 := by
  have h1 := free_ok hf
  have h2 := not_bad hb
  have hw : D.writeE (S.free n) (blockB kids data) = 0 := h.pow.writeE ⟨by omega, by rw [h.good.dn]; omega⟩ (block_size h2.1 h2.2.1)
  refine ⟨?_, hw⟩
  unfold putOut
  rw [if_neg hb, h.good.dn, if_neg hf, if_neg (by rw [hw]; decide)]
theorem Run.commit_ok {n m : Nat} {S : StS} {D : DevS} (h : Run n m S D) (hn : 8 ≤ n ∧ n ≤ 4096) {root : Int} {note : ByteArray} (hr : root = 0 ∨ S.has root = true) (hnt : note.size ≤ 3900) (hg : S.gen < 1099511627776) : (commitOut S D root note).1 = 0 := by
  have hc := commit_dev h.good h.inv hn root note
  have hp := h.pow.commit S root note
  obtain ⟨e, he⟩ : ∃ e, e = (commitOut S D root note).1 := ⟨_, rfl⟩
  by_cases h0 : e = 0
  · rw [← he, h0]
  · exfalso
    have h5 : e ≠ 5 := by rw [he]; exact hp.2
    have hgen := h.inv.gen
    have hs01 : (S.gen + 1).tmod 2 = 0 ∨ (S.gen + 1).tmod 2 = 1 := by rw [Int.tmod_eq_emod_of_nonneg (by omega)]; omega
    have hDn : D.n.toNat = n := by have := h.good.dn; omega
    rw [he] at h0
    apply h0
    have hnbad : ¬ ((root ≠ 0 ∧ S.has root = false) ∨ 3900 < note.size) := by
      rintro (⟨h1, h2⟩ | h1)
      · rcases hr with h3 | h3
        · exact h1 h3
        · rw [h2] at h3; cases h3
      · omega
    unfold commitOut
    rw [if_neg hnbad, if_neg (by omega), if_neg (by rw [h.pow.flushE]; decide), if_neg, if_neg (by rw [(h.pow.flush.write _ _).flushE]; decide)]
    rw [h.pow.flush.writeE ⟨by omega, by rw [flush_n, h.good.dn]; omega⟩ (super_size _ _ hnt)]
    decide
/-! ### the example -/
def txtA : ByteArray := ⟨#[97]⟩
def txtB : ByteArray := ⟨#[98]⟩
def txtN : ByteArray := ⟨#[110]⟩
def ex1 : StS := StS.fresh nob
def ex2 : StS := (ex1.names []).setC 2 (some ⟨0, 0, 1, []⟩)
def ex3 : StS := (ex2.names [2]).setC 3 (some ⟨0, 0, 2, [2]⟩)
def ex4 : StS := ex3.hold 3 1
def ex5 : StS := ex4.after 8 3 txtN
theorem ex_free1 : ex1.free 8 = 2 := by decide
theorem ex_free2 : ex2.free 8 = 3 := by decide
theorem ex_freeN : ex1.freeN 8 = 6 := by decide
/-- what the example's device and store are, step by step -/
structure Ex (D1 D2 D3 : DevS) : Prop where
  run1 : Run 8 0 ex1 D1
  put2 : putOut ex1 D1 [] txtA = (2, 0, ex2, D2)
  run2 : Run 8 0 ex2 D2
  put3 : putOut ex2 D2 [2] txtB = (3, 0, ex3, D3)
  run3 : Run 8 0 ex3 D3
  run4 : Run 8 1 ex4 D3
  com : (commitOut ex4 D3 3 txtN).1 = 0
  st5 : (commitOut ex4 D3 3 txtN).2.1 = ex5
  good5 : Good 8 ex5 (commitOut ex4 D3 3 txtN).2.2
  inv5 : Inv 8 1 ex5
theorem Run.putOut {n m : Nat} {S : StS} {D : DevS} (h : Run n m S D) (hn : 8 ≤ n ∧ n ≤ 4096) {kids : List Int} {data : ByteArray} (hb : ¬ putBad S kids data) (hf : S.free n ≠ 0) : Run n m (putOut S D kids data).2.2.1 (putOut S D kids data).2.2.2 := by
  refine ⟨h.good.put h.inv hn.2 kids data, ?_, (h.pow.put S kids data).1⟩
  rcases putOut_cases S D kids data with ⟨e, he, ⟨_, e2, e3⟩, _⟩ | ⟨hp, _⟩
  · rw [e3]; exact h.inv
  · exact hp.inv h.inv h.good.dn hn.2
theorem example_runs {D1 : DevS} (h : Run 8 0 ex1 D1) : ∃ D2 D3, Ex D1 D2 D3 ∧ vw D3 2 = blockB [] txtA := by
  have hn : 8 ≤ 8 ∧ 8 ≤ 4096 := by omega
  have hb1 : ¬ putBad ex1 [] txtA := by decide
  have hf1 : ex1.free (8 : Nat) ≠ 0 := by rw [show ((8 : Nat) : Int) = 8 from rfl, ex_free1]; decide
  have e1 := h.put_ok hn hb1 hf1
  have r2 := h.putOut hn hb1 hf1
  rw [show ((8 : Nat) : Int) = 8 from rfl, ex_free1] at e1
  rw [e1.1] at r2
  have hb2 : ¬ putBad ex2 [2] txtB := by decide
  have hf2 : ex2.free (8 : Nat) ≠ 0 := by rw [show ((8 : Nat) : Int) = 8 from rfl, ex_free2]; decide
  have r2' : Run 8 0 ex2 (D1.write 2 (blockB [] txtA)) := r2
  have e2 := r2'.put_ok hn hb2 hf2
  have r3 := r2'.putOut hn hb2 hf2
  rw [show ((8 : Nat) : Int) = 8 from rfl, ex_free2] at e2
  rw [e2.1] at r3
  have r3' : Run 8 0 ex3 ((D1.write 2 (blockB [] txtA)).write 3 (blockB [2] txtB)) := r3
  have hh3 : ex3.has 3 = true := by decide
  have i4 : Inv 8 1 ex4 := by
    have := r3'.inv.holds (by omega) 3
    unfold StS.holds at this
    rw [if_pos hh3] at this
    exact this
  have r4 : Run 8 1 ex4 ((D1.write 2 (blockB [] txtA)).write 3 (blockB [2] txtB)) := ⟨r3'.good.sub (sub_hold hh3), i4, r3'.pow⟩
  have hc := r4.commit_ok hn (root := 3) (note := txtN) (.inr (by decide)) (by decide) (by decide)
  have hcd := commit_dev r4.good r4.inv hn 3 txtN
  have hst : (commitOut ex4 ((D1.write 2 (blockB [] txtA)).write 3 (blockB [2] txtB)) 3 txtN).2.1 = ex5 := by
    rcases commit_cases ex4 ((D1.write 2 (blockB [] txtA)).write 3 (blockB [2] txtB)) 3 txtN with ⟨e, he, h1, _⟩ | ⟨_, _, _, _, hs, _⟩
    · rw [hc] at h1; exact absurd h1.symm he
    · rw [hs]
      have : ((D1.write 2 (blockB [] txtA)).write 3 (blockB [2] txtB)).n.toNat = 8 := by have := r4.good.dn; omega
      rw [this]; rfl
  have hg5 := hcd.good r4.good r4.inv hn (by rw [hc]; decide)
  have hi5 := r4.inv.commit (D := (D1.write 2 (blockB [] txtA)).write 3 (blockB [2] txtB)) r4.good.dn 3 txtN
  rw [hst] at hg5 hi5
  refine ⟨_, _, ⟨h, e1.1, r2', e2.1, r3', r4, hc, hst, hg5, hi5⟩, ?_⟩
  rw [vw_write e2.2, if_neg (by decide), vw_write e1.2, if_pos rfl]
/-- what is found behind the crash -/
theorem example_opens {D1 D2 D3 : DevS} (h : Ex D1 D2 D3) (hv : vw D3 2 = blockB [] txtA) : ∃ S', openOut ((commitOut ex4 D3 3 txtN).2.2.crash []).start = .ok S' ∧ S'.root = 3 ∧ S'.note = txtN ∧ S'.gen = 2 ∧ S'.getR ((commitOut ex4 D3 3 txtN).2.2.crash []).start 2 = (0, some ([], txtA)) ∧ S'.freeN 8 = 4 ∧ Inv 8 1 S' := by
  have hn : 8 ≤ 8 ∧ 8 ≤ 4096 := by omega
  obtain ⟨S', e, ho, _⟩ := h.good5.crash h.inv5 hn []
  have hk : ∀ i, S'.has i = ex5.kept i := ho.has
  refine ⟨S', e, ho.root, ho.note, ho.gen, ?_, ?_, ho.inv⟩
  · have hh : S'.has 2 = true := by rw [hk]; decide
    have hr := readP_vw (D := ((commitOut ex4 D3 3 txtN).2.2.crash []).start) (i := 2) rfl ⟨by omega, by rw [crash_n, h.good5.dn]; decide⟩
    have hcd := commit_dev h.run4.good h.run4.inv hn 3 txtN
    have hkp : kp (commitOut ex4 D3 3 txtN).2.2 2 = blockB [] txtA := by
      have h0 := h.com
      generalize (commitOut ex4 D3 3 txtN).1 = e0 at hcd h0
      generalize (commitOut ex4 D3 3 txtN).2.1 = s0 at hcd
      generalize (commitOut ex4 D3 3 txtN).2.2 = d0 at hcd ⊢
      subst h0
      cases hcd with
      | stays e D' he => exact absurd rfl he
      | done D' hr hnt hg hn2 hk hd =>
        rw [hk, if_neg (by decide)]
        exact hv
    rw [vw_crash, if_neg (by simp), hkp, crash_n, h.good5.dn] at hr
    have hg := getP_put (n := ((8 : Nat) : Int)) (l := []) (d := txtA) (by decide) (by decide) (by simp) (by decide)
    rw [hg] at hr
    have h2 := (readP_in (l := []) (d := txtA) hr).2.1
    unfold StS.getR
    rw [if_pos hh]
    exact Prod.ext h2 hr
  · have e1 : S'.keptOnly 8 = 0 := by
      unfold StS.keptOnly
      rw [List.length_eq_zero_iff, List.filter_eq_nil_iff]
      intro i _
      rw [ho.has, ho.kept]
      cases ex5.kept i <;> simp
    have e2 : num S'.cells 8 = 2 := by
      have hs : ∀ i, (S'.cells i).isSome = ex5.kept i := hk
      simp only [num, hs]
      decide
    unfold StS.freeN
    rw [e1, e2]; rfl
end Go.Proofs.YtadmecjdihfmeaaGreat.Sto
