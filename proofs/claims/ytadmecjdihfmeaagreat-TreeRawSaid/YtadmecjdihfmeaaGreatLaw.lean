/- The frame that every law's row shares: if the walk returns true and leaves what was there as it was, the law's function meets its statement. -/
import Derived.ProofKit
import Derived.OpenShut
import Derived.SizedLaws
namespace Go.Proofs.YtadmecjdihfmeaaGreat.LawFrame
set_option linter.unusedVariables false
set_option linter.unusedSimpArgs false
open Go.ChangeShapes Go.WideShapes Go.ChangeAt Go.RowKit Go.WideMaps Go.WideElems

/-- what a law's specification says -/
def IsLaw (s : ChangeSpec) (n : Nat) : Prop :=
  s.vars = [] ∧ ∀ (H : Type) (ds : List (DataW H)), ds.length = n → (s.fn H (ds ++ [])).results = [.lit (.bool true)] ∧ (s.fn H (ds ++ [])).args = ds ∧ (s.fn H (ds ++ [])).vars = []

theorem trodAll_len {H : Type} {enc : TypeId × Value → H} {P : Program} {w : World} {base : Nat} {sp : Nat → Bool} {held : Bool} : ∀ (ts : List TypeId) (vs : List Value) (ds : List (DataW H)) (ps : List MemPlace),
    DataW.TrodAll enc P w base sp held ts vs ds ps → vs.length = ts.length ∧ ds.length = ts.length
  | [], vs, ds, ps, h => by obtain ⟨rfl, rfl, rfl⟩ := trodAll_nil h; exact ⟨rfl, rfl⟩
  | t :: ts, vs, ds, ps, h => by
    obtain ⟨v, vs', d, ds', p, q, rfl, rfl, rfl, _, h2⟩ := trodAll_cons h
    have := trodAll_len ts vs' ds' q h2
    exact ⟨by simp [this.1], by simp [this.2]⟩

/-- the arguments read as they did -/
theorem trodAll_below {H : Type} {enc : TypeId × Value → H} {P : Program} {W W' : World} (hl : laidOutB P = true) (hb : Below W.heap.size W W') : ∀ (ts : List TypeId) (vs : List Value) (ds : List (DataW H)) (ps : List MemPlace),
    (ts.all fun t => P.readableRec t && decide (t < P.types.size)) = true → DataW.TrodAll enc P W 0 (fun _ => true) true ts vs ds ps → (∀ x ∈ ps, x.block < W.heap.size) →
    DataW.TrodAll enc P W' 0 (fun b => decide (b < W.heap.size)) true ts vs ds ps
  | [], vs, ds, ps, _, h, _ => by obtain ⟨rfl, rfl, rfl⟩ := trodAll_nil h; exact trodAll_mk0
  | t :: ts, vs, ds, ps, hr, h, hlt => by
    obtain ⟨v, vs', d, ds', p, q, rfl, rfl, rfl, h1, h2⟩ := trodAll_cons h
    simp only [List.all_cons, Bool.and_eq_true, decide_eq_true_eq] at hr
    refine ⟨p, q, Below.trod hl hr.1.1 hr.1.2 h1 hb (fun x hx => hlt x (List.mem_append_left _ hx)), trodAll_below hl hb ts vs' ds' q ?_ h2 (fun x hx => hlt x (List.mem_append_right _ hx)), rfl⟩
    simpa using hr.2

/-- A LAW, OUT OF ITS WALK. -/
theorem lifted {C : Checked} {os : Os} {f : FuncId} {fn : Func} {s : ChangeSpec} {H : Type} {enc : TypeId × Value → H} {tb : TypeId}
    (own : ownKnob C.prog.godebug = none) (started : os.Started) (noInit : C.prog.inits.idxOf? f = none) (hfn : C.prog.funcs[f]? = some fn)
    (witness : ∃ (w : World) (tape : Tape) (i : Input), w.os = os ∧ (w.forCall tape i).Shaped C.prog ∧ i.vars = [] ∧ Input.okWide C.prog (w.forCall tape i) .any w.heap.size f i ∧
      s.pre6 enc C.prog fn [] false (w.forCall tape i).memory i.args ∧ ({} : Assume).holds C.prog (lone (Frame.enter C.prog f i.args .normal) [] (w.forCall tape i)))
    (hl : laidOutB C.prog = true) (hr : (fn.params.toList.all fun t => C.prog.readableRec t && decide (t < C.prog.types.size)) = true)
    (hs : IsLaw s fn.params.size) (hres : fn.resultTypes = #[tb]) (htb : C.prog.underlying tb = some .bool)
    (walk : ∀ (W : World) (base : Nat) (args : Array Value) (ds : List (DataW H)) (ps : List MemPlace),
      (∀ (j : Nat) t v, fn.params[j]? = some t → args[j]? = some v → Value.okWide C.prog W .any base t v) →
      DataW.TrodAll enc C.prog W 0 (fun _ => true) true fn.params.toList args.toList ds ps → (∀ x ∈ ps, x.block < W.heap.size) → W.noneFrozen ps →
      (DataW.weightsEach C.prog fn.params.toList ds).all (· ≤ reachBytes) = true →
      Calls C.prog f args W fun e W' => e = .returned (.bool true) ∧ Below W.heap.size W W') :
    ReturnsInHanded {} C os f .any (s.pre6 enc C.prog fn [] false) (s.post enc C.prog fn false true false false) := by
  refine returnsInHanded_of_change_sized own started noInit hfn witness ?_
  intro W base args ds gs before hval hW _ hsz _
  have hW' := hW
  obtain ⟨p, q, hA, hV, rfl, hfz, hnd⟩ := hW
  rw [hs.1] at hV
  obtain ⟨rfl, rfl⟩ := trodVars_none hV
  have hlt : ∀ x ∈ p, x.block < W.heap.size := fun x hx => hW'.lt x (List.mem_append_left _ hx)
  have hlen := (trodAll_len _ _ _ _ hA).2
  have hS := hs.2 H ds (by simpa using hlen)
  have hz : (DataW.weightsEach C.prog fn.params.toList ds).all (· ≤ reachBytes) = true := by
    have e : s.plain.varTypes C.prog = [] := by
      unfold DataSpec.varTypes ChangeSpec.plain
      simp [hs.1]
    rw [e, List.append_nil, List.append_nil] at hsz
    exact hsz
  have hfz' : W.noneFrozen p := by simpa using hfz
  refine (walk W base args ds p hval hA hlt hfz' hz).mono fun e W' ⟨he, hb⟩ => ?_
  subst he
  refine ⟨_, rfl, ds, [], p ++ [], [], p, [], hW', ?_, ?_, ?_, hb.frame _, fun h => by cases h⟩
  · rw [hS.1, hres]
    exact trodAll_mk1 (shut_bool htb true)
  · rw [hS.2.1]
    exact trodAll_below hl hb _ _ _ _ hr hA hlt
  · rw [hS.2.2, hs.1]; rfl

/-- an array of whole numbers that came in by value -/
theorem open_array_int {H : Type} {enc : TypeId × Value → H} {P : Program} {w : World} {base : Nat} {sp : Nat → Bool} {held : Bool} {r : Reach} {b0 : Nat} {t e : TypeId} {n : Nat} {k : IntKind} {v : Value} {d : DataW H} {ps : List MemPlace}
    (ht : P.underlying t = some (.array n e)) (he : P.underlying e = some (.int k)) (hc : P.cellsOf e = 1) (hval : Value.okWide P w r b0 t v) (hd : DataW.Trod enc P w base sp held t v d ps) (hct : P.cellsOf t = n) :
    ∃ zs : List Int, zs.length = n ∧ v = .agg (zs.map (Value.int k)).toArray ∧ ∀ z ∈ zs, (Lit.int k z).wf = true := by
  have hv : ∃ cs, v = .agg cs ∧ cs.size = P.cellsOf t ∧ Row.okWide P w r b0 t cs := by
    simpa only [Value.okWide, ht] using hval
  obtain ⟨cs, rfl, hsize, _⟩ := hv
  obtain ⟨fuel, hf⟩ := hd
  obtain ⟨xs, m, _, _, hlen, hxs, hi⟩ := DataW.trod_array ht hf
  simp only [Value.cells] at hlen hi hsize
  have key : ∀ i, i < n → ∃ z : Int, cs[i]? = some (Value.int k z) ∧ (Lit.int k z).wf = true := by
    intro i hin
    have h := hi i hin
    have hxi : i < xs.length := by omega
    rw [List.getElem?_eq_getElem hxi] at h
    obtain ⟨z, hz, _, hw⟩ := DataW.trod_int he h
    rw [hc, Nat.mul_one] at hz
    refine ⟨z, ?_, hw⟩
    have h2 : ((cs.toList.drop i).take 1)[0]? = some (Value.int k z) := by rw [hz]; rfl
    simpa using h2
  refine ⟨(List.range n).map fun i => RowKit.intOf (cs.getD i undef), by simp, ?_, ?_⟩
  · congr 1
    apply Array.ext
    · simp; omega
    · intro i h1 h2
      obtain ⟨z, hz, _⟩ := key i (by omega)
      rw [Array.getElem?_eq_getElem h1] at hz
      simp only [List.getElem_toArray, List.getElem_map, List.getElem_range]
      have e : cs.getD i undef = cs[i] := by simp [Array.getD, h1]
      rw [e, Option.some.inj hz]
      rfl
  · intro z hz
    simp only [List.mem_map, List.mem_range] at hz
    obtain ⟨i, hin, rfl⟩ := hz
    obtain ⟨z, hz, hw⟩ := key i hin
    have h1 : i < cs.size := by omega
    have e : cs.getD i undef = cs[i] := by simp [Array.getD, h1]
    rw [Array.getElem?_eq_getElem h1] at hz
    rw [e, Option.some.inj hz]
    exact hw
theorem u8_of {x : Int} (wx : (Lit.int .u8 x).wf = true) : ∃ y : UInt8, x = (y.toNat : Int) := by
  simp only [Lit.wf, IntKind.min, IntKind.max, IntKind.signed, IntKind.bits, Bool.and_eq_true] at wx
  refine ⟨UInt8.ofNat x.toNat, ?_⟩
  rw [UInt8.toNat_ofNat']
  simp at wx
  omega
theorem u64_nat {x : Int} (wx : (Lit.int .u64 x).wf = true) : ∃ n : Nat, x = (n : Int) ∧ n < 18446744073709551616 := by
  simp only [Lit.wf, IntKind.min, IntKind.max, IntKind.signed, IntKind.bits, Bool.and_eq_true] at wx
  exact ⟨x.toNat, by simp at wx; omega, by simp at wx; omega⟩
end Go.Proofs.YtadmecjdihfmeaaGreat.LawFrame
