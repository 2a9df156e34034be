/- Two calls that come up side by side in a region that draws its order: one proof for both orders. Of no program. -/
import Derived.Deep.RegionHeld3
import Derived.WalkKit
namespace Go.Proofs.YtadmecjdihfmeaaGreat.Pair
set_option linter.unusedVariables false
set_option linter.unusedSimpArgs false
open Go.RowKit
variable {P : Program} {md : Region.Mode} {ops : Array Oper} {Q : Exit → Act → World → Prop} {S : World → Prop}

/-- what an operation gives wherever S holds -/
def Gives (P : Program) (ops : Array Oper) (Q : Exit → Act → World → Prop) (S : World → Prop) (Step : World → World → Prop) (o : Oper) (a : Act) (R : World → Value → Prop) : Prop :=
  ∀ w, S w → ∀ K : Act → World → Prop, (∀ v w', R w' v → S w' → Step w w' → K (a.put o.dst v) w') → (if Region.wanted o (yielded ops a.tmps) = true then Oper.wp P o a w K Q else K (a.put o.dst undef) w)

theorem one {i : Nat} {oi : Oper} {fuel : Nat} {listed : Array Bool} {a : Act} {w : World} {Step : World → World → Prop} {R : World → Value → Prop} (hi : ops[i]? = some oi) (hr : Region.ready md ops listed = [i]) (hS : S w)
    (c : Gives P ops Q S Step oi a R) (h : ∀ v w', R w' v → S w' → Step w w' → wpAnyH P md ops Q S fuel (listed.setIfInBounds i true) (a.put oi.dst v) w') : wpAnyH P md ops Q S (fuel + 1) listed a w :=
  wpAnyH_ready hr (by simp) (AllReadyH.cons hi (fun K hK => c w hS K (fun v w' h1 h2 h3 => hK.out _ _ h2 (fun _ => h v w' h1 h2 h3))) AllReadyH.nil)

theorem two {i j : Nat} {oi oj : Oper} {di dj : Tmp} {n fuel : Nat} {listed : Array Bool} {a : Act} {w : World} {Step : World → World → Prop} {Ri Rj : World → Value → Prop} (hn : n = fuel + 2) (hi : ops[i]? = some oi) (hj : ops[j]? = some oj) (hij : i ≠ j)
    (ei : oi.dst = some di) (ej : oj.dst = some dj) (hd : di ≠ dj)
    (hr : Region.ready md ops listed = [i, j]) (hr1 : Region.ready md ops (listed.setIfInBounds i true) = [j]) (hr2 : Region.ready md ops (listed.setIfInBounds j true) = [i]) (hS : S w)
    (ci : Gives P ops Q S Step oi a Ri) (ci' : ∀ v, Gives P ops Q S Step oi (a.put oj.dst v) Ri) (cj : Gives P ops Q S Step oj a Rj) (cj' : ∀ v, Gives P ops Q S Step oj (a.put oi.dst v) Rj)
    (si : ∀ w w' v, Ri w v → Step w w' → Ri w' v) (sj : ∀ w w' v, Rj w v → Step w w' → Rj w' v)
    (h : ∀ vi vj w', S w' → Ri w' vi → Rj w' vj → wpAnyH P md ops Q S fuel ((listed.setIfInBounds i true).setIfInBounds j true) ((a.put oi.dst vi).put oj.dst vj) w') : wpAnyH P md ops Q S n listed a w := by
  subst hn
  refine wpAnyH_ready hr (by simp) (AllReadyH.cons hi (fun K hK => ?_) (AllReadyH.cons hj (fun K hK => ?_) AllReadyH.nil))
  · refine ci w hS K (fun v w' h1 h2 h3 => hK.out _ _ h2 (fun _ => ?_))
    exact one hj hr1 h2 (cj' v) (fun v' w'' k1 k2 k3 => h v v' w'' k2 (si _ _ _ h1 k3) k1)
  · refine cj w hS K (fun v w' h1 h2 h3 => hK.out _ _ h2 (fun _ => ?_))
    refine one hi hr2 h2 (ci' v) (fun v' w'' k1 k2 k3 => ?_)
    have := h v' v w'' k2 k1 (sj _ _ _ h1 k3)
    have e1 : (listed.setIfInBounds j true).setIfInBounds i true = (listed.setIfInBounds i true).setIfInBounds j true := Array.setIfInBounds_comm _ _ (Ne.symm hij)
    have e2 : (a.put oj.dst v).put oi.dst v' = (a.put oi.dst v').put oj.dst v := by
      rw [ei, ej]
      simp only [Act.put]
      rw [Array.setIfInBounds_comm _ _ (Ne.symm hd)]
    rw [e1, e2]
    exact this

/-! ### a region's script: one operation, as it stands in the list, with its slot told -/
theorem take {i n fuel : Nat} {d : Tmp} {oi : Oper} {v : Value} {listed : Array Bool} {a : Act} {w : World} (hn : n = fuel + 1) (hi : ops.toList[i]? = some oi) (hd : oi.dst = some d)
    (hs : Region.noSelect ops = true) (hf : Region.free md ops listed i = true) (hr : (Region.ready md ops listed).contains i = true)
    (hQ : ∀ c a w, Q (.panic c) (a.put oi.dst v) w → Q (.panic c) a w) (hy : YieldsIf P ops S oi v a) (hS : S w)
    (h : wpAnyH P md ops Q S fuel (listed.setIfInBounds i true) { tmps := a.tmps.setIfInBounds d v, defers := a.defers } w) : wpAnyH P md ops Q S n listed a w := by
  subst hn
  refine wpAnyH_take (i := i) (oi := oi) (v := v) (by rw [← hi, Array.getElem?_toList]) hs hf hr hQ hy hS ?_
  rw [hd]
  exact h
theorem call1 {i n fuel : Nat} {oi : Oper} {listed : Array Bool} {a : Act} {w : World} (hn : n = fuel + 1) (hi : ops.toList[i]? = some oi) (hr : Region.ready md ops listed = [i])
    (h : ∀ K' : Act → World → Prop, Shut (∀ a w, S w → (S w → wpAnyH P md ops Q S fuel (listed.setIfInBounds i true) a w) → K' a w) → if Region.wanted oi (yielded ops a.tmps) = true then Oper.wp P oi a w K' Q else K' (a.put oi.dst undef) w) : wpAnyH P md ops Q S n listed a w := by
  subst hn
  exact wpAnyH_ready hr (by simp) (AllReadyH.cons (by rw [← hi, Array.getElem?_toList]) h AllReadyH.nil)
end Go.Proofs.YtadmecjdihfmeaaGreat.Pair
