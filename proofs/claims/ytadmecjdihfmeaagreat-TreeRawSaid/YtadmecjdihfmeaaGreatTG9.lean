/- TreAns TreRefP TreRefL TreLess: several texts of one proof, laid as one file (a claim has at most 60 files). No condition. -/
import Derived.Test.YtadmecjdihfmeaaGreatTG8
import Derived.Test.YtadmecjdihfmeaaGreatTG3
import Derived.Test.YtadmecjdihfmeaaGreatTG7
import Derived.BigQuiet
/- Layer 7 in plain Lean: what Range and Check answer. -/
namespace Go.Proofs.YtadmecjdihfmeaaGreat.Tre
set_option linter.unusedVariables false
set_option linter.unusedSimpArgs false
open Go.RowKit Go.Proofs.YtadmecjdihfmeaaGreat.Mem Go.Proofs.YtadmecjdihfmeaaGreat.Oct Go.Proofs.YtadmecjdihfmeaaGreat.Dev Go.Proofs.YtadmecjdihfmeaaGreat.Sto

def inR (frm upt : ByteArray) (x : En) : Bool := !lt x.1 frm && (upt.toList.isEmpty || lt x.1 upt)
def rangeE (l : List En) (frm upt : ByteArray) (most : Int) : List En := (l.filter (inR frm upt)).take most.toNat
theorem take_take_append {α : Type} (n : Nat) (a b : List α) : (a.take n ++ b).take n = (a ++ b).take n := by
  by_cases h : a.length ≤ n
  · rw [List.take_of_length_le h]
  · have h1 : (a.take n).length = n := by rw [List.length_take]; omega
    rw [List.take_append_of_le_length (by omega), List.take_append_of_le_length (by omega), List.take_take, Nat.min_self]
theorem take_full {α : Type} {n : Nat} {a : List α} (b : List α) (h : a.length = n) : (a ++ b).take n = a := by
  rw [List.take_append_of_le_length (by omega), List.take_of_length_le (by omega)]
theorem inR_stop {frm upt k : ByteArray} {l : List En} (hu : upt.toList.isEmpty = false) (hk : lt k upt = false) (h : ∀ y ∈ l, lt y.1 k = false) : l.filter (inR frm upt) = [] := by
  refine filter_none (fun y hy => ?_)
  have h1 : lt y.1 upt = false := by
    cases h2 : lt y.1 upt with
    | false => rfl
    | true =>
      have := lt_of_le (h y hy) h2
      rw [this] at hk
      cases hk
  unfold inR
  rw [hu, h1]
  simp
/-- no entry below items is less than the first key -/
theorem ents_ge {S : StS} {D : DevS} {lv : Nat} {x : It} {l : List It} (h : OkF S D lv (x :: l)) (hs : SortE (entsF S D lv (x :: l))) : ∀ y ∈ entsF S D lv (x :: l), lt y.1 x.key = false := by
  intro y hy
  obtain ⟨v, t, e⟩ := entsF_head h (by simp)
  rw [e] at hy hs
  have hh : headK (x :: l) = x.key := rfl
  rw [hh] at hy hs
  rcases List.mem_cons.1 hy with rfl | hy
  · exact lt_irrefl _
  · exact lt_asymm ((List.pairwise_cons.1 hs).1 y hy)
theorem walk_ok {S : StS} {D : DevS} (frm upt : ByteArray) (most : Int) (hm : 0 < most) : ∀ (f : Nat) (l : List It) (out : List En), OkF S D f l → SortE (entsF S D f l) → out.length ≤ most.toNat → walkF S D frm upt most f l out = (0, (out ++ (entsF S D f l).filter (inR frm upt)).take most.toNat)
  | f, [], out, _, _, ho => by
    rw [walk_nil, show entsF S D f [] = [] from rfl, List.filter_nil, List.append_nil, List.take_of_length_le ho]
  | 0, x :: l, out, h, hs, ho => by
    have hx0 : entsF S D 0 (x :: l) = (x.key, x.val) :: entsF S D 0 l := by rw [entsF_cons]; rfl
    have hge := ents_ge h hs
    rw [walk_leaf]
    by_cases hst : stopW upt most x out = true
    · rw [if_pos hst]
      unfold stopW at hst
      rcases Bool.or_eq_true_iff.1 hst with h1 | h1
      · have : out.length = most.toNat := by have := of_decide_eq_true h1; omega
        rw [take_full _ this]
      · simp only [Bool.and_eq_true, Bool.not_eq_true'] at h1
        rw [inR_stop h1.1 h1.2 hge, List.append_nil, List.take_of_length_le ho]
    · rw [if_neg hst]
      have hs2 := hs
      rw [hx0] at hs2
      have hnm : ¬ most ≤ (out.length : Int) := fun hc => hst (by unfold stopW; simp [hc])
      have ih := fun o ho' => walk_ok frm upt most hm 0 l o (fun y hy => h y (by simp [hy])) (List.pairwise_cons.1 hs2).2 ho'
      cases hlf : lt x.key frm with
      | true =>
        rw [if_pos rfl, ih out ho, hx0, List.filter_cons]
        have : inR frm upt (x.key, x.val) = false := by unfold inR; simp [hlf]
        rw [this]
        rfl
      | false =>
        rw [if_neg (by decide), ih _ (by rw [List.length_append]; simp; omega), hx0, List.filter_cons]
        have : inR frm upt (x.key, x.val) = true := by
          unfold inR
          rw [hlf]
          cases hu : upt.toList.isEmpty with
          | true => simp
          | false =>
            cases hk : lt x.key upt with
            | true => simp
            | false => exact absurd (by unfold stopW; rw [hu, hk]; simp) hst
        rw [this]
        simp
  | f + 1, x :: l, out, h, hs, ho => by
    have hx0 : entsF S D (f + 1) (x :: l) = itE S D (f + 1) x ++ entsF S D (f + 1) l := entsF_cons _ _ _ _ _
    have hge := ents_ge h hs
    rw [walk_node]
    by_cases hst : stopW upt most x out = true
    · rw [if_pos hst]
      unfold stopW at hst
      rcases Bool.or_eq_true_iff.1 hst with h1 | h1
      · have : out.length = most.toNat := by have := of_decide_eq_true h1; omega
        rw [take_full _ this]
      · simp only [Bool.and_eq_true, Bool.not_eq_true'] at h1
        rw [inR_stop h1.1 h1.2 hge, List.append_nil, List.take_of_length_le ho]
    · rw [if_neg hst]
      have hs2 := hs
      rw [hx0] at hs2
      have hl := fun y (hy : y ∈ l) => h y (by simp [hy])
      have ih := fun o ho' => walk_ok frm upt most hm (f + 1) l o hl hs2.parts.2 ho'
      by_cases hsk : skipW frm l = true
      · rw [if_pos hsk, ih out ho, hx0, List.filter_append]
        have : (itE S D (f + 1) x).filter (inR frm upt) = [] := by
          match l, hsk with
          | y :: l', hsk =>
            have hyk : lt frm y.key = false := by simpa [skipW] using hsk
            refine filter_none (fun z hz => ?_)
            obtain ⟨v, t, e⟩ := entsF_head (S := S) (D := D) (lv := f + 1) (l := y :: l') hl (by simp)
            have h3 := (List.pairwise_append.1 hs2).2.2 z hz (headK (y :: l'), v) (by rw [e]; simp)
            have h4 : lt z.1 frm = true := lt_lt_of h3 hyk
            unfold inR
            rw [h4]
            rfl
        rw [this, List.nil_append]
      · rw [if_neg hsk]
        obtain ⟨k, h1, h2, h3, h4, h5, h6, h7, _⟩ := (h x (by simp)).succ
        rw [belowF_of h1 h2]
        dsimp only
        have hk := walk_ok frm upt most hm f k.items out h5 (by rw [h7] at hs2; exact hs2.parts.1) ho
        rw [hk, if_neg (show ¬ (0 : Int) ≠ 0 by decide)]
        dsimp only
        rw [ih _ (by rw [List.length_take]; omega), take_take_append, hx0, h7, List.filter_append, List.append_assoc]
theorem RangeF_ok {S : StS} {D : DevS} {root : Int} {es : List En} (h : Tree S D root es) (frm upt : ByteArray) (most : Int) : RangeF S D root frm upt most = (0, rangeE es frm upt most) := by
  unfold RangeF
  by_cases h0 : root = 0 ∨ most ≤ 0
  · rw [if_pos h0]
    unfold rangeE
    rcases h0 with h0 | h0
    · rw [h.nil h0]; simp
    · rw [show most.toNat = 0 by omega]; simp
  · rw [if_neg h0]
    have hr0 : root ≠ 0 := fun e => h0 (.inl e)
    obtain ⟨nd, hr⟩ := h.node hr0
    rw [hr.load]
    dsimp only
    rw [walk_ok frm upt most (by omega) nd.level nd.items [] hr.ok (by rw [hr.ents]; exact h.sort) (by simp), if_neg (show ¬ (0 : Int) ≠ 0 by decide), hr.ents]
    rfl
theorem late_no {S : StS} {D : DevS} {lv : Nat} {l : List It} {stop : ByteArray} (h : OkF S D lv l) (hl : l ≠ []) (hs : stop.toList.isEmpty = true ∨ ∀ y ∈ entsF S D lv l, lt y.1 stop = true) : lateC stop l = false := by
  unfold lateC
  rcases hs with hs | hs
  · rw [hs]; rfl
  · have hm : l.getLast hl ∈ l := List.getLast_mem hl
    obtain ⟨v, t, e⟩ := itE_head lv _ (h _ hm)
    have := hs ((l.getLast hl).key, v) (List.mem_flatMap.2 ⟨_, hm, by rw [e]; simp⟩)
    have e2 : l.getLast? = some (l.getLast hl) := by first | exact List.getLast?_eq_some_getLast hl | exact List.getLast?_eq_getLast hl | exact List.getLast?_eq_getLast l hl
    rw [e2]
    dsimp only [Option.getD_some]
    rw [this]
    simp
theorem checked_ok {S : StS} {D : DevS} : ∀ (f : Nat) (l : List It) (stop : ByteArray), OkF S D f l → SortE (entsF S D f l) → l ≠ [] → (stop.toList.isEmpty = true ∨ ∀ y ∈ entsF S D f l, lt y.1 stop = true) → checkedF S D f l stop = (0, (entsF S D f l).length)
  | 0, l, stop, h, hs, hl, hst => by
    unfold checkedF
    rw [late_no h hl hst, if_neg (by decide)]
    congr 1
    unfold entsF
    induction l with
    | nil => rfl
    | cons x l ih =>
      rw [List.flatMap_cons, List.length_append, List.length_cons]
      by_cases hl0 : l = []
      · subst hl0; simp [itE]
      · have := ih (fun y hy => h y (by simp [hy])) (by rw [entsF_cons] at hs; exact hs.parts.2) hl0 (by
          rcases hst with hst | hst
          · exact .inl hst
          · exact .inr (fun y hy => hst y (by rw [entsF_cons]; simp [hy])))
        rw [← this]
        simp [itE]
        omega
  | f + 1, l, stop, h, hs, hl, hst => by
    unfold checkedF
    rw [late_no h hl hst, if_neg (by decide)]
    have key : ∀ (l : List It) (sum : Nat), OkF S D (f + 1) l → SortE (entsF S D (f + 1) l) → (stop.toList.isEmpty = true ∨ ∀ y ∈ entsF S D (f + 1) l, lt y.1 stop = true) → nodeC (checkedF S D f) (belowF S D (f + 1)) stop l sum = (0, sum + (entsF S D (f + 1) l).length) := by
      intro l
      induction l with
      | nil => intro sum _ _ _; simp [nodeC, entsF]
      | cons x l ih =>
        intro sum h hs hst
        obtain ⟨k, h1, h2, h3, h4, h5, h6, h7, _⟩ := (h x (by simp)).succ
        have hx0 : entsF S D (f + 1) (x :: l) = entsF S D f k.items ++ entsF S D (f + 1) l := by rw [entsF_cons, h7]
        rw [hx0] at hs hst
        rw [nodeC, belowF_of h1 h2]
        dsimp only
        have hne : ¬ (k.items.length < 4 ∨ (k.items[0]?.getD default).key ≠ x.key) := by
          rintro (hc | hc)
          · omega
          · exact hc h4
        rw [if_neg hne]
        have hkn : k.items ≠ [] := fun e => by rw [e] at h3; simp at h3
        have hc := checked_ok f k.items (nextK stop l) h5 hs.parts.1 hkn (by
          match l with
          | [] =>
            rcases hst with hst | hst
            · exact .inl hst
            · exact .inr (fun y hy => hst y (by simp [hy]))
          | y :: l' =>
            right
            intro z hz
            obtain ⟨v, t, e⟩ := entsF_head (S := S) (D := D) (lv := f + 1) (l := y :: l') (fun q hq => h q (by simp [hq])) (by simp)
            exact (List.pairwise_append.1 hs).2.2 z hz (headK (y :: l'), v) (by rw [e]; simp))
        rw [hc, if_neg (show ¬ (0 : Int) ≠ 0 by decide)]
        dsimp only
        rw [ih _ (fun q hq => h q (by simp [hq])) hs.parts.2 (by
          rcases hst with hst | hst
          · exact .inl hst
          · exact .inr (fun y hy => hst y (by simp [hy]))), hx0, List.length_append]
        congr 1
        omega
    rw [key l 0 h hs hst, Nat.zero_add]
theorem CheckF_ok {S : StS} {D : DevS} {root : Int} {es : List En} (h : Tree S D root es) : CheckF S D root = (0, es.length) := by
  unfold CheckF
  by_cases h0 : root = 0
  · rw [if_pos h0, h.nil h0]; rfl
  · rw [if_neg h0]
    obtain ⟨nd, hr⟩ := h.node h0
    rw [hr.load]
    dsimp only
    have h2 := hr.two
    rw [if_neg (by omega), checked_ok nd.level nd.items nil8 hr.ok (by rw [hr.ents]; exact h.sort) (fun e => by have := hr.nd.len; rw [e] at this; simp at this) (.inl (by rw [toList_data]; rfl)), hr.ents]
end Go.Proofs.YtadmecjdihfmeaaGreat.Tre

/- Layer 7 in plain Lean: the reference's list. -/
namespace Go.Proofs.YtadmecjdihfmeaaGreat.Tre
set_option linter.unusedVariables false
set_option linter.unusedSimpArgs false
open Go.RowKit Go.Proofs.YtadmecjdihfmeaaGreat.Mem Go.Proofs.YtadmecjdihfmeaaGreat.Oct Go.Proofs.YtadmecjdihfmeaaGreat.Dev Go.Proofs.YtadmecjdihfmeaaGreat.Sto

def nek (key : ByteArray) (x : En) : Bool := !(x.1.toList == key.toList)
/-- what the reference's Put adds, from an entry on -/
def refPutL (key val : ByteArray) : Bool → List En → List En
  | done, [] => if done = true then [] else [(key, val)]
  | done, x :: l => (if (!done && !lt x.1 key) = true then [(key, val)] else []) ++ ((if nek key x = true then [x] else []) ++ refPutL key val (done || !lt x.1 key) l)
/-- what the reference's Range adds -/
def refRangeL (frm upt : ByteArray) (most : Int) : List En → List En → List En
  | out, [] => out
  | out, x :: l => refRangeL frm upt most (if (decide ((out.length : Int) < most) && inR frm upt x) = true then out ++ [x] else out) l
theorem nek_iff {key : ByteArray} {x : En} : nek key x = true ↔ x.1 ≠ key := by
  unfold nek
  rw [Bool.not_eq_true', Bool.eq_false_iff]
  exact not_congr key_eq
theorem nek_lt {key : ByteArray} {x : En} (h : lt x.1 key = true) : nek key x = true := nek_iff.2 (lt_ne h)
theorem nek_gt {key : ByteArray} {x : En} (h : lt key x.1 = true) : nek key x = true := nek_iff.2 (fun e => lt_ne h e.symm)
theorem refDel_ok {key : ByteArray} : ∀ {l : List En}, SortE l → l.filter (nek key) = delE l key
  | [], _ => rfl
  | x :: l, h => by
    have h2 := List.pairwise_cons.1 h
    cases h1 : lt x.1 key with
    | true =>
      have ih := refDel_ok (key := key) h2.2
      unfold delE at ih ⊢
      rw [List.filter_cons, if_pos (nek_lt h1), ih, List.filter_cons, List.filter_cons, h1, lt_asymm h1]
      rfl
    | false =>
      have hall : ∀ y ∈ l, lt key y.1 = true := fun y hy => lt_of_le h1 (h2.1 y hy)
      have e1 : l.filter (nek key) = l := filter_all (fun y hy => nek_gt (hall y hy))
      unfold delE
      rw [List.filter_cons, e1, List.filter_cons, List.filter_cons, h1, filter_all hall, filter_none (l := l) (p := fun x => lt x.1 key) (fun y hy => lt_asymm (hall y hy))]
      cases h3 : lt key x.1 with
      | true => rw [if_pos (nek_gt h3)]; rfl
      | false =>
        have : nek key x = false := by
          cases h4 : nek key x with
          | false => rfl
          | true => exact absurd (lt_tri h1 h3) (nek_iff.1 h4)
        rw [this]; rfl
theorem refPut_done {key val : ByteArray} : ∀ (l : List En), refPutL key val true l = l.filter (nek key)
  | [] => rfl
  | x :: l => by
    unfold refPutL
    rw [Bool.true_or, refPut_done l, List.filter_cons]
    cases nek key x <;> rfl
theorem refPut_ok {key val : ByteArray} : ∀ {l : List En}, SortE l → refPutL key val false l = putE l key val
  | [], _ => rfl
  | x :: l, h => by
    have h2 := List.pairwise_cons.1 h
    unfold refPutL
    cases h1 : lt x.1 key with
    | true =>
      have ih := refPut_ok (key := key) (val := val) h2.2
      have e : (false || !true) = false := rfl
      rw [e, ih, if_pos (nek_lt h1)]
      unfold putE
      rw [List.filter_cons, List.filter_cons, h1, lt_asymm h1]
      rfl
    | false =>
      have hall : ∀ y ∈ l, lt key y.1 = true := fun y hy => lt_of_le h1 (h2.1 y hy)
      have e : (false || !false) = true := rfl
      rw [e, refPut_done, filter_all (fun y hy => nek_gt (hall y hy))]
      unfold putE
      rw [List.filter_cons, List.filter_cons, h1, filter_all hall, filter_none (l := l) (p := fun x => lt x.1 key) (fun y hy => lt_asymm (hall y hy))]
      cases h3 : lt key x.1 with
      | true => rw [if_pos (nek_gt h3)]; rfl
      | false =>
        have : nek key x = false := by
          cases h4 : nek key x with
          | false => rfl
          | true => exact absurd (lt_tri h1 h3) (nek_iff.1 h4)
        rw [this]; rfl
theorem refRange_go (frm upt : ByteArray) (most : Int) : ∀ (l out : List En), out.length ≤ most.toNat → refRangeL frm upt most out l = (out ++ l.filter (inR frm upt)).take most.toNat
  | [], out, h => by
    unfold refRangeL
    rw [List.filter_nil, List.append_nil, List.take_of_length_le h]
  | x :: l, out, h => by
    unfold refRangeL
    cases hx : inR frm upt x with
    | false =>
      rw [Bool.and_false, if_neg (by decide), refRange_go frm upt most l out h, List.filter_cons, hx]
      rfl
    | true =>
      rw [List.filter_cons, hx, if_pos rfl]
      by_cases hm : (out.length : Int) < most
      · rw [if_pos (by simp [hm]), refRange_go frm upt most l _ (by rw [List.length_append]; simp; omega)]
        simp
      · rw [if_neg (by simp [hm]), refRange_go frm upt most l out h]
        have hl : out.length = most.toNat := by omega
        rw [take_full _ hl, take_full _ hl]
theorem refRange_ok (frm upt : ByteArray) (most : Int) (l : List En) : refRangeL frm upt most [] l = rangeE l frm upt most := by
  rw [refRange_go frm upt most l [] (by simp)]
  rfl
end Go.Proofs.YtadmecjdihfmeaaGreat.Tre

/- Layer 7: the reference's Key, Val, Get, Del. -/
namespace Go.Proofs.YtadmecjdihfmeaaGreat.Tre
set_option linter.unusedVariables false
set_option linter.unusedSimpArgs false
set_option maxRecDepth 100000
open Go.RowKit Go.Lib Go.Proofs.YtadmecjdihfmeaaGreat.Mem Go.Proofs.YtadmecjdihfmeaaGreat.Oct Go.Proofs.YtadmecjdihfmeaaGreat.Dev Go.Proofs.YtadmecjdihfmeaaGreat.Sto

theorem refKey_any (k : ByteArray) (w : World) : Calls Tryz.prog 38 #[.string k] w fun e w' => e = .returned (.bool (rightK k)) ∧ w' = w := by
  by_cases h1 : 1 ≤ (k.size : Int)
  · have hr : rightK k = decide ((k.size : Int) ≤ 64) := by
      unfold rightK
      rw [Bool.eq_iff_iff]
      simp only [Bool.and_eq_true, decide_eq_true_eq]
      omega
    rw [hr]
    clear hr
    go_enter Tryz.func38, Tryz.ntmps38
    go_wp2
    all_goals (go_ret; exact ⟨rfl, rfl⟩)
  · have hr : rightK k = false := by
      unfold rightK
      rw [Bool.and_eq_false_iff]
      left
      simp only [decide_eq_false_iff_not]
      omega
    rw [hr]
    clear hr
    go_enter Tryz.func38, Tryz.ntmps38
    go_wp2
    all_goals (go_ret; exact ⟨rfl, rfl⟩)
theorem refVal_any (k : ByteArray) (w : World) : Calls Tryz.prog 39 #[.string k] w fun e w' => e = .returned (.bool (decide (k.size ≤ 300))) ∧ w' = w := by
  have hs : k.size = k.toList.length := by rw [toList_data, Array.length_toList]; rfl
  rw [hs]
  go_enter Tryz.func39, Tryz.ntmps39
  go_wp2
  go_ret
  exact ⟨by simp; try omega, rfl⟩
theorem getE_cons (x : En) (l : List En) (key : ByteArray) : getE (x :: l) key = if (x.1.toList == key.toList) = true then some x.2 else getE l key := by
  unfold getE
  rw [List.find?_cons]
  cases x.1.toList == key.toList <;> rfl
def RefGetIs (w : World) (r : Option ByteArray) (e : Ending) (w' : World) : Prop := e = .returned (.tuple #[.string (valOf (.ok r)).1, .bool (valOf (.ok r)).2]) ∧ Below w.heap.size w w'
set_option maxHeartbeats 4000000 in
theorem refGet_any (p : Nat → Prop) (w : World) (v : Value) (l : List En) (key : ByteArray) (h : Ents p w v l) :
    Calls Tryz.prog 22 #[v, .string key] w (RefGetIs w (getE l key)) := by
  obtain ⟨a, c, rfl, hlen⟩ := h.form
  have H : Hid (Ents p w (.slice a l.length c) l) := h
  clear h
  go_enter Tryz.func22, Tryz.ntmps22
  go_wp2_with fail
  go_loopw [10] (fun v10 wr => ∃ j : Nat, j ≤ l.length ∧ v10 = .int .i64 j ∧ Hid (getE (l.drop j) key = getE l key ∧ Below w.heap.size w wr)) (fun v10 _ => l.length - (intOf v10).toNat)
  case atStart => exact ⟨0, by omega, rfl, rfl, Below.refl _ _⟩
  case round =>
    obtain ⟨j, hj, rfl, HT⟩ := hrel
    by_cases hlt : j < l.length
    · have hlt' : (j : Int) < (l.length : Int) := by omega
      obtain ⟨b, o, rfl, _, q0, q1⟩ := (H.out.on HT.out.2).at j hlt
      obtain ⟨x, hx⟩ : ∃ x, x = l[j] := ⟨_, rfl⟩
      rw [← hx] at q0 q1
      have HG : Hid (getE (x :: l.drop (j + 1)) key = getE l key) := by have := HT.out.1; rw [List.drop_eq_getElem_cons hlt, ← hx] at this; exact this
      have HB : Hid (Below w.heap.size w (wr.alloc (.cells #[.string x.1, .string x.2] 41))) := HT.out.2.alloc HT.out.2.size _
      clear hx HT
      cases hk : (x.1.toList == key.toList) with
      | true =>
        have HR : Hid (getE l key = some x.2) := by rw [← HG.out, getE_cons, hk]; rfl
        clear HG
        go_wp2_with fail
        go_ret2
        exact ⟨by rw [HR.out]; rfl, HB.out⟩
      | false =>
        have HR : Hid (getE (l.drop (j + 1)) key = getE l key) := by have := HG.out; rw [getE_cons, hk] at this; exact this
        clear HG
        go_wp2_with fail
        go_roundw
        case rel => exact ⟨j + 1, by omega, by go_num, HR.out, HB.out⟩
        case measure => simp [intOf]; omega
    · have HR : Hid (getE l key = none) := by have := HT.out.1; rw [List.drop_of_length_le (by omega)] at this; exact this.symm
      have hlt' : ¬ (j : Int) < (l.length : Int) := by omega
      go_wp2_with fail
      go_ret2
      exact ⟨by rw [HR.out]; rfl, HT.out.2⟩
def EntsIs (w : World) (l : List En) (e : Ending) (w' : World) : Prop := ∃ v, e = .returned v ∧ OwnE w.heap.size w' v l ∧ Below w.heap.size w w'
set_option maxHeartbeats 8000000 in
theorem refDel_any (p : Nat → Prop) (w : World) (v : Value) (l : List En) (key : ByteArray) (h : Ents p w v l) (hp : ∀ q, p q → q < w.heap.size) (hl : l.length ≤ 1048576) :
    Calls Tryz.prog 41 #[v, .string key] w (EntsIs w (l.filter (nek key))) := by
  obtain ⟨a, c, rfl, hlen⟩ := h.form
  have H : Hid (Ents p w (.slice a l.length c) l ∧ ∀ q, p q → q < w.heap.size) := ⟨h, hp⟩
  clear h hp
  go_enter Tryz.func41, Tryz.ntmps41
  go_wp2_with fail
  go_loopw [5, 10] (fun v5 v10 wr => ∃ j : Nat, j ≤ l.length ∧ v10 = .int .i64 j ∧ Hid (OwnE w.heap.size wr v5 ((l.take j).filter (nek key)) ∧ Below w.heap.size w wr)) (fun _ v10 _ => l.length - (intOf v10).toNat)
  case atStart => exact ⟨0, by omega, rfl, by have := OwnE.nil w.heap.size w; simpa using this, Below.refl _ _⟩
  case round =>
    obtain ⟨j, hj, rfl, HT⟩ := hrel
    by_cases hlt : j < l.length
    · have hlt' : (j : Int) < (l.length : Int) := by omega
      obtain ⟨b, o, rfl, _, q0, q1⟩ := (H.out.1.on HT.out.2).at j hlt
      obtain ⟨x, hx⟩ : ∃ x, x = l[j] := ⟨_, rfl⟩
      rw [← hx] at q0 q1
      have hol : ((l.take j).filter (nek key)).length ≤ 1048576 := Nat.le_trans (List.length_filter_le _ _) (by rw [List.length_take]; omega)
      have hst : (l.take (j + 1)).filter (nek key) = (l.take j).filter (nek key) ++ (if nek key x = true then [x] else []) := by
        rw [List.take_succ_eq_append_getElem hlt, List.filter_append, ← hx, List.filter_cons]
        rfl
      obtain ⟨w1, hw1⟩ : ∃ w1, w1 = wr.alloc (.cells #[.string x.1, .string x.2] 41) := ⟨_, rfl⟩
      have hb1 : Below wr.heap.size wr w1 := by rw [hw1]; exact (Below.refl _ _).alloc (Nat.le_refl _) _
      have H1 : Hid (OwnE w.heap.size w1 u5 ((l.take j).filter (nek key)) ∧ Below w.heap.size w w1) := ⟨HT.out.1.on hb1, HT.out.2.trans (hb1.mono HT.out.2.size)⟩
      clear hx HT hb1
      cases hk : nek key x with
      | true =>
        have HR : Hid ((l.take (j + 1)).filter (nek key) = (l.take j).filter (nek key) ++ [x]) := by show _ = _; rw [hst, hk]; rfl
        have hkn : (!(x.1.toList == key.toList)) = true := hk
        have hx2 := heap_alloc_last w1 (.cells #[.string x.1, .string x.2] 41)
        have hb2 : Below w1.heap.size w1 (w1.alloc (.cells #[.string x.1, .string x.2] 41)) := (Below.refl _ _).alloc (Nat.le_refl _) _
        have HA : Hid (OwnE w.heap.size (w1.alloc (.cells #[.string x.1, .string x.2] 41)) u5 ((l.take j).filter (nek key)) ∧ w.heap.size ≤ (w1.alloc (.cells #[.string x.1, .string x.2] 41)).heap.size ∧ (w1.alloc (.cells #[.string x.1, .string x.2] 41)).cell? ⟨w1.heap.size, 0, none⟩ = some (.string x.1) ∧ (w1.alloc (.cells #[.string x.1, .string x.2] 41)).cell? ⟨w1.heap.size, 1, none⟩ = some (.string x.2) ∧ Below w.heap.size w (w1.alloc (.cells #[.string x.1, .string x.2] 41))) := ⟨H1.out.1.on hb2, Nat.le_trans H1.out.2.size hb2.size, cell_at hx2 0, cell_at hx2 1, H1.out.2.trans (hb2.mono H1.out.2.size)⟩
        have hz1 : w1.heap.size = wr.heap.size + 1 := by rw [hw1]; simp
        rw [hz1, hw1] at HA
        clear hz1 hst hk hx2 hb2 hw1
        go_wp2_with (first
          | (at_builtin; refine wpList_append_ent rfl _ _ rfl w.heap.size HA.out.2.1 _ _ rfl HA.out.1 _ x rfl HA.out.2.2.1 HA.out.2.2.2.1 hol ?_)
          | fail)
        intro v7 w4 hown4 hg4 hat4
        have hbw : Below w.heap.size w w4 := HA.out.2.2.2.2.trans ((grown_chg hg4).below HA.out.2.1 (fun q hq => (World.ownsRow.lt HA.out.1 q (by simpa using hq)).1))
        have H4 : Hid (OwnE w.heap.size w4 v7 ((l.take j).filter (nek key) ++ [x]) ∧ Below w.heap.size w w4) := ⟨hown4, hbw⟩
        clear hown4 hg4 hat4 hbw
        go_wp2_with fail
        go_roundw
        case rel => exact ⟨j + 1, by omega, by go_num, by rw [HR.out]; exact H4.out.1, H4.out.2⟩
        case measure => simp [intOf]; omega
      | false =>
        have HR : Hid ((l.take (j + 1)).filter (nek key) = (l.take j).filter (nek key)) := by show _ = _; rw [hst, hk]; simp
        have hkn : (!(x.1.toList == key.toList)) = false := hk
        rw [hw1] at H1
        clear hst hk hw1
        go_wp2_with fail
        go_roundw
        case rel => exact ⟨j + 1, by omega, by go_num, by rw [HR.out]; exact H1.out.1, H1.out.2⟩
        case measure => simp [intOf]; omega
    · have HR : Hid (l.take j = l) := by show _ = _; rw [List.take_of_length_le (by omega)]
      have hlt' : ¬ (j : Int) < (l.length : Int) := by omega
      go_wp2_with fail
      go_ret
      exact ⟨_, rfl, by have := HT.out.1; rw [HR.out] at this; exact this, HT.out.2⟩
end Go.Proofs.YtadmecjdihfmeaaGreat.Tre

/- Layer 7: the reference's Less. -/
namespace Go.Proofs.YtadmecjdihfmeaaGreat.Tre
set_option linter.unusedVariables false
set_option linter.unusedSimpArgs false
set_option maxRecDepth 100000
open Go.RowKit Go.Lib Go.Proofs.YtadmecjdihfmeaaGreat.Mem Go.Proofs.YtadmecjdihfmeaaGreat.Oct Go.Proofs.YtadmecjdihfmeaaGreat.Dev Go.Proofs.YtadmecjdihfmeaaGreat.Sto

def LessIs (w : World) (b : Bool) (e : Ending) (w' : World) : Prop := e = .returned (.bool b) ∧ Below w.heap.size w w'
theorem byte_at (a : ByteArray) (i : Nat) (h : i < a.size) : a.toList.drop i = a[i] :: a.toList.drop (i + 1) := by
  have hl : i < a.toList.length := by rw [toList_data, Array.length_toList]; exact h
  rw [List.drop_eq_getElem_cons hl]
  congr 1
  simp only [toList_data, Array.getElem_toList]
  rfl
theorem less_cons (u v : UInt8) (x y : List UInt8) : Op.bytesLess (u :: x) (v :: y) = (decide (u.toNat < v.toNat) || (decide (u.toNat = v.toNat) && Op.bytesLess x y)) := by
  simp only [Op.bytesLess]
  have h1 : decide (u < v) = decide (u.toNat < v.toNat) := by rw [Bool.eq_iff_iff]; simp only [decide_eq_true_eq]; exact UInt8.lt_iff_toNat_lt
  have h2 : (u == v) = decide (u.toNat = v.toNat) := by rw [Bool.eq_iff_iff]; simp only [decide_eq_true_eq, beq_iff_eq]; exact ⟨fun h => by rw [h], fun h => UInt8.toNat_inj.1 h⟩
  rw [h1, h2]
set_option maxHeartbeats 4000000 in
theorem rless_any (a b : ByteArray) (w : World) (hb : b.size ≤ 1048576) : Calls Tryz.prog 50 #[.string a, .string b] w (LessIs w (lt a b)) := by
  obtain ⟨n, hn⟩ : ∃ n, n = b.size := ⟨_, rfl⟩
  obtain ⟨m, hm⟩ : ∃ m, m = a.size := ⟨_, rfl⟩
  go_enter Tryz.func50, Tryz.ntmps50
  go_wp2_with fail
  go_loopw [5, 8] (fun v5 v8 wr => ∃ i : Nat, i ≤ b.size ∧ v8 = .int .i64 i ∧ Hid (Op.bytesLess (a.toList.drop i) (b.toList.drop i) = lt a b ∧ Below w.heap.size w wr)) (fun _ v8 _ => b.size - (intOf v8).toNat)
  case atStart => exact ⟨0, by omega, rfl, rfl, Below.refl _ _⟩
  case round =>
    obtain ⟨i, hi, rfl, HT⟩ := hrel
    by_cases hlt : i < b.size
    · have hlt' : (i : Int) < (b.size : Int) := by omega
      have hub := byte_at b i hlt
      by_cases hla : i < a.size
      · have hla' : ¬ (a.size : Int) ≤ (i : Int) := by omega
        have hua := byte_at a i hla
        have hd : decide ((i : Int) ≥ (a.size : Int)) = false := by simp; omega
        obtain ⟨p, hp⟩ : ∃ p, p = a[i].toNat := ⟨_, rfl⟩
        obtain ⟨q, hq⟩ : ∃ q, q = b[i].toNat := ⟨_, rfl⟩
        have HG : Hid ((decide (p < q) || (decide (p = q) && Op.bytesLess (a.toList.drop (i + 1)) (b.toList.drop (i + 1)))) = lt a b) := by
          have := HT.out.1
          rw [hua, hub, less_cons, ← hp, ← hq] at this
          exact this
        have HPQ : Hid (p = a[i].toNat ∧ q = b[i].toNat) := ⟨hp, hq⟩
        have HB : Hid (∀ k, Below w.heap.size w (wr.drewN k)) := fun k => HT.out.2.trans ((drewN_any _).mono HT.out.2.size)
        have HB2 : Hid (∀ k k', Below w.heap.size w ((wr.drewN k).drewN k')) := fun k k' => (HB.out k).trans ((drewN_any _).mono (HB.out k).size)
        clear hua hub hp hq
        rcases Nat.lt_trichotomy p q with h | h | h
        · have HR : Hid (lt a b = true) := by show _ = _; rw [← HG.out]; simp [h]
          clear HG
          go_wp2_with fail
          go_quiet (fail)
          rw [← HPQ.out.1, ← HPQ.out.2, show (decide (a.size ≤ i) || decide (p < q)) = true by simp [h]]
          go_wp2_with fail
          go_ret
          exact ⟨by rw [HR.out]; rfl, HB.out _⟩
        · have HR : Hid (Op.bytesLess (a.toList.drop (i + 1)) (b.toList.drop (i + 1)) = lt a b) := by show _ = _; rw [← HG.out]; simp [h]
          clear HG
          go_wp2_with fail
          go_quiet (fail)
          rw [← HPQ.out.1, ← HPQ.out.2, show (decide (a.size ≤ i) || decide (p < q)) = false by simp; omega]
          go_wp2_with fail
          go_quiet (fail)
          rw [← HPQ.out.1, ← HPQ.out.2, show decide (q < p) = false by simp; omega]
          go_wp2_with fail
          go_roundw
          case rel => exact ⟨i + 1, by omega, by go_num, HR.out, HB.out _⟩
          case measure => simp [intOf]; omega
        · have HR : Hid (lt a b = false) := by show _ = _; rw [← HG.out]; simp; omega
          clear HG
          go_wp2_with fail
          go_quiet (fail)
          rw [← HPQ.out.1, ← HPQ.out.2, show (decide (a.size ≤ i) || decide (p < q)) = false by simp; omega]
          go_wp2_with fail
          go_quiet (fail)
          rw [← HPQ.out.1, ← HPQ.out.2, show decide (q < p) = true by simp [h]]
          go_wp2_with fail
          go_ret
          exact ⟨by rw [HR.out]; rfl, HB2.out _ _⟩
      · have hla' : (a.size : Int) ≤ (i : Int) := by omega
        have hd : decide ((i : Int) ≥ (a.size : Int)) = true := by simp; omega
        have HR : Hid (lt a b = true) := by
          have := HT.out.1
          rw [hub, List.drop_of_length_le (by rw [toList_data, Array.length_toList]; show a.size ≤ i; omega)] at this
          exact this.symm
        have HB : Hid (∀ k, Below w.heap.size w (wr.drewN k)) := fun k => HT.out.2.trans ((drewN_any _).mono HT.out.2.size)
        have hds : decide (a.size ≤ i) = true := by simp; omega
        clear hub
        go_wp2_with fail
        go_quiet (fail)
        go_wp2_with fail
        go_ret
        exact ⟨by rw [HR.out]; rfl, HB.out _⟩
    · have HR : Hid (lt a b = false) := by
        have := HT.out.1
        rw [List.drop_of_length_le (l := b.toList) (by rw [toList_data, Array.length_toList]; show b.size ≤ i; omega)] at this
        rw [← this]
        cases a.toList.drop i <;> rfl
      have hlt' : ¬ (i : Int) < (b.size : Int) := by omega
      go_wp2_with fail
      go_ret
      exact ⟨by rw [HR.out]; rfl, HT.out.2⟩
end Go.Proofs.YtadmecjdihfmeaaGreat.Tre

