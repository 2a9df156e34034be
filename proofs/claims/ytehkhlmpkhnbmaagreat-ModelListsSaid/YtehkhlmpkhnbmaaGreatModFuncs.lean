/- slices.IndexFunc, slices.ContainsFunc at links, inodes, events. (Printed by wip/tools/genfuncs.py.) -/
import Derived.Test.YtehkhlmpkhnbmaaGreatModLists
import Derived.Shelf.Abstract
import Derived.Deep.DeepFit
namespace Go.Proofs.YtehkhlmpkhnbmaaGreat.Mod
set_option linter.unusedVariables false
set_option linter.unusedSimpArgs false
set_option maxRecDepth 100000
open Go.RowKit Go.Proofs.YtehkhlmpkhnbmaaGreat.Mem

/-- a number that is at least 0 just if there is one -/
def GivesIdx (w : World) (is : Bool) (e : Ending) (w' : World) : Prop := ∃ i : Int, e = .returned (.int .i64 i) ∧ decide (0 ≤ i) = is ∧ Below w.heap.size w w'
theorem any_hit {α : Type} {l : List α} {q : α → Bool} (j : Nat) (h : j < l.length) (hq : q l[j] = true) : l.any q = true := List.any_eq_true.2 ⟨_, List.getElem_mem h, hq⟩
theorem any_miss {α : Type} {l : List α} {q : α → Bool} (h : ∀ i (hi : i < l.length), q l[i] = false) : l.any q = false := by
  rw [List.any_eq_false]
  intro x hx
  obtain ⟨i, hi, rfl⟩ := List.getElem_of_mem hx
  simp [h i hi]
/-- what a function value must do at each element -/
def Pred {α : Type} (R : World → List Value → α → Prop) (w : World) (l : List α) (g : FuncId) (lb : Array Value) (q : α → Bool) : Prop :=
  ∀ x, x ∈ l → ∀ cs W, R w cs x → Below w.heap.size w W → Calls Tryz.prog g (#[.agg cs.toArray] ++ lb) W fun e w' => e = .returned (.bool (q x)) ∧ Below w.heap.size w w'

set_option maxHeartbeats 4000000 in
theorem index_Link (R : World → List Value → Link → Prop) (v : Value) (l : List Link) (g : FuncId) (lb : Array Value) (q : Link → Bool) (w : World) (h : SliceOf 25 R (· < w.heap.size) w v l)
    (hk : ∀ cs x, R w cs x → cs.length = 25) (hp : Pred R w l g lb q) (eg : ∀ args w, (callFunc g args).run Tryz.prog w = .ok (.enter g args) w) :
    Calls Tryz.prog 116 #[v, .func (.func g) #[] lb] w (GivesIdx w (l.any q)) := by
  obtain ⟨a, c, rfl, hn⟩ := slice_form h
  have H : Hid _ := h
  have HP : Hid _ := hp
  have HK : Hid _ := hk
  clear h hp hk
  go_enter Tryz.func116, Tryz.ntmps116
  go_wp2
  go_loopg [5, 8] l.length (fun gg _ s8 wr => ∃ j : Nat, s8 = .int .i64 j ∧ j ≤ l.length ∧ l.length - j ≤ gg ∧ Hid (Below w.heap.size w wr) ∧ Hid (∀ i (hi : i < l.length), i < j → q l[i] = false))
  case atStart => exact ⟨0, rfl, by omega, by omega, Below.refl _ _, fun i hi h => by omega⟩
  case round =>
    obtain ⟨j, rfl, hj, hg, HB, HA⟩ := hrel
    by_cases hlt : j < l.length
    · obtain ⟨b, o, cs, ha, hp, hR, hload0⟩ := row_at H.out j hlt
      subst ha
      have hload := rangeAt_below hload0 HB.out hp
      have hcall := HP.out l[j] (List.getElem_mem hlt) cs wr hR HB.out
      have hlen : (Tryz.prog.info? 62).map (·.size) = some cs.length := by rw [HK.out cs _ hR]; kernel_rfl
      have HL : Hid _ := hlen
      clear hload0 hp hR hlen
      cases hq : q l[j] with
      | true =>
        rw [hq] at hcall
        have HT : Hid (l.any q = true) := any_hit j hlt hq
        clear hq
        go_wp2_with (first
          | (refine wpList_load_mid rfl 62 (.tmp 14) rfl b (o + j * 25) rfl _ _ hload Tryz.underlying62 rfl HL.out ?_)
          | (go_at_fn g; refine hcall.mono ?_; rintro e w' ⟨rfl, hb'⟩))
        go_ret
        exact ⟨(j : Int), rfl, by rw [HT.out]; simp, hb'⟩
      | false =>
        rw [hq] at hcall
        have HF : Hid (∀ i (hi : i < l.length), i < j + 1 → q l[i] = false) := fun i hi h => by
          by_cases e : i = j
          · subst e; exact hq
          · exact HA.out i hi (by omega)
        clear hq
        go_wp2_with (first
          | (refine wpList_load_mid rfl 62 (.tmp 14) rfl b (o + j * 25) rfl _ _ hload Tryz.underlying62 rfl HL.out ?_)
          | (go_at_fn g; refine hcall.mono ?_; rintro e w' ⟨rfl, hb'⟩))
        go_roundg (l.length - (j + 1))
        case measure => omega
        case rel => exact ⟨j + 1, by go_num, by omega, by omega, hb', HF⟩
    · have HF : Hid (l.any q = false) := any_miss fun i hi => HA.out i hi (by omega)
      go_wp2
      go_ret
      exact ⟨-1, rfl, by rw [HF.out]; rfl, HB.out⟩
set_option maxHeartbeats 4000000 in
theorem contains_Link (R : World → List Value → Link → Prop) (v : Value) (l : List Link) (g : FuncId) (lb : Array Value) (q : Link → Bool) (w : World) (h : SliceOf 25 R (· < w.heap.size) w v l)
    (hk : ∀ cs x, R w cs x → cs.length = 25) (hp : Pred R w l g lb q) (eg : ∀ args w, (callFunc g args).run Tryz.prog w = .ok (.enter g args) w) :
    Calls Tryz.prog 90 #[v, .func (.func g) #[] lb] w fun e w' => e = .returned (.bool (l.any q)) ∧ Below w.heap.size w w' := by
  go_enter Tryz.func90, Tryz.ntmps90
  go_wp2_with fail
  refine (index_Link R v l g lb q w h hk hp eg).mono ?_
  rintro e w' ⟨i, rfl, hi, hb⟩
  have HI : Hid _ := hi
  clear hi hp eg hk h
  go_wp2_with fail
  go_ret
  exact ⟨by rw [← HI.out]; rfl, hb⟩

set_option maxHeartbeats 4000000 in
theorem index_Inode (R : World → List Value → Inode → Prop) (v : Value) (l : List Inode) (g : FuncId) (lb : Array Value) (q : Inode → Bool) (w : World) (h : SliceOf 13 R (· < w.heap.size) w v l)
    (hk : ∀ cs x, R w cs x → cs.length = 13) (hp : Pred R w l g lb q) (eg : ∀ args w, (callFunc g args).run Tryz.prog w = .ok (.enter g args) w) :
    Calls Tryz.prog 117 #[v, .func (.func g) #[] lb] w (GivesIdx w (l.any q)) := by
  obtain ⟨a, c, rfl, hn⟩ := slice_form h
  have H : Hid _ := h
  have HP : Hid _ := hp
  have HK : Hid _ := hk
  clear h hp hk
  go_enter Tryz.func117, Tryz.ntmps117
  go_wp2
  go_loopg [5, 8] l.length (fun gg _ s8 wr => ∃ j : Nat, s8 = .int .i64 j ∧ j ≤ l.length ∧ l.length - j ≤ gg ∧ Hid (Below w.heap.size w wr) ∧ Hid (∀ i (hi : i < l.length), i < j → q l[i] = false))
  case atStart => exact ⟨0, rfl, by omega, by omega, Below.refl _ _, fun i hi h => by omega⟩
  case round =>
    obtain ⟨j, rfl, hj, hg, HB, HA⟩ := hrel
    by_cases hlt : j < l.length
    · obtain ⟨b, o, cs, ha, hp, hR, hload0⟩ := row_at H.out j hlt
      subst ha
      have hload := rangeAt_below hload0 HB.out hp
      have hcall := HP.out l[j] (List.getElem_mem hlt) cs wr hR HB.out
      have hlen : (Tryz.prog.info? 60).map (·.size) = some cs.length := by rw [HK.out cs _ hR]; kernel_rfl
      have HL : Hid _ := hlen
      clear hload0 hp hR hlen
      cases hq : q l[j] with
      | true =>
        rw [hq] at hcall
        have HT : Hid (l.any q = true) := any_hit j hlt hq
        clear hq
        go_wp2_with (first
          | (refine wpList_load_mid rfl 60 (.tmp 14) rfl b (o + j * 13) rfl _ _ hload Tryz.underlying60 rfl HL.out ?_)
          | (go_at_fn g; refine hcall.mono ?_; rintro e w' ⟨rfl, hb'⟩))
        go_ret
        exact ⟨(j : Int), rfl, by rw [HT.out]; simp, hb'⟩
      | false =>
        rw [hq] at hcall
        have HF : Hid (∀ i (hi : i < l.length), i < j + 1 → q l[i] = false) := fun i hi h => by
          by_cases e : i = j
          · subst e; exact hq
          · exact HA.out i hi (by omega)
        clear hq
        go_wp2_with (first
          | (refine wpList_load_mid rfl 60 (.tmp 14) rfl b (o + j * 13) rfl _ _ hload Tryz.underlying60 rfl HL.out ?_)
          | (go_at_fn g; refine hcall.mono ?_; rintro e w' ⟨rfl, hb'⟩))
        go_roundg (l.length - (j + 1))
        case measure => omega
        case rel => exact ⟨j + 1, by go_num, by omega, by omega, hb', HF⟩
    · have HF : Hid (l.any q = false) := any_miss fun i hi => HA.out i hi (by omega)
      go_wp2
      go_ret
      exact ⟨-1, rfl, by rw [HF.out]; rfl, HB.out⟩
set_option maxHeartbeats 4000000 in
theorem contains_Inode (R : World → List Value → Inode → Prop) (v : Value) (l : List Inode) (g : FuncId) (lb : Array Value) (q : Inode → Bool) (w : World) (h : SliceOf 13 R (· < w.heap.size) w v l)
    (hk : ∀ cs x, R w cs x → cs.length = 13) (hp : Pred R w l g lb q) (eg : ∀ args w, (callFunc g args).run Tryz.prog w = .ok (.enter g args) w) :
    Calls Tryz.prog 92 #[v, .func (.func g) #[] lb] w fun e w' => e = .returned (.bool (l.any q)) ∧ Below w.heap.size w w' := by
  go_enter Tryz.func92, Tryz.ntmps92
  go_wp2_with fail
  refine (index_Inode R v l g lb q w h hk hp eg).mono ?_
  rintro e w' ⟨i, rfl, hi, hb⟩
  have HI : Hid _ := hi
  clear hi hp eg hk h
  go_wp2_with fail
  go_ret
  exact ⟨by rw [← HI.out]; rfl, hb⟩

set_option maxHeartbeats 4000000 in
theorem index_Event (R : World → List Value → Event → Prop) (v : Value) (l : List Event) (g : FuncId) (lb : Array Value) (q : Event → Bool) (w : World) (h : SliceOf 21 R (· < w.heap.size) w v l)
    (hk : ∀ cs x, R w cs x → cs.length = 21) (hp : Pred R w l g lb q) (eg : ∀ args w, (callFunc g args).run Tryz.prog w = .ok (.enter g args) w) :
    Calls Tryz.prog 89 #[v, .func (.func g) #[] lb] w (GivesIdx w (l.any q)) := by
  obtain ⟨a, c, rfl, hn⟩ := slice_form h
  have H : Hid _ := h
  have HP : Hid _ := hp
  have HK : Hid _ := hk
  clear h hp hk
  go_enter Tryz.func89, Tryz.ntmps89
  go_wp2
  go_loopg [5, 8] l.length (fun gg _ s8 wr => ∃ j : Nat, s8 = .int .i64 j ∧ j ≤ l.length ∧ l.length - j ≤ gg ∧ Hid (Below w.heap.size w wr) ∧ Hid (∀ i (hi : i < l.length), i < j → q l[i] = false))
  case atStart => exact ⟨0, rfl, by omega, by omega, Below.refl _ _, fun i hi h => by omega⟩
  case round =>
    obtain ⟨j, rfl, hj, hg, HB, HA⟩ := hrel
    by_cases hlt : j < l.length
    · obtain ⟨b, o, cs, ha, hp, hR, hload0⟩ := row_at H.out j hlt
      subst ha
      have hload := rangeAt_below hload0 HB.out hp
      have hcall := HP.out l[j] (List.getElem_mem hlt) cs wr hR HB.out
      have hlen : (Tryz.prog.info? 32).map (·.size) = some cs.length := by rw [HK.out cs _ hR]; kernel_rfl
      have HL : Hid _ := hlen
      clear hload0 hp hR hlen
      cases hq : q l[j] with
      | true =>
        rw [hq] at hcall
        have HT : Hid (l.any q = true) := any_hit j hlt hq
        clear hq
        go_wp2_with (first
          | (refine wpList_load_mid rfl 32 (.tmp 14) rfl b (o + j * 21) rfl _ _ hload Tryz.underlying32 rfl HL.out ?_)
          | (go_at_fn g; refine hcall.mono ?_; rintro e w' ⟨rfl, hb'⟩))
        go_ret
        exact ⟨(j : Int), rfl, by rw [HT.out]; simp, hb'⟩
      | false =>
        rw [hq] at hcall
        have HF : Hid (∀ i (hi : i < l.length), i < j + 1 → q l[i] = false) := fun i hi h => by
          by_cases e : i = j
          · subst e; exact hq
          · exact HA.out i hi (by omega)
        clear hq
        go_wp2_with (first
          | (refine wpList_load_mid rfl 32 (.tmp 14) rfl b (o + j * 21) rfl _ _ hload Tryz.underlying32 rfl HL.out ?_)
          | (go_at_fn g; refine hcall.mono ?_; rintro e w' ⟨rfl, hb'⟩))
        go_roundg (l.length - (j + 1))
        case measure => omega
        case rel => exact ⟨j + 1, by go_num, by omega, by omega, hb', HF⟩
    · have HF : Hid (l.any q = false) := any_miss fun i hi => HA.out i hi (by omega)
      go_wp2
      go_ret
      exact ⟨-1, rfl, by rw [HF.out]; rfl, HB.out⟩
set_option maxHeartbeats 4000000 in
theorem contains_Event (R : World → List Value → Event → Prop) (v : Value) (l : List Event) (g : FuncId) (lb : Array Value) (q : Event → Bool) (w : World) (h : SliceOf 21 R (· < w.heap.size) w v l)
    (hk : ∀ cs x, R w cs x → cs.length = 21) (hp : Pred R w l g lb q) (eg : ∀ args w, (callFunc g args).run Tryz.prog w = .ok (.enter g args) w) :
    Calls Tryz.prog 46 #[v, .func (.func g) #[] lb] w fun e w' => e = .returned (.bool (l.any q)) ∧ Below w.heap.size w w' := by
  go_enter Tryz.func46, Tryz.ntmps46
  go_wp2_with fail
  refine (index_Event R v l g lb q w h hk hp eg).mono ?_
  rintro e w' ⟨i, rfl, hi, hb⟩
  have HI : Hid _ := hi
  clear hi hp eg hk h
  go_wp2_with fail
  go_ret
  exact ⟨by rw [← HI.out]; rfl, hb⟩
end Go.Proofs.YtehkhlmpkhnbmaaGreat.Mod
