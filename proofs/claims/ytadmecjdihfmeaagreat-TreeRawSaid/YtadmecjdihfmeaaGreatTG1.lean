/- TrePure TreMem TreBytes TreLook TreLoad: several texts of one proof, laid as one file (a claim has at most 60 files). No condition. -/
import Derived.Test.YtadmecjdihfmeaaGreatStoTrip
import Derived.Test.YtadmecjdihfmeaaGreatStoInv
import Derived.Test.YtadmecjdihfmeaaGreatElem
import Derived.Test.YtadmecjdihfmeaaGreatLook
import Derived.Deep.RegionHeld3
import Derived.BigQuiet
import Derived.Test.YtadmecjdihfmeaaGreatSuper
import Derived.Test.YtadmecjdihfmeaaGreatStoOps
/- Layer 7 in plain Lean: nodes as bytes, and what each function answers. -/
namespace Go.Proofs.YtadmecjdihfmeaaGreat.Tre
set_option linter.unusedVariables false
set_option linter.unusedSimpArgs false
open Go.RowKit Go.Proofs.YtadmecjdihfmeaaGreat.Mem Go.Proofs.YtadmecjdihfmeaaGreat.Oct Go.Proofs.YtadmecjdihfmeaaGreat.Dev Go.Proofs.YtadmecjdihfmeaaGreat.Sto

/-! ### keys in order -/
theorem less_irrefl : ∀ x : List UInt8, Op.bytesLess x x = false
  | [] => rfl
  | a :: x => by
    have h := less_irrefl x
    have h1 : ¬ a < a := by rw [UInt8.lt_iff_toNat_lt]; omega
    simp [Op.bytesLess, h, h1]
theorem less_trans : ∀ x y z : List UInt8, Op.bytesLess x y = true → Op.bytesLess y z = true → Op.bytesLess x z = true
  | _, [], _, h, _ => by simp [Op.bytesLess] at h
  | _, _ :: _, [], _, h => by simp [Op.bytesLess] at h
  | [], _ :: _, _ :: _, _, _ => by simp [Op.bytesLess]
  | a :: x, b :: y, c :: z, h1, h2 => by
    simp only [Op.bytesLess, Bool.or_eq_true, Bool.and_eq_true, decide_eq_true_eq, beq_iff_eq] at h1 h2 ⊢
    rcases h1 with h1 | ⟨rfl, h1⟩
    · rcases h2 with h2 | ⟨rfl, h2⟩
      · left; rw [UInt8.lt_iff_toNat_lt] at *; omega
      · exact .inl h1
    · rcases h2 with h2 | ⟨rfl, h2⟩
      · exact .inl h2
      · exact .inr ⟨rfl, less_trans x y z h1 h2⟩
theorem less_tri : ∀ x y : List UInt8, Op.bytesLess x y = false → Op.bytesLess y x = false → x = y
  | [], [], _, _ => rfl
  | [], _ :: _, h, _ => by simp [Op.bytesLess] at h
  | _ :: _, [], _, h => by simp [Op.bytesLess] at h
  | a :: x, b :: y, h1, h2 => by
    simp only [Op.bytesLess, Bool.or_eq_false_iff, Bool.and_eq_false_iff, decide_eq_false_iff_not, beq_eq_false_iff_ne, ne_eq] at h1 h2
    have hab : a = b := by
      apply UInt8.toNat_inj.1
      have h3 := h1.1
      have h4 := h2.1
      rw [UInt8.lt_iff_toNat_lt] at h3 h4
      omega
    subst hab
    rw [less_tri x y (by simpa using h1.2) (by simpa using h2.2)]
def lt (a b : ByteArray) : Bool := Op.bytesLess a.toList b.toList
theorem lt_irrefl (a : ByteArray) : lt a a = false := less_irrefl _
theorem lt_trans {a b c : ByteArray} (h : lt a b = true) (h' : lt b c = true) : lt a c = true := less_trans _ _ _ h h'
theorem toList_data (a : ByteArray) : a.toList = a.data.toList := by
  rw [← bl_of a, bl_toList, bl_list]
theorem toList_inj {a b : ByteArray} (h : a.toList = b.toList) : a = b := by
  rw [toList_data, toList_data] at h
  apply ByteArray.ext
  exact Array.ext' h
theorem lt_tri {a b : ByteArray} (h : lt a b = false) (h' : lt b a = false) : a = b := toList_inj (less_tri _ _ h h')
theorem lt_asymm {a b : ByteArray} (h : lt a b = true) : lt b a = false := by
  cases h' : lt b a with
  | false => rfl
  | true => rw [← lt_irrefl a]; exact (lt_trans h h').symm
theorem lt_ne {a b : ByteArray} (h : lt a b = true) : a ≠ b := by
  rintro rfl; rw [lt_irrefl] at h; cases h

/-! ### nodes -/
abbrev nil8 : ByteArray := ⟨#[]⟩
structure It where
  key : ByteArray
  val : ByteArray
  kid : Int
structure Nd where
  level : Nat
  items : List It
instance : Inhabited It := ⟨⟨nil8, nil8, 0⟩⟩
def rightK (k : ByteArray) : Bool := decide (k.size ≠ 0) && decide (k.size ≤ 64)
def textL (s : ByteArray) : List UInt8 := be 2 s.size ++ s.data.toList
def Nd.body (lv : Nat) (l : List It) : List UInt8 := l.flatMap fun x => textL x.key ++ (if lv = 0 then textL x.val else [])
def Nd.data (n : Nd) : List UInt8 := be 1 n.level ++ (be 1 n.items.length ++ Nd.body n.level n.items)
def Nd.kids (n : Nd) : List Int := if n.level = 0 then [] else n.items.map (·.kid)
/-- a key that may not stand there -/
def badKey (acc : List It) (key : ByteArray) : Bool := !rightK key || (!acc.isEmpty && !lt ((acc.getLast?.getD default).key) key)
def itemsP (lv : Nat) (ks : List Int) : Nat → List It → ByteArray → Except Int (List It × ByteArray)
  | 0, acc, s => .ok (acc, s)
  | k + 1, acc, s => match textP 64 s with
    | .error e => .error e
    | .ok (key, s1) =>
      if lv = 0 then
        match textP 300 s1 with
        | .error e => .error e
        | .ok (val, s2) => if badKey acc key = true then .error 201 else itemsP lv ks k (acc ++ [⟨key, val, 0⟩]) s2
      else if badKey acc key = true then .error 201 else itemsP lv ks k (acc ++ [⟨key, nil8, ks.getD acc.length 0⟩]) s1
def badHead (lv many m : Nat) : Bool := decide (20 < lv) || decide (many < 1) || decide (8 < many) || (decide (0 < lv) && decide (many ≠ m)) || (decide (lv = 0) && decide (0 < m))
def nodeR (ks : List Int) (s : ByteArray) : Except Int (Nd × ByteArray) :=
  match numP 1 s with
  | .error e => .error e
  | .ok (lv, s1) => match numP 1 s1 with
    | .error e => .error e
    | .ok (many, s2) => if badHead lv many ks.length = true then .error 201 else
      match itemsP lv ks many [] s2 with
      | .error e => .error e
      | .ok (l, s3) => .ok (⟨lv, l⟩, s3)
/-- the node that a block is -/
def nodeP (ks : List Int) (s : ByteArray) : Option Nd := match nodeR ks s with
  | .error _ => none
  | .ok (n, r) => if r.toList.isEmpty = true then some n else none
/-- load -/
def loadF (S : StS) (D : DevS) (i : Int) : Except Int Nd := match (S.getR D i).2 with
  | none => .error (S.getR D i).1
  | some x => match nodeP x.1 x.2 with | some n => .ok n | none => .error 5
/-- below -/
def belowF (S : StS) (D : DevS) (lv : Nat) (kid : Int) : Except Int Nd := match loadF S D kid with
  | .error e => .error e
  | .ok k => if k.level + 1 = lv then .ok k else .error 5
/-- place -/
def placeF (l : List It) (key : ByteArray) : Nat := (l.takeWhile fun x => lt x.key key).length
def foundF (l : List It) (key : ByteArray) : Bool := match l[placeF l key]? with | some x => x.key.toList == key.toList | none => false
def wayF (l : List It) (key : ByteArray) : Nat := if foundF l key = true then placeF l key else placeF l key - 1
def swapF (l : List It) (i j : Nat) (m : List It) : List It := l.take i ++ (m ++ l.drop j)
def getF (S : StS) (D : DevS) (key : ByteArray) : Nat → List It → Except Int (Option ByteArray)
  | 0, l => .ok (if foundF l key = true then some (l[placeF l key]?.getD default).val else none)
  | f + 1, l => match belowF S D (f + 1) (l[wayF l key]?.getD default).kid with
    | .error e => .error e
    | .ok k => getF S D key f k.items
/-- what a change leaves: an error or items, the store, its device -/
structure Ch (α : Type) where
  err : Int
  out : α
  st : StS
  dv : DevS
def saveF (S : StS) (D : DevS) (lv : Nat) (l : List It) : Ch It :=
  ⟨(putOut S D (Nd.kids ⟨lv, l⟩) (bl (Nd.data ⟨lv, l⟩))).2.1, ⟨(l[0]?.getD default).key, nil8, (putOut S D (Nd.kids ⟨lv, l⟩) (bl (Nd.data ⟨lv, l⟩))).1⟩,
    (putOut S D (Nd.kids ⟨lv, l⟩) (bl (Nd.data ⟨lv, l⟩))).2.2.1, (putOut S D (Nd.kids ⟨lv, l⟩) (bl (Nd.data ⟨lv, l⟩))).2.2.2⟩
def partsF (l : List It) : List (List It) := if 8 < l.length then [l.take (l.length / 2), l.drop (l.length / 2)] else [l]
def savesF (lv : Nat) : List (List It) → StS → DevS → List It → Ch (List It)
  | [], S, D, out => ⟨0, out, S, D⟩
  | p :: ps, S, D, out => if (saveF S D lv p).err ≠ 0 then ⟨(saveF S D lv p).err, [], (saveF S D lv p).st, (saveF S D lv p).dv⟩ else savesF lv ps (saveF S D lv p).st (saveF S D lv p).dv (out ++ [(saveF S D lv p).out])
def laidF (S : StS) (D : DevS) (lv : Nat) (l : List It) : Ch (List It) := savesF lv (partsF l) S D []
def putF (key val : ByteArray) : Nat → StS → DevS → List It → Ch (List It)
  | 0, S, D, l => laidF S D 0 (swapF l (placeF l key) (placeF l key + if foundF l key = true then 1 else 0) [⟨key, val, 0⟩])
  | f + 1, S, D, l => match belowF S D (f + 1) (l[wayF l key]?.getD default).kid with
    | .error e => ⟨e, [], S, D⟩
    | .ok k => if (putF key val f S D k.items).err ≠ 0 then ⟨(putF key val f S D k.items).err, [], (putF key val f S D k.items).st, (putF key val f S D k.items).dv⟩ else
      laidF (putF key val f S D k.items).st (putF key val f S D k.items).dv (f + 1) (swapF l (wayF l key) (wayF l key + 1) (putF key val f S D k.items).out)
/-- a new root -/
def topF (S : StS) (D : DevS) (lv : Nat) (l : List It) : Ch Int := ⟨(saveF S D lv l).err, (saveF S D lv l).out.kid, (saveF S D lv l).st, (saveF S D lv l).dv⟩
/-- Put -/
def PutF (S : StS) (D : DevS) (root : Int) (key val : ByteArray) : Ch Int :=
  if rightK key = false ∨ 300 < val.size then ⟨22, 0, S, D⟩
  else if root = 0 then topF S D 0 [⟨key, val, 0⟩]
  else match loadF S D root with
    | .error e => ⟨e, 0, S, D⟩
    | .ok n => if (putF key val n.level S D n.items).err ≠ 0 then ⟨(putF key val n.level S D n.items).err, 0, (putF key val n.level S D n.items).st, (putF key val n.level S D n.items).dv⟩
      else if (putF key val n.level S D n.items).out.length = 1 then ⟨0, ((putF key val n.level S D n.items).out[0]?.getD default).kid, (putF key val n.level S D n.items).st, (putF key val n.level S D n.items).dv⟩
      else if n.level = 20 then ⟨27, 0, (putF key val n.level S D n.items).st, (putF key val n.level S D n.items).dv⟩
      else topF (putF key val n.level S D n.items).st (putF key val n.level S D n.items).dv (n.level + 1) (putF key val n.level S D n.items).out
/-- joined: the items, and in place of which -/
def joinedF (S : StS) (D : DevS) (lv : Nat) (n : List It) (i : Nat) (l : List It) : Except Int (List It × Nat × Nat) :=
  if i + 1 < n.length then match belowF S D lv (n[i + 1]?.getD default).kid with
    | .error e => .error e
    | .ok k => .ok (l ++ k.items, i, i + 2)
  else match belowF S D lv (n[i - 1]?.getD default).kid with
    | .error e => .error e
    | .ok k => .ok (k.items ++ l, i - 1, i + 1)
/-- what cut does with a kid's items -/
def mendF (S : StS) (D : DevS) (lv : Nat) (n l : List It) (i j : Nat) : Ch (Option (List It)) :=
  if l = [] then ⟨0, some (swapF n i j []), S, D⟩
  else if (laidF S D lv l).err ≠ 0 then ⟨(laidF S D lv l).err, none, (laidF S D lv l).st, (laidF S D lv l).dv⟩
  else ⟨0, some (swapF n i j (laidF S D lv l).out), (laidF S D lv l).st, (laidF S D lv l).dv⟩
instance (l : List It) : Decidable (l = []) := by cases l <;> exact inferInstance
def cutF (key : ByteArray) : Nat → StS → DevS → List It → Ch (Option (List It))
  | 0, S, D, n => if foundF n key = true then ⟨0, some (swapF n (placeF n key) (placeF n key + 1) []), S, D⟩ else ⟨0, none, S, D⟩
  | f + 1, S, D, n => match belowF S D (f + 1) (n[wayF n key]?.getD default).kid with
    | .error e => ⟨e, none, S, D⟩
    | .ok k => if (cutF key f S D k.items).err ≠ 0 then cutF key f S D k.items else
      match (cutF key f S D k.items).out with
      | none => cutF key f S D k.items
      | some l => if l.length < 4 ∧ 1 < n.length then
          match joinedF (cutF key f S D k.items).st (cutF key f S D k.items).dv (f + 1) n (wayF n key) l with
          | .error e => ⟨e, none, (cutF key f S D k.items).st, (cutF key f S D k.items).dv⟩
          | .ok (l', i, j) => mendF (cutF key f S D k.items).st (cutF key f S D k.items).dv f n l' i j
        else mendF (cutF key f S D k.items).st (cutF key f S D k.items).dv f n l (wayF n key) (wayF n key + 1)
/-- Del -/
def DelF (S : StS) (D : DevS) (root : Int) (key : ByteArray) : Ch Int :=
  if rightK key = false then ⟨22, 0, S, D⟩
  else if root = 0 then ⟨0, 0, S, D⟩
  else match loadF S D root with
    | .error e => ⟨e, 0, S, D⟩
    | .ok n => if (cutF key n.level S D n.items).err ≠ 0 then ⟨(cutF key n.level S D n.items).err, 0, (cutF key n.level S D n.items).st, (cutF key n.level S D n.items).dv⟩
      else match (cutF key n.level S D n.items).out with
        | none => ⟨0, root, (cutF key n.level S D n.items).st, (cutF key n.level S D n.items).dv⟩
        | some l => if l = [] then ⟨0, 0, (cutF key n.level S D n.items).st, (cutF key n.level S D n.items).dv⟩
          else if 0 < n.level ∧ l.length = 1 then ⟨0, (l[0]?.getD default).kid, (cutF key n.level S D n.items).st, (cutF key n.level S D n.items).dv⟩
          else topF (cutF key n.level S D n.items).st (cutF key n.level S D n.items).dv n.level l
/-- an entry -/
abbrev En := ByteArray × ByteArray
/-- walk: the entries so far, or an error with them; l: what is left of a node's items -/
def stopW (to : ByteArray) (most : Int) (x : It) (out : List En) : Bool := decide (most ≤ out.length) || (!to.toList.isEmpty && !lt x.key to)
def leafW (frm to : ByteArray) (most : Int) : List It → List En → List En
  | [], out => out
  | x :: l, out => if stopW to most x out = true then out else leafW frm to most l (if lt x.key frm = true then out else out ++ [(x.key, x.val)])
/-- nothing below an item is asked for -/
def skipW (frm : ByteArray) : List It → Bool
  | [] => false
  | y :: _ => !lt frm y.key
def nodeW (go : List It → List En → Int × List En) (load : Int → Except Int Nd) (frm to : ByteArray) (most : Int) : List It → List En → Int × List En
  | [], out => (0, out)
  | x :: l, out => if stopW to most x out = true then (0, out) else if skipW frm l = true then nodeW go load frm to most l out else
    match load x.kid with
    | .error e => (e, out)
    | .ok k => if (go k.items out).1 ≠ 0 then go k.items out else nodeW go load frm to most l (go k.items out).2
def walkF (S : StS) (D : DevS) (frm to : ByteArray) (most : Int) : Nat → List It → List En → Int × List En
  | 0, l, out => (0, leafW frm to most l out)
  | f + 1, l, out => nodeW (walkF S D frm to most f) (belowF S D (f + 1)) frm to most l out
/-- Range -/
def RangeF (S : StS) (D : DevS) (root : Int) (frm to : ByteArray) (most : Int) : Int × List En :=
  if root = 0 ∨ most ≤ 0 then (0, [])
  else match loadF S D root with
    | .error e => (e, [])
    | .ok n => if (walkF S D frm to most n.level n.items []).1 ≠ 0 then ((walkF S D frm to most n.level n.items []).1, []) else (0, (walkF S D frm to most n.level n.items []).2)
/-- checked -/
def nextK (stop : ByteArray) : List It → ByteArray
  | [] => stop
  | y :: _ => y.key
def nodeC (go : List It → ByteArray → Int × Nat) (load : Int → Except Int Nd) (stop : ByteArray) : List It → Nat → Int × Nat
  | [], sum => (0, sum)
  | x :: l, sum => match load x.kid with
    | .error e => (e, 0)
    | .ok k => if k.items.length < 4 ∨ (k.items[0]?.getD default).key ≠ x.key then (201, 0)
      else if (go k.items (nextK stop l)).1 ≠ 0 then ((go k.items (nextK stop l)).1, 0) else nodeC go load stop l (sum + (go k.items (nextK stop l)).2)
def lateC (stop : ByteArray) (l : List It) : Bool := !stop.toList.isEmpty && !lt ((l.getLast?.getD default).key) stop
def checkedF (S : StS) (D : DevS) : Nat → List It → ByteArray → Int × Nat
  | 0, l, stop => if lateC stop l = true then (201, 0) else (0, l.length)
  | f + 1, l, stop => if lateC stop l = true then (201, 0) else nodeC (checkedF S D f) (belowF S D (f + 1)) stop l 0
/-- Check -/
def CheckF (S : StS) (D : DevS) (root : Int) : Int × Nat :=
  if root = 0 then (0, 0)
  else match loadF S D root with
    | .error e => (e, 0)
    | .ok n => if 0 < n.level ∧ n.items.length < 2 then (201, 0) else checkedF S D n.level n.items nil8
/-- Get, Height -/
def GetF (S : StS) (D : DevS) (root : Int) (key : ByteArray) : Except Int (Option ByteArray) := if root = 0 then .ok none else match loadF S D root with
  | .error e => .error e
  | .ok n => getF S D key n.level n.items
def HeightF (S : StS) (D : DevS) (root : Int) : Except Int Nat := if root = 0 then .ok 0 else match loadF S D root with
  | .error e => .error e
  | .ok n => .ok (n.level + 1)
end Go.Proofs.YtadmecjdihfmeaaGreat.Tre

/- Layer 7: rows of items in memory; right, bytes. -/
namespace Go.Proofs.YtadmecjdihfmeaaGreat.Tre
set_option linter.unusedVariables false
set_option linter.unusedSimpArgs false
set_option maxRecDepth 100000
open Go.RowKit Go.Lib Go.Proofs.YtadmecjdihfmeaaGreat.Mem Go.Proofs.YtadmecjdihfmeaaGreat.Oct Go.Proofs.YtadmecjdihfmeaaGreat.Dev Go.Proofs.YtadmecjdihfmeaaGreat.Sto

abbrev itL (x : It) : List Value := [.string x.key, .string x.val, .int .i64 x.kid]
abbrev itV (x : It) : Value := .agg #[.string x.key, .string x.val, .int .i64 x.kid]
def ItR (w : World) (cs : List Value) (x : It) : Prop := cs = itL x
/-- items that nobody turns any more -/
def Its (p : Nat → Prop) (w : World) (v : Value) (l : List It) : Prop := SliceOf 3 ItR p w v l ∧ ∀ a n c, v = .slice a n c → n ≤ c ∧ (a = none → c = 0)
theorem Its.chg {p : Nat → Prop} {T : List Nat} {w w' : World} {v : Value} {l : List It} (h : Its p w v l) (ht : Chg T w w') (hd : ∀ k, p k → k ∉ T) : Its p w' v l := by
  obtain ⟨h, hz⟩ := h
  refine ⟨?_, hz⟩
  rcases h with h | ⟨b, o, c, e, hp, hm, hc⟩
  · exact .inl h
  · refine .inr ⟨b, o, c, e, hp, hm, fun j hj => ?_⟩
    obtain ⟨cs, h1, h2, h3⟩ := hc j hj
    refine ⟨cs, h1, fun q hq => ?_, h3⟩
    have h4 := h2 q hq
    rw [List.getElem?_eq_getElem (by omega)] at h4 ⊢
    exact ht.cell (hd b hp) h4
theorem Its.mono {p q : Nat → Prop} {w : World} {v : Value} {l : List It} (h : Its p w v l) (hq : ∀ k, p k → q k) : Its q w v l := by
  obtain ⟨h, hz⟩ := h
  refine ⟨?_, hz⟩
  rcases h with h | ⟨b, o, c, e, hp, hm, hc⟩
  · exact .inl h
  · exact .inr ⟨b, o, c, e, hq b hp, hm, hc⟩
theorem Its.on {p : Nat → Prop} {w w' : World} {v : Value} {l : List It} (h : Its p w v l) (hb : Below w.heap.size w w') : Its p w' v l := h.chg (T := []) (Chg.of_below hb) (by simp)
theorem Its.form {p : Nat → Prop} {w : World} {v : Value} {l : List It} (h : Its p w v l) : ∃ a c, v = .slice a l.length c ∧ l.length ≤ 9223372036854775807 ∧ (a = none → c = 0 ∧ l = []) := by
  obtain ⟨h, hz⟩ := h
  rcases h with ⟨rfl, a, c, e⟩ | ⟨b, o, c, e, hp, hm, hc⟩
  · exact ⟨a, c, e, by simp, fun ha => ⟨(hz a 0 c e).2 ha, rfl⟩⟩
  · exact ⟨_, _, e, hm, fun ha => by cases ha⟩
theorem Its.cap {p : Nat → Prop} {w : World} {a : Option Addr} {n c : Nat} {l : List It} (h : Its p w (.slice a n c) l) : n ≤ c := (h.2 a n c rfl).1
theorem Its.at {p : Nat → Prop} {w : World} {a : Option Addr} {n c : Nat} {l : List It} (h : Its p w (.slice a n c) l) (j : Nat) (hj : j < l.length) : ∃ b o, a = some ⟨b, o, none⟩ ∧ p b ∧ w.cell? ⟨b, o + j * 3, none⟩ = some (.string l[j].key) ∧ w.cell? ⟨b, o + j * 3 + 1, none⟩ = some (.string l[j].val) ∧ w.cell? ⟨b, o + j * 3 + 2, none⟩ = some (.int .i64 l[j].kid) := by
  obtain ⟨h, _⟩ := h
  rcases h with ⟨rfl, a, c, e⟩ | ⟨b, o, c', e, hp, hm, hc⟩
  · simp at hj
  · injection e with e1 e2 e3
    subst e1
    obtain ⟨cs, h1, h2, h3⟩ := hc j hj
    unfold ItR at h3
    subst h3
    exact ⟨b, o, rfl, hp, by simpa using h2 0 (by omega), by simpa [Nat.add_assoc] using h2 1 (by omega), by simpa [Nat.add_assoc] using h2 2 (by omega)⟩
theorem Its.nil {p : Nat → Prop} {w : World} : Its p w (.slice none 0 0) [] := ⟨.inl ⟨rfl, _, _, rfl⟩, fun a n c e => by injection e with _ e1 e; exact ⟨by omega, fun _ => e.symm⟩⟩
/-- items of a call's own -/
def OwnT (base : Nat) (w : World) (v : Value) (l : List It) : Prop := w.ownsRow base 83 3 v l.length (l.flatMap itL)
theorem OwnT.mono {base base' : Nat} {w : World} {v : Value} {l : List It} (h : OwnT base w v l) (hb : base' ≤ base) : OwnT base' w v l := by
  refine ⟨h.1, ?_⟩
  rcases h.2 with h | ⟨g, cap, cur, e, hg, r⟩
  · exact .inl h
  · exact .inr ⟨g, cap, cur, e, Nat.le_trans hb hg, r⟩
theorem OwnT.nil (base : Nat) (w : World) : OwnT base w (.slice none 0 0) [] := ⟨rfl, .inl ⟨rfl, rfl⟩⟩
theorem flat_at (l : List It) (j q : Nat) (hj : j < l.length) (hq : q < 3) : (l.flatMap itL)[j * 3 + q]? = (itL l[j])[q]? := by
  induction l generalizing j with
  | nil => simp at hj
  | cons x l ih =>
    rw [List.flatMap_cons]
    match j with
    | 0 =>
      rw [List.getElem?_append_left (by simp; omega)]
      simp
    | j + 1 =>
      rw [List.getElem?_append_right (by simp; omega)]
      have := ih j (by simpa using hj)
      simp only [List.getElem_cons_succ]
      rw [← this]
      congr 1
      simp; omega
theorem flat_len (l : List It) : (l.flatMap itL).length = l.length * 3 := by
  induction l with
  | nil => rfl
  | cons x l ih => rw [List.flatMap_cons, List.length_append, ih, List.length_cons]; simp; omega
theorem OwnT.its {base : Nat} {w : World} {v : Value} {l : List It} (h : OwnT base w v l) (hl : l.length ≤ 9223372036854775807) : Its (fun q => base ≤ q ∧ q < w.heap.size) w v l := by
  rcases h.2 with ⟨rfl, h0⟩ | ⟨g, cap, cur, rfl, hg, hb, hr⟩
  · refine ⟨.inl ⟨List.length_eq_zero_iff.1 h0, _, _, rfl⟩, fun a n c e => ?_⟩
    injection e with _ e1 e
    exact ⟨by omega, fun _ => e.symm⟩
  · refine ⟨.inr ⟨g, 0, cap, rfl, ⟨hg, heap_lt hb⟩, hl, fun j hj => ⟨itL l[j], rfl, fun q hq => ?_, rfl⟩⟩, fun a n c e => by injection e with e0 e1 e2; exact ⟨by have := hr.1; omega, fun h0 => by rw [h0] at e0; cases e0⟩⟩
    have hf := flat_at l j q hj hq
    rw [List.getElem?_eq_getElem (by rw [flat_len]; omega)] at hf
    rw [← hf]
    have := World.ownsRow.cells h rfl (j * 3 + q) _ (List.getElem?_eq_getElem (by rw [flat_len]; omega))
    rw [add_at] at this
    exact this
theorem OwnT.form {base : Nat} {w : World} {v : Value} {l : List It} (h : OwnT base w v l) : ∃ a c, v = .slice a l.length c := by
  rcases h.2 with ⟨rfl, h0⟩ | ⟨g, cap, cur, rfl, _⟩
  · exact ⟨none, 0, by rw [h0]⟩
  · exact ⟨_, _, rfl⟩
theorem cell_on {w w' : World} {b o : Nat} {v : Value} (hb : Below w.heap.size w w') (h : w.cell? ⟨b, o, none⟩ = some v) : w'.cell? ⟨b, o, none⟩ = some v := (Chg.of_below (S := []) hb).cell (by simp) h
theorem own_chg {w w' : World} {base size n : Nat} {e : TypeId} {v : Value} {xs : List Value} {T : List Nat} (h : w.ownsRow base e size v n xs) (hc : Chg T w w') (hT : ∀ t ∈ T, v.ownBlock ≠ some t) : w'.ownsRow base e size v n xs := by
  refine ⟨h.1, ?_⟩
  rcases h.2 with h | ⟨g, cap, cur, e, hg, hb, r⟩
  · exact .inl h
  · refine .inr ⟨g, cap, cur, e, hg, (hc.block g (heap_lt hb) (fun hm => hT g hm ?_)).trans hb, r⟩
    rw [e]; rfl
theorem grown_chg {w w' : World} {r : Option Nat} (h : w.grownBy w' r) : Chg r.toList w w' :=
  ⟨h.os, h.tape, h.output, h.size, fun k hk hm => h.block k hk (fun e => hm (by rw [← e]; simp))⟩
theorem own_base {w : World} {base base' size n : Nat} {e : TypeId} {v : Value} {xs : List Value} (h : w.ownsRow base e size v n xs) (hb : base' ≤ base) : w.ownsRow base' e size v n xs := by
  refine ⟨h.1, ?_⟩
  rcases h.2 with h | ⟨g, cap, cur, e, hg, r⟩
  · exact .inl h
  · exact .inr ⟨g, cap, cur, e, Nat.le_trans hb hg, r⟩
theorem info_item : (Tryz.prog.info? 83).map (fun i => (i.zero, i.size, i.bytes)) = some (some (.agg #[.string ⟨#[]⟩, .string ⟨#[]⟩, .int .i64 0]), 3, 40) := by kernel_rfl
/-- 'append(out, l...)', out the call's own -/
theorem wpList_append_its {p : Nat → Prop} {w : World} {ops : Array Oper} {rest : List Oper} {o : Oper} {a : Act} {Q : Exit → Act → World → Prop} (hgd : o.guard = none) (s x : Operand)
    (ho : o.op = .call { callee := .builtin .append, args := #[s, x], argTypes := #[77, 77] }) (base : Nat) (hbase : base ≤ w.heap.size)
    (v : Value) (l : List It) (hs : a.eval s = v) (hown : OwnT base w v l) (vx : Value) (l2 : List It) (hx : a.eval x = vx) (hi : Its p w vx l2) (hl : l.length + l2.length ≤ 1048576)
    (h : ∀ v' w', OwnT base w' v' (l ++ l2) → w.grownBy w' v.ownBlock → wpList Tryz.prog ops Q rest (a.put o.dst v') w') : wpList Tryz.prog ops Q (o :: rest) a w := by
  obtain ⟨i0, hi0, hz0, hz1, hz2⟩ := info_parts info_item
  obtain ⟨ax, c, rfl, _, hn⟩ := hi.form
  cases ax with
  | none =>
    obtain ⟨rfl, rfl⟩ := hn rfl
    refine wpList_append_own_none hgd s x 77 ho base 83 i0 3 Tryz.underlying77 hi0 v _ _ hs hown hx ?_
    refine h _ _ (by rw [List.append_nil]; exact hown) ⟨rfl, rfl, rfl, Nat.le_refl _, fun _ _ _ => rfl⟩
  | some ad =>
    refine wpList_append_own _ hgd s x 77 ho base 83 i0 (.agg #[.string ⟨#[]⟩, .string ⟨#[]⟩, .int .i64 0]) 3 40 Tryz.underlying77 hi0 hz0 hz1 hz2 rfl (by decide) v _ _ hs hown ad l2.length c (l2.flatMap itL) hx (flat_len _) (fun j u hj => ?_) (fun u hu => ?_) (by unfold maxLen; omega) (by omega) hbase (fun v' w' h1 h2 _ => ?_)
    · have hlt : j < l2.length * 3 := by rw [← flat_len]; exact (List.getElem?_eq_some_iff.1 hj).1
      obtain ⟨k, m, rfl, hm, hk⟩ : ∃ k m, j = k * 3 + m ∧ m < 3 ∧ k < l2.length := ⟨j / 3, j % 3, by omega, Nat.mod_lt _ (by omega), by omega⟩
      rw [flat_at l2 k m hk hm] at hj
      obtain ⟨b, o, e, _, q0, q1, q2⟩ := hi.at k hk
      injection e with e
      subst e
      rw [add_at]
      match m, hm with
      | 0, _ => simp at hj; rw [← hj]; exact q0
      | 1, _ => simp at hj; rw [← hj]; exact q1
      | 2, _ => simp at hj; rw [← hj]; exact q2
    · obtain ⟨y, _, hy⟩ := List.mem_flatMap.1 hu
      simp at hy
      rcases hy with rfl | rfl | rfl <;> rfl
    · refine h _ _ ?_ h2
      unfold OwnT
      simpa using h1
theorem Its.one {w : World} {b : Nat} {y : It} (h0 : w.cell? ⟨b, 0, none⟩ = some (.string y.key)) (h1 : w.cell? ⟨b, 1, none⟩ = some (.string y.val)) (h2 : w.cell? ⟨b, 2, none⟩ = some (.int .i64 y.kid)) : Its (fun _ => True) w (.slice (some ⟨b, 0, none⟩) 1 1) [y] := by
  refine ⟨.inr ⟨b, 0, 1, rfl, trivial, by simp, fun j hj => ⟨itL y, rfl, fun q hq => ?_, ?_⟩⟩, fun a n c e => by injection e with e0 e1 e2; exact ⟨by omega, fun h0 => by rw [h0] at e0; cases e0⟩⟩
  · have : j = 0 := by simpa using hj
    subst this
    match q, hq with
    | 0, _ => exact h0
    | 1, _ => exact h1
    | 2, _ => exact h2
  · have : j = 0 := by simpa using hj
    subst this
    rfl
theorem right_any (k : ByteArray) (w : World) : Calls Tryz.prog 54 #[.string k] w fun e w' => e = .returned (.bool (rightK k)) ∧ w' = w := by
  have hs : k.size = k.toList.length := by rw [toList_data, Array.length_toList]; rfl
  by_cases h0 : k.size = 0
  · have hn : k.toList.isEmpty = true := by rw [List.isEmpty_iff_length_eq_zero]; omega
    have hr : rightK k = false := by simp [rightK, h0]
    rw [hr]
    go_enter Tryz.func54, Tryz.ntmps54
    go_wp2
    go_ret
    exact ⟨rfl, rfl⟩
  · have hn : k.toList.isEmpty = false := by rw [List.isEmpty_eq_false_iff]; intro e; rw [e] at hs; exact h0 hs
    have hr : rightK k = decide ((k.size : Int) ≤ 64) := by
      unfold rightK
      rw [Bool.eq_iff_iff]
      simp [h0]
      try omega
    rw [hr]
    clear hr h0
    go_enter Tryz.func54, Tryz.ntmps54
    go_wp2
    go_ret
    exact ⟨by simp [hs], rfl⟩
theorem right_is {k : ByteArray} {b : Bool} (h : rightK k = b) (w : World) : Calls Tryz.prog 54 #[.string k] w fun e w' => e = .returned (.bool b) ∧ w' = w := by
  rw [← h]
  exact right_any k w
end Go.Proofs.YtadmecjdihfmeaaGreat.Tre

/- Layer 7: a node as a block. -/
namespace Go.Proofs.YtadmecjdihfmeaaGreat.Tre
set_option linter.unusedVariables false
set_option linter.unusedSimpArgs false
set_option maxRecDepth 100000
open Go.RowKit Go.Lib Go.Proofs.YtadmecjdihfmeaaGreat.Mem Go.Proofs.YtadmecjdihfmeaaGreat.Oct Go.Proofs.YtadmecjdihfmeaaGreat.Dev Go.Proofs.YtadmecjdihfmeaaGreat.Sto

/-- texts of items that may be laid -/
def FitI (l : List It) : Prop := ∀ x ∈ l, x.key.size ≤ 64 ∧ x.val.size ≤ 300
theorem textL_len (s : ByteArray) : (textL s).length = 2 + s.size := by
  unfold textL
  rw [List.length_append, be_length, Array.length_toList]
  rfl
theorem body_len (lv : Nat) (l : List It) (h : FitI l) : (Nd.body lv l).length ≤ 400 * l.length := by
  induction l with
  | nil => simp [Nd.body]
  | cons x l ih =>
    have h1 := ih (fun y hy => h y (List.mem_cons_of_mem _ hy))
    have h2 := h x (by simp)
    unfold Nd.body at h1 ⊢
    rw [List.flatMap_cons, List.length_append, List.length_append, textL_len]
    split
    · rw [textL_len, List.length_cons]; simp_all; omega
    · rw [List.length_cons]; simp_all; omega
theorem body_snoc (lv : Nat) (l : List It) (x : It) : Nd.body lv (l ++ [x]) = Nd.body lv l ++ (textL x.key ++ (if lv = 0 then textL x.val else [])) := by
  simp [Nd.body]
def kidsN (lv : Nat) (l : List It) : List Int := Nd.kids ⟨lv, l⟩
theorem kidsN_len (lv : Nat) (l : List It) : (kidsN lv l).length ≤ l.length := by
  unfold kidsN Nd.kids
  split <;> simp
set_option maxHeartbeats 4000000 in
theorem nbytes_any (p : Nat → Prop) (lv : Nat) (v : Value) (l : List It) (w : World) (h : Its p w v l) (hp : ∀ q, p q → q < w.heap.size) (hf : FitI l) (hl : l.length ≤ 64) (hlv : lv < 256) :
    Calls Tryz.prog 78 #[.agg #[.int .i64 lv, v]] w fun e w' => ∃ v', e = .returned (.tuple #[v', .string (bl (Nd.data ⟨lv, l⟩))]) ∧ OwnI w.heap.size w' v' (kidsN lv l) ∧ Below w.heap.size w w' := by
  obtain ⟨a, c, rfl, _⟩ := h.form
  obtain ⟨w1, hw1⟩ : ∃ w1, w1 = w.alloc (.cells #[.int .i64 lv, .slice a l.length c] 79) := ⟨_, rfl⟩
  have hb1 : Below w.heap.size w w1 := by rw [hw1]; exact (Below.refl _ _).alloc (Nat.le_refl _) _
  have hx1 : w1.heap[w.heap.size]? = some (.cells #[.int .i64 lv, .slice a l.length c] 79 (0, 0)) := by rw [hw1]; exact heap_alloc_last _ _
  obtain ⟨bx, hbx⟩ : ∃ bx, bx = w.heap.size := ⟨_, rfl⟩
  rw [← hbx] at hx1
  have H1 : Hid (Below w.heap.size w w1.drew ∧ w1.drew.heap[bx]? = some (.cells #[.int .i64 lv, .slice a l.length c] 79 (0, 0)) ∧ bx = w.heap.size) := ⟨hb1.drew, hx1, hbx⟩
  have H : Hid (Its p w (.slice a l.length c) l ∧ ∀ q, p q → q < w.heap.size) := ⟨h, hp⟩
  have y0 : w1.drew.cell? ⟨bx, 0, none⟩ = some (.int .i64 lv) := cell_at H1.out.2.1 0
  have y1 : w1.drew.cell? ⟨bx, 1, none⟩ = some (.slice a l.length c) := cell_at H1.out.2.1 1
  clear h hp hb1 hx1
  go_enter Tryz.func78, Tryz.ntmps78
  go_wp2_with fail
  rw [← hw1, ← hbx]
  clear hw1 hbx
  go_region_held3 (fun w' => w'.cell? ⟨bx, 0, none⟩ = some (.int .i64 lv) ∧ w'.cell? ⟨bx, 1, none⟩ = some (.slice a l.length c))
    (first | exact ⟨y0, y1⟩ | exact H3f.out | exact ⟨cell_on H2.out.1 y0, cell_on H2.out.1 y1⟩)
    (first
      | (go_at_call 85; refine (put_k 1 _ 1 l.length rfl rfl v2 (be 1 lv) _ H2.out.2 (by omega) (by omega) (by omega) (by simp [be_length])).mono ?_; rintro e w3 ⟨v3, rfl, ho, hb⟩; have H3 : Hid (Below w1.drew.heap.size w1.drew w3 ∧ U8s w3.heap.size w3 v3 (be 1 lv ++ be 1 l.length)) := ⟨H2.out.1.trans (hb.mono H2.out.1.size), ho.u8s⟩; have H3f : Hid (w3.cell? ⟨bx, 0, none⟩ = some (.int .i64 lv) ∧ w3.cell? ⟨bx, 1, none⟩ = some (.slice a l.length c)) := ⟨cell_on H3.out.1 y0, cell_on H3.out.1 y1⟩; clear ho hb)
      | (go_at_call 85; refine (put_k 1 _ 1 lv rfl rfl _ [] _ (U8s.nil _ _) (by omega) (by omega) (by omega) (by simp)).mono ?_; rintro e w2 ⟨v2, rfl, ho, hb⟩; have H2 : Hid (Below w1.drew.heap.size w1.drew w2 ∧ U8s w2.heap.size w2 v2 (be 1 lv)) := ⟨hb, by have := ho.u8s; rw [List.nil_append] at this; exact this⟩; clear ho hb)
      | fail)
  have hxx : w3.heap[bx]? = some (.cells #[.int .i64 lv, .slice a l.length c] 79 (0, 0)) := (H3.out.1.block _ (heap_lt H1.out.2.1)).trans H1.out.2.1
  have B3 : Hid (Below w.heap.size w w3 ∧ w3.heap[bx]? = some (.cells #[.int .i64 lv, .slice a l.length c] 79 (0, 0)) ∧ U8s w3.heap.size w3 v3 (be 1 lv ++ be 1 l.length)) := ⟨H1.out.1.trans (H3.out.1.mono H1.out.1.size), hxx, H3.out.2⟩
  obtain ⟨y0, y1⟩ := H3f.out
  have HBX : Hid (bx = w.heap.size) := H1.out.2.2
  clear H3f H3 H2 H1 hxx
  go_wp2_with fail
  go_loopw [4, 5, 18] (fun v4 v5 v18 wr => ∃ j : Nat, j ≤ l.length ∧ v18 = .int .i64 j ∧ Hid (Below w.heap.size w wr ∧ wr.heap[bx]? = some (.cells #[.int .i64 lv, .slice a l.length c] 79 (0, 0)) ∧ OwnI (w.heap.size + 1) wr v4 (kidsN lv (l.take j)) ∧ U8s wr.heap.size wr v5 (be 1 lv ++ be 1 l.length ++ Nd.body lv (l.take j)))) (fun _ _ v18 _ => l.length - (intOf v18).toNat)
  case atStart => exact ⟨0, by omega, rfl, B3.out.1, B3.out.2.1, by have := OwnI.nil (w.heap.size + 1) w3; simpa [kidsN, Nd.kids] using this, by have := B3.out.2.2; simpa [Nd.body] using this⟩
  case round =>
    obtain ⟨j, hj, rfl, HT⟩ := hrel
    by_cases hlt : j < l.length
    · obtain ⟨b, o, hao, _, i0, i1, i2⟩ := ((H.out.1.chg (T := []) (Chg.of_below (HT.out.1.mono (Nat.le_refl _))) (by simp)) : Its p wr _ l).at j hlt
      subst hao
      obtain ⟨x, hx⟩ : ∃ x, x = l[j] := ⟨_, rfl⟩
      rw [← hx] at i0 i1 i2
      have hfx := hf l[j] (List.getElem_mem hlt)
      rw [← hx] at hfx
      have htk : l.take (j + 1) = l.take j ++ [x] := by rw [hx]; exact List.take_succ_eq_append_getElem hlt
      have hbl : (be 1 lv ++ be 1 l.length ++ Nd.body lv (l.take j)).length ≤ 70368744000000 := by
        have := body_len lv (l.take j) (fun y hy => hf y (List.mem_of_mem_take hy))
        have h2 : (l.take j).length ≤ 64 := by rw [List.length_take]; omega
        simp only [List.length_append, be_length]
        omega
      have HL : Hid (l.take (j + 1) = l.take j ++ [x] ∧ (be 1 lv ++ be 1 l.length ++ Nd.body lv (l.take j)).length ≤ 70368744000000 ∧ x.key.size ≤ 65535 ∧ x.val.size ≤ 65535) := ⟨htk, hbl, by omega, by omega⟩
      have hw2 : Below wr.heap.size wr (wr.alloc (.cells #[.string x.key, .string x.val, .int .i64 x.kid] 83)) := (Below.refl _ _).alloc (Nat.le_refl _) _
      have hxx : (wr.alloc (.cells #[.string x.key, .string x.val, .int .i64 x.kid] 83)).heap[wr.heap.size]? = some (.cells #[.string x.key, .string x.val, .int .i64 x.kid] 83 (0, 0)) := heap_alloc_last _ _
      have HW : Hid (Below wr.heap.size wr (wr.alloc (.cells #[.string x.key, .string x.val, .int .i64 x.kid] 83)) ∧ (wr.alloc (.cells #[.string x.key, .string x.val, .int .i64 x.kid] 83)).heap[wr.heap.size]? = some (.cells #[.string x.key, .string x.val, .int .i64 x.kid] 83 (0, 0))) := ⟨hw2, hxx⟩
      clear htk hbl hx hfx hw2 hxx
      go_wp2_with fail
      obtain ⟨nb, hnb⟩ : ∃ nb, nb = wr.heap.size := ⟨_, rfl⟩
      obtain ⟨w4, hw4⟩ : ∃ w4, w4 = wr.alloc (.cells #[.string x.key, .string x.val, .int .i64 x.kid] 83) := ⟨_, rfl⟩
      rw [← hw4]
      rw [← hw4] at HW
      have HWx : Hid (w4.heap[nb]? = some (.cells #[.string x.key, .string x.val, .int .i64 x.kid] 83 (0, 0))) := by rw [hnb]; exact HW.out.2
      rw [← hnb]
      have HU : Hid (U8s w4.heap.size w4 u5 (be 1 lv ++ be 1 l.length ++ Nd.body lv (l.take j))) := ((HT.out.2.2.2.below HW.out.1).mono HW.out.1.size)
      refine (puttext_any u5 _ x.key w4 HU.out HL.out.2.2.1 (by have := HL.out.2.1; omega)).mono ?_
      rintro e w5 ⟨v5', rfl, ho, hb⟩
      have H5o : Hid (Own8 w4.heap.size w5 v5' (be 1 lv ++ be 1 l.length ++ Nd.body lv (l.take j) ++ be 2 x.key.size ++ x.key.data.toList) ∧ wr.heap.size ≤ w4.heap.size ∧ ∀ g, u4.ownBlock = some g → w.heap.size + 1 ≤ g ∧ g < wr.heap.size) := ⟨ho, HW.out.1.size, fun g hg => World.ownsRow.lt HT.out.2.2.1 g hg⟩
      have H5 : Hid (Below wr.heap.size wr w5 ∧ w5.heap[nb]? = some (.cells #[.string x.key, .string x.val, .int .i64 x.kid] 83 (0, 0)) ∧ U8s w5.heap.size w5 v5' (be 1 lv ++ be 1 l.length ++ Nd.body lv (l.take j) ++ be 2 x.key.size ++ x.key.data.toList)) :=
        ⟨HW.out.1.trans (hb.mono HW.out.1.size), (hb.block _ (heap_lt HWx.out)).trans HWx.out, ho.u8s⟩
      have H5b : Hid (Below w.heap.size w w5 ∧ w5.heap[bx]? = some (.cells #[.int .i64 lv, .slice (some ⟨b, o, none⟩) l.length c] 79 (0, 0)) ∧ OwnI (w.heap.size + 1) w5 u4 (kidsN lv (l.take j))) :=
        ⟨HT.out.1.trans (H5.out.1.mono HT.out.1.size), (H5.out.1.block _ (heap_lt HT.out.2.1)).trans HT.out.2.1, HT.out.2.2.1.chg (T := []) (Chg.of_below H5.out.1) (by simp)⟩
      clear ho hb HU HW HWx HT hw4 hnb i0 i1 i2
      have z0 : w5.cell? ⟨bx, 0, none⟩ = some (.int .i64 lv) := cell_at H5b.out.2.1 0
      have z1 : w5.cell? ⟨nb, 1, none⟩ = some (.string x.val) := cell_at H5.out.2.1 1
      have z2 : w5.cell? ⟨nb, 2, none⟩ = some (.int .i64 x.kid) := cell_at H5.out.2.1 2
      by_cases h0 : lv = 0
      · have HE : Hid (Nd.body lv (l.take (j + 1)) = Nd.body lv (l.take j) ++ (textL x.key ++ textL x.val) ∧ kidsN lv (l.take (j + 1)) = kidsN lv (l.take j)) := by
          refine ⟨?_, ?_⟩
          · rw [HL.out.1, body_snoc, if_pos h0]
          · simp [kidsN, Nd.kids, h0]
        have hq : ¬ (0 : Int) < (lv : Int) := by omega
        clear h0
        go_wp2_with fail
        refine (puttext_any v5' _ x.val w5 H5.out.2.2 HL.out.2.2.2 (by have := HL.out.2.1; have := HL.out.2.2.1; simp only [List.length_append, be_length, Array.length_toList] at *; have e : x.key.data.size = x.key.size := rfl; omega)).mono ?_
        rintro e w6 ⟨v6, rfl, ho, hb⟩
        have H6 : Hid (Below w.heap.size w w6 ∧ w6.heap[bx]? = some (.cells #[.int .i64 lv, .slice (some ⟨b, o, none⟩) l.length c] 79 (0, 0)) ∧ OwnI (w.heap.size + 1) w6 u4 (kidsN lv (l.take (j + 1))) ∧ U8s w6.heap.size w6 v6 (be 1 lv ++ be 1 l.length ++ Nd.body lv (l.take (j + 1)))) := by
          refine ⟨H5b.out.1.trans (hb.mono H5b.out.1.size), (hb.block _ (heap_lt H5b.out.2.1)).trans H5b.out.2.1, ?_, ?_⟩
          · rw [HE.out.2]
            exact H5b.out.2.2.chg (T := []) (Chg.of_below hb) (by simp)
          · rw [HE.out.1]
            have := ho.u8s
            simpa [textL, List.append_assoc] using this
        clear ho hb H5 H5b HE z0 z1 z2
        go_wp2_with fail
        go_roundw
        case rel => exact ⟨j + 1, by omega, by go_num, H6.out⟩
        case measure => simp [intOf]; omega
      · have HE : Hid (Nd.body lv (l.take (j + 1)) = Nd.body lv (l.take j) ++ (textL x.key ++ []) ∧ kidsN lv (l.take (j + 1)) = kidsN lv (l.take j) ++ [x.kid]) := by
          refine ⟨?_, ?_⟩
          · rw [HL.out.1, body_snoc, if_neg h0]
          · simp [kidsN, Nd.kids, h0, HL.out.1]
        have hq : (0 : Int) < (lv : Int) := by omega
        obtain ⟨a4, c4, hv4⟩ := H5b.out.2.2.form
        have hk16 : (kidsN lv (l.take j)).length ≤ 1048576 := by have := kidsN_len lv (l.take j); rw [List.length_take] at this; omega
        subst hv4
        go_wp2_with (first
          | (at_builtin; refine wpList_append_i64 rfl _ _ rfl (w.heap.size + 1) (by have := heap_lt H5b.out.2.1; have := HBX.out; simp; omega) _ (kidsN lv (l.take j)) rfl (H5b.out.2.2.alloc _) _ x.kid rfl (by simp) hk16 ?_)
          | fail)
        intro v7 w7 hown hb hg
        have hc7 : Chg (Value.slice a4 (kidsN lv (l.take j)).length c4).ownBlock.toList w5 w7 := (Chg.of_below ((Below.refl _ _).alloc (Nat.le_refl _) _)).trans (grown_chg hg)
        have hT : ∀ t ∈ (Value.slice a4 (kidsN lv (l.take j)).length c4).ownBlock.toList, w.heap.size + 1 ≤ t ∧ t < wr.heap.size := fun t ht => H5o.out.2.2 t (by simpa using ht)
        have H6 : Hid (Below w.heap.size w w7 ∧ w7.heap[bx]? = some (.cells #[.int .i64 lv, .slice (some ⟨b, o, none⟩) l.length c] 79 (0, 0)) ∧ OwnI (w.heap.size + 1) w7 v7 (kidsN lv (l.take (j + 1))) ∧ U8s w7.heap.size w7 v5' (be 1 lv ++ be 1 l.length ++ Nd.body lv (l.take (j + 1)))) := by
          refine ⟨H5b.out.1.trans (hc7.below H5b.out.1.size (fun q hq => by have := hT q hq; omega)), (hc7.block _ (heap_lt H5b.out.2.1) (fun hm => by have := hT _ hm; have := HBX.out; omega)).trans H5b.out.2.1, ?_, ?_⟩
          · rw [HE.out.2]; exact hown
          · rw [HE.out.1]
            have h8 : Own8 w4.heap.size w7 v5' _ := own_chg H5o.out.1 hc7 (fun t ht he => by have := (hT t ht).2; have := (World.ownsRow.lt H5o.out.1 t he).1; have := H5o.out.2.1; omega)
            have := h8.u8s
            simpa [textL, List.append_assoc] using this
        clear hc7 hT hg
        clear hown hb H5 H5b H5o HE z0 z1 z2
        go_wp2_with fail
        go_roundw
        case rel => exact ⟨j + 1, by omega, by go_num, H6.out⟩
        case measure => simp [intOf]; omega
    · have hjl : j = l.length := by omega
      subst hjl
      have A3 : Hid (Below w.heap.size w wr ∧ OwnI (w.heap.size + 1) wr u4 (kidsN lv l) ∧ U8s wr.heap.size wr u5 (be 1 lv ++ be 1 l.length ++ Nd.body lv l)) := ⟨HT.out.1, by have := HT.out.2.2.1; rw [List.take_length] at this; exact this, by have := HT.out.2.2.2; rw [List.take_length] at this; exact this⟩
      clear HT
      have hcv := (show U8s wr.drew.heap.size wr.drew u5 _ from A3.out.2.2).conv
      go_wp2_with fail
      go_region
      go_wp2
      go_ret2
      refine ⟨u4, ?_, (show OwnI (w.heap.size + 1) wr.drew u4 (kidsN lv l) from A3.out.2.1).mono (Nat.le_succ _), A3.out.1.drew⟩
      simp [bl, Nd.data]
end Go.Proofs.YtadmecjdihfmeaaGreat.Tre

/- Layer 7: what load's look sees. -/
namespace Go.Proofs.YtadmecjdihfmeaaGreat.Tre
set_option linter.unusedVariables false
set_option linter.unusedSimpArgs false
set_option maxRecDepth 100000
open Go.RowKit Go.Lib Go.Proofs.YtadmecjdihfmeaaGreat.Mem Go.Proofs.YtadmecjdihfmeaaGreat.Oct Go.Proofs.YtadmecjdihfmeaaGreat.Dev Go.Proofs.YtadmecjdihfmeaaGreat.Sto

theorem itemsP_leaf (ks : List Int) (k : Nat) (acc : List It) (s : ByteArray) : itemsP 0 ks (k + 1) acc s = match textP 64 s with
    | .error e => .error e
    | .ok (key, s1) => match textP 300 s1 with
        | .error e => .error e
        | .ok (val, s2) => if badKey acc key = true then .error 201 else itemsP 0 ks k (acc ++ [⟨key, val, 0⟩]) s2 := rfl
theorem itemsP_succ (lv : Nat) (ks : List Int) (k : Nat) (acc : List It) (s : ByteArray) : itemsP lv ks (k + 1) acc s = match textP 64 s with
    | .error e => .error e
    | .ok (key, s1) =>
      if lv = 0 then
        match textP 300 s1 with
        | .error e => .error e
        | .ok (val, s2) => if badKey acc key = true then .error 201 else itemsP lv ks k (acc ++ [⟨key, val, 0⟩]) s2
      else if badKey acc key = true then .error 201 else itemsP lv ks k (acc ++ [⟨key, nil8, ks.getD acc.length 0⟩]) s1 := rfl
theorem itemsP_node {lv : Nat} (h : 0 < lv) (ks : List Int) (k : Nat) (acc : List It) (s : ByteArray) : itemsP lv ks (k + 1) acc s = match textP 64 s with
    | .error e => .error e
    | .ok (key, s1) => if badKey acc key = true then .error 201 else itemsP lv ks k (acc ++ [⟨key, nil8, ks.getD acc.length 0⟩]) s1 := by
  rw [itemsP_succ]
  cases textP 64 s with
  | error e => rfl
  | ok q =>
    dsimp only
    rw [if_neg (by omega)]
theorem ints_at {p : Nat → Prop} {w : World} {a : Option Addr} {m c : Nat} {l : List Int} (h : Ints p w (.slice a m c) l) (j : Nat) (hj : j < l.length) : ∃ b o, a = some ⟨b, o, none⟩ ∧ p b ∧ w.cell? ⟨b, o + j, none⟩ = some (.int .i64 l[j]) := by
  rcases h with ⟨rfl, _⟩ | ⟨b, o, c', e, hp, _, hc⟩
  · simp at hj
  · injection e with e1 _ _
    exact ⟨b, o, e1, hp, hc j hj⟩
def LoadF (ks : List Int) (s : ByteArray) (nb : Nat) (N : Nat) (r : Except Int ByteArray) (w : World) : Prop :=
  match r with
  | .ok s' => ∃ (n : Nd) (v : Value), nodeR ks s = .ok (n, s') ∧ w.heap[nb]? = some (.cells #[.int .i64 n.level, v] 79 (0, 0)) ∧ OwnT N w v n.items
  | .error why => nodeR ks s = .error why ∧ ∃ (lv : Int) (a : Option Addr) (m c : Nat), w.heap[nb]? = some (.cells #[.int .i64 lv, .slice a m c] 79 (0, 0))
/-- what stands while a node is read -/
structure Rdn (w w' : World) (eb nb bb : Nat) (s' : ByteArray) (lv : Nat) (v : Value) (l : List It) (vk : Value) (d : ByteArray) (ks : List Int) : Prop where
  eye : EyeAt w' eb s'
  x : w'.heap[nb]? = some (.cells #[.int .i64 lv, v] 79 (0, 0))
  b : w'.heap[bb]? = some (.cells #[vk, .string d] 125 (0, 0))
  own : OwnT w.heap.size w' v l
  chg : Chg (eb :: [nb]) w w'
  lt : eb < w.heap.size ∧ nb < w.heap.size ∧ bb < w.heap.size
  ne : eb ≠ nb ∧ bb ≠ nb ∧ bb ≠ eb
  kids : Ints (fun q => q < w.heap.size ∧ q ≠ eb ∧ q ≠ nb) w' vk ks
section
variable {w w' w'' : World} {eb nb bb : Nat} {s s' s'' : ByteArray} {lv : Nat} {v : Value} {l : List It} {vk : Value} {d : ByteArray} {ks : List Int}
theorem Rdn.eyed (h : Rdn w w' eb nb bb s' lv v l vk d ks) (h1 : EyeAt w'' eb s'') (h2 : Chg [eb] w' w'') : Rdn w w'' eb nb bb s'' lv v l vk d ks :=
  ⟨h1, (h2.block _ (heap_lt h.x) (by simp; exact Ne.symm h.ne.1)).trans h.x, (h2.block _ (heap_lt h.b) (by simp; exact h.ne.2.2)).trans h.b, own_chg h.own h2 (fun t ht he => by simp at ht; subst ht; have := (World.ownsRow.lt h.own _ he).1; have := h.lt.1; omega), h.chg.trans (h2.mono (by simp)), h.lt, h.ne,
    h.kids.chg h2 (fun q hq hm => by simp at hm; exact hq.2.1 hm)⟩
theorem Rdn.on (h : Rdn w w' eb nb bb s' lv v l vk d ks) (h2 : Below w'.heap.size w' w'') : Rdn w w'' eb nb bb s' lv v l vk d ks :=
  ⟨(h2.block _ (heap_lt h.eye)).trans h.eye, (h2.block _ (heap_lt h.x)).trans h.x, (h2.block _ (heap_lt h.b)).trans h.b, own_chg h.own (Chg.of_below (S := []) h2) (by simp), h.chg.trans (Chg.of_below h2), h.lt, h.ne, h.kids.chg (Chg.of_below (S := []) h2) (by simp)⟩
theorem Rdn.err {why : Int} (h : Rdn w w' eb nb bb s' lv v l vk d ks) (hb : nodeR ks s = .error why) : LookPost [nb] (LoadF ks s nb) w eb (.panicked (thrown why)) w' :=
  lookErr h.eye h.chg (by
    obtain ⟨a, c, rfl⟩ := h.own.form
    exact ⟨hb, _, _, _, _, h.x⟩)
theorem Rdn.cells (h : Rdn w w' eb nb bb s' lv v l vk d ks) : w'.cell? ⟨nb, 0, none⟩ = some (.int .i64 lv) ∧ w'.cell? ⟨nb, 1, none⟩ = some v ∧ w'.cell? ⟨bb, 0, none⟩ = some vk ∧ ∀ j, w'.frozen? ⟨nb, j, none⟩ = false :=
  ⟨cell_at h.x 0, cell_at h.x 1, cell_at h.b 0, fun j => frozen_at h.x j⟩
theorem Rdn.level (h : Rdn w w' eb nb bb s' lv v l vk d ks) (lv' : Nat) : Rdn w (w'.setCell ⟨nb, 0, none⟩ (.int .i64 lv')) eb nb bb s' lv' v l vk d ks := by
  have hc : Chg [nb] w' (w'.setCell ⟨nb, 0, none⟩ (.int .i64 lv')) := (Chg.refl _ _).setCell _ _ (.inl (by simp))
  exact ⟨(heap_set_other ⟨nb, 0, none⟩ _ h.ne.1).trans h.eye, heap_set_at h.x 0 _, (heap_set_other ⟨nb, 0, none⟩ _ h.ne.2.1).trans h.b, own_chg h.own hc (fun t ht he => by simp at ht; subst ht; have := (World.ownsRow.lt h.own _ he).1; have := h.lt.2.1; omega), h.chg.setCell _ _ (.inl (by simp)), h.lt, h.ne, h.kids.chg hc (fun q hq hm => by simp at hm; exact hq.2.2 hm)⟩
/-- one more item -/
theorem Rdn.item {v' : Value} {x : It} (h : Rdn w w' eb nb bb s' lv v l vk d ks) (hown : OwnT w.heap.size w'' v' (l ++ [x])) (hb : Chg v.ownBlock.toList w' w'') : Rdn w (w''.setCell ⟨nb, 1, none⟩ v') eb nb bb s' lv v' (l ++ [x]) vk d ks := by
  have hT : ∀ t ∈ v.ownBlock.toList, w.heap.size ≤ t := fun t ht => (World.ownsRow.lt h.own t (by simpa using ht)).1
  have hx : w''.heap[nb]? = some (.cells #[.int .i64 lv, v] 79 (0, 0)) := (hb.block _ (heap_lt h.x) (fun hm => by have := hT _ hm; have := h.lt.2.1; omega)).trans h.x
  have hc : Chg [nb] w'' (w''.setCell ⟨nb, 1, none⟩ v') := (Chg.refl _ _).setCell _ _ (.inl (by simp))
  refine ⟨(heap_set_other ⟨nb, 1, none⟩ _ h.ne.1).trans ((hb.block _ (heap_lt h.eye) (fun hm => by have := hT _ hm; have := h.lt.1; omega)).trans h.eye), heap_set_at hx 1 v', (heap_set_other ⟨nb, 1, none⟩ _ h.ne.2.1).trans ((hb.block _ (heap_lt h.b) (fun hm => by have := hT _ hm; have := h.lt.2.2; omega)).trans h.b),
    own_chg hown hc (fun t ht he => by simp at ht; subst ht; have := (World.ownsRow.lt hown _ he).1; have := h.lt.2.1; omega), ?_, h.lt, h.ne, (h.kids.chg hb (fun q hq hm => by have := hT _ hm; have := hq.1; omega)).chg hc (fun q hq hm => by simp at hm; exact hq.2.2 hm)⟩
  exact (h.chg.trans' hb (fun q hq => .inr (hT q hq))).setCell _ _ (.inl (by simp))
end
theorem Rdn.fresh {w w' w'' : World} {eb nb bb q : Nat} {s' : ByteArray} {lv : Nat} {v : Value} {l : List It} {vk : Value} {d : ByteArray} {ks : List Int} (h : Rdn w w' eb nb bb s' lv v l vk d ks) (hq : w.heap.size ≤ q) (hv : v.ownBlock ≠ some q) (h2 : Chg [q] w' w'') : Rdn w w'' eb nb bb s' lv v l vk d ks := by
  have hl := h.lt
  exact ⟨(h2.block _ (heap_lt h.eye) (by simp; omega)).trans h.eye, (h2.block _ (heap_lt h.x) (by simp; omega)).trans h.x, (h2.block _ (heap_lt h.b) (by simp; omega)).trans h.b, own_chg h.own h2 (fun t ht he => by simp at ht; subst ht; exact hv he), h.chg.trans' h2 (fun z hz => .inr (by simp at hz; omega)), h.lt, h.ne, h.kids.chg h2 (fun z hz hm => by simp at hm; omega)⟩
theorem drewN_any {w : World} (n : Nat) : Below w.heap.size w (w.drewN n) := ⟨rfl, rfl, rfl, Nat.le_refl _, fun _ _ => rfl⟩
theorem leq_lt (a b : ByteArray) : (Op.bytesLess a.toList b.toList || a.toList == b.toList) = !lt b a := by
  cases h : lt b a with
  | true =>
    have h1 := lt_asymm h
    unfold lt at h1
    have h2 : (a.toList == b.toList) = false := by
      rw [beq_eq_false_iff_ne]
      intro e
      exact lt_ne h (toList_inj e.symm)
    rw [h1, h2]; rfl
  | false =>
    cases h3 : lt a b with
    | true => unfold lt at h3; rw [h3]; rfl
    | false =>
      have := lt_tri h3 h
      subst this
      simp
theorem badKey_right {acc : List It} {key : ByteArray} (h : rightK key = false) : badKey acc key = true := by simp [badKey, h]
theorem badKey_nil {key : ByteArray} (h : rightK key = true) : badKey [] key = false := by simp [badKey, h]
theorem badKey_last {acc : List It} {key : ByteArray} {i : Nat} (hi : i + 1 = acc.length) (h : rightK key = true) : badKey acc key = !lt (acc[i]'(by omega)).key key := by
  have h1 : acc.isEmpty = false := by rw [List.isEmpty_eq_false_iff]; intro e; rw [e] at hi; simp at hi
  have h2 : acc.getLast?.getD default = acc[i]'(by omega) := by
    rw [List.getLast?_eq_getElem?, List.getElem?_eq_getElem (by omega)]
    simp only [Option.getD_some]
    congr 1
    omega
  simp [badKey, h, h1, h2]
theorem Rdn.start {w : World} {eb nb bb : Nat} {s : ByteArray} {vk : Value} {d : ByteArray} {ks : List Int} (he : EyeAt w eb s) (hx : w.heap[nb]? = some (.cells #[.int .i64 0, .slice none 0 0] 79 (0, 0))) (hn : w.heap[bb]? = some (.cells #[vk, .string d] 125 (0, 0))) (hk : Ints (fun q => q < w.heap.size ∧ q ≠ eb ∧ q ≠ nb) w vk ks) (hne : bb ≠ nb) : Rdn w w eb nb bb s 0 (.slice none 0 0) [] vk d ks := by
  refine ⟨he, hx, hn, OwnT.nil _ _, Chg.refl _ _, ⟨heap_lt he, heap_lt hx, heap_lt hn⟩, ⟨?_, hne, ?_⟩, hk⟩
  · rintro rfl; have := he.symm.trans hx; simp at this
  · rintro rfl; have := hn.symm.trans he; simp at this
set_option maxHeartbeats 8000000 in
theorem load1_any (w : World) (eb nb bb : Nat) (ka : Option Addr) (kc : Nat) (ks : List Int) (d s : ByteArray) (B0' : Rdn w w eb nb bb s 0 (.slice none 0 0) [] (.slice ka ks.length kc) d ks) (hks : ks.length ≤ 64) :
    Calls Tryz.prog 69 #[.pointer (some ⟨eb, 0, none⟩), .pointer (some ⟨nb, 0, none⟩), .pointer (some ⟨bb, 0, none⟩)] w (LookPost [nb] (LoadF ks s nb) w eb) := by
  have B0 : Hid (Rdn w w eb nb bb s 0 (.slice none 0 0) [] (.slice ka ks.length kc) d ks) := B0'
  obtain ⟨R, hR⟩ : ∃ R, R = nodeR ks s := ⟨_, rfl⟩
  have HR : Hid (R = nodeR ks s) := hR
  unfold nodeR at hR
  clear B0'
  go_enter Tryz.func69, Tryz.ntmps69
  go_wp2_with fail
  refine (num_any _ eb s 1 1 rfl B0.out.eye (by omega) (by omega)).mono ?_
  cases hp : numP 1 s with
  | error why =>
    rw [hp] at hR
    intro e w1 h1
    obtain ⟨rfl, s1, h1, h2⟩ := h1.of_err
    exact ⟨rfl, (B0.out.eyed h1 h2).err (HR.out.symm.trans hR)⟩
  | ok q =>
    obtain ⟨lv, s1⟩ := q
    rw [hp] at hR
    dsimp only at hR
    intro e w1 h1
    obtain ⟨rfl, h1, h2⟩ := h1.of_ok
    have hlv : lv < 256 := numP_lt hp
    have B1 : Hid (Rdn w w1 eb nb bb s1 0 (.slice none 0 0) [] (.slice ka ks.length kc) d ks) := B0.out.eyed h1 h2
    obtain ⟨c0, c1, c2, cf⟩ := B1.out.cells
    clear h1 h2 B0 hp
    go_wp2_with fail
    have B2 : Hid (Rdn w (w1.setCell ⟨nb, 0, none⟩ (.int .i64 lv)) eb nb bb s1 lv (.slice none 0 0) [] (.slice ka ks.length kc) d ks) := B1.out.level lv
    generalize w1.setCell ⟨nb, 0, none⟩ (.int .i64 lv) = w2 at B2 ⊢
    clear B1 c0 c1 c2 cf
    refine (num_any _ eb s1 1 1 rfl B2.out.eye (by omega) (by omega)).mono ?_
    cases hp : numP 1 s1 with
    | error why =>
      rw [hp] at hR
      intro e w1 h1
      obtain ⟨rfl, s1, h1, h2⟩ := h1.of_err
      exact ⟨rfl, (B2.out.eyed h1 h2).err (HR.out.symm.trans hR)⟩
    | ok q =>
      obtain ⟨many, s2⟩ := q
      rw [hp] at hR
      dsimp only at hR
      intro e w3 h1
      obtain ⟨rfl, h1, h2⟩ := h1.of_ok
      have hmany : many < 256 := numP_lt hp
      have B3 : Hid (Rdn w w3 eb nb bb s2 lv (.slice none 0 0) [] (.slice ka ks.length kc) d ks) := B2.out.eyed h1 h2
      obtain ⟨c0, c1, c2, cf⟩ := B3.out.cells
      clear h1 h2 B2 hp
      cases hbad : badHead lv many ks.length with
      | true =>
        rw [hbad, if_pos rfl] at hR
        have HE : Hid (nodeR ks s = .error 201) := HR.out.symm.trans hR
        clear hR
        have hcase : (20 : Int) < lv ∨ ((lv : Int) ≤ 20 ∧ (many : Int) < 1) ∨ ((lv : Int) ≤ 20 ∧ ¬ (many : Int) < 1 ∧ (8 : Int) < many) ∨ ((lv : Int) ≤ 20 ∧ ¬ (many : Int) < 1 ∧ (many : Int) ≤ 8 ∧ (0 : Int) < lv ∧ (many : Int) ≠ ks.length) ∨ (lv = 0 ∧ ¬ (many : Int) < 1 ∧ (many : Int) ≤ 8 ∧ (0 : Int) < ks.length) := by
          unfold badHead at hbad
          simp only [Bool.or_eq_true, Bool.and_eq_true, decide_eq_true_eq] at hbad
          omega
        clear hbad hmany hlv
        rcases hcase with a1 | ⟨a1, a2⟩ | ⟨a1, a2, a3⟩ | ⟨a1, a2, a3, a4, a5⟩ | ⟨rfl, a2, a3, a4⟩
        all_goals
          go_wp2_with (first
            | (go_at_call 71; refine (fail_any _ eb s2 201 B3.out.eye).mono ?_; rintro e w6 ⟨rfl, rfl⟩)
            | fail)
          exact ⟨rfl, B3.out.err HE.out⟩
      | false =>
        rw [hbad, if_neg (by decide)] at hR
        have HR2 : Hid (R = _) := hR
        clear hR
        have hcase : (lv = 0 ∧ ks = [] ∧ 1 ≤ many ∧ many ≤ 8) ∨ (0 < lv ∧ lv ≤ 20 ∧ many = ks.length ∧ 1 ≤ ks.length ∧ ks.length ≤ 8) := by
          unfold badHead at hbad
          simp only [Bool.or_eq_false_iff, Bool.and_eq_false_iff, decide_eq_false_iff_not] at hbad
          by_cases h0 : lv = 0
          · exact .inl ⟨h0, List.length_eq_zero_iff.1 (by omega), by omega, by omega⟩
          · exact .inr ⟨by omega, by omega, by omega, by omega, by omega⟩
        clear hbad hmany
        rcases hcase with ⟨rfl, rfl, a2, a3⟩ | ⟨a1, a2, rfl, a4, a5⟩
        · have a4 : ¬ ((many : Int) < 1) := by omega
          have a5 : (many : Int) ≤ 8 := by omega
          go_wp2_with fail
          clear a4 a5
          go_loopw [49] (fun i wr => ∃ (j : Nat) (acc : List It) (sj : ByteArray) (v : Value), j ≤ many ∧ i = .int .i64 j ∧ acc.length = j ∧ Hid (Rdn w wr eb nb bb sj 0 v acc (.slice ka 0 kc) d ([] : List Int) ∧ itemsP 0 ([] : List Int) (many - j) acc sj = itemsP 0 ([] : List Int) many [] s2)) (fun i _ => many - (intOf i).toNat)
          case atStart => exact ⟨0, [], s2, _, by omega, rfl, rfl, B3.out, rfl⟩
          case round =>
            obtain ⟨j, acc, sj, v, hj, rfl, hacc, HG⟩ := hrel
            by_cases hlt : j < many
            · obtain ⟨k, hk⟩ : ∃ k, many - j = k + 1 := ⟨many - j - 1, by omega⟩
              have hgo := HG.out.2
              rw [hk, itemsP_leaf] at hgo
              have HGO : Hid (_ = itemsP 0 ([] : List Int) many [] s2) := hgo
              have HK : Hid (many - j = k + 1 ∧ acc.length = j ∧ j ≤ 8) := ⟨hk, hacc, by omega⟩
              clear hgo hk hacc c0 c1 c2 cf B3
              go_wp2_with fail
              have hgo := HGO.out
              clear HGO
              refine (text_any _ eb sj 64 64 rfl HG.out.1.eye).mono ?_
              cases hp : textP 64 sj with
              | error why =>
                rw [hp] at hgo
                have hR := HR2.out
                rw [← hgo] at hR
                intro e w4 h1
                obtain ⟨rfl, s3, h1, h2⟩ := h1.of_err
                exact ⟨rfl, (HG.out.1.eyed h1 h2).err (HR.out.symm.trans hR)⟩
              | ok q =>
                obtain ⟨key, s3⟩ := q
                rw [hp] at hgo
                dsimp only at hgo
                have HGO : Hid (_ = itemsP 0 ([] : List Int) many [] s2) := hgo
                clear hgo
                intro e w4 h1
                obtain ⟨rfl, h1, h2⟩ := h1.of_ok
                have B4 : Hid (Rdn w w4 eb nb bb s3 0 v acc (.slice ka 0 kc) d ([] : List Int)) := HG.out.1.eyed h1 h2
                clear h1 h2 hp HG
                obtain ⟨w5, hw5⟩ : ∃ w5, w5 = w4.alloc (.cells #[.string key, .string ⟨#[]⟩, .int .i64 0] 83) := ⟨_, rfl⟩
                obtain ⟨xb, hxb⟩ : ∃ xb, xb = w4.heap.size := ⟨_, rfl⟩
                have hb5 : Below w4.heap.size w4 w5 := by rw [hw5]; exact (Below.refl _ _).alloc (Nat.le_refl _) _
                have hx5 : w5.heap[xb]? = some (.cells #[.string key, .string ⟨#[]⟩, .int .i64 0] 83 (0, 0)) := by rw [hw5, hxb]; exact heap_alloc_last _ _
                have B5 : Hid (Rdn w w5 eb nb bb s3 0 v acc (.slice ka 0 kc) d ([] : List Int)) := B4.out.on hb5
                have HX5 : Hid (w5.heap[xb]? = some (.cells #[.string key, .string ⟨#[]⟩, .int .i64 0] 83 (0, 0)) ∧ w.heap.size ≤ xb ∧ v.ownBlock ≠ some xb) := ⟨hx5, by rw [hxb]; exact B4.out.chg.size, fun e => by have := (World.ownsRow.lt B4.out.own _ e).2; omega⟩
                obtain ⟨c0, c1, c2, cf⟩ := B5.out.cells
                rw [hw5] at c0 c1 c2 cf
                clear hb5 hx5 B4
                go_wp2_with fail
                rw [← hw5, ← hxb]
                clear hw5 hxb c0 c1 c2 cf
                refine (text_any _ eb s3 300 300 rfl B5.out.eye).mono ?_
                have hgo := HGO.out
                clear HGO
                cases hp : textP 300 s3 with
                | error why =>
                  rw [hp] at hgo
                  have hR := HR2.out
                  rw [← hgo] at hR
                  intro e w4 h1
                  obtain ⟨rfl, s3, h1, h2⟩ := h1.of_err
                  exact ⟨rfl, (B5.out.eyed h1 h2).err (HR.out.symm.trans hR)⟩
                | ok q =>
                  obtain ⟨val, s4⟩ := q
                  rw [hp] at hgo
                  dsimp only at hgo
                  have HGO : Hid (_ = itemsP 0 ([] : List Int) many [] s2) := hgo
                  clear hgo
                  intro e w6 h1
                  obtain ⟨rfl, h1, h2⟩ := h1.of_ok
                  have B6 : Hid (Rdn w w6 eb nb bb s4 0 v acc (.slice ka 0 kc) d ([] : List Int)) := B5.out.eyed h1 h2
                  have HX6 : Hid (w6.heap[xb]? = some (.cells #[.string key, .string ⟨#[]⟩, .int .i64 0] 83 (0, 0)) ∧ w.heap.size ≤ xb ∧ v.ownBlock ≠ some xb) := ⟨(h2.block _ (heap_lt HX5.out.1) (fun hm => by simp at hm; have := B5.out.lt.1; have := HX5.out.2.1; omega)).trans HX5.out.1, HX5.out.2⟩
                  clear h1 h2 hp B5 HX5
                  have d1 : w6.cell? ⟨xb, 1, none⟩ = some (.string ⟨#[]⟩) := cell_at HX6.out.1 1
                  have df : w6.frozen? ⟨xb, 1, none⟩ = false := frozen_at HX6.out.1 1
                  have B7 : Hid (Rdn w (w6.setCell ⟨xb, 1, none⟩ (.string val)) eb nb bb s4 0 v acc (.slice ka 0 kc) d ([] : List Int)) := B6.out.fresh HX6.out.2.1 HX6.out.2.2 ((Chg.refl _ _).setCell _ _ (.inl (by simp)))
                  have HX7 : Hid ((w6.setCell ⟨xb, 1, none⟩ (.string val)).heap[xb]? = some (.cells #[.string key, .string val, .int .i64 0] 83 (0, 0)) ∧ w.heap.size ≤ xb ∧ v.ownBlock ≠ some xb) := ⟨heap_set_at HX6.out.1 1 _, HX6.out.2⟩
                  clear B6 HX6
                  go_wp2_with fail
                  generalize w6.setCell ⟨xb, 1, none⟩ (.string val) = w7 at B7 HX7 ⊢
                  clear d1 df
                  have q0 : w7.cell? ⟨xb, 0, none⟩ = some (.string key) := cell_at HX7.out.1 0
                  obtain ⟨c0, c1, c2, cf⟩ := B7.out.cells
                  cases hrk : rightK key with
                  | false =>
                    have HBK : Hid (badKey acc key = true) := badKey_right hrk
                    have HE : Hid (nodeR ([] : List Int) s = .error 201) := by
                      have hgo := HGO.out
                      rw [HBK.out, if_pos rfl] at hgo
                      have hR := HR2.out
                      rw [← hgo] at hR
                      exact HR.out.symm.trans hR
                    clear HGO HR2
                    go_quiet (first
                      | (go_at_call 54; refine Calls.quiet_of_same (right_is hrk _))
                      | fail)
                    generalize hw8 : w7.drewN _ = w8
                    have hb8 : Below w7.heap.size w7 w8 := by rw [← hw8]; exact drewN_any _
                    have B8 : Hid (Rdn w w8 eb nb bb s4 0 v acc (.slice ka 0 kc) d ([] : List Int)) := B7.out.on hb8
                    have HX8 : Hid (w8.heap[xb]? = some (.cells #[.string key, .string val, .int .i64 0] 83 (0, 0))) := (hb8.block _ (heap_lt HX7.out.1)).trans HX7.out.1
                    clear hw8 hb8 B7 HX7 q0 c0 c1 c2 cf
                    go_wp2_with (first
                      | (go_at_call 71; refine (fail_any _ eb s4 201 B8.out.eye).mono ?_; rintro e w9 ⟨rfl, rfl⟩)
                      | fail)
                    exact ⟨rfl, B8.out.err HE.out⟩
                  | true =>
                    by_cases hj0 : j = 0
                    · have hacc : acc = [] := List.length_eq_zero_iff.1 (by rw [HK.out.2.1]; exact hj0)
                      have HBK : Hid (badKey acc key = false) := by rw [hacc]; exact badKey_nil hrk
                      have hj1 : decide (0 < j) = false := by simp; omega
                      clear hacc hj0
                      have hgo := HGO.out
                      rw [HBK.out, if_neg (by decide)] at hgo
                      have HGO2 : Hid (itemsP 0 ([] : List Int) k (acc ++ [(⟨key, val, 0⟩ : It)]) s4 = itemsP 0 ([] : List Int) many [] s2) := hgo
                      clear hgo HGO
                      go_quiet (first
                        | (go_at_call 54; refine Calls.quiet_of_same (right_is hrk _))
                        | fail)
                      generalize hw8 : w7.drewN _ = w8
                      have hb8 : Below w7.heap.size w7 w8 := by rw [← hw8]; exact drewN_any _
                      have B8 : Hid (Rdn w w8 eb nb bb s4 0 v acc (.slice ka 0 kc) d ([] : List Int)) := B7.out.on hb8
                      have HX8 : Hid (w8.heap[xb]? = some (.cells #[.string key, .string val, .int .i64 0] 83 (0, 0))) := (hb8.block _ (heap_lt HX7.out.1)).trans HX7.out.1
                      clear hw8 hb8 B7 HX7 q0 c0 c1 c2 cf
                      have c1 : w8.cell? ⟨nb, 1, none⟩ = some v := cell_at B8.out.x 1
                      have q0 : w8.cell? ⟨xb, 0, none⟩ = some (.string key) := cell_at HX8.out 0
                      have q1 : w8.cell? ⟨xb, 1, none⟩ = some (.string val) := cell_at HX8.out 1
                      have q2 : w8.cell? ⟨xb, 2, none⟩ = some (.int .i64 0) := cell_at HX8.out 2
                      have HA : Hid (Its (fun _ => True) (w8.alloc (.cells #[.string key, .string val, .int .i64 0] 83)) (.slice (some ⟨w8.heap.size, 0, none⟩) 1 1) [(⟨key, val, 0⟩ : It)]) := Its.one (cell_at (heap_alloc_last _ _) 0) (cell_at (heap_alloc_last _ _) 1) (cell_at (heap_alloc_last _ _) 2)
                      have HO : Hid (OwnT w.heap.size (w8.alloc (.cells #[.string key, .string val, .int .i64 0] 83)) v acc ∧ w.heap.size ≤ (w8.alloc (.cells #[.string key, .string val, .int .i64 0] 83)).heap.size) := ⟨own_chg B8.out.own (Chg.of_below (S := []) ((Below.refl _ _).alloc (Nat.le_refl _) _)) (by simp), by have := B8.out.chg.size; simp; omega⟩
                      have hl9 : acc.length + [(⟨key, val, 0⟩ : It)].length ≤ 1048576 := by have := HK.out; simp; omega
                      go_wp2_with (first
                        | (at_builtin; refine wpList_append_its rfl _ _ rfl w.heap.size HO.out.2 _ acc rfl HO.out.1 _ [(⟨key, val, 0⟩ : It)] rfl HA.out hl9 ?_)
                        | fail)
                      
                      intro v9 w9 hown hgr
                      have hc9 : Chg (Value.ownBlock v).toList w8 w9 := (Chg.of_below ((Below.refl _ _).alloc (Nat.le_refl _) _)).trans (grown_chg hgr)
                      have hT : ∀ t ∈ (Value.ownBlock v).toList, w.heap.size ≤ t := fun t ht => (World.ownsRow.lt B8.out.own t (by simpa using ht)).1
                      have hx9 : w9.heap[nb]? = some (.cells #[.int .i64 0, v] 79 (0, 0)) := (hc9.block _ (heap_lt B8.out.x) (fun hm => by have := hT _ hm; have := B8.out.lt.2.1; omega)).trans B8.out.x
                      have d1 : w9.cell? ⟨nb, 1, none⟩ = some v := cell_at hx9 1
                      have df : w9.frozen? ⟨nb, 1, none⟩ = false := frozen_at hx9 1
                      have B9' := B8.out.item hown hc9
                      obtain ⟨a9, c9, hv9⟩ := hown.form
                      have hlen : (acc ++ [(⟨key, val, 0⟩ : It)]).length = j + 1 := by have := HK.out.2.1; simp [this]
                      rw [hlen] at hv9
                      subst hv9
                      have B9 : Hid (Rdn w (w9.setCell ⟨nb, 1, none⟩ (.slice a9 (j + 1) c9)) eb nb bb s4 0 (.slice a9 (j + 1) c9) (acc ++ [(⟨key, val, 0⟩ : It)]) (.slice ka 0 kc) d ([] : List Int)) := B9'
                      have HLN : Hid ((acc ++ [(⟨key, val, 0⟩ : It)]).length = j + 1) := hlen
                      clear hown hgr hc9 hT hx9 B9' hlen HA HO hl9 B8 HX8 q0 q1 q2 c1
                      go_wp2
                      go_roundw
                      case rel => exact ⟨j + 1, acc ++ [(⟨key, val, 0⟩ : It)], s4, _, by omega, by go_num, HLN.out, B9.out, by rw [← HGO2.out]; congr 1; have := HK.out.1; omega⟩
                      case measure => simp [intOf]; omega
                    · obtain ⟨i, hi⟩ : ∃ i, j = i + 1 := ⟨j - 1, by omega⟩
                      have hi2 : i < acc.length := by rw [HK.out.2.1]; omega
                      obtain ⟨a7, c7, hv7⟩ := B7.out.own.form
                      have hsrc := B7.out.own.its (by rw [HK.out.2.1]; have := HK.out.2.2; omega)
                      rw [hv7] at hsrc
                      obtain ⟨g, o7, ha7, hpg, e0, e1, e2⟩ := hsrc.at i hi2
                      subst ha7
                      rw [HK.out.2.1] at hv7
                      obtain ⟨last, hlast⟩ : ∃ last, last = acc[i].key := ⟨_, rfl⟩
                      rw [← hlast] at e0
                      have HBL : Hid (badKey acc key = !lt last key) := by rw [hlast]; exact badKey_last (by rw [HK.out.2.1]; omega) hrk
                      have hle := leq_lt key last
                      have hj1 : decide (0 < j) = true := by simp; omega
                      have hji : (j : Int) - 1 = i := by omega
                      have hi3 : i < j := by omega
                      subst hv7
                      clear hsrc hlast hpg e1 e2 hi2 hj0 hi
                      cases hlt2 : lt last key with
                      | false =>
                        rw [hlt2] at hle
                        have HBK : Hid (badKey acc key = true) := by rw [HBL.out, hlt2]; rfl
                        clear HBL
                        have HE : Hid (nodeR ([] : List Int) s = .error 201) := by
                          have hgo := HGO.out
                          rw [HBK.out, if_pos rfl] at hgo
                          have hR := HR2.out
                          rw [← hgo] at hR
                          exact HR.out.symm.trans hR
                        clear HGO HR2
                        go_quiet (first
                          | (go_at_call 54; refine Calls.quiet_of_same (right_is hrk _))
                          | fail)
                        generalize hw8 : w7.drewN _ = w8
                        have hb8 : Below w7.heap.size w7 w8 := by rw [← hw8]; exact drewN_any _
                        have B8 : Hid (Rdn w w8 eb nb bb s4 0 (.slice (some ⟨g, o7, none⟩) j c7) acc (.slice ka 0 kc) d ([] : List Int)) := B7.out.on hb8
                        have HX8 : Hid (w8.heap[xb]? = some (.cells #[.string key, .string val, .int .i64 0] 83 (0, 0))) := (hb8.block _ (heap_lt HX7.out.1)).trans HX7.out.1
                        clear hw8 hb8 B7 HX7 q0 c0 c1 c2 cf
                        go_wp2_with (first
                          | (go_at_call 71; refine (fail_any _ eb s4 201 B8.out.eye).mono ?_; rintro e w9 ⟨rfl, rfl⟩)
                          | fail)
                        exact ⟨rfl, B8.out.err HE.out⟩
                      | true =>
                        rw [hlt2] at hle
                        have HBK : Hid (badKey acc key = false) := by rw [HBL.out, hlt2]; rfl
                        clear HBL
                        have hgo := HGO.out
                        rw [HBK.out, if_neg (by decide)] at hgo
                        have HGO2 : Hid (itemsP 0 ([] : List Int) k (acc ++ [(⟨key, val, 0⟩ : It)]) s4 = itemsP 0 ([] : List Int) many [] s2) := hgo
                        clear hgo HGO
                        go_quiet (first
                          | (go_at_call 54; refine Calls.quiet_of_same (right_is hrk _))
                          | fail)
                        generalize hw8 : w7.drewN _ = w8
                        have hb8 : Below w7.heap.size w7 w8 := by rw [← hw8]; exact drewN_any _
                        have B8 : Hid (Rdn w w8 eb nb bb s4 0 (.slice (some ⟨g, o7, none⟩) j c7) acc (.slice ka 0 kc) d ([] : List Int)) := B7.out.on hb8
                        have HX8 : Hid (w8.heap[xb]? = some (.cells #[.string key, .string val, .int .i64 0] 83 (0, 0))) := (hb8.block _ (heap_lt HX7.out.1)).trans HX7.out.1
                        clear hw8 hb8 B7 HX7 q0 c0 c1 c2 cf
                        have c1 : w8.cell? ⟨nb, 1, none⟩ = some (.slice (some ⟨g, o7, none⟩) j c7) := cell_at B8.out.x 1
                        have q0 : w8.cell? ⟨xb, 0, none⟩ = some (.string key) := cell_at HX8.out 0
                        have q1 : w8.cell? ⟨xb, 1, none⟩ = some (.string val) := cell_at HX8.out 1
                        have q2 : w8.cell? ⟨xb, 2, none⟩ = some (.int .i64 0) := cell_at HX8.out 2
                        have HA : Hid (Its (fun _ => True) (w8.alloc (.cells #[.string key, .string val, .int .i64 0] 83)) (.slice (some ⟨w8.heap.size, 0, none⟩) 1 1) [(⟨key, val, 0⟩ : It)]) := Its.one (cell_at (heap_alloc_last _ _) 0) (cell_at (heap_alloc_last _ _) 1) (cell_at (heap_alloc_last _ _) 2)
                        have HO : Hid (OwnT w.heap.size (w8.alloc (.cells #[.string key, .string val, .int .i64 0] 83)) (.slice (some ⟨g, o7, none⟩) j c7) acc ∧ w.heap.size ≤ (w8.alloc (.cells #[.string key, .string val, .int .i64 0] 83)).heap.size) := ⟨own_chg B8.out.own (Chg.of_below (S := []) ((Below.refl _ _).alloc (Nat.le_refl _) _)) (by simp), by have := B8.out.chg.size; simp; omega⟩
                        have hl9 : acc.length + [(⟨key, val, 0⟩ : It)].length ≤ 1048576 := by have := HK.out; simp; omega
                        go_wp2_with (first
                          | (at_builtin; refine wpList_append_its rfl _ _ rfl w.heap.size HO.out.2 _ acc rfl HO.out.1 _ [(⟨key, val, 0⟩ : It)] rfl HA.out hl9 ?_)
                          | fail)
                        
                        intro v9 w9 hown hgr
                        have hc9 : Chg (Value.ownBlock (.slice (some ⟨g, o7, none⟩) j c7)).toList w8 w9 := (Chg.of_below ((Below.refl _ _).alloc (Nat.le_refl _) _)).trans (grown_chg hgr)
                        have hT : ∀ t ∈ (Value.ownBlock (.slice (some ⟨g, o7, none⟩) j c7)).toList, w.heap.size ≤ t := fun t ht => (World.ownsRow.lt B8.out.own t (by simpa using ht)).1
                        have hx9 : w9.heap[nb]? = some (.cells #[.int .i64 0, (.slice (some ⟨g, o7, none⟩) j c7)] 79 (0, 0)) := (hc9.block _ (heap_lt B8.out.x) (fun hm => by have := hT _ hm; have := B8.out.lt.2.1; omega)).trans B8.out.x
                        have d1 : w9.cell? ⟨nb, 1, none⟩ = some (.slice (some ⟨g, o7, none⟩) j c7) := cell_at hx9 1
                        have df : w9.frozen? ⟨nb, 1, none⟩ = false := frozen_at hx9 1
                        have B9' := B8.out.item hown hc9
                        obtain ⟨a9, c9, hv9⟩ := hown.form
                        have hlen : (acc ++ [(⟨key, val, 0⟩ : It)]).length = j + 1 := by have := HK.out.2.1; simp [this]
                        rw [hlen] at hv9
                        subst hv9
                        have B9 : Hid (Rdn w (w9.setCell ⟨nb, 1, none⟩ (.slice a9 (j + 1) c9)) eb nb bb s4 0 (.slice a9 (j + 1) c9) (acc ++ [(⟨key, val, 0⟩ : It)]) (.slice ka 0 kc) d ([] : List Int)) := B9'
                        have HLN : Hid ((acc ++ [(⟨key, val, 0⟩ : It)]).length = j + 1) := hlen
                        clear hown hgr hc9 hT hx9 B9' hlen HA HO hl9 B8 HX8 q0 q1 q2 c1
                        go_wp2
                        go_roundw
                        case rel => exact ⟨j + 1, acc ++ [(⟨key, val, 0⟩ : It)], s4, _, by omega, by go_num, HLN.out, B9.out, by rw [← HGO2.out]; congr 1; have := HK.out.1; omega⟩
                        case measure => simp [intOf]; omega
            · have hjm : j = many := by omega
              have hgo := HG.out.2
              rw [show many - j = 0 by omega] at hgo
              have hR := HR2.out
              rw [← hgo] at hR
              have HE : Hid (nodeR ([] : List Int) s = .ok (⟨0, acc⟩, sj)) := HR.out.symm.trans hR
              have B5 : Hid (Rdn w wr eb nb bb sj 0 v acc (.slice ka 0 kc) d ([] : List Int)) := HG.out.1
              clear hR hgo HG HR2 hacc
              go_wp2_with fail
              first | go_end0 | refine bodyPost_ret (results_none rfl _ _ _) rfl ?_
              exact lookOk B5.out.eye B5.out.chg ⟨⟨0, acc⟩, v, HE.out, B5.out.x, B5.out.own⟩
        · have a6 : ¬ ((ks.length : Int) < 1) := by omega
          have a7 : (ks.length : Int) ≤ 8 := by omega
          have a8 : (0 : Int) < lv := by omega
          have a9 : (lv : Int) ≤ 20 := by omega
          have a10 : ¬ (lv : Int) = 0 := by omega
          go_wp2_with fail
          clear a6 a7 a9 a10
          go_loopw [49] (fun i wr => ∃ (j : Nat) (acc : List It) (sj : ByteArray) (v : Value), j ≤ ks.length ∧ i = .int .i64 j ∧ acc.length = j ∧ Hid (Rdn w wr eb nb bb sj lv v acc (.slice ka ks.length kc) d ks ∧ itemsP lv ks (ks.length - j) acc sj = itemsP lv ks ks.length [] s2)) (fun i _ => ks.length - (intOf i).toNat)
          case atStart => exact ⟨0, [], s2, _, by omega, rfl, rfl, B3.out, rfl⟩
          case round =>
            obtain ⟨j, acc, sj, v, hj, rfl, hacc, HG⟩ := hrel
            by_cases hlt : j < ks.length
            · obtain ⟨k, hk⟩ : ∃ k, ks.length - j = k + 1 := ⟨ks.length - j - 1, by omega⟩
              have hgo := HG.out.2
              rw [hk, itemsP_node (by omega)] at hgo
              have HGO : Hid (_ = itemsP lv ks ks.length [] s2) := hgo
              have HK : Hid (ks.length - j = k + 1 ∧ acc.length = j ∧ j ≤ 8) := ⟨hk, hacc, by omega⟩
              clear hgo hk hacc c0 c1 c2 cf B3
              go_wp2_with fail
              have hgo := HGO.out
              clear HGO
              refine (text_any _ eb sj 64 64 rfl HG.out.1.eye).mono ?_
              cases hp : textP 64 sj with
              | error why =>
                rw [hp] at hgo
                have hR := HR2.out
                rw [← hgo] at hR
                intro e w4 h1
                obtain ⟨rfl, s3, h1, h2⟩ := h1.of_err
                exact ⟨rfl, (HG.out.1.eyed h1 h2).err (HR.out.symm.trans hR)⟩
              | ok q =>
                obtain ⟨key, s3⟩ := q
                rw [hp] at hgo
                dsimp only at hgo
                have HGO : Hid (_ = itemsP lv ks ks.length [] s2) := hgo
                clear hgo
                intro e w4 h1
                obtain ⟨rfl, h1, h2⟩ := h1.of_ok
                have B4 : Hid (Rdn w w4 eb nb bb s3 lv v acc (.slice ka ks.length kc) d ks) := HG.out.1.eyed h1 h2
                clear h1 h2 hp HG
                obtain ⟨w5, hw5⟩ : ∃ w5, w5 = w4.alloc (.cells #[.string key, .string ⟨#[]⟩, .int .i64 0] 83) := ⟨_, rfl⟩
                obtain ⟨xb, hxb⟩ : ∃ xb, xb = w4.heap.size := ⟨_, rfl⟩
                have hb5 : Below w4.heap.size w4 w5 := by rw [hw5]; exact (Below.refl _ _).alloc (Nat.le_refl _) _
                have hx5 : w5.heap[xb]? = some (.cells #[.string key, .string ⟨#[]⟩, .int .i64 0] 83 (0, 0)) := by rw [hw5, hxb]; exact heap_alloc_last _ _
                have B5 : Hid (Rdn w w5 eb nb bb s3 lv v acc (.slice ka ks.length kc) d ks) := B4.out.on hb5
                have HX5 : Hid (w5.heap[xb]? = some (.cells #[.string key, .string ⟨#[]⟩, .int .i64 0] 83 (0, 0)) ∧ w.heap.size ≤ xb ∧ v.ownBlock ≠ some xb) := ⟨hx5, by rw [hxb]; exact B4.out.chg.size, fun e => by have := (World.ownsRow.lt B4.out.own _ e).2; omega⟩
                obtain ⟨c0, c1, c2, cf⟩ := B5.out.cells
                rw [hw5] at c0 c1 c2 cf
                clear hb5 hx5
                obtain ⟨kid, hkid⟩ : ∃ kid, kid = ks[j]'(by omega) := ⟨_, rfl⟩
                have HKI : Hid (ks.getD j 0 = kid) := by
                  show ks.getD j 0 = kid
                  rw [hkid, List.getD_eq_getElem?_getD, List.getElem?_eq_getElem (by omega)]
                  rfl
                obtain ⟨bk, ok, ha, hck⟩ := ints_at B5.out.kids j (by omega)
                subst ha
                have hck' := hck.2
                rw [← hkid, hw5] at hck'
                clear hck hkid
                go_wp2_with fail
                rw [← hxb]
                obtain ⟨w7, hw7⟩ : ∃ w7, w7 = w4.alloc (.cells #[.string key, .string ⟨#[]⟩, .int .i64 kid] 83) := ⟨_, rfl⟩
                have hb7 : Below w4.heap.size w4 w7 := by rw [hw7]; exact (Below.refl _ _).alloc (Nat.le_refl _) _
                have hx7 : w7.heap[xb]? = some (.cells #[.string key, .string ⟨#[]⟩, .int .i64 kid] 83 (0, 0)) := by rw [hw7, hxb]; exact heap_alloc_last _ _
                have B7 : Hid (Rdn w w7 eb nb bb s3 lv v acc (.slice (some ⟨bk, ok, none⟩) ks.length kc) d ks) := B4.out.on hb7
                have HX7 : Hid (w7.heap[xb]? = some (.cells #[.string key, .string ⟨#[]⟩, .int .i64 kid] 83 (0, 0)) ∧ w.heap.size ≤ xb ∧ v.ownBlock ≠ some xb) := ⟨hx7, HX5.out.2⟩
                rw [← hw7]
                clear hw7 hw5 hb7 hx7 hxb B4 B5 HX5 c0 c1 c2 cf hck'
                have q0 : w7.cell? ⟨xb, 0, none⟩ = some (.string key) := cell_at HX7.out.1 0
                obtain ⟨c0, c1, c2, cf⟩ := B7.out.cells
                cases hrk : rightK key with
                | false =>
                  have HBK : Hid (badKey acc key = true) := badKey_right hrk
                  have HE : Hid (nodeR ks s = .error 201) := by
                    have hgo := HGO.out
                    rw [HBK.out, if_pos rfl] at hgo
                    have hR := HR2.out
                    rw [← hgo] at hR
                    exact HR.out.symm.trans hR
                  clear HGO HR2
                  go_quiet (first
                    | (go_at_call 54; refine Calls.quiet_of_same (right_is hrk _))
                    | fail)
                  generalize hw8 : w7.drewN _ = w8
                  have hb8 : Below w7.heap.size w7 w8 := by rw [← hw8]; exact drewN_any _
                  have B8 : Hid (Rdn w w8 eb nb bb s3 lv v acc (.slice (some ⟨bk, ok, none⟩) ks.length kc) d ks) := B7.out.on hb8
                  have HX8 : Hid (w8.heap[xb]? = some (.cells #[.string key, .string ⟨#[]⟩, .int .i64 kid] 83 (0, 0))) := (hb8.block _ (heap_lt HX7.out.1)).trans HX7.out.1
                  clear hw8 hb8 B7 HX7 q0 c0 c1 c2 cf
                  go_wp2_with (first
                    | (go_at_call 71; refine (fail_any _ eb s3 201 B8.out.eye).mono ?_; rintro e w9 ⟨rfl, rfl⟩)
                    | fail)
                  exact ⟨rfl, B8.out.err HE.out⟩
                | true =>
                  by_cases hj0 : j = 0
                  · have hacc : acc = [] := List.length_eq_zero_iff.1 (by rw [HK.out.2.1]; exact hj0)
                    have HBK : Hid (badKey acc key = false) := by rw [hacc]; exact badKey_nil hrk
                    have hj1 : decide (0 < j) = false := by simp; omega
                    clear hacc hj0
                    have hgo := HGO.out
                    rw [HBK.out, if_neg (by decide)] at hgo
                    have HGO2 : Hid (itemsP lv ks k (acc ++ [(⟨key, nil8, kid⟩ : It)]) s3 = itemsP lv ks ks.length [] s2) := by rw [HK.out.2.1, HKI.out] at hgo; exact hgo
                    clear hgo HGO
                    go_quiet (first
                      | (go_at_call 54; refine Calls.quiet_of_same (right_is hrk _))
                      | fail)
                    generalize hw8 : w7.drewN _ = w8
                    have hb8 : Below w7.heap.size w7 w8 := by rw [← hw8]; exact drewN_any _
                    have B8 : Hid (Rdn w w8 eb nb bb s3 lv v acc (.slice (some ⟨bk, ok, none⟩) ks.length kc) d ks) := B7.out.on hb8
                    have HX8 : Hid (w8.heap[xb]? = some (.cells #[.string key, .string ⟨#[]⟩, .int .i64 kid] 83 (0, 0))) := (hb8.block _ (heap_lt HX7.out.1)).trans HX7.out.1
                    clear hw8 hb8 B7 HX7 q0 c0 c1 c2 cf
                    have c1 : w8.cell? ⟨nb, 1, none⟩ = some v := cell_at B8.out.x 1
                    have q0 : w8.cell? ⟨xb, 0, none⟩ = some (.string key) := cell_at HX8.out 0
                    have q1 : w8.cell? ⟨xb, 1, none⟩ = some (.string ⟨#[]⟩) := cell_at HX8.out 1
                    have q2 : w8.cell? ⟨xb, 2, none⟩ = some (.int .i64 kid) := cell_at HX8.out 2
                    have HA : Hid (Its (fun _ => True) (w8.alloc (.cells #[.string key, .string ⟨#[]⟩, .int .i64 kid] 83)) (.slice (some ⟨w8.heap.size, 0, none⟩) 1 1) [(⟨key, nil8, kid⟩ : It)]) := Its.one (cell_at (heap_alloc_last _ _) 0) (cell_at (heap_alloc_last _ _) 1) (cell_at (heap_alloc_last _ _) 2)
                    have HO : Hid (OwnT w.heap.size (w8.alloc (.cells #[.string key, .string ⟨#[]⟩, .int .i64 kid] 83)) v acc ∧ w.heap.size ≤ (w8.alloc (.cells #[.string key, .string ⟨#[]⟩, .int .i64 kid] 83)).heap.size) := ⟨own_chg B8.out.own (Chg.of_below (S := []) ((Below.refl _ _).alloc (Nat.le_refl _) _)) (by simp), by have := B8.out.chg.size; simp; omega⟩
                    have hl9 : acc.length + [(⟨key, nil8, kid⟩ : It)].length ≤ 1048576 := by have := HK.out; simp; omega
                    go_wp2_with (first
                      | (at_builtin; refine wpList_append_its rfl _ _ rfl w.heap.size HO.out.2 _ acc rfl HO.out.1 _ [(⟨key, nil8, kid⟩ : It)] rfl HA.out hl9 ?_)
                      | fail)
                    
                    intro v9 w9 hown hgr
                    have hc9 : Chg (Value.ownBlock v).toList w8 w9 := (Chg.of_below ((Below.refl _ _).alloc (Nat.le_refl _) _)).trans (grown_chg hgr)
                    have hT : ∀ t ∈ (Value.ownBlock v).toList, w.heap.size ≤ t := fun t ht => (World.ownsRow.lt B8.out.own t (by simpa using ht)).1
                    have hx9 : w9.heap[nb]? = some (.cells #[.int .i64 lv, v] 79 (0, 0)) := (hc9.block _ (heap_lt B8.out.x) (fun hm => by have := hT _ hm; have := B8.out.lt.2.1; omega)).trans B8.out.x
                    have d1 : w9.cell? ⟨nb, 1, none⟩ = some v := cell_at hx9 1
                    have df : w9.frozen? ⟨nb, 1, none⟩ = false := frozen_at hx9 1
                    have B9' := B8.out.item hown hc9
                    obtain ⟨a9, c9, hv9⟩ := hown.form
                    have hlen : (acc ++ [(⟨key, nil8, kid⟩ : It)]).length = j + 1 := by have := HK.out.2.1; simp [this]
                    rw [hlen] at hv9
                    subst hv9
                    have B9 : Hid (Rdn w (w9.setCell ⟨nb, 1, none⟩ (.slice a9 (j + 1) c9)) eb nb bb s3 lv (.slice a9 (j + 1) c9) (acc ++ [(⟨key, nil8, kid⟩ : It)]) (.slice (some ⟨bk, ok, none⟩) ks.length kc) d ks) := B9'
                    have HLN : Hid ((acc ++ [(⟨key, nil8, kid⟩ : It)]).length = j + 1) := hlen
                    clear hown hgr hc9 hT hx9 B9' hlen HA HO hl9 B8 HX8 q0 q1 q2 c1
                    go_wp2
                    go_roundw
                    case rel => exact ⟨j + 1, acc ++ [(⟨key, nil8, kid⟩ : It)], s3, _, by omega, by go_num, HLN.out, B9.out, by rw [← HGO2.out]; congr 1; have := HK.out.1; omega⟩
                    case measure => simp [intOf]; omega
                  · obtain ⟨i, hi⟩ : ∃ i, j = i + 1 := ⟨j - 1, by omega⟩
                    have hi2 : i < acc.length := by rw [HK.out.2.1]; omega
                    obtain ⟨a7, c7, hv7⟩ := B7.out.own.form
                    have hsrc := B7.out.own.its (by rw [HK.out.2.1]; have := HK.out.2.2; omega)
                    rw [hv7] at hsrc
                    obtain ⟨g, o7, ha7, hpg, e0, e1, e2⟩ := hsrc.at i hi2
                    subst ha7
                    rw [HK.out.2.1] at hv7
                    obtain ⟨last, hlast⟩ : ∃ last, last = acc[i].key := ⟨_, rfl⟩
                    rw [← hlast] at e0
                    have HBL : Hid (badKey acc key = !lt last key) := by rw [hlast]; exact badKey_last (by rw [HK.out.2.1]; omega) hrk
                    have hle := leq_lt key last
                    have hj1 : decide (0 < j) = true := by simp; omega
                    have hji : (j : Int) - 1 = i := by omega
                    have hi3 : i < j := by omega
                    subst hv7
                    clear hsrc hlast hpg e1 e2 hi2 hj0 hi
                    cases hlt2 : lt last key with
                    | false =>
                      rw [hlt2] at hle
                      have HBK : Hid (badKey acc key = true) := by rw [HBL.out, hlt2]; rfl
                      clear HBL
                      have HE : Hid (nodeR ks s = .error 201) := by
                        have hgo := HGO.out
                        rw [HBK.out, if_pos rfl] at hgo
                        have hR := HR2.out
                        rw [← hgo] at hR
                        exact HR.out.symm.trans hR
                      clear HGO HR2
                      go_quiet (first
                        | (go_at_call 54; refine Calls.quiet_of_same (right_is hrk _))
                        | fail)
                      generalize hw8 : w7.drewN _ = w8
                      have hb8 : Below w7.heap.size w7 w8 := by rw [← hw8]; exact drewN_any _
                      have B8 : Hid (Rdn w w8 eb nb bb s3 lv (.slice (some ⟨g, o7, none⟩) j c7) acc (.slice (some ⟨bk, ok, none⟩) ks.length kc) d ks) := B7.out.on hb8
                      have HX8 : Hid (w8.heap[xb]? = some (.cells #[.string key, .string ⟨#[]⟩, .int .i64 kid] 83 (0, 0))) := (hb8.block _ (heap_lt HX7.out.1)).trans HX7.out.1
                      clear hw8 hb8 B7 HX7 q0 c0 c1 c2 cf
                      go_wp2_with (first
                        | (go_at_call 71; refine (fail_any _ eb s3 201 B8.out.eye).mono ?_; rintro e w9 ⟨rfl, rfl⟩)
                        | fail)
                      exact ⟨rfl, B8.out.err HE.out⟩
                    | true =>
                      rw [hlt2] at hle
                      have HBK : Hid (badKey acc key = false) := by rw [HBL.out, hlt2]; rfl
                      clear HBL
                      have hgo := HGO.out
                      rw [HBK.out, if_neg (by decide)] at hgo
                      have HGO2 : Hid (itemsP lv ks k (acc ++ [(⟨key, nil8, kid⟩ : It)]) s3 = itemsP lv ks ks.length [] s2) := by rw [HK.out.2.1, HKI.out] at hgo; exact hgo
                      clear hgo HGO
                      go_quiet (first
                        | (go_at_call 54; refine Calls.quiet_of_same (right_is hrk _))
                        | fail)
                      generalize hw8 : w7.drewN _ = w8
                      have hb8 : Below w7.heap.size w7 w8 := by rw [← hw8]; exact drewN_any _
                      have B8 : Hid (Rdn w w8 eb nb bb s3 lv (.slice (some ⟨g, o7, none⟩) j c7) acc (.slice (some ⟨bk, ok, none⟩) ks.length kc) d ks) := B7.out.on hb8
                      have HX8 : Hid (w8.heap[xb]? = some (.cells #[.string key, .string ⟨#[]⟩, .int .i64 kid] 83 (0, 0))) := (hb8.block _ (heap_lt HX7.out.1)).trans HX7.out.1
                      clear hw8 hb8 B7 HX7 q0 c0 c1 c2 cf
                      have c1 : w8.cell? ⟨nb, 1, none⟩ = some (.slice (some ⟨g, o7, none⟩) j c7) := cell_at B8.out.x 1
                      have q0 : w8.cell? ⟨xb, 0, none⟩ = some (.string key) := cell_at HX8.out 0
                      have q1 : w8.cell? ⟨xb, 1, none⟩ = some (.string ⟨#[]⟩) := cell_at HX8.out 1
                      have q2 : w8.cell? ⟨xb, 2, none⟩ = some (.int .i64 kid) := cell_at HX8.out 2
                      have HA : Hid (Its (fun _ => True) (w8.alloc (.cells #[.string key, .string ⟨#[]⟩, .int .i64 kid] 83)) (.slice (some ⟨w8.heap.size, 0, none⟩) 1 1) [(⟨key, nil8, kid⟩ : It)]) := Its.one (cell_at (heap_alloc_last _ _) 0) (cell_at (heap_alloc_last _ _) 1) (cell_at (heap_alloc_last _ _) 2)
                      have HO : Hid (OwnT w.heap.size (w8.alloc (.cells #[.string key, .string ⟨#[]⟩, .int .i64 kid] 83)) (.slice (some ⟨g, o7, none⟩) j c7) acc ∧ w.heap.size ≤ (w8.alloc (.cells #[.string key, .string ⟨#[]⟩, .int .i64 kid] 83)).heap.size) := ⟨own_chg B8.out.own (Chg.of_below (S := []) ((Below.refl _ _).alloc (Nat.le_refl _) _)) (by simp), by have := B8.out.chg.size; simp; omega⟩
                      have hl9 : acc.length + [(⟨key, nil8, kid⟩ : It)].length ≤ 1048576 := by have := HK.out; simp; omega
                      go_wp2_with (first
                        | (at_builtin; refine wpList_append_its rfl _ _ rfl w.heap.size HO.out.2 _ acc rfl HO.out.1 _ [(⟨key, nil8, kid⟩ : It)] rfl HA.out hl9 ?_)
                        | fail)
                      
                      intro v9 w9 hown hgr
                      have hc9 : Chg (Value.ownBlock (.slice (some ⟨g, o7, none⟩) j c7)).toList w8 w9 := (Chg.of_below ((Below.refl _ _).alloc (Nat.le_refl _) _)).trans (grown_chg hgr)
                      have hT : ∀ t ∈ (Value.ownBlock (.slice (some ⟨g, o7, none⟩) j c7)).toList, w.heap.size ≤ t := fun t ht => (World.ownsRow.lt B8.out.own t (by simpa using ht)).1
                      have hx9 : w9.heap[nb]? = some (.cells #[.int .i64 lv, (.slice (some ⟨g, o7, none⟩) j c7)] 79 (0, 0)) := (hc9.block _ (heap_lt B8.out.x) (fun hm => by have := hT _ hm; have := B8.out.lt.2.1; omega)).trans B8.out.x
                      have d1 : w9.cell? ⟨nb, 1, none⟩ = some (.slice (some ⟨g, o7, none⟩) j c7) := cell_at hx9 1
                      have df : w9.frozen? ⟨nb, 1, none⟩ = false := frozen_at hx9 1
                      have B9' := B8.out.item hown hc9
                      obtain ⟨a9, c9, hv9⟩ := hown.form
                      have hlen : (acc ++ [(⟨key, nil8, kid⟩ : It)]).length = j + 1 := by have := HK.out.2.1; simp [this]
                      rw [hlen] at hv9
                      subst hv9
                      have B9 : Hid (Rdn w (w9.setCell ⟨nb, 1, none⟩ (.slice a9 (j + 1) c9)) eb nb bb s3 lv (.slice a9 (j + 1) c9) (acc ++ [(⟨key, nil8, kid⟩ : It)]) (.slice (some ⟨bk, ok, none⟩) ks.length kc) d ks) := B9'
                      have HLN : Hid ((acc ++ [(⟨key, nil8, kid⟩ : It)]).length = j + 1) := hlen
                      clear hown hgr hc9 hT hx9 B9' hlen HA HO hl9 B8 HX8 q0 q1 q2 c1
                      go_wp2
                      go_roundw
                      case rel => exact ⟨j + 1, acc ++ [(⟨key, nil8, kid⟩ : It)], s3, _, by omega, by go_num, HLN.out, B9.out, by rw [← HGO2.out]; congr 1; have := HK.out.1; omega⟩
                      case measure => simp [intOf]; omega
            · have hjm : j = ks.length := by omega
              have hgo := HG.out.2
              rw [show ks.length - j = 0 by omega] at hgo
              have hR := HR2.out
              rw [← hgo] at hR
              have HE : Hid (nodeR ks s = .ok (⟨lv, acc⟩, sj)) := HR.out.symm.trans hR
              have B5 : Hid (Rdn w wr eb nb bb sj lv v acc (.slice ka ks.length kc) d ks) := HG.out.1
              clear hR hgo HG HR2 hacc
              go_wp2_with fail
              first | go_end0 | refine bodyPost_ret (results_none rfl _ _ _) rfl ?_
              exact lookOk B5.out.eye B5.out.chg ⟨⟨lv, acc⟩, v, HE.out, B5.out.x, B5.out.own⟩
end Go.Proofs.YtadmecjdihfmeaaGreat.Tre

/- Layer 7: load. -/
namespace Go.Proofs.YtadmecjdihfmeaaGreat.Tre
set_option linter.unusedVariables false
set_option linter.unusedSimpArgs false
set_option maxRecDepth 100000
open Go.RowKit Go.Lib Go.Proofs.YtadmecjdihfmeaaGreat.Mem Go.Proofs.YtadmecjdihfmeaaGreat.Oct Go.Proofs.YtadmecjdihfmeaaGreat.Dev Go.Proofs.YtadmecjdihfmeaaGreat.Sto

def ndOf : Except Int Nd → Nd
  | .ok n => n
  | .error _ => ⟨0, []⟩
def erOf {α : Type} : Except Int α → Int
  | .ok _ => 0
  | .error e => e
/-- a node that is handed back -/
def LoadIs (w : World) (r : Except Int Nd) (e : Ending) (w' : World) : Prop :=
  ∃ v, e = .returned (.tuple #[.agg #[.int .i64 (ndOf r).level, v], .int .i64 (erOf r)]) ∧ Its (w.heap.size ≤ ·) w' v (ndOf r).items ∧ Below w.heap.size w w'
theorem load_stable (ks : List Int) (s : ByteArray) (w : World) (nb : Nat) (hx : nb < w.heap.size) : ∀ N r w2 w3, w.heap.size ≤ N → LoadF ks s nb N r w2 → w2.heap.size ≤ w3.heap.size → (∀ k, (k < w.heap.size ∨ N ≤ k) → k < w2.heap.size → w3.heap[k]? = w2.heap[k]?) → LoadF ks s nb N r w3 := by
  intro N r w2 w3 hN hF hz hk
  cases r with
  | ok s' =>
    obtain ⟨n, v, h1, h2, h3⟩ := hF
    refine ⟨n, v, h1, (hk nb (.inl hx) (heap_lt h2)).trans h2, h3.1, ?_⟩
    rcases h3.2 with h | ⟨g, cap, cur, e, hg, hb, r⟩
    · exact .inl h
    · exact .inr ⟨g, cap, cur, e, hg, (hk g (.inr hg) (heap_lt hb)).trans hb, r⟩
  | error why =>
    obtain ⟨h1, lv, a, m, c, h2⟩ := hF
    exact ⟨h1, lv, a, m, c, (hk nb (.inl hx) (heap_lt h2)).trans h2⟩
theorem itemsP_err {lv : Nat} {ks : List Int} : ∀ {k : Nat} {acc : List It} {s : ByteArray} {why : Int}, itemsP lv ks k acc s = .error why → why ≠ 0
  | 0, acc, s, why, h => by cases h
  | k + 1, acc, s, why, h => by
    rw [itemsP_succ] at h
    split at h
    · rename_i e he; cases h; exact textP_err he
    · split at h
      · split at h
        · rename_i e he; cases h; exact textP_err he
        · split at h
          · cases h; decide
          · exact itemsP_err h
      · split at h
        · cases h; decide
        · exact itemsP_err h
theorem nodeR_err {ks : List Int} {s : ByteArray} {why : Int} (h : nodeR ks s = .error why) : why ≠ 0 := by
  unfold nodeR at h
  split at h
  · rename_i e he; cases h; exact numP_err he
  · split at h
    · rename_i e he; cases h; exact numP_err he
    · split at h
      · cases h; decide
      · split at h
        · rename_i e he; cases h; exact itemsP_err he
        · cases h
theorem itemsP_len {lv : Nat} {ks : List Int} : ∀ {k : Nat} {acc : List It} {s s' : ByteArray} {l : List It}, itemsP lv ks k acc s = .ok (l, s') → l.length = acc.length + k
  | 0, acc, s, s', l, h => by cases h; rfl
  | k + 1, acc, s, s', l, h => by
    rw [itemsP_succ] at h
    split at h
    · cases h
    · split at h
      · split at h
        · cases h
        · split at h
          · cases h
          · have := itemsP_len h; rw [List.length_append] at this; simp at this; omega
      · split at h
        · cases h
        · have := itemsP_len h; rw [List.length_append] at this; simp at this; omega
/-- what Read found -/
theorem load_read {ks : List Int} {s : ByteArray} {nb N : Nat} {r : Except Int ByteArray} {w : World} (hF : LoadF ks s nb N r w) : ∃ (lv : Int) (a : Option Addr) (m c : Nat), w.heap[nb]? = some (.cells #[.int .i64 lv, .slice a m c] 79 (0, 0)) ∧
    ((∃ n, nodeP ks s = some n ∧ endE r = 0 ∧ lv = n.level ∧ OwnT N w (.slice a m c) n.items ∧ n.items.length ≤ 8) ∨ (nodeP ks s = none ∧ endE r ≠ 0)) := by
  cases r with
  | ok s' =>
    obtain ⟨n, v, h1, h2, h3⟩ := hF
    obtain ⟨a, c, rfl⟩ := h3.form
    refine ⟨_, _, _, _, h2, ?_⟩
    cases hs : s'.toList.isEmpty with
    | true =>
      refine .inl ⟨n, by simp [nodeP, h1, hs], by simp [endE, hs], rfl, h3, ?_⟩
      unfold nodeR at h1
      split at h1
      · cases h1
      · split at h1
        · cases h1
        · split at h1
          · cases h1
          · rename_i hb
            split at h1
            · cases h1
            · rename_i l s3 hi
              cases h1
              have := itemsP_len hi
              simp only [badHead, Bool.or_eq_true, Bool.and_eq_true, decide_eq_true_eq, not_or] at hb
              simp at this
              show l.length ≤ 8
              omega
    | false => exact .inr ⟨by simp [nodeP, h1, hs], by simp [endE, hs]⟩
  | error why =>
    obtain ⟨h1, lv, a, m, c, h2⟩ := hF
    exact ⟨lv, a, m, c, h2, .inr ⟨by simp [nodeP, h1], nodeR_err h1⟩⟩
theorem getR_is {S : StS} {D : DevS} (i : Int) : ((S.getR D i).1 = 0 ∧ ∃ ks d, (S.getR D i).2 = some (ks, d) ∧ ks.length ≤ 16) ∨ ((S.getR D i).1 ≠ 0 ∧ (S.getR D i).2 = none) := by
  unfold StS.getR
  split
  · unfold readP
    split
    · split
      · rename_i x hx
        refine .inl ⟨rfl, x.1, x.2, rfl, ?_⟩
        exact (getP_in (l := x.1) (d := x.2) hx).1
      · exact .inr ⟨by decide, rfl⟩
    · rename_i h
      exact .inr ⟨h, rfl⟩
  · exact .inr ⟨by decide, rfl⟩
set_option maxHeartbeats 8000000 in
theorem load_any (w : World) (B : Blk) (S : StS) (D : DevS) (i : Int) (h : StAt w B S D) :
    Calls Tryz.prog 36 #[.pointer (some ⟨B.s, 0, none⟩), .int .i64 i] w (LoadIs w (loadF S D i)) := by
  have hmf : ∀ (fn : Fn) (first cap : Array Value) (w : World), (Instr.makeFunc fn first cap).run Tryz.prog w = .ok (.func fn first cap) w := fun _ _ _ _ => rfl
  obtain ⟨w1, hw1⟩ : ∃ w1, w1 = w.alloc (.cells #[.int .i64 0, .slice none 0 0] 79) := ⟨_, rfl⟩
  obtain ⟨rb, hrb⟩ : ∃ rb, rb = w.heap.size := ⟨_, rfl⟩
  have hb1 : Below w.heap.size w w1 := by rw [hw1]; exact (Below.refl _ _).alloc (Nat.le_refl _) _
  have hx1 : w1.heap[rb]? = some (.cells #[.int .i64 0, .slice none 0 0] 79 (0, 0)) := by rw [hw1, hrb]; exact heap_alloc_last _ _
  have H1 : Hid (Below w.heap.size w w1 ∧ w1.heap[rb]? = some (.cells #[.int .i64 0, .slice none 0 0] 79 (0, 0)) ∧ rb = w.heap.size ∧ StAt w1 B S D) := ⟨hb1, hx1, hrb, h.on hb1⟩
  clear h hb1 hx1
  go_enter Tryz.func36, Tryz.ntmps36
  go_wp2_with fail
  rw [← hw1, ← hrb]
  clear hw1 hrb
  refine (storeGet_any w1 B S D i H1.out.2.2.2).mono ?_
  rintro e w2 ⟨a, m, c, d, rfl, his, hb2⟩
  obtain ⟨w3, hw3⟩ : ∃ w3, w3 = w2.alloc (.cells #[.slice a m c, .string d] 125) := ⟨_, rfl⟩
  obtain ⟨bb, hbb⟩ : ∃ bb, bb = w2.heap.size := ⟨_, rfl⟩
  have hb3 : Below w2.heap.size w2 w3 := by rw [hw3]; exact (Below.refl _ _).alloc (Nat.le_refl _) _
  have hx3 : w3.heap[bb]? = some (.cells #[.slice a m c, .string d] 125 (0, 0)) := by rw [hw3, hbb]; exact heap_alloc_last _ _
  have hr3 : w3.heap[rb]? = some (.cells #[.int .i64 0, .slice none 0 0] 79 (0, 0)) := (hb3.block _ (Nat.lt_of_lt_of_le (heap_lt H1.out.2.1) hb2.size)).trans ((hb2.block _ (heap_lt H1.out.2.1)).trans H1.out.2.1)
  have H3 : Hid (Below w.heap.size w w3 ∧ w3.heap[rb]? = some (.cells #[.int .i64 0, .slice none 0 0] 79 (0, 0)) ∧ rb = w.heap.size ∧ w3.heap[bb]? = some (.cells #[.slice a m c, .string d] 125 (0, 0)) ∧ w.heap.size < w1.heap.size ∧ w1.heap.size ≤ bb) :=
    ⟨H1.out.1.trans ((hb2.trans (hb3.mono hb2.size)).mono H1.out.1.size), hr3, H1.out.2.2.1, hx3, by rw [← H1.out.2.2.1]; exact heap_lt H1.out.2.1, by rw [hbb]; exact hb2.size⟩
  have HIS : Hid (BlockIs w1.heap.size w2 (.slice a m c) d (S.getR D i).2 ∧ Below w2.heap.size w2 w3 ∧ bb = w2.heap.size) := ⟨his, hb3, hbb⟩
  clear his hb2 hb3 hx3 hr3 H1
  rcases getR_is (S := S) (D := D) i with ⟨he, ks, dd, hg, hk16⟩ | ⟨he, hg⟩
  · rw [he]
    have hz : ((0 : Int) != 0) = false := rfl
    have hld : loadF S D i = (match nodeP ks dd with | some n => .ok n | none => .error 5) := by unfold loadF; rw [hg]; try exact rfl
    have his := HIS.out.1
    rw [hg] at his
    obtain ⟨rfl, hown⟩ := his
    obtain ⟨a', c', e'⟩ := hown.form
    injection e' with e1 e2 e3
    subst e1 e2 e3
    have HK : Hid (Ints (fun q => w1.heap.size ≤ q ∧ q < bb) w3 (.slice a ks.length c) ks ∧ ks.length ≤ 16 ∧ loadF S D i = (match nodeP ks d with | some n => .ok n | none => .error 5)) := ⟨((hown.ints (by omega)).chg (T := []) (Chg.of_below HIS.out.2.1) (by simp)).mono (fun q hq => ⟨hq.1, by rw [HIS.out.2.2]; exact hq.2⟩), hk16, hld⟩
    clear hown hld HIS he hg hk16
    obtain ⟨w4, hw4⟩ : ∃ w4, w4 = w3.alloc (.cells #[.int .i64 0, .slice none 0 0] 79) := ⟨_, rfl⟩
    obtain ⟨nb, hnb⟩ : ∃ nb, nb = w3.heap.size := ⟨_, rfl⟩
    have hb4 : Below w3.heap.size w3 w4 := by rw [hw4]; exact (Below.refl _ _).alloc (Nat.le_refl _) _
    have hx4 : w4.heap[nb]? = some (.cells #[.int .i64 0, .slice none 0 0] 79 (0, 0)) := by rw [hw4, hnb]; exact heap_alloc_last _ _
    have q1 : w4.cell? ⟨bb, 1, none⟩ = some (.string d) := cell_at ((hb4.block _ (heap_lt H3.out.2.2.2.1)).trans H3.out.2.2.2.1) 1
    rw [hw4, hw3, hbb] at q1
    have H4 : Hid (Below w.heap.size w w4 ∧ w4.heap[rb]? = some (.cells #[.int .i64 0, .slice none 0 0] 79 (0, 0)) ∧ w4.heap[bb]? = some (.cells #[.slice a ks.length c, .string d] 125 (0, 0)) ∧ w4.heap[nb]? = some (.cells #[.int .i64 0, .slice none 0 0] 79 (0, 0)) ∧ Ints (fun q => w1.heap.size ≤ q ∧ q < bb) w4 (.slice a ks.length c) ks ∧ rb < w1.heap.size ∧ w1.heap.size ≤ bb ∧ bb < nb ∧ rb = w.heap.size) := by
      refine ⟨H3.out.1.trans (hb4.mono H3.out.1.size), (hb4.block _ (heap_lt H3.out.2.1)).trans H3.out.2.1, (hb4.block _ (heap_lt H3.out.2.2.2.1)).trans H3.out.2.2.2.1, hx4, ?_, by rw [H3.out.2.2.1]; exact H3.out.2.2.2.2.1, H3.out.2.2.2.2.2, by rw [hnb]; exact heap_lt H3.out.2.2.2.1, H3.out.2.2.1⟩
      refine (HK.out.1.chg (T := []) (Chg.of_below hb4) (by simp)).mono (fun q hq => ?_)
      exact hq
    clear hb4 hx4 H3
    go_wp2_with fail
    have hnb' : w2.heap.size + 1 = nb := by rw [hnb, hw3]; simp
    have hw4' : w4 = (w2.alloc (.cells #[.slice a ks.length c, .string d] 125)).alloc (.cells #[.int .i64 0, .slice none 0 0] 79) := by rw [hw4, hw3]
    rw [hnb', ← hbb, ← hw4']
    clear q1 hw4' hw4 hnb' hnb hbb hw3
    obtain ⟨cap, w5, hrun, hb5, hcell⟩ := conv_bytes' d w4
    have HU : Hid (U8s w5.heap.size w5 (.slice (some ⟨w4.heap.size, 0, none⟩) d.size cap) d.data.toList ∧ Below w4.heap.size w4 w5) := ⟨U8s.bytes hb5.1 hb5.2 hcell, hb5.1⟩
    clear hb5 hcell
    rw [hrun]
    simp only [Result.andThen]
    rw [Oper.upon_value]
    clear hrun
    have H5 : Hid (Below w.heap.size w w5 ∧ w5.heap[rb]? = some (.cells #[.int .i64 0, .slice none 0 0] 79 (0, 0)) ∧ w5.heap[bb]? = some (.cells #[.slice a ks.length c, .string d] 125 (0, 0)) ∧ w5.heap[nb]? = some (.cells #[.int .i64 0, .slice none 0 0] 79 (0, 0)) ∧ Ints (fun q => w1.heap.size ≤ q ∧ q < bb) w5 (.slice a ks.length c) ks ∧ rb < w1.heap.size ∧ w1.heap.size ≤ bb ∧ bb < nb ∧ rb = w.heap.size) :=
      ⟨H4.out.1.trans (HU.out.2.mono H4.out.1.size), (HU.out.2.block _ (heap_lt H4.out.2.1)).trans H4.out.2.1, (HU.out.2.block _ (heap_lt H4.out.2.2.1)).trans H4.out.2.2.1, (HU.out.2.block _ (heap_lt H4.out.2.2.2.1)).trans H4.out.2.2.2.1, H4.out.2.2.2.2.1.chg (T := []) (Chg.of_below HU.out.2) (by simp), H4.out.2.2.2.2.2⟩
    clear H4
    go_wp2_with fail
    have hdd : (⟨d.data.toList.toArray⟩ : ByteArray) = d := by apply ByteArray.ext; simp
    refine (read_any (T := [nb]) (F := LoadF ks d nb) HU.out.1 (fun t ht => by simp at ht; subst ht; exact heap_lt H5.out.2.2.2.1) (load_stable ks d w5 nb (heap_lt H5.out.2.2.2.1)) (fun _ _ => by kernel_rfl) (fun w6 eb heb he6 hb6 => ?_)).mono ?_
    · rw [hdd] at he6
      refine load1_any w6 eb nb bb a c ks d d (Rdn.start he6 ((hb6.block _ (heap_lt H5.out.2.2.2.1)).trans H5.out.2.2.2.1) ((hb6.block _ (heap_lt H5.out.2.2.1)).trans H5.out.2.2.1) ?_ (Nat.ne_of_lt H5.out.2.2.2.2.2.2.2.1)) (by have := HK.out.2.1; omega)
      refine (H5.out.2.2.2.2.1.chg (T := []) (Chg.of_below hb6) (by simp)).mono (fun q hq => ?_)
      have h1 := H5.out.2.2.2.2.2.2.2.1
      have h2 := heap_lt H5.out.2.2.2.1
      have h3 := hb6.size
      exact ⟨by omega, by omega, by omega⟩
    rintro e w6 ⟨N, r, rfl, hc6, hf6, hN⟩
    obtain ⟨lv, a6, m6, c6, hx6, hres⟩ := load_read hf6
    have hr6 : w6.heap[rb]? = some (.cells #[.int .i64 0, .slice none 0 0] 79 (0, 0)) := (hc6.block _ (heap_lt H5.out.2.1) (by have := H5.out.2.2.2.2.2; simp; omega)).trans H5.out.2.1
    have H6 : Hid (Below w.heap.size w w6 ∧ w6.heap[rb]? = some (.cells #[.int .i64 0, .slice none 0 0] 79 (0, 0)) ∧ w.heap.size ≤ N ∧ rb = w.heap.size ∧ rb < N) := by
      have h1 := H5.out.2.2.2.2.2
      have h2 := H5.out.1.size
      have h3 := heap_lt H5.out.2.1
      exact ⟨H5.out.1.trans (hc6.below H5.out.1.size (fun x hx => by simp at hx; omega)), hr6, by omega, h1.2.2.2, by omega⟩
    have x0 : w6.cell? ⟨nb, 0, none⟩ = some (.int .i64 lv) := cell_at hx6 0
    have x1 : w6.cell? ⟨nb, 1, none⟩ = some (.slice a6 m6 c6) := cell_at hx6 1
    have c0 : w6.cell? ⟨rb, 0, none⟩ = some (.int .i64 0) := cell_at hr6 0
    have c1 : w6.cell? ⟨rb, 1, none⟩ = some (.slice none 0 0) := cell_at hr6 1
    have cf : ∀ j, w6.frozen? ⟨rb, j, none⟩ = false := frozen_at hr6
    generalize endE r = err at hres ⊢
    clear hc6 hf6 hN hx6 hr6 hdd H5 HU
    have HRES : Hid _ := hres
    rcases hres with ⟨n, hn1, rfl, hn2, hn3, hn4⟩ | ⟨hn1, hn2⟩
    · clear HRES
      have HN : Hid (loadF S D i = .ok n ∧ lv = n.level ∧ OwnT N w6 (.slice a6 m6 c6) n.items ∧ n.items.length ≤ 8) := ⟨by rw [HK.out.2.2, hn1], hn2, hn3, hn4⟩
      clear hn1 hn2 hn3 hn4 HK
      go_wp2
      have hbox := heap_set_at (heap_set_at H6.out.2.1 0 (.int .i64 lv)) 1 (.slice a6 m6 c6)
      have hcg : Chg [rb] w6 ((w6.setCell ⟨rb, 0, none⟩ (.int .i64 lv)).setCell ⟨rb, 1, none⟩ (.slice a6 m6 c6)) := ((Chg.refl _ _).setCell _ _ (.inl (by simp))).setCell _ _ (.inl (by simp))
      refine bodyPost_ret (Sto.results_cell_tmp Tryz.results36 _ _ rb 79 #[.int .i64 lv, .slice a6 m6 c6] (0, 0) _ rfl hbox Tryz.underlying79 rfl (by kernel_rfl)) rfl ?_
      refine ⟨.slice a6 m6 c6, ?_, ?_, H6.out.1.trans (hcg.below H6.out.1.size (fun q hq => by have := H6.out.2.2.2.1; simp at hq; omega))⟩
      · rw [HN.out.1, HN.out.2.1]; rfl
      · rw [HN.out.1]
        exact ((HN.out.2.2.1.its (by have := HN.out.2.2.2; omega)).chg hcg (fun q hq hm => by have := H6.out.2.2.2.2; simp at hm; omega)).mono (fun q hq => Nat.le_trans H6.out.2.2.1 hq.1)
    · clear HRES
      have HN : Hid (loadF S D i = .error 5) := by rw [HK.out.2.2, hn1]; rfl
      clear hn1 HK
      have hn3 : (err != 0) = true := by simpa using hn2
      go_wp2
      have hbox := heap_set_at (heap_set_at H6.out.2.1 0 (.int .i64 0)) 1 (.slice none 0 0)
      have hcg : Chg [rb] w6 ((w6.setCell ⟨rb, 0, none⟩ (.int .i64 0)).setCell ⟨rb, 1, none⟩ (.slice none 0 0)) := ((Chg.refl _ _).setCell _ _ (.inl (by simp))).setCell _ _ (.inl (by simp))
      refine bodyPost_ret (Sto.results_cell_tmp Tryz.results36 _ _ rb 79 #[.int .i64 0, .slice none 0 0] (0, 0) _ rfl hbox Tryz.underlying79 rfl (by kernel_rfl)) rfl ?_
      refine ⟨.slice none 0 0, ?_, ?_, H6.out.1.trans (hcg.below H6.out.1.size (fun q hq => by have := H6.out.2.2.2.1; simp at hq; omega))⟩
      · rw [HN.out]; rfl
      · rw [HN.out]
        exact Its.nil
  · have HN : Hid (loadF S D i = .error (S.getR D i).1) := by show loadF S D i = _; unfold loadF; rw [hg]
    have hn3 : ((S.getR D i).1 != 0) = true := by simpa using he
    have c0 : w3.cell? ⟨rb, 0, none⟩ = some (.int .i64 0) := cell_at H3.out.2.1 0
    have c1 : w3.cell? ⟨rb, 1, none⟩ = some (.slice none 0 0) := cell_at H3.out.2.1 1
    have cf : ∀ j, w3.frozen? ⟨rb, j, none⟩ = false := frozen_at H3.out.2.1
    rw [hw3] at c0 c1 cf
    generalize (S.getR D i).1 = er at HN hn3 ⊢
    clear hg he HIS
    go_wp2
    rw [← hw3]
    have hbox := heap_set_at (heap_set_at H3.out.2.1 0 (.int .i64 0)) 1 (.slice none 0 0)
    have hcg : Chg [rb] w3 ((w3.setCell ⟨rb, 0, none⟩ (.int .i64 0)).setCell ⟨rb, 1, none⟩ (.slice none 0 0)) := ((Chg.refl _ _).setCell _ _ (.inl (by simp))).setCell _ _ (.inl (by simp))
    refine bodyPost_ret (Sto.results_cell_tmp Tryz.results36 _ _ rb 79 #[.int .i64 0, .slice none 0 0] (0, 0) _ rfl hbox Tryz.underlying79 rfl (by kernel_rfl)) rfl ?_
    refine ⟨.slice none 0 0, ?_, ?_, H3.out.1.trans (hcg.below H3.out.1.size (fun q hq => by have := H3.out.2.2.1; simp at hq; omega))⟩
    · rw [HN.out]; rfl
    · rw [HN.out]
      exact Its.nil
end Go.Proofs.YtadmecjdihfmeaaGreat.Tre

