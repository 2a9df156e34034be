/- Layer 22 in plain Lean: stamps, vectors, states, events, and what its functions answer. -/
import Derived.ProofKit
namespace Go.Proofs.YtehkhlmpkhnbmaaGreat.Mod
set_option linter.unusedVariables false
set_option linter.unusedSimpArgs false

structure Stp where
  t : Int
  who : Int
structure Vec where
  v0 : Int
  v1 : Int
  v2 : Int
  v3 : Int
  v4 : Int
  v5 : Int
  v6 : Int
  v7 : Int
structure Piece where
  index : Int
  at_ : Stp
  data : ByteArray
structure Xattr where
  name : ByteArray
  at_ : Stp
  val : ByteArray
  gone : Bool
structure Inode where
  id : Stp
  kind : Int
  text : ByteArray
  aAt : Stp
  mode : Int
  time : Int
  sAt : Stp
  n : Int
  pieces : List Piece
  xattrs : List Xattr
structure Link where
  id : Stp
  node : Stp
  at_ : Stp
  parent : Stp
  name : ByteArray
  alive : Vec
  dead : Vec
structure State where
  seen : Vec
  nodes : List Inode
  links : List Link
structure Event where
  at_ : Stp
  vol : Int
  knew : Vec
  delta : State

def Stp.eq (a b : Stp) : Bool := a.t == b.t && a.who == b.who
theorem Stp.eq_iff {a b : Stp} : a.eq b = true ↔ a = b := by
  obtain ⟨a1, a2⟩ := a
  obtain ⟨b1, b2⟩ := b
  simp [Stp.eq]
theorem Stp.eq_refl (a : Stp) : a.eq a = true := Stp.eq_iff.2 rfl
def Stp.zero : Stp := ⟨0, 0⟩
def Vec.zero : Vec := ⟨0, 0, 0, 0, 0, 0, 0, 0⟩
def Vec.eq (a b : Vec) : Bool := a.v0 == b.v0 && a.v1 == b.v1 && a.v2 == b.v2 && a.v3 == b.v3 && a.v4 == b.v4 && a.v5 == b.v5 && a.v6 == b.v6 && a.v7 == b.v7
theorem Vec.eq_iff {a b : Vec} : a.eq b = true ↔ a = b := by
  obtain ⟨a0, a1, a2, a3, a4, a5, a6, a7⟩ := a
  obtain ⟨b0, b1, b2, b3, b4, b5, b6, b7⟩ := b
  simp [Vec.eq, and_assoc]
theorem Vec.eq_refl (a : Vec) : a.eq a = true := Vec.eq_iff.2 rfl
def Vec.get (v : Vec) (i : Int) : Int := if i = 0 then v.v0 else if i = 1 then v.v1 else if i = 2 then v.v2 else if i = 3 then v.v3 else if i = 4 then v.v4 else if i = 5 then v.v5 else if i = 6 then v.v6 else v.v7

/-- a stamp of an event -/
def Stp.is (s : Stp) : Bool := decide (1 ≤ s.t) && decide (s.t ≤ 1099511627776) && decide (0 ≤ s.who) && decide (s.who < 8)
/-- is an event known by a vector? -/
def Vec.has (v : Vec) (s : Stp) : Bool := s.is && decide (s.t ≤ v.get s.who)

def Event.before (a b : Event) : Bool := b.knew.has a.at_
def knownB (vol : Int) (seen : Vec) (e : Event) : Bool := e.vol == vol && seen.has e.at_
def knownL (l : List Event) (vol : Int) (seen : Vec) : List Event := l.filter (knownB vol seen)
def nodeB (id : Stp) (what : Int) (n : Inode) : Bool := n.id.eq id && ((what == 1 && !n.aAt.eq .zero) || (what == 2 && !n.sAt.eq .zero))
def placeB (id : Stp) (k : Link) : Bool := k.id.eq id && !k.at_.eq .zero
def writesB (id : Stp) (what : Int) (d : State) : Bool := if what = 3 then d.links.any (placeB id) else d.nodes.any (nodeB id what)
def writersL (l : List Event) (id : Stp) (what : Int) : List Event := l.filter fun e => writesB id what e.delta
/-- there is one that an event did not know -/
def othersB (u e : Event) : Bool := !e.at_.eq u.at_ && !e.before u
def lastO (l : List Event) : Option Event := l.find? fun u => !l.any (othersB u)
def throughB (id : Stp) (k : Link) : Bool := k.id.eq id && !k.alive.eq .zero
def killsB (id : Stp) (k : Link) : Bool := k.id.eq id && !k.dead.eq .zero
def unlinkedB (l : List Event) (id : Stp) : Bool := l.all fun e => !e.delta.links.any (throughB id) || l.any fun u => u.delta.links.any (killsB id) && e.before u
end Go.Proofs.YtehkhlmpkhnbmaaGreat.Mod
