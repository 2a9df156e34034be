/- Layer 6 in plain Lean: a store as numbers and functions. -/
import Derived.Test.YtadmecjdihfmeaaGreatDevPure
import Derived.Test.YtadmecjdihfmeaaGreatBegins
namespace Go.Proofs.YtadmecjdihfmeaaGreat.Sto
set_option linter.unusedVariables false
set_option linter.unusedSimpArgs false
open Go.RowKit Go.Proofs.YtadmecjdihfmeaaGreat.Mem Go.Proofs.YtadmecjdihfmeaaGreat.Oct

/-- no block of a device has more bytes than a block may -/
def _root_.Go.Proofs.YtadmecjdihfmeaaGreat.Dev.DevS.small (D : Dev.DevS) : Prop := (∀ i s, D.kept i = some s → s.size ≤ 4096) ∧ ∀ i s, D.dirty i = some s → s.size ≤ 4096
/-- a block that is there -/
structure Cel where
  named : Int
  held : Int
  high : Int
  kids : List Int
def noCel : Cel := ⟨0, 0, 0, []⟩
structure StS where
  gen : Int
  root : Int
  note : ByteArray
  cells : Int → Option Cel
  kept : Int → Bool
namespace StS
def has (S : StS) (i : Int) : Bool := (S.cells i).isSome
def cel (S : StS) (i : Int) : Cel := (S.cells i).getD noCel
def setC (S : StS) (i : Int) (c : Option Cel) : StS := { S with cells := upd S.cells i c }
def name (S : StS) (i by_ : Int) : StS := S.setC i (some { S.cel i with named := (S.cel i).named + by_ })
def hold (S : StS) (i by_ : Int) : StS := S.setC i (some { S.cel i with held := (S.cel i).held + by_ })
/-- is a place free? -/
def freeAt (S : StS) (i : Int) : Bool := !S.has i && !S.kept i
/-- the least free place from i on, of n -/
def freeGo (S : StS) (n : Int) : Nat → Int → Int
  | 0, _ => 0
  | k + 1, i => if i < n then (if S.freeAt i = true then i else freeGo S n k (i + 1)) else 0
def free (S : StS) (n : Int) : Int := S.freeGo n n.toNat 2
/-- Hold -/
def holdE (S : StS) (i : Int) : Int := if S.has i = true then 0 else 22
def holds (S : StS) (i : Int) : StS := if S.has i = true then S.hold i 1 else S
end StS
end Go.Proofs.YtadmecjdihfmeaaGreat.Sto
