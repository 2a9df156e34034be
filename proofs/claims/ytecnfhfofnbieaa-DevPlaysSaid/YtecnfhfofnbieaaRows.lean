/-
  No cell of these rows narrows 'for every input' (looked for: loops, veiled, ifaces, maps, wideKeys, modest, calm, conditions, laid).
  DERIVED. THE GIVEN ROWS OF THIS SEAT. 7 by the template 'for every input the law returns true; each argument reads behind the call as it read before'; 0 by the template 'total and deterministic' (their statements: YtecnfhfofnbieaaTotals.lean).
  GIVEN WITH THE SEED: the statements are not yours to turn. If you find one false, say at which input.
  Laid BY PROGRAM, IN A SANDBOX (cutbox-rows.mjs): the forced cells as the released guide's own fill.sh prints them over the translation 5c896350efcc4d3b… (all of the seat's roots in one cut). By AI agents, Wed Nov 11 2026. No macro, syntax, notation, axiom, sorry.
-/
import Derived.Test.YtecnfhfofnbieaaChecked
import GoSem.Claim
import GoSem.ClaimJoined
import GoSem.ClaimMapViews
import Derived.JoinedTies
import Derived.KernelRfl
namespace Go.Proofs.Ytecnfhfofnbieaa
/- THE CELL 'sum', in the pinned program and in every row, IS THE sha256 OF THE DUMP (.gsa) THAT YtecnfhfofnbieaaProg.lean LOADS. Nothing in Lean hashes anything: it is a label: what it is worth is what the hold of that sum in a sandbox is worth. -/
noncomputable def Try.pinned : Pinned := { name := "ytecnfhfofnbieaa", sum := "5c896350efcc4d3b047586336751a5c596e390bcc64c8f40ed67aac7723c487e", checked := Try.checked }
namespace Rows
def none {H : Type} : Left H := { results := [], args := [] }

/-- 'crannoglaw05.DevFuse': WHATEVER THE INPUT: true; the input reads as it did. -/
def devFuseSpec : ChangeSpec := { name := "devFuse", fn := fun _ => fun
  | [d1, d2, d3] => { results := [.lit (.bool true)], args := [d1, d2, d3] }
  | _ => none }
def devFuseRow : OpenClaim := { program := "ytecnfhfofnbieaa", sum := "5c896350efcc4d3b047586336751a5c596e390bcc64c8f40ed67aac7723c487e", func := "crannog/crannoglaw05.DevFuse", spec := "devFuse", apart := false }
def DevFuseSaid : Prop := devFuseRow.holds Try.pinned (OpenSpec.ofChange devFuseSpec)

/-- ITS FALSE NEIGHBOUR: 'it returns false'. Refute it at one input. -/
def devFuseWrong : ChangeSpec := { name := "devFuse", fn := fun _ => fun
  | [d1, d2, d3] => { results := [.lit (.bool false)], args := [d1, d2, d3] }
  | _ => none }
def DevFuseWrongFalsely : Prop := devFuseRow.holds Try.pinned (OpenSpec.ofChange devFuseWrong)

/-- 'crannoglaw05.DevFlushed': WHATEVER THE INPUT: true; the input reads as it did. -/
def devFlushedSpec : ChangeSpec := { name := "devFlushed", fn := fun _ => fun
  | [d1, d2, d3, d4, d5, d6] => { results := [.lit (.bool true)], args := [d1, d2, d3, d4, d5, d6] }
  | _ => none }
def devFlushedRow : OpenClaim := { program := "ytecnfhfofnbieaa", sum := "5c896350efcc4d3b047586336751a5c596e390bcc64c8f40ed67aac7723c487e", func := "crannog/crannoglaw05.DevFlushed", spec := "devFlushed", inPlace := ["maps.clone"], apart := false }
def DevFlushedSaid : Prop := devFlushedRow.holds Try.pinned (OpenSpec.ofChange devFlushedSpec)

/-- ITS FALSE NEIGHBOUR: 'it returns false'. Refute it at one input. -/
def devFlushedWrong : ChangeSpec := { name := "devFlushed", fn := fun _ => fun
  | [d1, d2, d3, d4, d5, d6] => { results := [.lit (.bool false)], args := [d1, d2, d3, d4, d5, d6] }
  | _ => none }
def DevFlushedWrongFalsely : Prop := devFlushedRow.holds Try.pinned (OpenSpec.ofChange devFlushedWrong)

/-- 'crannoglaw05.DevNobody': WHATEVER THE INPUT: true; the input reads as it did. -/
def devNobodySpec : ChangeSpec := { name := "devNobody", fn := fun _ => fun
  | [d] => { results := [.lit (.bool true)], args := [d] }
  | _ => none }
def devNobodyRow : OpenClaim := { program := "ytecnfhfofnbieaa", sum := "5c896350efcc4d3b047586336751a5c596e390bcc64c8f40ed67aac7723c487e", func := "crannog/crannoglaw05.DevNobody", spec := "devNobody", inPlace := ["maps.clone"], unfollowed := true, recurses := true, apart := false }
def DevNobodySaid : Prop := devNobodyRow.holds Try.pinned (OpenSpec.ofChange devNobodySpec)

/-- ITS FALSE NEIGHBOUR: 'it returns false'. Refute it at one input. -/
def devNobodyWrong : ChangeSpec := { name := "devNobody", fn := fun _ => fun
  | [d] => { results := [.lit (.bool false)], args := [d] }
  | _ => none }
def DevNobodyWrongFalsely : Prop := devNobodyRow.holds Try.pinned (OpenSpec.ofChange devNobodyWrong)

/-- 'crannoglaw05.DevPlays': WHATEVER THE INPUT: true; the input reads as it did. -/
def devPlaysSpec : ChangeSpec := { name := "devPlays", fn := fun _ => fun
  | [d1, d2] => { results := [.lit (.bool true)], args := [d1, d2] }
  | _ => none }
def devPlaysRow : OpenClaim := { program := "ytecnfhfofnbieaa", sum := "5c896350efcc4d3b047586336751a5c596e390bcc64c8f40ed67aac7723c487e", func := "crannog/crannoglaw05.DevPlays", spec := "devPlays", unfollowed := true, recurses := true, apart := false }
def DevPlaysSaid : Prop := devPlaysRow.holds Try.pinned (OpenSpec.ofChange devPlaysSpec)

/-- ITS FALSE NEIGHBOUR: 'it returns false'. Refute it at one input. -/
def devPlaysWrong : ChangeSpec := { name := "devPlays", fn := fun _ => fun
  | [d1, d2] => { results := [.lit (.bool false)], args := [d1, d2] }
  | _ => none }
def DevPlaysWrongFalsely : Prop := devPlaysRow.holds Try.pinned (OpenSpec.ofChange devPlaysWrong)

/-- 'crannoglaw05.DevSome': WHATEVER THE INPUT: true; the input reads as it did. -/
def devSomeSpec : ChangeSpec := { name := "devSome", fn := fun _ => fun
  | [d1, d2, d3] => { results := [.lit (.bool true)], args := [d1, d2, d3] }
  | _ => none }
def devSomeRow : OpenClaim := { program := "ytecnfhfofnbieaa", sum := "5c896350efcc4d3b047586336751a5c596e390bcc64c8f40ed67aac7723c487e", func := "crannog/crannoglaw05.DevSome", spec := "devSome", inPlace := ["maps.clone"], unfollowed := true, recurses := true, apart := false }
def DevSomeSaid : Prop := devSomeRow.holds Try.pinned (OpenSpec.ofChange devSomeSpec)

/-- ITS FALSE NEIGHBOUR: 'it returns false'. Refute it at one input. -/
def devSomeWrong : ChangeSpec := { name := "devSome", fn := fun _ => fun
  | [d1, d2, d3] => { results := [.lit (.bool false)], args := [d1, d2, d3] }
  | _ => none }
def DevSomeWrongFalsely : Prop := devSomeRow.holds Try.pinned (OpenSpec.ofChange devSomeWrong)

/-- 'crannoglaw05.DevApart': WHATEVER THE INPUT: true; the input reads as it did. -/
def devApartSpec : ChangeSpec := { name := "devApart", fn := fun _ => fun
  | [d1, d2, d3] => { results := [.lit (.bool true)], args := [d1, d2, d3] }
  | _ => none }
def devApartRow : OpenClaim := { program := "ytecnfhfofnbieaa", sum := "5c896350efcc4d3b047586336751a5c596e390bcc64c8f40ed67aac7723c487e", func := "crannog/crannoglaw05.DevApart", spec := "devApart", inPlace := ["maps.clone"], unfollowed := true, recurses := true, apart := false }
def DevApartSaid : Prop := devApartRow.holds Try.pinned (OpenSpec.ofChange devApartSpec)

/-- ITS FALSE NEIGHBOUR: 'it returns false'. Refute it at one input. -/
def devApartWrong : ChangeSpec := { name := "devApart", fn := fun _ => fun
  | [d1, d2, d3] => { results := [.lit (.bool false)], args := [d1, d2, d3] }
  | _ => none }
def DevApartWrongFalsely : Prop := devApartRow.holds Try.pinned (OpenSpec.ofChange devApartWrong)

/-- 'crannoglaw05.DevRefused': WHATEVER THE INPUT: true; the input reads as it did. -/
def devRefusedSpec : ChangeSpec := { name := "devRefused", fn := fun _ => fun
  | [d1, d2, d3] => { results := [.lit (.bool true)], args := [d1, d2, d3] }
  | _ => none }
def devRefusedRow : OpenClaim := { program := "ytecnfhfofnbieaa", sum := "5c896350efcc4d3b047586336751a5c596e390bcc64c8f40ed67aac7723c487e", func := "crannog/crannoglaw05.DevRefused", spec := "devRefused", inPlace := ["maps.clone"], unfollowed := true, recurses := true, apart := false }
def DevRefusedSaid : Prop := devRefusedRow.holds Try.pinned (OpenSpec.ofChange devRefusedSpec)

/-- ITS FALSE NEIGHBOUR: 'it returns false'. Refute it at one input. -/
def devRefusedWrong : ChangeSpec := { name := "devRefused", fn := fun _ => fun
  | [d1, d2, d3] => { results := [.lit (.bool false)], args := [d1, d2, d3] }
  | _ => none }
def DevRefusedWrongFalsely : Prop := devRefusedRow.holds Try.pinned (OpenSpec.ofChange devRefusedWrong)

/- THE SECOND FORM. 'bulk': how many values and letters a reading holds, each counted each time it is reached (what is shared counts as often as it is met; a slice's spare places count too). A statement '..UptoSaid' is the law's where the arguments, and the package variables that the reading takes, are together of bulk at most 1048576: NARROWER than '..Said'. Prove '..Said' where nothing that the law and all that it calls make is longer than what came in: it says more and counts as full. Else prove '..UptoSaid'. A law counts once. -/
mutual
def uptoBulk {H : Type} : DataW H → Nat
  | .lit (.string bytes) => bytes.length + 1
  | .lit _ => 1
  | .nil => 1
  | .ptr d => uptoBulk d + 1
  | .slice elems spare => uptoBulkAll elems + uptoBulkAll spare + 1
  | .agg parts => uptoBulkAll parts + 1
  | .iface _ d => uptoBulk d + 1
  | .map entries => uptoBulkEntries entries + 1
  | .held _ => 1
def uptoBulkAll {H : Type} : List (DataW H) → Nat
  | [] => 0
  | d :: r => uptoBulk d + uptoBulkAll r
def uptoBulkEntries {H : Type} : List (Lit × DataW H) → Nat
  | [] => 0
  | x :: r => uptoBulkEntry x + uptoBulkEntries r
def uptoBulkEntry {H : Type} : Lit × DataW H → Nat
  | (.string bytes, d) => bytes.length + uptoBulk d + 1
  | (_, d) => uptoBulk d + 1
 end
def uptoSmall : (H : Type) → List (DataW H) → Bool := fun _ ds => decide (uptoBulkAll ds ≤ 1048576)
def OpenSpec.upto (s : _root_.Go.ChangeSpec) : _root_.Go.OpenSpec := { _root_.Go.OpenSpec.ofChange s with cond := some uptoSmall }

/-- 'crannoglaw05.DevFuse', WHERE WHAT IT READS IS OF BULK AT MOST 1048576: true; the input reads as it did. -/
def devFuseUptoRow : OpenClaim := { program := "ytecnfhfofnbieaa", sum := "5c896350efcc4d3b047586336751a5c596e390bcc64c8f40ed67aac7723c487e", func := "crannog/crannoglaw05.DevFuse", spec := "devFuse", apart := false, narrowed := true }
def DevFuseUptoSaid : Prop := devFuseUptoRow.holds Try.pinned (OpenSpec.upto devFuseSpec)

/-- 'crannoglaw05.DevFlushed', WHERE WHAT IT READS IS OF BULK AT MOST 1048576: true; the input reads as it did. -/
def devFlushedUptoRow : OpenClaim := { program := "ytecnfhfofnbieaa", sum := "5c896350efcc4d3b047586336751a5c596e390bcc64c8f40ed67aac7723c487e", func := "crannog/crannoglaw05.DevFlushed", spec := "devFlushed", inPlace := ["maps.clone"], apart := false, narrowed := true }
def DevFlushedUptoSaid : Prop := devFlushedUptoRow.holds Try.pinned (OpenSpec.upto devFlushedSpec)

/-- 'crannoglaw05.DevNobody', WHERE WHAT IT READS IS OF BULK AT MOST 1048576: true; the input reads as it did. -/
def devNobodyUptoRow : OpenClaim := { program := "ytecnfhfofnbieaa", sum := "5c896350efcc4d3b047586336751a5c596e390bcc64c8f40ed67aac7723c487e", func := "crannog/crannoglaw05.DevNobody", spec := "devNobody", inPlace := ["maps.clone"], unfollowed := true, recurses := true, apart := false, narrowed := true }
def DevNobodyUptoSaid : Prop := devNobodyUptoRow.holds Try.pinned (OpenSpec.upto devNobodySpec)

/-- 'crannoglaw05.DevPlays', WHERE WHAT IT READS IS OF BULK AT MOST 1048576: true; the input reads as it did. -/
def devPlaysUptoRow : OpenClaim := { program := "ytecnfhfofnbieaa", sum := "5c896350efcc4d3b047586336751a5c596e390bcc64c8f40ed67aac7723c487e", func := "crannog/crannoglaw05.DevPlays", spec := "devPlays", unfollowed := true, recurses := true, apart := false, narrowed := true }
def DevPlaysUptoSaid : Prop := devPlaysUptoRow.holds Try.pinned (OpenSpec.upto devPlaysSpec)

/-- 'crannoglaw05.DevSome', WHERE WHAT IT READS IS OF BULK AT MOST 1048576: true; the input reads as it did. -/
def devSomeUptoRow : OpenClaim := { program := "ytecnfhfofnbieaa", sum := "5c896350efcc4d3b047586336751a5c596e390bcc64c8f40ed67aac7723c487e", func := "crannog/crannoglaw05.DevSome", spec := "devSome", inPlace := ["maps.clone"], unfollowed := true, recurses := true, apart := false, narrowed := true }
def DevSomeUptoSaid : Prop := devSomeUptoRow.holds Try.pinned (OpenSpec.upto devSomeSpec)

/-- 'crannoglaw05.DevApart', WHERE WHAT IT READS IS OF BULK AT MOST 1048576: true; the input reads as it did. -/
def devApartUptoRow : OpenClaim := { program := "ytecnfhfofnbieaa", sum := "5c896350efcc4d3b047586336751a5c596e390bcc64c8f40ed67aac7723c487e", func := "crannog/crannoglaw05.DevApart", spec := "devApart", inPlace := ["maps.clone"], unfollowed := true, recurses := true, apart := false, narrowed := true }
def DevApartUptoSaid : Prop := devApartUptoRow.holds Try.pinned (OpenSpec.upto devApartSpec)

/-- 'crannoglaw05.DevRefused', WHERE WHAT IT READS IS OF BULK AT MOST 1048576: true; the input reads as it did. -/
def devRefusedUptoRow : OpenClaim := { program := "ytecnfhfofnbieaa", sum := "5c896350efcc4d3b047586336751a5c596e390bcc64c8f40ed67aac7723c487e", func := "crannog/crannoglaw05.DevRefused", spec := "devRefused", inPlace := ["maps.clone"], unfollowed := true, recurses := true, apart := false, narrowed := true }
def DevRefusedUptoSaid : Prop := devRefusedUptoRow.holds Try.pinned (OpenSpec.upto devRefusedSpec)

end Rows
end Go.Proofs.Ytecnfhfofnbieaa
