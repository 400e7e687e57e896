/-
  No cell of these rows narrows 'for every input' (looked for: loops, veiled, ifaces, maps, wideKeys, modest, calm, conditions, laid).
  DERIVED. THE GIVEN ROWS OF THIS SEAT. 8 by the template 'for every input the law returns true; each argument reads behind the call as it read before'; 0 by the template 'total and deterministic' (their statements: YtljfncpecpkhhaaTotals.lean).
  GIVEN WITH THE SEED: the statements are not yours to turn. If you find one false, say at which input.
  Laid BY PROGRAM, IN A SANDBOX (cutbox-rows.mjs): the forced cells as the released guide's own fill.sh prints them over the translation 7ee1d2a3de95cc76… (all of the seat's roots in one cut). By AI agents, Wed Nov 11 2026. No macro, syntax, notation, axiom, sorry.
-/
import Derived.Test.YtljfncpecpkhhaaChecked
import GoSem.Claim
import GoSem.ClaimJoined
import GoSem.ClaimMapViews
import Derived.JoinedTies
import Derived.KernelRfl
namespace Go.Proofs.Ytljfncpecpkhhaa
/- THE CELL 'sum', in the pinned program and in every row, IS THE sha256 OF THE DUMP (.gsa) THAT YtljfncpecpkhhaaProg.lean LOADS. Nothing in Lean hashes anything: it is a label: what it is worth is what the hold of that sum in a sandbox is worth. -/
noncomputable def Try.pinned : Pinned := { name := "ytljfncpecpkhhaa", sum := "7ee1d2a3de95cc762770c2c74a3eb366692ff521926589889819c9fa83b02d2f", checked := Try.checked }
namespace Rows
def none {H : Type} : Left H := { results := [], args := [] }

/-- 'canticlelaw26.RopeJoined': WHATEVER THE INPUT: true; the input reads as it did. -/
def ropeJoinedSpec : ChangeSpec := { name := "ropeJoined", fn := fun _ => fun
  | [d1, d2, d3, d4, d5, d6, d7] => { results := [.lit (.bool true)], args := [d1, d2, d3, d4, d5, d6, d7] }
  | _ => none }
def ropeJoinedRow : OpenClaim := { program := "ytljfncpecpkhhaa", sum := "7ee1d2a3de95cc762770c2c74a3eb366692ff521926589889819c9fa83b02d2f", func := "canticle/canticlelaw26.RopeJoined", spec := "ropeJoined", inPlace := ["internal/abi.NoEscape"], unfollowed := true, recurses := true, apart := false }
def RopeJoinedSaid : Prop := ropeJoinedRow.holds Try.pinned (OpenSpec.ofChange ropeJoinedSpec)

/-- ITS FALSE NEIGHBOUR: 'it returns false'. Refute it at one input. -/
def ropeJoinedWrong : ChangeSpec := { name := "ropeJoined", fn := fun _ => fun
  | [d1, d2, d3, d4, d5, d6, d7] => { results := [.lit (.bool false)], args := [d1, d2, d3, d4, d5, d6, d7] }
  | _ => none }
def RopeJoinedWrongFalsely : Prop := ropeJoinedRow.holds Try.pinned (OpenSpec.ofChange ropeJoinedWrong)

/-- 'canticlelaw26.RopeHeals': WHATEVER THE INPUT: true; the input reads as it did. -/
def ropeHealsSpec : ChangeSpec := { name := "ropeHeals", fn := fun _ => fun
  | [d1, d2, d3] => { results := [.lit (.bool true)], args := [d1, d2, d3] }
  | _ => none }
def ropeHealsRow : OpenClaim := { program := "ytljfncpecpkhhaa", sum := "7ee1d2a3de95cc762770c2c74a3eb366692ff521926589889819c9fa83b02d2f", func := "canticle/canticlelaw26.RopeHeals", spec := "ropeHeals", inPlace := ["internal/abi.NoEscape"], unfollowed := true, recurses := true, apart := false }
def RopeHealsSaid : Prop := ropeHealsRow.holds Try.pinned (OpenSpec.ofChange ropeHealsSpec)

/-- ITS FALSE NEIGHBOUR: 'it returns false'. Refute it at one input. -/
def ropeHealsWrong : ChangeSpec := { name := "ropeHeals", fn := fun _ => fun
  | [d1, d2, d3] => { results := [.lit (.bool false)], args := [d1, d2, d3] }
  | _ => none }
def RopeHealsWrongFalsely : Prop := ropeHealsRow.holds Try.pinned (OpenSpec.ofChange ropeHealsWrong)

/-- 'canticlelaw26.RopeGrows': WHATEVER THE INPUT: true; the input reads as it did. -/
def ropeGrowsSpec : ChangeSpec := { name := "ropeGrows", fn := fun _ => fun
  | [d1, d2, d3] => { results := [.lit (.bool true)], args := [d1, d2, d3] }
  | _ => none }
def ropeGrowsRow : OpenClaim := { program := "ytljfncpecpkhhaa", sum := "7ee1d2a3de95cc762770c2c74a3eb366692ff521926589889819c9fa83b02d2f", func := "canticle/canticlelaw26.RopeGrows", spec := "ropeGrows", inPlace := ["internal/abi.NoEscape"], unfollowed := true, recurses := true, apart := false }
def RopeGrowsSaid : Prop := ropeGrowsRow.holds Try.pinned (OpenSpec.ofChange ropeGrowsSpec)

/-- ITS FALSE NEIGHBOUR: 'it returns false'. Refute it at one input. -/
def ropeGrowsWrong : ChangeSpec := { name := "ropeGrows", fn := fun _ => fun
  | [d1, d2, d3] => { results := [.lit (.bool false)], args := [d1, d2, d3] }
  | _ => none }
def RopeGrowsWrongFalsely : Prop := ropeGrowsRow.holds Try.pinned (OpenSpec.ofChange ropeGrowsWrong)

/-- 'canticlelaw26.RopeGo': WHATEVER THE INPUT: true; the input reads as it did. -/
def ropeGoSpec : ChangeSpec := { name := "ropeGo", fn := fun _ => fun
  | [d] => { results := [.lit (.bool true)], args := [d] }
  | _ => none }
def ropeGoRow : OpenClaim := { program := "ytljfncpecpkhhaa", sum := "7ee1d2a3de95cc762770c2c74a3eb366692ff521926589889819c9fa83b02d2f", func := "canticle/canticlelaw26.RopeGo", spec := "ropeGo", inPlace := ["internal/abi.NoEscape"], unfollowed := true, recurses := true, apart := false }
def RopeGoSaid : Prop := ropeGoRow.holds Try.pinned (OpenSpec.ofChange ropeGoSpec)

/-- ITS FALSE NEIGHBOUR: 'it returns false'. Refute it at one input. -/
def ropeGoWrong : ChangeSpec := { name := "ropeGo", fn := fun _ => fun
  | [d] => { results := [.lit (.bool false)], args := [d] }
  | _ => none }
def RopeGoWrongFalsely : Prop := ropeGoRow.holds Try.pinned (OpenSpec.ofChange ropeGoWrong)

/-- 'canticlelaw26.RopeEarly': WHATEVER THE INPUT: true; the input reads as it did. -/
def ropeEarlySpec : ChangeSpec := { name := "ropeEarly", fn := fun _ => fun
  | [d1, d2] => { results := [.lit (.bool true)], args := [d1, d2] }
  | _ => none }
def ropeEarlyRow : OpenClaim := { program := "ytljfncpecpkhhaa", sum := "7ee1d2a3de95cc762770c2c74a3eb366692ff521926589889819c9fa83b02d2f", func := "canticle/canticlelaw26.RopeEarly", spec := "ropeEarly", inPlace := ["internal/abi.NoEscape"], unfollowed := true, recurses := true, apart := false }
def RopeEarlySaid : Prop := ropeEarlyRow.holds Try.pinned (OpenSpec.ofChange ropeEarlySpec)

/-- ITS FALSE NEIGHBOUR: 'it returns false'. Refute it at one input. -/
def ropeEarlyWrong : ChangeSpec := { name := "ropeEarly", fn := fun _ => fun
  | [d1, d2] => { results := [.lit (.bool false)], args := [d1, d2] }
  | _ => none }
def RopeEarlyWrongFalsely : Prop := ropeEarlyRow.holds Try.pinned (OpenSpec.ofChange ropeEarlyWrong)

/-- 'canticlelaw26.RopeLong': WHATEVER THE INPUT: true; the input reads as it did. -/
def ropeLongSpec : ChangeSpec := { name := "ropeLong", fn := fun _ => fun
  | [d1, d2] => { results := [.lit (.bool true)], args := [d1, d2] }
  | _ => none }
def ropeLongRow : OpenClaim := { program := "ytljfncpecpkhhaa", sum := "7ee1d2a3de95cc762770c2c74a3eb366692ff521926589889819c9fa83b02d2f", func := "canticle/canticlelaw26.RopeLong", spec := "ropeLong", inPlace := ["internal/abi.NoEscape", "internal/bytealg.MakeNoZero"], unfollowed := true, recurses := true, apart := false }
def RopeLongSaid : Prop := ropeLongRow.holds Try.pinned (OpenSpec.ofChange ropeLongSpec)

/-- ITS FALSE NEIGHBOUR: 'it returns false'. Refute it at one input. -/
def ropeLongWrong : ChangeSpec := { name := "ropeLong", fn := fun _ => fun
  | [d1, d2] => { results := [.lit (.bool false)], args := [d1, d2] }
  | _ => none }
def RopeLongWrongFalsely : Prop := ropeLongRow.holds Try.pinned (OpenSpec.ofChange ropeLongWrong)

/-- 'canticlelaw26.RopeKnown': WHATEVER THE INPUT: true; the input reads as it did. -/
def ropeKnownSpec : ChangeSpec := { name := "ropeKnown", fn := fun _ => fun
  | [] => { results := [.lit (.bool true)], args := [] }
  | _ => none }
def ropeKnownRow : OpenClaim := { program := "ytljfncpecpkhhaa", sum := "7ee1d2a3de95cc762770c2c74a3eb366692ff521926589889819c9fa83b02d2f", func := "canticle/canticlelaw26.RopeKnown", spec := "ropeKnown", inPlace := ["internal/abi.NoEscape", "internal/bytealg.IndexByteString", "internal/bytealg.IndexString"], unfollowed := true, recurses := true, named := ["internal/bytealg.MaxLen"], apart := false }
def RopeKnownSaid : Prop := ropeKnownRow.holds Try.pinned (OpenSpec.ofChange ropeKnownSpec)

/-- ITS FALSE NEIGHBOUR: 'it returns false'. Refute it at one input. -/
def ropeKnownWrong : ChangeSpec := { name := "ropeKnown", fn := fun _ => fun
  | [] => { results := [.lit (.bool false)], args := [] }
  | _ => none }
def RopeKnownWrongFalsely : Prop := ropeKnownRow.holds Try.pinned (OpenSpec.ofChange ropeKnownWrong)

/-- 'canticlelaw26.RopePlays': WHATEVER THE INPUT: true; the input reads as it did. -/
def ropePlaysSpec : ChangeSpec := { name := "ropePlays", fn := fun _ => fun
  | [d] => { results := [.lit (.bool true)], args := [d] }
  | _ => none }
def ropePlaysRow : OpenClaim := { program := "ytljfncpecpkhhaa", sum := "7ee1d2a3de95cc762770c2c74a3eb366692ff521926589889819c9fa83b02d2f", func := "canticle/canticlelaw26.RopePlays", spec := "ropePlays", inPlace := ["internal/abi.NoEscape", "internal/bytealg.IndexByteString", "internal/bytealg.IndexString"], unfollowed := true, recurses := true, named := ["internal/bytealg.MaxLen"], apart := false }
def RopePlaysSaid : Prop := ropePlaysRow.holds Try.pinned (OpenSpec.ofChange ropePlaysSpec)

/-- ITS FALSE NEIGHBOUR: 'it returns false'. Refute it at one input. -/
def ropePlaysWrong : ChangeSpec := { name := "ropePlays", fn := fun _ => fun
  | [d] => { results := [.lit (.bool false)], args := [d] }
  | _ => none }
def RopePlaysWrongFalsely : Prop := ropePlaysRow.holds Try.pinned (OpenSpec.ofChange ropePlaysWrong)

/- THE SECOND FORM. 'bulk': how many values and letters a reading holds, each counted each time it is reached (what is shared counts as often as it is met; a slice's spare places count too). A statement '..UptoSaid' is the law's where the arguments, and the package variables that the reading takes, are together of bulk at most 1048576: NARROWER than '..Said'. Prove '..Said' where nothing that the law and all that it calls make is longer than what came in: it says more and counts as full. Else prove '..UptoSaid'. A law counts once. -/
mutual
def uptoBulk {H : Type} : DataW H → Nat
  | .lit (.string bytes) => bytes.length + 1
  | .lit _ => 1
  | .nil => 1
  | .ptr d => uptoBulk d + 1
  | .slice elems spare => uptoBulkAll elems + uptoBulkAll spare + 1
  | .agg parts => uptoBulkAll parts + 1
  | .iface _ d => uptoBulk d + 1
  | .map entries => uptoBulkEntries entries + 1
  | .held _ => 1
def uptoBulkAll {H : Type} : List (DataW H) → Nat
  | [] => 0
  | d :: r => uptoBulk d + uptoBulkAll r
def uptoBulkEntries {H : Type} : List (Lit × DataW H) → Nat
  | [] => 0
  | x :: r => uptoBulkEntry x + uptoBulkEntries r
def uptoBulkEntry {H : Type} : Lit × DataW H → Nat
  | (.string bytes, d) => bytes.length + uptoBulk d + 1
  | (_, d) => uptoBulk d + 1
 end
def uptoSmall : (H : Type) → List (DataW H) → Bool := fun _ ds => decide (uptoBulkAll ds ≤ 1048576)
def OpenSpec.upto (s : _root_.Go.ChangeSpec) : _root_.Go.OpenSpec := { _root_.Go.OpenSpec.ofChange s with cond := some uptoSmall }

/-- 'canticlelaw26.RopeJoined', WHERE WHAT IT READS IS OF BULK AT MOST 1048576: true; the input reads as it did. -/
def ropeJoinedUptoRow : OpenClaim := { program := "ytljfncpecpkhhaa", sum := "7ee1d2a3de95cc762770c2c74a3eb366692ff521926589889819c9fa83b02d2f", func := "canticle/canticlelaw26.RopeJoined", spec := "ropeJoined", inPlace := ["internal/abi.NoEscape"], unfollowed := true, recurses := true, apart := false, narrowed := true }
def RopeJoinedUptoSaid : Prop := ropeJoinedUptoRow.holds Try.pinned (OpenSpec.upto ropeJoinedSpec)

/-- 'canticlelaw26.RopeHeals', WHERE WHAT IT READS IS OF BULK AT MOST 1048576: true; the input reads as it did. -/
def ropeHealsUptoRow : OpenClaim := { program := "ytljfncpecpkhhaa", sum := "7ee1d2a3de95cc762770c2c74a3eb366692ff521926589889819c9fa83b02d2f", func := "canticle/canticlelaw26.RopeHeals", spec := "ropeHeals", inPlace := ["internal/abi.NoEscape"], unfollowed := true, recurses := true, apart := false, narrowed := true }
def RopeHealsUptoSaid : Prop := ropeHealsUptoRow.holds Try.pinned (OpenSpec.upto ropeHealsSpec)

/-- 'canticlelaw26.RopeGrows', WHERE WHAT IT READS IS OF BULK AT MOST 1048576: true; the input reads as it did. -/
def ropeGrowsUptoRow : OpenClaim := { program := "ytljfncpecpkhhaa", sum := "7ee1d2a3de95cc762770c2c74a3eb366692ff521926589889819c9fa83b02d2f", func := "canticle/canticlelaw26.RopeGrows", spec := "ropeGrows", inPlace := ["internal/abi.NoEscape"], unfollowed := true, recurses := true, apart := false, narrowed := true }
def RopeGrowsUptoSaid : Prop := ropeGrowsUptoRow.holds Try.pinned (OpenSpec.upto ropeGrowsSpec)

/-- 'canticlelaw26.RopeGo', WHERE WHAT IT READS IS OF BULK AT MOST 1048576: true; the input reads as it did. -/
def ropeGoUptoRow : OpenClaim := { program := "ytljfncpecpkhhaa", sum := "7ee1d2a3de95cc762770c2c74a3eb366692ff521926589889819c9fa83b02d2f", func := "canticle/canticlelaw26.RopeGo", spec := "ropeGo", inPlace := ["internal/abi.NoEscape"], unfollowed := true, recurses := true, apart := false, narrowed := true }
def RopeGoUptoSaid : Prop := ropeGoUptoRow.holds Try.pinned (OpenSpec.upto ropeGoSpec)

/-- 'canticlelaw26.RopeEarly', WHERE WHAT IT READS IS OF BULK AT MOST 1048576: true; the input reads as it did. -/
def ropeEarlyUptoRow : OpenClaim := { program := "ytljfncpecpkhhaa", sum := "7ee1d2a3de95cc762770c2c74a3eb366692ff521926589889819c9fa83b02d2f", func := "canticle/canticlelaw26.RopeEarly", spec := "ropeEarly", inPlace := ["internal/abi.NoEscape"], unfollowed := true, recurses := true, apart := false, narrowed := true }
def RopeEarlyUptoSaid : Prop := ropeEarlyUptoRow.holds Try.pinned (OpenSpec.upto ropeEarlySpec)

/-- 'canticlelaw26.RopeLong', WHERE WHAT IT READS IS OF BULK AT MOST 1048576: true; the input reads as it did. -/
def ropeLongUptoRow : OpenClaim := { program := "ytljfncpecpkhhaa", sum := "7ee1d2a3de95cc762770c2c74a3eb366692ff521926589889819c9fa83b02d2f", func := "canticle/canticlelaw26.RopeLong", spec := "ropeLong", inPlace := ["internal/abi.NoEscape", "internal/bytealg.MakeNoZero"], unfollowed := true, recurses := true, apart := false, narrowed := true }
def RopeLongUptoSaid : Prop := ropeLongUptoRow.holds Try.pinned (OpenSpec.upto ropeLongSpec)

/-- 'canticlelaw26.RopeKnown', WHERE WHAT IT READS IS OF BULK AT MOST 1048576: true; the input reads as it did. -/
def ropeKnownUptoRow : OpenClaim := { program := "ytljfncpecpkhhaa", sum := "7ee1d2a3de95cc762770c2c74a3eb366692ff521926589889819c9fa83b02d2f", func := "canticle/canticlelaw26.RopeKnown", spec := "ropeKnown", inPlace := ["internal/abi.NoEscape", "internal/bytealg.IndexByteString", "internal/bytealg.IndexString"], unfollowed := true, recurses := true, named := ["internal/bytealg.MaxLen"], apart := false, narrowed := true }
def RopeKnownUptoSaid : Prop := ropeKnownUptoRow.holds Try.pinned (OpenSpec.upto ropeKnownSpec)

/-- 'canticlelaw26.RopePlays', WHERE WHAT IT READS IS OF BULK AT MOST 1048576: true; the input reads as it did. -/
def ropePlaysUptoRow : OpenClaim := { program := "ytljfncpecpkhhaa", sum := "7ee1d2a3de95cc762770c2c74a3eb366692ff521926589889819c9fa83b02d2f", func := "canticle/canticlelaw26.RopePlays", spec := "ropePlays", inPlace := ["internal/abi.NoEscape", "internal/bytealg.IndexByteString", "internal/bytealg.IndexString"], unfollowed := true, recurses := true, named := ["internal/bytealg.MaxLen"], apart := false, narrowed := true }
def RopePlaysUptoSaid : Prop := ropePlaysUptoRow.holds Try.pinned (OpenSpec.upto ropePlaysSpec)

end Rows
end Go.Proofs.Ytljfncpecpkhhaa
