/-
  No cell of these rows narrows 'for every input' (looked for: loops, veiled, ifaces, maps, wideKeys, modest, calm, conditions, laid).
  DERIVED. THE GIVEN ROWS OF THIS SEAT. 8 by the template 'for every input the law returns true; each argument reads behind the call as it read before'; 0 by the template 'total and deterministic' (their statements: YtpghpbknjdnkkaaTotals.lean).
  GIVEN WITH THE SEED: the statements are not yours to turn. If you find one false, say at which input.
  Laid BY PROGRAM, IN A SANDBOX (cutbox-rows.mjs): the forced cells as the released guide's own fill.sh prints them over the translation 66a417ccf3268ab0… (all of the seat's roots in one cut). By AI agents, Wed Nov 11 2026. No macro, syntax, notation, axiom, sorry.
-/
import Derived.Test.YtpghpbknjdnkkaaChecked
import GoSem.Claim
import GoSem.ClaimJoined
import GoSem.ClaimMapViews
import Derived.JoinedTies
import Derived.KernelRfl
namespace Go.Proofs.Ytpghpbknjdnkkaa
/- THE CELL 'sum', in the pinned program and in every row, IS THE sha256 OF THE DUMP (.gsa) THAT YtpghpbknjdnkkaaProg.lean LOADS. Nothing in Lean hashes anything: it is a label: what it is worth is what the hold of that sum in a sandbox is worth. -/
noncomputable def Try.pinned : Pinned := { name := "ytpghpbknjdnkkaa", sum := "66a417ccf3268ab020b6811b8aa71248579a475d7f838e308a9825d1db3a7fda", checked := Try.checked }
namespace Rows
def none {H : Type} : Left H := { results := [], args := [] }

/-- 'canticlelaw05.ClusterCuts': WHATEVER THE INPUT: true; the input reads as it did. -/
def clusterCutsSpec : ChangeSpec := { name := "clusterCuts", fn := fun _ => fun
  | [d1, d2, d3] => { results := [.lit (.bool true)], args := [d1, d2, d3] }
  | _ => none }
def clusterCutsRow : OpenClaim := { program := "ytpghpbknjdnkkaa", sum := "66a417ccf3268ab020b6811b8aa71248579a475d7f838e308a9825d1db3a7fda", func := "canticle/canticlelaw05.ClusterCuts", spec := "clusterCuts", inPlace := ["internal/abi.NoEscape", "internal/bytealg.MakeNoZero"], unfollowed := true, recurses := true, apart := false }
def ClusterCutsSaid : Prop := clusterCutsRow.holds Try.pinned (OpenSpec.ofChange clusterCutsSpec)

/-- ITS FALSE NEIGHBOUR: 'it returns false'. Refute it at one input. -/
def clusterCutsWrong : ChangeSpec := { name := "clusterCuts", fn := fun _ => fun
  | [d1, d2, d3] => { results := [.lit (.bool false)], args := [d1, d2, d3] }
  | _ => none }
def ClusterCutsWrongFalsely : Prop := clusterCutsRow.holds Try.pinned (OpenSpec.ofChange clusterCutsWrong)

/-- 'canticlelaw05.ClusterCut': WHATEVER THE INPUT: true; the input reads as it did. -/
def clusterCutSpec : ChangeSpec := { name := "clusterCut", fn := fun _ => fun
  | [d1, d2] => { results := [.lit (.bool true)], args := [d1, d2] }
  | _ => none }
def clusterCutRow : OpenClaim := { program := "ytpghpbknjdnkkaa", sum := "66a417ccf3268ab020b6811b8aa71248579a475d7f838e308a9825d1db3a7fda", func := "canticle/canticlelaw05.ClusterCut", spec := "clusterCut", inPlace := ["internal/abi.NoEscape", "internal/bytealg.MakeNoZero"], unfollowed := true, recurses := true, apart := false }
def ClusterCutSaid : Prop := clusterCutRow.holds Try.pinned (OpenSpec.ofChange clusterCutSpec)

/-- ITS FALSE NEIGHBOUR: 'it returns false'. Refute it at one input. -/
def clusterCutWrong : ChangeSpec := { name := "clusterCut", fn := fun _ => fun
  | [d1, d2] => { results := [.lit (.bool false)], args := [d1, d2] }
  | _ => none }
def ClusterCutWrongFalsely : Prop := clusterCutRow.holds Try.pinned (OpenSpec.ofChange clusterCutWrong)

/-- 'canticlelaw05.ClusterWhole': WHATEVER THE INPUT: true; the input reads as it did. -/
def clusterWholeSpec : ChangeSpec := { name := "clusterWhole", fn := fun _ => fun
  | [d] => { results := [.lit (.bool true)], args := [d] }
  | _ => none }
def clusterWholeRow : OpenClaim := { program := "ytpghpbknjdnkkaa", sum := "66a417ccf3268ab020b6811b8aa71248579a475d7f838e308a9825d1db3a7fda", func := "canticle/canticlelaw05.ClusterWhole", spec := "clusterWhole", inPlace := ["internal/abi.NoEscape", "internal/bytealg.MakeNoZero"], unfollowed := true, recurses := true, apart := false }
def ClusterWholeSaid : Prop := clusterWholeRow.holds Try.pinned (OpenSpec.ofChange clusterWholeSpec)

/-- ITS FALSE NEIGHBOUR: 'it returns false'. Refute it at one input. -/
def clusterWholeWrong : ChangeSpec := { name := "clusterWhole", fn := fun _ => fun
  | [d] => { results := [.lit (.bool false)], args := [d] }
  | _ => none }
def ClusterWholeWrongFalsely : Prop := clusterWholeRow.holds Try.pinned (OpenSpec.ofChange clusterWholeWrong)

/-- 'canticlelaw05.ClusterParted': WHATEVER THE INPUT: true; the input reads as it did. -/
def clusterPartedSpec : ChangeSpec := { name := "clusterParted", fn := fun _ => fun
  | [d1, d2] => { results := [.lit (.bool true)], args := [d1, d2] }
  | _ => none }
def clusterPartedRow : OpenClaim := { program := "ytpghpbknjdnkkaa", sum := "66a417ccf3268ab020b6811b8aa71248579a475d7f838e308a9825d1db3a7fda", func := "canticle/canticlelaw05.ClusterParted", spec := "clusterParted", inPlace := ["internal/abi.NoEscape", "internal/bytealg.MakeNoZero"], unfollowed := true, recurses := true, apart := false }
def ClusterPartedSaid : Prop := clusterPartedRow.holds Try.pinned (OpenSpec.ofChange clusterPartedSpec)

/-- ITS FALSE NEIGHBOUR: 'it returns false'. Refute it at one input. -/
def clusterPartedWrong : ChangeSpec := { name := "clusterParted", fn := fun _ => fun
  | [d1, d2] => { results := [.lit (.bool false)], args := [d1, d2] }
  | _ => none }
def ClusterPartedWrongFalsely : Prop := clusterPartedRow.holds Try.pinned (OpenSpec.ofChange clusterPartedWrong)

/-- 'canticlelaw05.ClusterGo': WHATEVER THE INPUT: true; the input reads as it did. -/
def clusterGoSpec : ChangeSpec := { name := "clusterGo", fn := fun _ => fun
  | [d] => { results := [.lit (.bool true)], args := [d] }
  | _ => none }
def clusterGoRow : OpenClaim := { program := "ytpghpbknjdnkkaa", sum := "66a417ccf3268ab020b6811b8aa71248579a475d7f838e308a9825d1db3a7fda", func := "canticle/canticlelaw05.ClusterGo", spec := "clusterGo", inPlace := ["internal/abi.NoEscape", "internal/bytealg.MakeNoZero"], unfollowed := true, recurses := true, apart := false }
def ClusterGoSaid : Prop := clusterGoRow.holds Try.pinned (OpenSpec.ofChange clusterGoSpec)

/-- ITS FALSE NEIGHBOUR: 'it returns false'. Refute it at one input. -/
def clusterGoWrong : ChangeSpec := { name := "clusterGo", fn := fun _ => fun
  | [d] => { results := [.lit (.bool false)], args := [d] }
  | _ => none }
def ClusterGoWrongFalsely : Prop := clusterGoRow.holds Try.pinned (OpenSpec.ofChange clusterGoWrong)

/-- 'canticlelaw05.ClusterKnown': WHATEVER THE INPUT: true; the input reads as it did. -/
def clusterKnownSpec : ChangeSpec := { name := "clusterKnown", fn := fun _ => fun
  | [] => { results := [.lit (.bool true)], args := [] }
  | _ => none }
def clusterKnownRow : OpenClaim := { program := "ytpghpbknjdnkkaa", sum := "66a417ccf3268ab020b6811b8aa71248579a475d7f838e308a9825d1db3a7fda", func := "canticle/canticlelaw05.ClusterKnown", spec := "clusterKnown", inPlace := ["internal/abi.NoEscape", "internal/bytealg.MakeNoZero"], unfollowed := true, recurses := true, apart := false }
def ClusterKnownSaid : Prop := clusterKnownRow.holds Try.pinned (OpenSpec.ofChange clusterKnownSpec)

/-- ITS FALSE NEIGHBOUR: 'it returns false'. Refute it at one input. -/
def clusterKnownWrong : ChangeSpec := { name := "clusterKnown", fn := fun _ => fun
  | [] => { results := [.lit (.bool false)], args := [] }
  | _ => none }
def ClusterKnownWrongFalsely : Prop := clusterKnownRow.holds Try.pinned (OpenSpec.ofChange clusterKnownWrong)

/-- 'canticlelaw05.ClusterTells': WHATEVER THE INPUT: true; the input reads as it did. -/
def clusterTellsSpec : ChangeSpec := { name := "clusterTells", fn := fun _ => fun
  | [d1, d2, d3] => { results := [.lit (.bool true)], args := [d1, d2, d3] }
  | _ => none }
def clusterTellsRow : OpenClaim := { program := "ytpghpbknjdnkkaa", sum := "66a417ccf3268ab020b6811b8aa71248579a475d7f838e308a9825d1db3a7fda", func := "canticle/canticlelaw05.ClusterTells", spec := "clusterTells", inPlace := ["internal/abi.NoEscape", "internal/bytealg.MakeNoZero"], unfollowed := true, recurses := true, apart := false }
def ClusterTellsSaid : Prop := clusterTellsRow.holds Try.pinned (OpenSpec.ofChange clusterTellsSpec)

/-- ITS FALSE NEIGHBOUR: 'it returns false'. Refute it at one input. -/
def clusterTellsWrong : ChangeSpec := { name := "clusterTells", fn := fun _ => fun
  | [d1, d2, d3] => { results := [.lit (.bool false)], args := [d1, d2, d3] }
  | _ => none }
def ClusterTellsWrongFalsely : Prop := clusterTellsRow.holds Try.pinned (OpenSpec.ofChange clusterTellsWrong)

/-- 'canticlelaw05.ClusterPads': WHATEVER THE INPUT: true; the input reads as it did. -/
def clusterPadsSpec : ChangeSpec := { name := "clusterPads", fn := fun _ => fun
  | [d1, d2, d3] => { results := [.lit (.bool true)], args := [d1, d2, d3] }
  | _ => none }
def clusterPadsRow : OpenClaim := { program := "ytpghpbknjdnkkaa", sum := "66a417ccf3268ab020b6811b8aa71248579a475d7f838e308a9825d1db3a7fda", func := "canticle/canticlelaw05.ClusterPads", spec := "clusterPads", inPlace := ["internal/abi.NoEscape", "internal/bytealg.MakeNoZero", "internal/bytealg.IndexByteString", "internal/bytealg.IndexString"], unfollowed := true, recurses := true, named := ["internal/bytealg.MaxLen"], apart := false }
def ClusterPadsSaid : Prop := clusterPadsRow.holds Try.pinned (OpenSpec.ofChange clusterPadsSpec)

/-- ITS FALSE NEIGHBOUR: 'it returns false'. Refute it at one input. -/
def clusterPadsWrong : ChangeSpec := { name := "clusterPads", fn := fun _ => fun
  | [d1, d2, d3] => { results := [.lit (.bool false)], args := [d1, d2, d3] }
  | _ => none }
def ClusterPadsWrongFalsely : Prop := clusterPadsRow.holds Try.pinned (OpenSpec.ofChange clusterPadsWrong)

/- THE SECOND FORM. 'bulk': how many values and letters a reading holds, each counted each time it is reached (what is shared counts as often as it is met; a slice's spare places count too). A statement '..UptoSaid' is the law's where the arguments, and the package variables that the reading takes, are together of bulk at most 1048576: NARROWER than '..Said'. Prove '..Said' where nothing that the law and all that it calls make is longer than what came in: it says more and counts as full. Else prove '..UptoSaid'. A law counts once. -/
mutual
def uptoBulk {H : Type} : DataW H → Nat
  | .lit (.string bytes) => bytes.length + 1
  | .lit _ => 1
  | .nil => 1
  | .ptr d => uptoBulk d + 1
  | .slice elems spare => uptoBulkAll elems + uptoBulkAll spare + 1
  | .agg parts => uptoBulkAll parts + 1
  | .iface _ d => uptoBulk d + 1
  | .map entries => uptoBulkEntries entries + 1
  | .held _ => 1
def uptoBulkAll {H : Type} : List (DataW H) → Nat
  | [] => 0
  | d :: r => uptoBulk d + uptoBulkAll r
def uptoBulkEntries {H : Type} : List (Lit × DataW H) → Nat
  | [] => 0
  | x :: r => uptoBulkEntry x + uptoBulkEntries r
def uptoBulkEntry {H : Type} : Lit × DataW H → Nat
  | (.string bytes, d) => bytes.length + uptoBulk d + 1
  | (_, d) => uptoBulk d + 1
 end
def uptoSmall : (H : Type) → List (DataW H) → Bool := fun _ ds => decide (uptoBulkAll ds ≤ 1048576)
def OpenSpec.upto (s : _root_.Go.ChangeSpec) : _root_.Go.OpenSpec := { _root_.Go.OpenSpec.ofChange s with cond := some uptoSmall }

/-- 'canticlelaw05.ClusterCuts', WHERE WHAT IT READS IS OF BULK AT MOST 1048576: true; the input reads as it did. -/
def clusterCutsUptoRow : OpenClaim := { program := "ytpghpbknjdnkkaa", sum := "66a417ccf3268ab020b6811b8aa71248579a475d7f838e308a9825d1db3a7fda", func := "canticle/canticlelaw05.ClusterCuts", spec := "clusterCuts", inPlace := ["internal/abi.NoEscape", "internal/bytealg.MakeNoZero"], unfollowed := true, recurses := true, apart := false, narrowed := true }
def ClusterCutsUptoSaid : Prop := clusterCutsUptoRow.holds Try.pinned (OpenSpec.upto clusterCutsSpec)

/-- 'canticlelaw05.ClusterCut', WHERE WHAT IT READS IS OF BULK AT MOST 1048576: true; the input reads as it did. -/
def clusterCutUptoRow : OpenClaim := { program := "ytpghpbknjdnkkaa", sum := "66a417ccf3268ab020b6811b8aa71248579a475d7f838e308a9825d1db3a7fda", func := "canticle/canticlelaw05.ClusterCut", spec := "clusterCut", inPlace := ["internal/abi.NoEscape", "internal/bytealg.MakeNoZero"], unfollowed := true, recurses := true, apart := false, narrowed := true }
def ClusterCutUptoSaid : Prop := clusterCutUptoRow.holds Try.pinned (OpenSpec.upto clusterCutSpec)

/-- 'canticlelaw05.ClusterWhole', WHERE WHAT IT READS IS OF BULK AT MOST 1048576: true; the input reads as it did. -/
def clusterWholeUptoRow : OpenClaim := { program := "ytpghpbknjdnkkaa", sum := "66a417ccf3268ab020b6811b8aa71248579a475d7f838e308a9825d1db3a7fda", func := "canticle/canticlelaw05.ClusterWhole", spec := "clusterWhole", inPlace := ["internal/abi.NoEscape", "internal/bytealg.MakeNoZero"], unfollowed := true, recurses := true, apart := false, narrowed := true }
def ClusterWholeUptoSaid : Prop := clusterWholeUptoRow.holds Try.pinned (OpenSpec.upto clusterWholeSpec)

/-- 'canticlelaw05.ClusterParted', WHERE WHAT IT READS IS OF BULK AT MOST 1048576: true; the input reads as it did. -/
def clusterPartedUptoRow : OpenClaim := { program := "ytpghpbknjdnkkaa", sum := "66a417ccf3268ab020b6811b8aa71248579a475d7f838e308a9825d1db3a7fda", func := "canticle/canticlelaw05.ClusterParted", spec := "clusterParted", inPlace := ["internal/abi.NoEscape", "internal/bytealg.MakeNoZero"], unfollowed := true, recurses := true, apart := false, narrowed := true }
def ClusterPartedUptoSaid : Prop := clusterPartedUptoRow.holds Try.pinned (OpenSpec.upto clusterPartedSpec)

/-- 'canticlelaw05.ClusterGo', WHERE WHAT IT READS IS OF BULK AT MOST 1048576: true; the input reads as it did. -/
def clusterGoUptoRow : OpenClaim := { program := "ytpghpbknjdnkkaa", sum := "66a417ccf3268ab020b6811b8aa71248579a475d7f838e308a9825d1db3a7fda", func := "canticle/canticlelaw05.ClusterGo", spec := "clusterGo", inPlace := ["internal/abi.NoEscape", "internal/bytealg.MakeNoZero"], unfollowed := true, recurses := true, apart := false, narrowed := true }
def ClusterGoUptoSaid : Prop := clusterGoUptoRow.holds Try.pinned (OpenSpec.upto clusterGoSpec)

/-- 'canticlelaw05.ClusterKnown', WHERE WHAT IT READS IS OF BULK AT MOST 1048576: true; the input reads as it did. -/
def clusterKnownUptoRow : OpenClaim := { program := "ytpghpbknjdnkkaa", sum := "66a417ccf3268ab020b6811b8aa71248579a475d7f838e308a9825d1db3a7fda", func := "canticle/canticlelaw05.ClusterKnown", spec := "clusterKnown", inPlace := ["internal/abi.NoEscape", "internal/bytealg.MakeNoZero"], unfollowed := true, recurses := true, apart := false, narrowed := true }
def ClusterKnownUptoSaid : Prop := clusterKnownUptoRow.holds Try.pinned (OpenSpec.upto clusterKnownSpec)

/-- 'canticlelaw05.ClusterTells', WHERE WHAT IT READS IS OF BULK AT MOST 1048576: true; the input reads as it did. -/
def clusterTellsUptoRow : OpenClaim := { program := "ytpghpbknjdnkkaa", sum := "66a417ccf3268ab020b6811b8aa71248579a475d7f838e308a9825d1db3a7fda", func := "canticle/canticlelaw05.ClusterTells", spec := "clusterTells", inPlace := ["internal/abi.NoEscape", "internal/bytealg.MakeNoZero"], unfollowed := true, recurses := true, apart := false, narrowed := true }
def ClusterTellsUptoSaid : Prop := clusterTellsUptoRow.holds Try.pinned (OpenSpec.upto clusterTellsSpec)

/-- 'canticlelaw05.ClusterPads', WHERE WHAT IT READS IS OF BULK AT MOST 1048576: true; the input reads as it did. -/
def clusterPadsUptoRow : OpenClaim := { program := "ytpghpbknjdnkkaa", sum := "66a417ccf3268ab020b6811b8aa71248579a475d7f838e308a9825d1db3a7fda", func := "canticle/canticlelaw05.ClusterPads", spec := "clusterPads", inPlace := ["internal/abi.NoEscape", "internal/bytealg.MakeNoZero", "internal/bytealg.IndexByteString", "internal/bytealg.IndexString"], unfollowed := true, recurses := true, named := ["internal/bytealg.MaxLen"], apart := false, narrowed := true }
def ClusterPadsUptoSaid : Prop := clusterPadsUptoRow.holds Try.pinned (OpenSpec.upto clusterPadsSpec)

end Rows
end Go.Proofs.Ytpghpbknjdnkkaa
