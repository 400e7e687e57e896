/-
  No cell of these rows narrows 'for every input' (looked for: loops, veiled, ifaces, maps, wideKeys, modest, calm, conditions, laid).
  DERIVED. THE GIVEN ROWS OF THIS SEAT. 4 by the template 'for every input the law returns true; each argument reads behind the call as it read before'; 0 by the template 'total and deterministic' (their statements: YtieangfnjflfmaaTotals.lean).
  GIVEN WITH THE SEED: the statements are not yours to turn. If you find one false, say at which input.
  Laid BY PROGRAM, IN A SANDBOX (cutbox-rows.mjs): the forced cells as the released guide's own fill.sh prints them over the translation 99513a52edd502e4… (all of the seat's roots in one cut). By AI agents, Wed Nov 11 2026. No macro, syntax, notation, axiom, sorry.
-/
import Derived.Test.YtieangfnjflfmaaChecked
import GoSem.Claim
import GoSem.ClaimJoined
import GoSem.ClaimMapViews
import Derived.JoinedTies
import Derived.KernelRfl
namespace Go.Proofs.Ytieangfnjflfmaa
/- THE CELL 'sum', in the pinned program and in every row, IS THE sha256 OF THE DUMP (.gsa) THAT YtieangfnjflfmaaProg.lean LOADS. Nothing in Lean hashes anything: it is a label: what it is worth is what the hold of that sum in a sandbox is worth. -/
noncomputable def Try.pinned : Pinned := { name := "ytieangfnjflfmaa", sum := "99513a52edd502e44a96af78db99525a57c6304f3a6e49e661e0034ed7620a8c", checked := Try.checked }
namespace Rows
def none {H : Type} : Left H := { results := [], args := [] }

/-- 'canticlelaw28.DraftWeaves': WHATEVER THE INPUT: true; the input reads as it did. -/
def draftWeavesSpec : ChangeSpec := { name := "draftWeaves", fn := fun _ => fun
  | [d1, d2, d3] => { results := [.lit (.bool true)], args := [d1, d2, d3] }
  | _ => none }
def draftWeavesRow : OpenClaim := { program := "ytieangfnjflfmaa", sum := "99513a52edd502e44a96af78db99525a57c6304f3a6e49e661e0034ed7620a8c", func := "canticle/canticlelaw28.DraftWeaves", spec := "draftWeaves", inPlace := ["internal/abi.NoEscape", "internal/bytealg.MakeNoZero"], unfollowed := true, recurses := true, apart := false }
def DraftWeavesSaid : Prop := draftWeavesRow.holds Try.pinned (OpenSpec.ofChange draftWeavesSpec)

/-- ITS FALSE NEIGHBOUR: 'it returns false'. Refute it at one input. -/
def draftWeavesWrong : ChangeSpec := { name := "draftWeaves", fn := fun _ => fun
  | [d1, d2, d3] => { results := [.lit (.bool false)], args := [d1, d2, d3] }
  | _ => none }
def DraftWeavesWrongFalsely : Prop := draftWeavesRow.holds Try.pinned (OpenSpec.ofChange draftWeavesWrong)

/-- 'canticlelaw28.DraftWoven': WHATEVER THE INPUT: true; the input reads as it did. -/
def draftWovenSpec : ChangeSpec := { name := "draftWoven", fn := fun _ => fun
  | [d1, d2, d3] => { results := [.lit (.bool true)], args := [d1, d2, d3] }
  | _ => none }
def draftWovenRow : OpenClaim := { program := "ytieangfnjflfmaa", sum := "99513a52edd502e44a96af78db99525a57c6304f3a6e49e661e0034ed7620a8c", func := "canticle/canticlelaw28.DraftWoven", spec := "draftWoven", inPlace := ["internal/abi.NoEscape", "internal/bytealg.MakeNoZero"], unfollowed := true, recurses := true, apart := false }
def DraftWovenSaid : Prop := draftWovenRow.holds Try.pinned (OpenSpec.ofChange draftWovenSpec)

/-- ITS FALSE NEIGHBOUR: 'it returns false'. Refute it at one input. -/
def draftWovenWrong : ChangeSpec := { name := "draftWoven", fn := fun _ => fun
  | [d1, d2, d3] => { results := [.lit (.bool false)], args := [d1, d2, d3] }
  | _ => none }
def DraftWovenWrongFalsely : Prop := draftWovenRow.holds Try.pinned (OpenSpec.ofChange draftWovenWrong)

/-- 'canticlelaw28.DraftMatches': WHATEVER THE INPUT: true; the input reads as it did. -/
def draftMatchesSpec : ChangeSpec := { name := "draftMatches", fn := fun _ => fun
  | [d1, d2] => { results := [.lit (.bool true)], args := [d1, d2] }
  | _ => none }
def draftMatchesRow : OpenClaim := { program := "ytieangfnjflfmaa", sum := "99513a52edd502e44a96af78db99525a57c6304f3a6e49e661e0034ed7620a8c", func := "canticle/canticlelaw28.DraftMatches", spec := "draftMatches", inPlace := ["internal/abi.NoEscape", "internal/bytealg.MakeNoZero"], unfollowed := true, recurses := true, apart := false }
def DraftMatchesSaid : Prop := draftMatchesRow.holds Try.pinned (OpenSpec.ofChange draftMatchesSpec)

/-- ITS FALSE NEIGHBOUR: 'it returns false'. Refute it at one input. -/
def draftMatchesWrong : ChangeSpec := { name := "draftMatches", fn := fun _ => fun
  | [d1, d2] => { results := [.lit (.bool false)], args := [d1, d2] }
  | _ => none }
def DraftMatchesWrongFalsely : Prop := draftMatchesRow.holds Try.pinned (OpenSpec.ofChange draftMatchesWrong)

/-- 'canticlelaw28.DraftChanges': WHATEVER THE INPUT: true; the input reads as it did. -/
def draftChangesSpec : ChangeSpec := { name := "draftChanges", fn := fun _ => fun
  | [d1, d2] => { results := [.lit (.bool true)], args := [d1, d2] }
  | _ => none }
def draftChangesRow : OpenClaim := { program := "ytieangfnjflfmaa", sum := "99513a52edd502e44a96af78db99525a57c6304f3a6e49e661e0034ed7620a8c", func := "canticle/canticlelaw28.DraftChanges", spec := "draftChanges", inPlace := ["internal/abi.NoEscape", "internal/bytealg.MakeNoZero"], unfollowed := true, recurses := true, apart := false }
def DraftChangesSaid : Prop := draftChangesRow.holds Try.pinned (OpenSpec.ofChange draftChangesSpec)

/-- ITS FALSE NEIGHBOUR: 'it returns false'. Refute it at one input. -/
def draftChangesWrong : ChangeSpec := { name := "draftChanges", fn := fun _ => fun
  | [d1, d2] => { results := [.lit (.bool false)], args := [d1, d2] }
  | _ => none }
def DraftChangesWrongFalsely : Prop := draftChangesRow.holds Try.pinned (OpenSpec.ofChange draftChangesWrong)

/- THE SECOND FORM. 'bulk': how many values and letters a reading holds, each counted each time it is reached (what is shared counts as often as it is met; a slice's spare places count too). A statement '..UptoSaid' is the law's where the arguments, and the package variables that the reading takes, are together of bulk at most 1048576: NARROWER than '..Said'. Prove '..Said' where nothing that the law and all that it calls make is longer than what came in: it says more and counts as full. Else prove '..UptoSaid'. A law counts once. -/
mutual
def uptoBulk {H : Type} : DataW H → Nat
  | .lit (.string bytes) => bytes.length + 1
  | .lit _ => 1
  | .nil => 1
  | .ptr d => uptoBulk d + 1
  | .slice elems spare => uptoBulkAll elems + uptoBulkAll spare + 1
  | .agg parts => uptoBulkAll parts + 1
  | .iface _ d => uptoBulk d + 1
  | .map entries => uptoBulkEntries entries + 1
  | .held _ => 1
def uptoBulkAll {H : Type} : List (DataW H) → Nat
  | [] => 0
  | d :: r => uptoBulk d + uptoBulkAll r
def uptoBulkEntries {H : Type} : List (Lit × DataW H) → Nat
  | [] => 0
  | x :: r => uptoBulkEntry x + uptoBulkEntries r
def uptoBulkEntry {H : Type} : Lit × DataW H → Nat
  | (.string bytes, d) => bytes.length + uptoBulk d + 1
  | (_, d) => uptoBulk d + 1
 end
def uptoSmall : (H : Type) → List (DataW H) → Bool := fun _ ds => decide (uptoBulkAll ds ≤ 1048576)
def OpenSpec.upto (s : _root_.Go.ChangeSpec) : _root_.Go.OpenSpec := { _root_.Go.OpenSpec.ofChange s with cond := some uptoSmall }

/-- 'canticlelaw28.DraftWeaves', WHERE WHAT IT READS IS OF BULK AT MOST 1048576: true; the input reads as it did. -/
def draftWeavesUptoRow : OpenClaim := { program := "ytieangfnjflfmaa", sum := "99513a52edd502e44a96af78db99525a57c6304f3a6e49e661e0034ed7620a8c", func := "canticle/canticlelaw28.DraftWeaves", spec := "draftWeaves", inPlace := ["internal/abi.NoEscape", "internal/bytealg.MakeNoZero"], unfollowed := true, recurses := true, apart := false, narrowed := true }
def DraftWeavesUptoSaid : Prop := draftWeavesUptoRow.holds Try.pinned (OpenSpec.upto draftWeavesSpec)

/-- 'canticlelaw28.DraftWoven', WHERE WHAT IT READS IS OF BULK AT MOST 1048576: true; the input reads as it did. -/
def draftWovenUptoRow : OpenClaim := { program := "ytieangfnjflfmaa", sum := "99513a52edd502e44a96af78db99525a57c6304f3a6e49e661e0034ed7620a8c", func := "canticle/canticlelaw28.DraftWoven", spec := "draftWoven", inPlace := ["internal/abi.NoEscape", "internal/bytealg.MakeNoZero"], unfollowed := true, recurses := true, apart := false, narrowed := true }
def DraftWovenUptoSaid : Prop := draftWovenUptoRow.holds Try.pinned (OpenSpec.upto draftWovenSpec)

/-- 'canticlelaw28.DraftMatches', WHERE WHAT IT READS IS OF BULK AT MOST 1048576: true; the input reads as it did. -/
def draftMatchesUptoRow : OpenClaim := { program := "ytieangfnjflfmaa", sum := "99513a52edd502e44a96af78db99525a57c6304f3a6e49e661e0034ed7620a8c", func := "canticle/canticlelaw28.DraftMatches", spec := "draftMatches", inPlace := ["internal/abi.NoEscape", "internal/bytealg.MakeNoZero"], unfollowed := true, recurses := true, apart := false, narrowed := true }
def DraftMatchesUptoSaid : Prop := draftMatchesUptoRow.holds Try.pinned (OpenSpec.upto draftMatchesSpec)

/-- 'canticlelaw28.DraftChanges', WHERE WHAT IT READS IS OF BULK AT MOST 1048576: true; the input reads as it did. -/
def draftChangesUptoRow : OpenClaim := { program := "ytieangfnjflfmaa", sum := "99513a52edd502e44a96af78db99525a57c6304f3a6e49e661e0034ed7620a8c", func := "canticle/canticlelaw28.DraftChanges", spec := "draftChanges", inPlace := ["internal/abi.NoEscape", "internal/bytealg.MakeNoZero"], unfollowed := true, recurses := true, apart := false, narrowed := true }
def DraftChangesUptoSaid : Prop := draftChangesUptoRow.holds Try.pinned (OpenSpec.upto draftChangesSpec)

end Rows
end Go.Proofs.Ytieangfnjflfmaa
