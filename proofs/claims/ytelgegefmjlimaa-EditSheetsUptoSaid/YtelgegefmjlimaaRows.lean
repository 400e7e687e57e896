/-
  No cell of these rows narrows 'for every input' (looked for: loops, veiled, ifaces, maps, wideKeys, modest, calm, conditions, laid).
  DERIVED. THE GIVEN ROWS OF THIS SEAT. 9 by the template 'for every input the law returns true; each argument reads behind the call as it read before'; 0 by the template 'total and deterministic' (their statements: YtelgegefmjlimaaTotals.lean).
  GIVEN WITH THE SEED: the statements are not yours to turn. If you find one false, say at which input.
  Laid BY PROGRAM, IN A SANDBOX (cutbox-rows.mjs): the forced cells as the released guide's own fill.sh prints them over the translation a16ec0e1a2021cf4… (all of the seat's roots in one cut). By AI agents, Wed Nov 11 2026. No macro, syntax, notation, axiom, sorry.
-/
import Derived.Test.YtelgegefmjlimaaChecked
import GoSem.Claim
import GoSem.ClaimJoined
import GoSem.ClaimMapViews
import Derived.JoinedTies
import Derived.KernelRfl
namespace Go.Proofs.Ytelgegefmjlimaa
/- THE CELL 'sum', in the pinned program and in every row, IS THE sha256 OF THE DUMP (.gsa) THAT YtelgegefmjlimaaProg.lean LOADS. Nothing in Lean hashes anything: it is a label: what it is worth is what the hold of that sum in a sandbox is worth. -/
noncomputable def Try.pinned : Pinned := { name := "ytelgegefmjlimaa", sum := "a16ec0e1a2021cf4f7ed62943b8700f7a3b1965f8ccffe4f57ea0b57527302f3", checked := Try.checked }
namespace Rows
def none {H : Type} : Left H := { results := [], args := [] }

/-- 'canticlelaw27.EditMoves': WHATEVER THE INPUT: true; the input reads as it did. -/
def editMovesSpec : ChangeSpec := { name := "editMoves", fn := fun _ => fun
  | [d1, d2, d3] => { results := [.lit (.bool true)], args := [d1, d2, d3] }
  | _ => none }
def editMovesRow : OpenClaim := { program := "ytelgegefmjlimaa", sum := "a16ec0e1a2021cf4f7ed62943b8700f7a3b1965f8ccffe4f57ea0b57527302f3", func := "canticle/canticlelaw27.EditMoves", spec := "editMoves", apart := false }
def EditMovesSaid : Prop := editMovesRow.holds Try.pinned (OpenSpec.ofChange editMovesSpec)

/-- ITS FALSE NEIGHBOUR: 'it returns false'. Refute it at one input. -/
def editMovesWrong : ChangeSpec := { name := "editMoves", fn := fun _ => fun
  | [d1, d2, d3] => { results := [.lit (.bool false)], args := [d1, d2, d3] }
  | _ => none }
def EditMovesWrongFalsely : Prop := editMovesRow.holds Try.pinned (OpenSpec.ofChange editMovesWrong)

/-- 'canticlelaw27.EditComposes': WHATEVER THE INPUT: true; the input reads as it did. -/
def editComposesSpec : ChangeSpec := { name := "editComposes", fn := fun _ => fun
  | [d1, d2] => { results := [.lit (.bool true)], args := [d1, d2] }
  | _ => none }
def editComposesRow : OpenClaim := { program := "ytelgegefmjlimaa", sum := "a16ec0e1a2021cf4f7ed62943b8700f7a3b1965f8ccffe4f57ea0b57527302f3", func := "canticle/canticlelaw27.EditComposes", spec := "editComposes", apart := false }
def EditComposesSaid : Prop := editComposesRow.holds Try.pinned (OpenSpec.ofChange editComposesSpec)

/-- ITS FALSE NEIGHBOUR: 'it returns false'. Refute it at one input. -/
def editComposesWrong : ChangeSpec := { name := "editComposes", fn := fun _ => fun
  | [d1, d2] => { results := [.lit (.bool false)], args := [d1, d2] }
  | _ => none }
def EditComposesWrongFalsely : Prop := editComposesRow.holds Try.pinned (OpenSpec.ofChange editComposesWrong)

/-- 'canticlelaw27.EditBetween': WHATEVER THE INPUT: true; the input reads as it did. -/
def editBetweenSpec : ChangeSpec := { name := "editBetween", fn := fun _ => fun
  | [d1, d2] => { results := [.lit (.bool true)], args := [d1, d2] }
  | _ => none }
def editBetweenRow : OpenClaim := { program := "ytelgegefmjlimaa", sum := "a16ec0e1a2021cf4f7ed62943b8700f7a3b1965f8ccffe4f57ea0b57527302f3", func := "canticle/canticlelaw27.EditBetween", spec := "editBetween", apart := false }
def EditBetweenSaid : Prop := editBetweenRow.holds Try.pinned (OpenSpec.ofChange editBetweenSpec)

/-- ITS FALSE NEIGHBOUR: 'it returns false'. Refute it at one input. -/
def editBetweenWrong : ChangeSpec := { name := "editBetween", fn := fun _ => fun
  | [d1, d2] => { results := [.lit (.bool false)], args := [d1, d2] }
  | _ => none }
def EditBetweenWrongFalsely : Prop := editBetweenRow.holds Try.pinned (OpenSpec.ofChange editBetweenWrong)

/-- 'canticlelaw27.EditApplies': WHATEVER THE INPUT: true; the input reads as it did. -/
def editAppliesSpec : ChangeSpec := { name := "editApplies", fn := fun _ => fun
  | [d1, d2] => { results := [.lit (.bool true)], args := [d1, d2] }
  | _ => none }
def editAppliesRow : OpenClaim := { program := "ytelgegefmjlimaa", sum := "a16ec0e1a2021cf4f7ed62943b8700f7a3b1965f8ccffe4f57ea0b57527302f3", func := "canticle/canticlelaw27.EditApplies", spec := "editApplies", apart := false }
def EditAppliesSaid : Prop := editAppliesRow.holds Try.pinned (OpenSpec.ofChange editAppliesSpec)

/-- ITS FALSE NEIGHBOUR: 'it returns false'. Refute it at one input. -/
def editAppliesWrong : ChangeSpec := { name := "editApplies", fn := fun _ => fun
  | [d1, d2] => { results := [.lit (.bool false)], args := [d1, d2] }
  | _ => none }
def EditAppliesWrongFalsely : Prop := editAppliesRow.holds Try.pinned (OpenSpec.ofChange editAppliesWrong)

/-- 'canticlelaw27.EditCarries': WHATEVER THE INPUT: true; the input reads as it did. -/
def editCarriesSpec : ChangeSpec := { name := "editCarries", fn := fun _ => fun
  | [d1, d2] => { results := [.lit (.bool true)], args := [d1, d2] }
  | _ => none }
def editCarriesRow : OpenClaim := { program := "ytelgegefmjlimaa", sum := "a16ec0e1a2021cf4f7ed62943b8700f7a3b1965f8ccffe4f57ea0b57527302f3", func := "canticle/canticlelaw27.EditCarries", spec := "editCarries", apart := false }
def EditCarriesSaid : Prop := editCarriesRow.holds Try.pinned (OpenSpec.ofChange editCarriesSpec)

/-- ITS FALSE NEIGHBOUR: 'it returns false'. Refute it at one input. -/
def editCarriesWrong : ChangeSpec := { name := "editCarries", fn := fun _ => fun
  | [d1, d2] => { results := [.lit (.bool false)], args := [d1, d2] }
  | _ => none }
def EditCarriesWrongFalsely : Prop := editCarriesRow.holds Try.pinned (OpenSpec.ofChange editCarriesWrong)

/-- 'canticlelaw27.EditConverges': WHATEVER THE INPUT: true; the input reads as it did. -/
def editConvergesSpec : ChangeSpec := { name := "editConverges", fn := fun _ => fun
  | [d1, d2, d3] => { results := [.lit (.bool true)], args := [d1, d2, d3] }
  | _ => none }
def editConvergesRow : OpenClaim := { program := "ytelgegefmjlimaa", sum := "a16ec0e1a2021cf4f7ed62943b8700f7a3b1965f8ccffe4f57ea0b57527302f3", func := "canticle/canticlelaw27.EditConverges", spec := "editConverges", apart := false }
def EditConvergesSaid : Prop := editConvergesRow.holds Try.pinned (OpenSpec.ofChange editConvergesSpec)

/-- ITS FALSE NEIGHBOUR: 'it returns false'. Refute it at one input. -/
def editConvergesWrong : ChangeSpec := { name := "editConverges", fn := fun _ => fun
  | [d1, d2, d3] => { results := [.lit (.bool false)], args := [d1, d2, d3] }
  | _ => none }
def EditConvergesWrongFalsely : Prop := editConvergesRow.holds Try.pinned (OpenSpec.ofChange editConvergesWrong)

/-- 'canticlelaw27.EditHands': WHATEVER THE INPUT: true; the input reads as it did. -/
def editHandsSpec : ChangeSpec := { name := "editHands", fn := fun _ => fun
  | [d] => { results := [.lit (.bool true)], args := [d] }
  | _ => none }
def editHandsRow : OpenClaim := { program := "ytelgegefmjlimaa", sum := "a16ec0e1a2021cf4f7ed62943b8700f7a3b1965f8ccffe4f57ea0b57527302f3", func := "canticle/canticlelaw27.EditHands", spec := "editHands", unfollowed := true, recurses := true, apart := false }
def EditHandsSaid : Prop := editHandsRow.holds Try.pinned (OpenSpec.ofChange editHandsSpec)

/-- ITS FALSE NEIGHBOUR: 'it returns false'. Refute it at one input. -/
def editHandsWrong : ChangeSpec := { name := "editHands", fn := fun _ => fun
  | [d] => { results := [.lit (.bool false)], args := [d] }
  | _ => none }
def EditHandsWrongFalsely : Prop := editHandsRow.holds Try.pinned (OpenSpec.ofChange editHandsWrong)

/-- 'canticlelaw27.EditUndone': WHATEVER THE INPUT: true; the input reads as it did. -/
def editUndoneSpec : ChangeSpec := { name := "editUndone", fn := fun _ => fun
  | [d1, d2, d3] => { results := [.lit (.bool true)], args := [d1, d2, d3] }
  | _ => none }
def editUndoneRow : OpenClaim := { program := "ytelgegefmjlimaa", sum := "a16ec0e1a2021cf4f7ed62943b8700f7a3b1965f8ccffe4f57ea0b57527302f3", func := "canticle/canticlelaw27.EditUndone", spec := "editUndone", unfollowed := true, recurses := true, apart := false }
def EditUndoneSaid : Prop := editUndoneRow.holds Try.pinned (OpenSpec.ofChange editUndoneSpec)

/-- ITS FALSE NEIGHBOUR: 'it returns false'. Refute it at one input. -/
def editUndoneWrong : ChangeSpec := { name := "editUndone", fn := fun _ => fun
  | [d1, d2, d3] => { results := [.lit (.bool false)], args := [d1, d2, d3] }
  | _ => none }
def EditUndoneWrongFalsely : Prop := editUndoneRow.holds Try.pinned (OpenSpec.ofChange editUndoneWrong)

/-- 'canticlelaw27.EditSheets': WHATEVER THE INPUT: true; the input reads as it did. -/
def editSheetsSpec : ChangeSpec := { name := "editSheets", fn := fun _ => fun
  | [d1, d2] => { results := [.lit (.bool true)], args := [d1, d2] }
  | _ => none }
def editSheetsRow : OpenClaim := { program := "ytelgegefmjlimaa", sum := "a16ec0e1a2021cf4f7ed62943b8700f7a3b1965f8ccffe4f57ea0b57527302f3", func := "canticle/canticlelaw27.EditSheets", spec := "editSheets", unfollowed := true, recurses := true, apart := false }
def EditSheetsSaid : Prop := editSheetsRow.holds Try.pinned (OpenSpec.ofChange editSheetsSpec)

/-- ITS FALSE NEIGHBOUR: 'it returns false'. Refute it at one input. -/
def editSheetsWrong : ChangeSpec := { name := "editSheets", fn := fun _ => fun
  | [d1, d2] => { results := [.lit (.bool false)], args := [d1, d2] }
  | _ => none }
def EditSheetsWrongFalsely : Prop := editSheetsRow.holds Try.pinned (OpenSpec.ofChange editSheetsWrong)

/- THE SECOND FORM. 'bulk': how many values and letters a reading holds, each counted each time it is reached (what is shared counts as often as it is met; a slice's spare places count too). A statement '..UptoSaid' is the law's where the arguments, and the package variables that the reading takes, are together of bulk at most 1048576: NARROWER than '..Said'. Prove '..Said' where nothing that the law and all that it calls make is longer than what came in: it says more and counts as full. Else prove '..UptoSaid'. A law counts once. -/
mutual
def uptoBulk {H : Type} : DataW H → Nat
  | .lit (.string bytes) => bytes.length + 1
  | .lit _ => 1
  | .nil => 1
  | .ptr d => uptoBulk d + 1
  | .slice elems spare => uptoBulkAll elems + uptoBulkAll spare + 1
  | .agg parts => uptoBulkAll parts + 1
  | .iface _ d => uptoBulk d + 1
  | .map entries => uptoBulkEntries entries + 1
  | .held _ => 1
def uptoBulkAll {H : Type} : List (DataW H) → Nat
  | [] => 0
  | d :: r => uptoBulk d + uptoBulkAll r
def uptoBulkEntries {H : Type} : List (Lit × DataW H) → Nat
  | [] => 0
  | x :: r => uptoBulkEntry x + uptoBulkEntries r
def uptoBulkEntry {H : Type} : Lit × DataW H → Nat
  | (.string bytes, d) => bytes.length + uptoBulk d + 1
  | (_, d) => uptoBulk d + 1
 end
def uptoSmall : (H : Type) → List (DataW H) → Bool := fun _ ds => decide (uptoBulkAll ds ≤ 1048576)
def OpenSpec.upto (s : _root_.Go.ChangeSpec) : _root_.Go.OpenSpec := { _root_.Go.OpenSpec.ofChange s with cond := some uptoSmall }

/-- 'canticlelaw27.EditMoves', WHERE WHAT IT READS IS OF BULK AT MOST 1048576: true; the input reads as it did. -/
def editMovesUptoRow : OpenClaim := { program := "ytelgegefmjlimaa", sum := "a16ec0e1a2021cf4f7ed62943b8700f7a3b1965f8ccffe4f57ea0b57527302f3", func := "canticle/canticlelaw27.EditMoves", spec := "editMoves", apart := false, narrowed := true }
def EditMovesUptoSaid : Prop := editMovesUptoRow.holds Try.pinned (OpenSpec.upto editMovesSpec)

/-- 'canticlelaw27.EditComposes', WHERE WHAT IT READS IS OF BULK AT MOST 1048576: true; the input reads as it did. -/
def editComposesUptoRow : OpenClaim := { program := "ytelgegefmjlimaa", sum := "a16ec0e1a2021cf4f7ed62943b8700f7a3b1965f8ccffe4f57ea0b57527302f3", func := "canticle/canticlelaw27.EditComposes", spec := "editComposes", apart := false, narrowed := true }
def EditComposesUptoSaid : Prop := editComposesUptoRow.holds Try.pinned (OpenSpec.upto editComposesSpec)

/-- 'canticlelaw27.EditBetween', WHERE WHAT IT READS IS OF BULK AT MOST 1048576: true; the input reads as it did. -/
def editBetweenUptoRow : OpenClaim := { program := "ytelgegefmjlimaa", sum := "a16ec0e1a2021cf4f7ed62943b8700f7a3b1965f8ccffe4f57ea0b57527302f3", func := "canticle/canticlelaw27.EditBetween", spec := "editBetween", apart := false, narrowed := true }
def EditBetweenUptoSaid : Prop := editBetweenUptoRow.holds Try.pinned (OpenSpec.upto editBetweenSpec)

/-- 'canticlelaw27.EditApplies', WHERE WHAT IT READS IS OF BULK AT MOST 1048576: true; the input reads as it did. -/
def editAppliesUptoRow : OpenClaim := { program := "ytelgegefmjlimaa", sum := "a16ec0e1a2021cf4f7ed62943b8700f7a3b1965f8ccffe4f57ea0b57527302f3", func := "canticle/canticlelaw27.EditApplies", spec := "editApplies", apart := false, narrowed := true }
def EditAppliesUptoSaid : Prop := editAppliesUptoRow.holds Try.pinned (OpenSpec.upto editAppliesSpec)

/-- 'canticlelaw27.EditCarries', WHERE WHAT IT READS IS OF BULK AT MOST 1048576: true; the input reads as it did. -/
def editCarriesUptoRow : OpenClaim := { program := "ytelgegefmjlimaa", sum := "a16ec0e1a2021cf4f7ed62943b8700f7a3b1965f8ccffe4f57ea0b57527302f3", func := "canticle/canticlelaw27.EditCarries", spec := "editCarries", apart := false, narrowed := true }
def EditCarriesUptoSaid : Prop := editCarriesUptoRow.holds Try.pinned (OpenSpec.upto editCarriesSpec)

/-- 'canticlelaw27.EditConverges', WHERE WHAT IT READS IS OF BULK AT MOST 1048576: true; the input reads as it did. -/
def editConvergesUptoRow : OpenClaim := { program := "ytelgegefmjlimaa", sum := "a16ec0e1a2021cf4f7ed62943b8700f7a3b1965f8ccffe4f57ea0b57527302f3", func := "canticle/canticlelaw27.EditConverges", spec := "editConverges", apart := false, narrowed := true }
def EditConvergesUptoSaid : Prop := editConvergesUptoRow.holds Try.pinned (OpenSpec.upto editConvergesSpec)

/-- 'canticlelaw27.EditHands', WHERE WHAT IT READS IS OF BULK AT MOST 1048576: true; the input reads as it did. -/
def editHandsUptoRow : OpenClaim := { program := "ytelgegefmjlimaa", sum := "a16ec0e1a2021cf4f7ed62943b8700f7a3b1965f8ccffe4f57ea0b57527302f3", func := "canticle/canticlelaw27.EditHands", spec := "editHands", unfollowed := true, recurses := true, apart := false, narrowed := true }
def EditHandsUptoSaid : Prop := editHandsUptoRow.holds Try.pinned (OpenSpec.upto editHandsSpec)

/-- 'canticlelaw27.EditUndone', WHERE WHAT IT READS IS OF BULK AT MOST 1048576: true; the input reads as it did. -/
def editUndoneUptoRow : OpenClaim := { program := "ytelgegefmjlimaa", sum := "a16ec0e1a2021cf4f7ed62943b8700f7a3b1965f8ccffe4f57ea0b57527302f3", func := "canticle/canticlelaw27.EditUndone", spec := "editUndone", unfollowed := true, recurses := true, apart := false, narrowed := true }
def EditUndoneUptoSaid : Prop := editUndoneUptoRow.holds Try.pinned (OpenSpec.upto editUndoneSpec)

/-- 'canticlelaw27.EditSheets', WHERE WHAT IT READS IS OF BULK AT MOST 1048576: true; the input reads as it did. -/
def editSheetsUptoRow : OpenClaim := { program := "ytelgegefmjlimaa", sum := "a16ec0e1a2021cf4f7ed62943b8700f7a3b1965f8ccffe4f57ea0b57527302f3", func := "canticle/canticlelaw27.EditSheets", spec := "editSheets", unfollowed := true, recurses := true, apart := false, narrowed := true }
def EditSheetsUptoSaid : Prop := editSheetsUptoRow.holds Try.pinned (OpenSpec.upto editSheetsSpec)

end Rows
end Go.Proofs.Ytelgegefmjlimaa
