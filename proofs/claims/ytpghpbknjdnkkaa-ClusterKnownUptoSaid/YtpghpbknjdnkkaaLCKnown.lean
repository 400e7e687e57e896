/-
  The law canticlelaw05.ClusterKnown returns true and leaves its arguments as they were, where what it reads is of bulk at most 1048576. Condition: the bound of bulk, which the given statement bears.
-/
import Derived.Test.YtpghpbknjdnkkaaRows
import Derived.Test.YtpghpbknjdnkkaaP6
namespace Go.Proofs.Ytpghpbknjdnkkaa.clusterKnown
open Go Go.ChangeShapes Go.WideShapes Go.ChangeAt Go.RowKit Go.ChangeMaps Go.Eng
set_option linter.all false
set_option maxRecDepth 100000
set_option maxHeartbeats 4000000
theorem own : ownKnob Try.prog.godebug = none := by kernel_rfl
theorem laid : laidOutB Try.prog = true := by kernel_rfl
theorem all_len {α H : Type} (f : α → Lit) (l : List α) : l.length ≤ Rows.uptoBulkAll (l.map fun x => DataW.lit (H := H) (f x)) := by
  induction l with
  | nil => simp
  | cons x l ih =>
    have h1 : 1 ≤ Rows.uptoBulk (DataW.lit (H := H) (f x)) := by cases f x <;> simp [Rows.uptoBulk]
    simp only [List.map_cons, Rows.uptoBulkAll, List.length_cons]
    omega
theorem texts_len {H : Type} (l : List (List UInt8)) : (l.map List.length).sum + l.length ≤ Rows.uptoBulkAll (l.map fun x => DataW.lit (H := H) (.string x)) := by
  induction l with
  | nil => simp
  | cons x l ih =>
    simp only [List.map_cons, Rows.uptoBulkAll, Rows.uptoBulk, List.length_cons, List.sum_cons]
    omega
theorem contract (H : Type) (enc : TypeId × Value → H) (W : World) (base : Nat) (args : Array Value) (ds gs : List (DataW H)) (before : List MemPlace)
    (hval : ∀ (j : Nat) t v, Try.f8.params[j]? = some t → args[j]? = some v → Value.okWide Try.prog W .any base t v)
    (hW : DataW.Whole enc Try.prog Try.f8.params.toList Rows.clusterKnownSpec.vars false W args.toList ds gs before) (hk : Rows.uptoSmall H (ds ++ gs) = true) :
    Calls Try.prog 8 args W fun e W' => ∃ v, e = .returned v ∧ Rows.clusterKnownSpec.post enc Try.prog Try.f8 false true false false W args v W' := by
  have hW' := hW
  obtain ⟨p, q, hA0, hV, rfl, hfz, hnd⟩ := hW
  have hA : DataW.TrodAll enc Try.prog W 0 (fun _ => true) true Try.f8.params.toList args.toList ds p := hA0
  rw [Try.params8] at hA hval
  obtain ⟨rfl, rfl⟩ := trodVars_none hV
  have hb := of_decide_eq_true hk
  rw [List.append_nil] at hb
  obtain ⟨hargs, rfl, rfl⟩ := trodAll_nil hA
  obtain rfl : args = #[] := by cases args; simp_all
  simp only [Rows.uptoBulkAll] at hb
  clear hA0
  have key : Calls Try.prog 8 #[] W fun e W' => e = .returned (.bool true) ∧ Below W.heap.size W W' := Does.callsW (clusterKnown_any _ _ [])
  refine key.mono fun e W' ⟨he, hg⟩ => ?_
  subst he
  exact ⟨_, rfl, post_true hW' rfl rfl rfl Try.underlying4 laid (by kernel_rfl) hg⟩
set_option maxRecDepth 100000 in
theorem lifted (os : Os) (started : os.Started) (H : Type) (enc : TypeId × Value → H) (F : Stop.Interp) :
    ReturnsInHanded {} Try.checked os 8 .any ((Rows.OpenSpec.upto Rows.clusterKnownSpec).pre6 enc Try.prog Try.f8 Rows.clusterKnownUptoRow.domain false) (((Rows.OpenSpec.upto Rows.clusterKnownSpec).at F).post enc Try.prog Try.f8 false true false false) := by
  refine returnsInHanded_of_cond (C := Try.checked) (s := Rows.OpenSpec.upto Rows.clusterKnownSpec) (k := Rows.uptoSmall) rfl own started (by kernel_rfl) Try.func8
    (OpenSpec.witness (enc := enc) (C := Try.checked) (s := Rows.OpenSpec.upto Rows.clusterKnownSpec) (k := Rows.uptoSmall) rfl false ⟨#[], #[], []⟩ 8 (by kernel_rfl) (by kernel_rfl) (by kernel_rfl)
      (x := ([], [], [])) (by kernel_rfl) rfl (by kernel_rfl)) ?_
  intro W base args ds gs before hval hW _ hk _
  exact contract H enc W base args ds gs before hval hW hk
theorem over : Rows.clusterKnownUptoRow.holds Try.pinned (Rows.OpenSpec.upto Rows.clusterKnownSpec) :=
  OpenClaim.holds_of_cond 8 Try.f8 rfl rfl rfl rfl rfl rfl rfl ⟨rfl, rfl, rfl, rfl, rfl⟩ rfl rfl rfl rfl rfl (by kernel_rfl) Try.func8 (by kernel_rfl)
    (of_decide_eq_true (by kernel_rfl)) (by unfold Func.isWrapper; first | (rw [if_pos (by decide +kernel)]; kernel_rfl) | (rw [if_neg (by decide +kernel)]; exact ⟨rfl, rfl⟩))
    (fun os started H enc _ F => lifted os started H enc F)
theorem proved : Rows.ClusterKnownUptoSaid := over
end Go.Proofs.Ytpghpbknjdnkkaa.clusterKnown
