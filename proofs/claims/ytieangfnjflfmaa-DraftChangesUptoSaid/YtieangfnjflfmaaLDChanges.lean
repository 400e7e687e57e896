/-
  The law canticlelaw28.DraftChanges returns true and leaves its arguments as they were, where what it reads is of bulk at most 1048576. Condition: the bound of bulk, which the given statement bears.
-/
import Derived.Test.YtieangfnjflfmaaRows
import Derived.Test.YtieangfnjflfmaaP9
import Derived.Test.YtieangfnjflfmaaP7
namespace Go.Proofs.Ytieangfnjflfmaa.draftChanges
open Go Go.ChangeShapes Go.WideShapes Go.ChangeAt Go.RowKit Go.ChangeMaps Go.Eng
set_option linter.all false
set_option maxRecDepth 100000
set_option maxHeartbeats 4000000
theorem own : ownKnob Try.prog.godebug = none := by kernel_rfl
theorem laid : laidOutB Try.prog = true := by kernel_rfl
theorem all_len {α H : Type} (f : α → Lit) (l : List α) : l.length ≤ Rows.uptoBulkAll (l.map fun x => DataW.lit (H := H) (f x)) := by
  induction l with
  | nil => simp
  | cons x l ih =>
    have h1 : 1 ≤ Rows.uptoBulk (DataW.lit (H := H) (f x)) := by cases f x <;> simp [Rows.uptoBulk]
    simp only [List.map_cons, Rows.uptoBulkAll, List.length_cons]
    omega
theorem texts_len {H : Type} (l : List (List UInt8)) : (l.map List.length).sum + l.length ≤ Rows.uptoBulkAll (l.map fun x => DataW.lit (H := H) (.string x)) := by
  induction l with
  | nil => simp
  | cons x l ih =>
    simp only [List.map_cons, Rows.uptoBulkAll, Rows.uptoBulk, List.length_cons, List.sum_cons]
    omega
theorem contract (H : Type) (enc : TypeId × Value → H) (W : World) (base : Nat) (args : Array Value) (ds gs : List (DataW H)) (before : List MemPlace)
    (hval : ∀ (j : Nat) t v, Try.f6.params[j]? = some t → args[j]? = some v → Value.okWide Try.prog W .any base t v)
    (hW : DataW.Whole enc Try.prog Try.f6.params.toList Rows.draftChangesSpec.vars false W args.toList ds gs before) (hk : Rows.uptoSmall H (ds ++ gs) = true) :
    Calls Try.prog 6 args W fun e W' => ∃ v, e = .returned v ∧ Rows.draftChangesSpec.post enc Try.prog Try.f6 false true false false W args v W' := by
  have hW' := hW
  obtain ⟨p, q, hA0, hV, rfl, hfz, hnd⟩ := hW
  have hA : DataW.TrodAll enc Try.prog W 0 (fun _ => true) true Try.f6.params.toList args.toList ds p := hA0
  rw [Try.params6] at hA hval
  obtain ⟨rfl, rfl⟩ := trodVars_none hV
  have hb := of_decide_eq_true hk
  rw [List.append_nil] at hb
  obtain ⟨v0, vs0, d0, ds0, p0, q0, hargs, rfl, rfl, h0, r0⟩ := trodAll_cons hA
  obtain ⟨v1, vs1, d1, ds1, p1, q1, rfl, rfl, rfl, h1, r1⟩ := trodAll_cons r0
  obtain ⟨rfl, rfl, rfl⟩ := trodAll_nil r1
  obtain rfl : args = #[v0, v1] := by cases args; simp_all
  obtain ⟨s0, rfl, rfl, rfl, hs0⟩ := open_string Try.underlying9 (hval 0 9 v0 rfl rfl) h0
  obtain ⟨s1, rfl, rfl, rfl, hs1⟩ := open_string Try.underlying9 (hval 1 9 v1 rfl rfl) h1
  simp only [Rows.uptoBulkAll] at hb
  simp only [Rows.uptoBulk] at hb
  have hs0' : s0.data.toList.length = s0.size := Array.length_toList
  have hs1' : s1.data.toList.length = s1.size := Array.length_toList
  clear hA0
  have key : Calls Try.prog 6 #[.string s0, .string s1] W fun e W' => e = .returned (.bool true) ∧ Below W.heap.size W W' := Does.callsW (draftChanges_any s0.data.toList s1.data.toList (by omega) (by omega) W _ [])
  refine key.mono fun e W' ⟨he, hg⟩ => ?_
  subst he
  exact ⟨_, rfl, post_true hW' rfl rfl rfl Try.underlying4 laid (by kernel_rfl) hg⟩
set_option maxRecDepth 100000 in
theorem lifted (os : Os) (started : os.Started) (H : Type) (enc : TypeId × Value → H) (F : Stop.Interp) :
    ReturnsInHanded {} Try.checked os 6 .any ((Rows.OpenSpec.upto Rows.draftChangesSpec).pre6 enc Try.prog Try.f6 Rows.draftChangesUptoRow.domain false) (((Rows.OpenSpec.upto Rows.draftChangesSpec).at F).post enc Try.prog Try.f6 false true false false) := by
  refine returnsInHanded_of_cond (C := Try.checked) (s := Rows.OpenSpec.upto Rows.draftChangesSpec) (k := Rows.uptoSmall) rfl own started (by kernel_rfl) Try.func6
    (OpenSpec.witness (enc := enc) (C := Try.checked) (s := Rows.OpenSpec.upto Rows.draftChangesSpec) (k := Rows.uptoSmall) rfl false ⟨#[], #[.string ⟨#[]⟩, .string ⟨#[]⟩], []⟩ 8 (by kernel_rfl) (by kernel_rfl) (by kernel_rfl)
      (x := ([.lit (.string []), .lit (.string [])], [], [])) (by kernel_rfl) rfl (by kernel_rfl)) ?_
  intro W base args ds gs before hval hW _ hk _
  exact contract H enc W base args ds gs before hval hW hk
theorem over : Rows.draftChangesUptoRow.holds Try.pinned (Rows.OpenSpec.upto Rows.draftChangesSpec) :=
  OpenClaim.holds_of_cond 6 Try.f6 rfl rfl rfl rfl rfl rfl rfl ⟨rfl, rfl, rfl, rfl, rfl⟩ rfl rfl rfl rfl rfl (by kernel_rfl) Try.func6 (by kernel_rfl)
    (of_decide_eq_true (by kernel_rfl)) (by unfold Func.isWrapper; first | (rw [if_pos (by decide +kernel)]; kernel_rfl) | (rw [if_neg (by decide +kernel)]; exact ⟨rfl, rfl⟩))
    (fun os started H enc _ F => lifted os started H enc F)
theorem proved : Rows.DraftChangesUptoSaid := over
end Go.Proofs.Ytieangfnjflfmaa.draftChanges
