/-
  The law canticlelaw05.ClusterGo returns true and leaves its arguments as they were, where what it reads is of bulk at most 1048576. Condition: the bound of bulk, which the given statement bears.
-/
import Derived.Test.YtpghpbknjdnkkaaRows
import Derived.Test.YtpghpbknjdnkkaaP6
namespace Go.Proofs.Ytpghpbknjdnkkaa.clusterGo
open Go Go.ChangeShapes Go.WideShapes Go.ChangeAt Go.RowKit Go.ChangeMaps Go.Eng
set_option linter.all false
set_option maxRecDepth 100000
set_option maxHeartbeats 4000000
theorem own : ownKnob Try.prog.godebug = none := by kernel_rfl
theorem laid : laidOutB Try.prog = true := by kernel_rfl
theorem all_len {α H : Type} (f : α → Lit) (l : List α) : l.length ≤ Rows.uptoBulkAll (l.map fun x => DataW.lit (H := H) (f x)) := by
  induction l with
  | nil => simp
  | cons x l ih =>
    have h1 : 1 ≤ Rows.uptoBulk (DataW.lit (H := H) (f x)) := by cases f x <;> simp [Rows.uptoBulk]
    simp only [List.map_cons, Rows.uptoBulkAll, List.length_cons]
    omega
theorem texts_len {H : Type} (l : List (List UInt8)) : (l.map List.length).sum + l.length ≤ Rows.uptoBulkAll (l.map fun x => DataW.lit (H := H) (.string x)) := by
  induction l with
  | nil => simp
  | cons x l ih =>
    simp only [List.map_cons, Rows.uptoBulkAll, Rows.uptoBulk, List.length_cons, List.sum_cons]
    omega
theorem contract (H : Type) (enc : TypeId × Value → H) (W : World) (base : Nat) (args : Array Value) (ds gs : List (DataW H)) (before : List MemPlace)
    (hval : ∀ (j : Nat) t v, Try.f7.params[j]? = some t → args[j]? = some v → Value.okWide Try.prog W .any base t v)
    (hW : DataW.Whole enc Try.prog Try.f7.params.toList Rows.clusterGoSpec.vars false W args.toList ds gs before) (hk : Rows.uptoSmall H (ds ++ gs) = true) :
    Calls Try.prog 7 args W fun e W' => ∃ v, e = .returned v ∧ Rows.clusterGoSpec.post enc Try.prog Try.f7 false true false false W args v W' := by
  have hW' := hW
  obtain ⟨p, q, hA0, hV, rfl, hfz, hnd⟩ := hW
  have hA : DataW.TrodAll enc Try.prog W 0 (fun _ => true) true Try.f7.params.toList args.toList ds p := hA0
  rw [Try.params7] at hA hval
  obtain ⟨rfl, rfl⟩ := trodVars_none hV
  have hb := of_decide_eq_true hk
  rw [List.append_nil] at hb
  obtain ⟨v0, vs0, d0, ds0, p0, q0, hargs, rfl, rfl, h0, r0⟩ := trodAll_cons hA
  obtain ⟨rfl, rfl, rfl⟩ := trodAll_nil r0
  obtain rfl : args = #[v0] := by cases args; simp_all
  obtain ⟨s0, rfl, rfl, rfl, hs0⟩ := open_string Try.underlying9 (hval 0 9 v0 rfl rfl) h0
  simp only [Rows.uptoBulkAll] at hb
  simp only [Rows.uptoBulk] at hb
  have hs0' : s0.data.toList.length = s0.size := Array.length_toList
  clear hA0
  have key : Calls Try.prog 7 #[.string s0] W fun e W' => e = .returned (.bool true) ∧ Below W.heap.size W W' := Does.callsW (clusterGo_any s0.data.toList (by omega) _ _ [])
  refine key.mono fun e W' ⟨he, hg⟩ => ?_
  subst he
  exact ⟨_, rfl, post_true hW' rfl rfl rfl Try.underlying4 laid (by kernel_rfl) hg⟩
set_option maxRecDepth 100000 in
theorem lifted (os : Os) (started : os.Started) (H : Type) (enc : TypeId × Value → H) (F : Stop.Interp) :
    ReturnsInHanded {} Try.checked os 7 .any ((Rows.OpenSpec.upto Rows.clusterGoSpec).pre6 enc Try.prog Try.f7 Rows.clusterGoUptoRow.domain false) (((Rows.OpenSpec.upto Rows.clusterGoSpec).at F).post enc Try.prog Try.f7 false true false false) := by
  refine returnsInHanded_of_cond (C := Try.checked) (s := Rows.OpenSpec.upto Rows.clusterGoSpec) (k := Rows.uptoSmall) rfl own started (by kernel_rfl) Try.func7
    (OpenSpec.witness (enc := enc) (C := Try.checked) (s := Rows.OpenSpec.upto Rows.clusterGoSpec) (k := Rows.uptoSmall) rfl false ⟨#[], #[.string ⟨#[]⟩], []⟩ 8 (by kernel_rfl) (by kernel_rfl) (by kernel_rfl)
      (x := ([.lit (.string [])], [], [])) (by kernel_rfl) rfl (by kernel_rfl)) ?_
  intro W base args ds gs before hval hW _ hk _
  exact contract H enc W base args ds gs before hval hW hk
theorem over : Rows.clusterGoUptoRow.holds Try.pinned (Rows.OpenSpec.upto Rows.clusterGoSpec) :=
  OpenClaim.holds_of_cond 7 Try.f7 rfl rfl rfl rfl rfl rfl rfl ⟨rfl, rfl, rfl, rfl, rfl⟩ rfl rfl rfl rfl rfl (by kernel_rfl) Try.func7 (by kernel_rfl)
    (of_decide_eq_true (by kernel_rfl)) (by unfold Func.isWrapper; first | (rw [if_pos (by decide +kernel)]; kernel_rfl) | (rw [if_neg (by decide +kernel)]; exact ⟨rfl, rfl⟩))
    (fun os started H enc _ F => lifted os started H enc F)
theorem proved : Rows.ClusterGoUptoSaid := over
end Go.Proofs.Ytpghpbknjdnkkaa.clusterGo
