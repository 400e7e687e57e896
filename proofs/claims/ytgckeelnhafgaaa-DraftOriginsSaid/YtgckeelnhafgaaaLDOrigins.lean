/-
  The law canticlelaw28.DraftOrigins returns true and leaves its arguments as they were. No condition beside those of the given statement.
-/
import Derived.Test.YtgckeelnhafgaaaRows
import Derived.Test.YtgckeelnhafgaaaP10
namespace Go.Proofs.Ytgckeelnhafgaaa.draftOrigins
open Go Go.ChangeShapes Go.WideShapes Go.ChangeAt Go.RowKit Go.ChangeMaps Go.Eng
set_option linter.all false
set_option maxRecDepth 100000
set_option maxHeartbeats 4000000
theorem own : ownKnob Try.prog.godebug = none := by kernel_rfl
theorem laid : laidOutB Try.prog = true := by kernel_rfl
theorem contract (H : Type) (enc : TypeId × Value → H) (W : World) (base : Nat) (args : Array Value) (ds gs : List (DataW H)) (before : List MemPlace)
    (hval : ∀ (j : Nat) t v, Try.f3.params[j]? = some t → args[j]? = some v → Value.okWide Try.prog W .any base t v)
    (hW : DataW.Whole enc Try.prog Try.f3.params.toList Rows.draftOriginsSpec.vars false W args.toList ds gs before) :
    Calls Try.prog 3 args W fun e W' => ∃ v, e = .returned v ∧ Rows.draftOriginsSpec.post enc Try.prog Try.f3 false true false false W args v W' := by
  have hW' := hW
  obtain ⟨p, q, hA0, hV, rfl, hfz, hnd⟩ := hW
  have hA : DataW.TrodAll enc Try.prog W 0 (fun _ => true) true Try.f3.params.toList args.toList ds p := hA0
  rw [Try.params3] at hA hval
  obtain ⟨rfl, rfl⟩ := trodVars_none hV
  obtain ⟨v0, vs0, d0, ds0, p0, q0, hargs, rfl, rfl, h0, r0⟩ := trodAll_cons hA
  obtain ⟨v1, vs1, d1, ds1, p1, q1, rfl, rfl, rfl, h1, r1⟩ := trodAll_cons r0
  obtain ⟨rfl, rfl, rfl⟩ := trodAll_nil r1
  obtain rfl : args = #[v0, v1] := by cases args; simp_all
  obtain ⟨s0, rfl, rfl, rfl, hs0⟩ := open_string Try.underlying9 (hval 0 9 v0 rfl rfl) h0
  obtain ⟨a1, cap1, s1, rfl, hc1, hz1, hd1, hr1⟩ := open_hops Try.underlying22 Try.underlying57 (by kernel_rfl) ⟨rfl, Try.underlying3, by kernel_rfl⟩ ⟨rfl, Try.underlying9, by kernel_rfl⟩ ⟨rfl, Try.underlying9, by kernel_rfl⟩ ⟨rfl, Try.underlying3, by kernel_rfl⟩ ⟨rfl, Try.underlying3, by kernel_rfl⟩ ⟨rfl, Try.underlying9, by kernel_rfl⟩ (hval 1 22 v1 rfl rfl) h1
  have hmax : maxLen ≤ 9223372036854775807 := by decide
  have hs0' : s0.data.toList.length = s0.size := Array.length_toList
  clear hA0
  have key : Calls Try.prog 3 #[.string s0, .slice a1 s1.length cap1] W fun e W' => e = .returned (.bool true) ∧ Below W.heap.size W W' := Does.callsW (draftOrigins_any s0.data.toList (by omega) hz1 W _ [] hr1)
  refine key.mono fun e W' ⟨he, hg⟩ => ?_
  subst he
  exact ⟨_, rfl, post_true hW' rfl rfl rfl Try.underlying4 laid (by kernel_rfl) hg⟩
set_option maxRecDepth 100000 in
theorem lifted (os : Os) (started : os.Started) (H : Type) (enc : TypeId × Value → H) :
    ReturnsInHanded {} Try.checked os 3 .any (Rows.draftOriginsSpec.pre6 enc Try.prog Try.f3 Rows.draftOriginsRow.domain false) (Rows.draftOriginsSpec.post enc Try.prog Try.f3 false true false false) := by
  refine returnsInHanded_of_change (C := Try.checked) own started (by kernel_rfl) Try.func3
    (ChangeSpec.witness6 (enc := enc) (C := Try.checked) false ⟨#[], #[.string ⟨#[]⟩, .slice none 0 0], []⟩ 8 (by kernel_rfl) (by kernel_rfl) (by kernel_rfl) (by kernel_rfl)) ?_
  intro W base args ds gs before hval hW _ _
  exact contract H enc W base args ds gs before hval hW
theorem over : Rows.draftOriginsRow.holds Try.pinned (OpenSpec.ofChange Rows.draftOriginsSpec) :=
  OpenClaim.holds_of_wide 3 Try.f3 rfl rfl rfl rfl rfl rfl rfl ⟨rfl, rfl, rfl, rfl, rfl⟩ rfl rfl rfl rfl rfl (by kernel_rfl) Try.func3 (by kernel_rfl)
    (of_decide_eq_true (by kernel_rfl)) (by unfold Func.isWrapper; first | (rw [if_pos (by decide +kernel)]; kernel_rfl) | (rw [if_neg (by decide +kernel)]; exact ⟨rfl, rfl⟩))
    (fun os started H enc _ => lifted os started H enc)
theorem proved : Rows.DraftOriginsSaid := over
end Go.Proofs.Ytgckeelnhafgaaa.draftOrigins
