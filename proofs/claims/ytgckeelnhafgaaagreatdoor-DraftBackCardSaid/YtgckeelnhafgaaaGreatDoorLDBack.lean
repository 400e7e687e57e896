/-
  The card of canticlelaw28.DraftBack: the law returns true, whatever the listed variables' tie asks; its row lists seven variables. No condition.
-/
import Derived.Test.YtgckeelnhafgaaaGreatDoorP3
import Derived.Test.YtgckeelnhafgaaaGreatDoorCards
import Derived.Test.YtgckeelnhafgaaaGreatDoorTie
import Derived.Test.YtgckeelnhafgaaaGreatDoorP18
import Derived.Test.YtgckeelnhafgaaaGreatDoorP7
import Derived.Lib.LaidIn
import Derived.Deep.DeepHandedRow
import Derived.Deep.DeepWitnessRowRef
namespace Go.Proofs.YtgckeelnhafgaaaGreatDoor.draftBack
open Go ZP Go.ChangeShapes Go.WideShapes Go.ChangeAt Go.RowKit Go.ChangeMaps Go.Eng
set_option linter.all false
set_option maxRecDepth 100000
set_option maxHeartbeats 4000000
theorem own : ownKnob Tryz.prog.godebug = none := by kernel_rfl
theorem laid : laidOutB Tryz.prog = true := by kernel_rfl
theorem contract (H : Type) (enc : TypeId × Value → H) (W : World) (base : Nat) (args : Array Value) (ds gs : List (DataW H)) (before : List MemPlace)
    (hval : ∀ (j : Nat) t v, Tryz.f5.params[j]? = some t → args[j]? = some v → Value.okWide Tryz.prog W .any base t v)
    (hW : DataW.Whole enc Tryz.prog Tryz.f5.params.toList Rows.draftBackSpec.vars false W args.toList ds gs before) (hz : (DataW.weightsEach Tryz.prog (Tryz.f5.params.toList ++ (OpenSpec.ofChange Rows.draftBackSpec).bare.plain.varTypes Tryz.prog) (ds ++ gs)).all (· ≤ reachBytes) = true) (hL : laidMet Tryz.prog Rows.draftBackRow.laid W) (hsh : W.ShapedOpen Tryz.prog) :
    Calls Tryz.prog 5 args W fun e W' => ∃ v, e = .returned v ∧ Rows.draftBackSpec.post enc Tryz.prog Tryz.f5 false true false false W args v W' := by
  have hW' := hW
  obtain ⟨p, q, hA0, hV, rfl, hfz, hnd⟩ := hW
  have hA : DataW.TrodAll enc Tryz.prog W 0 (fun _ => true) true Tryz.f5.params.toList args.toList ds p := hA0
  rw [Tryz.params5] at hA hval
  obtain ⟨rfl, rfl⟩ := trodVars_none hV
  obtain ⟨v0, vs0, d0, ds0, p0, q0, hargs, rfl, rfl, h0, r0⟩ := trodAll_cons hA
  obtain ⟨v1, vs1, d1, ds1, p1, q1, rfl, rfl, rfl, h1, r1⟩ := trodAll_cons r0
  obtain ⟨rfl, rfl, rfl⟩ := trodAll_nil r1
  obtain rfl : args = #[v0, v1] := by cases args; simp_all
  obtain ⟨s0, rfl, rfl, rfl, hs0⟩ := open_string Tryz.underlying9 (hval 0 9 v0 rfl rfl) h0
  obtain ⟨a1, cap1, s1, rfl, hc1, hz1, hd1, hr1⟩ := zHh Tryz.underlying54 Tryz.underlying64 (by kernel_rfl) ⟨rfl, Tryz.underlying3, by kernel_rfl⟩ ⟨rfl, Tryz.underlying9, by kernel_rfl⟩ ⟨rfl, Tryz.underlying9, by kernel_rfl⟩ ⟨rfl, Tryz.underlying3, by kernel_rfl⟩ ⟨rfl, Tryz.underlying3, by kernel_rfl⟩ ⟨rfl, Tryz.underlying9, by kernel_rfl⟩ (hval 1 54 v1 rfl rfl) h1
  have hmax : maxLen ≤ 9223372036854775807 := by decide
  have hs0' : s0.data.toList.length = s0.size := Array.length_toList
  clear hA0
  have hgr : GRead Tryz.prog (memOf W) := zNI hL hsh
  have key : Calls Tryz.prog 5 #[.string s0, .slice a1 s1.length cap1] W fun e W' => e = .returned (.bool true) ∧ Below W.heap.size W W' := Does.callsW (zLX s0.data.toList (by omega) hz1 W _ [] hr1 hgr)
  refine key.mono fun e W' ⟨he, hg⟩ => ?_
  subst he
  exact ⟨_, rfl, zHf hW' rfl rfl rfl Tryz.underlying4 laid (by kernel_rfl) hg⟩
/-- a datum's cells -/
def litV : DataW Unit → Value
  | .lit (.int k z) => .int k z
  | _ => .int .i64 0
def aggV : DataW Unit → List Value
  | .agg l => l.map litV
  | _ => []
def agg2 : DataW Unit → List Value
  | .agg l => l.flatMap aggV
  | _ => []
/-- a world for the witness: the settled one, two blocks more (the errors' structs), the seven variables holding what their initialisers lay -/
noncomputable def laidWorld (os : Os) : World :=
  let N := (World.settled Tryz.prog os).heap.size
  let w0 := World.holding Tryz.prog os ⟨#[
    .cells #[.string ⟨#[105, 110, 118, 97, 108, 105, 100, 32, 115, 121, 110, 116, 97, 120]⟩] 341, .cells #[.string ⟨#[118, 97, 108, 117, 101, 32, 111, 117, 116, 32, 111, 102, 32, 114, 97, 110, 103, 101]⟩] 341], #[], []⟩
  let put (h : Array Obj) (g : Nat) (cs : Array Value) : Array Obj := h.modify g fun
    | .cells _ t frozen => .cells cs t frozen
    | o => o
  let h0 := put w0.heap 2 #[.iface 339 (.pp N)]
  let h1 := put h0 3 #[.iface 339 (.pointer (some ⟨N + 1, 0, none⟩))]
  let h2 := put h1 1 (aggV Rows.laid_internal_strconv_uint64pow10).toArray
  let h4 := put h2 6 (aggV Rows.laid_math_bits_deBruijn32tab).toArray
  let h5 := put h4 7 (aggV Rows.laid_math_bits_deBruijn64tab).toArray
  let h6 := put h5 5 (agg2 Rows.laid_unicode_utf8_acceptRanges).toArray
  let h7 := put h6 4 (aggV Rows.laid_unicode_utf8_first).toArray
  { w0 with heap := h7 }
noncomputable abbrev N0 : Nat := (World.settled Tryz.prog default).heap.size
theorem laid_met (os : Os) (args : Array Value) : laidMet Tryz.prog Rows.draftBackRow.laid ((laidWorld os).forCall (fun _ _ => 0) ⟨#[], args, []⟩).memory :=
  (LaidIn.of_run (l := Rows.draftBackRow.laid) [6, 7, 1, 5, 3, N0 + 1, 2, N0, 4] 8 (by kernel_rfl) (by kernel_rfl) (by kernel_rfl) (by kernel_rfl)).met
theorem reads (os : Os) {H : Type} (enc : TypeId × Value → H) : ∃ places, DataW.whole enc Tryz.prog ((laidWorld os).forCall (fun _ _ => 0) ⟨#[], #[.string ⟨#[]⟩, .slice none 0 0], []⟩).memory Tryz.f5.params.toList Rows.draftBackSpec.vars false (#[.string ⟨#[]⟩, .slice none 0 0] : Array Value).toList 8 = some ([.lit (.string []), .nil], [], places) :=
  ⟨[], by kernel_rfl⟩
theorem lifted (os : Os) (started : os.Started) (H : Type) (enc : TypeId × Value → H) (F : Stop.Interp) :
    ReturnsInHanded {} Tryz.checked os 5 .any ((OpenSpec.ofChange Rows.draftBackSpec).preRow enc Tryz.prog Tryz.f5 Rows.draftBackRow.domain false Rows.draftBackRow.laid) (((OpenSpec.ofChange Rows.draftBackSpec).at F).post enc Tryz.prog Tryz.f5 false true false false) := by
  obtain ⟨places, hx⟩ := reads os enc
  refine returnsInHanded_of_row (C := Tryz.checked) (s := OpenSpec.ofChange Rows.draftBackSpec) own started (by kernel_rfl) Tryz.func5
    (witness_row_atRef (enc := enc) (C := Tryz.checked) false (laidWorld os) #[.string ⟨#[]⟩, .slice none 0 0] rfl (by kernel_rfl) (by kernel_rfl) (by kernel_rfl)
      (OpenSpec.preRow_of_cond 8 hx (by kernel_rfl) (fun k hk => by cases hk) (by kernel_rfl) (laid_met os _))) ?_
  intro W base args ds gs before hval hW _ _ hz hL hsh _
  exact contract H enc W base args ds gs before hval hW hz hL hsh
theorem said : Rows.DraftBackSaid :=
  OpenClaim.holds_of_cond 5 Tryz.f5 rfl rfl rfl rfl rfl rfl rfl ⟨rfl, rfl, rfl, rfl, rfl⟩ rfl rfl rfl rfl rfl (by kernel_rfl) Tryz.func5 (by kernel_rfl)
    (of_decide_eq_true (by kernel_rfl)) (by unfold Func.isWrapper; first | (rw [if_pos (by decide +kernel)]; kernel_rfl) | (rw [if_neg (by decide +kernel)]; exact ⟨rfl, rfl⟩))
    (fun os started H enc _ F => by rw [OpenClaim.pre_eq_preRow]; exact lifted os started H enc F)
theorem plain (f : FuncId) (fn : Func) (hf : Tryz.pinned.checked.prog.funcNamed "canticle/canticlelaw28.DraftBack" = some f) (hfn : Tryz.pinned.checked.prog.funcs[f]? = some fn) :
    true = Tryz.pinned.checked.prog.looks [] ∧ ∀ (j : Nat) t, fn.params[j]? = some t → Tryz.pinned.checked.prog.wantsStandIn t = false := by
  obtain rfl : f = 5 := Option.some.inj ((show Tryz.prog.funcNamed "canticle/canticlelaw28.DraftBack" = some 5 by kernel_rfl).symm.trans hf) |>.symm
  obtain rfl : fn = Tryz.f5 := (Option.some.inj (Tryz.func5.symm.trans hfn)).symm
  refine ⟨by kernel_rfl, fun j t ht => ?_⟩
  rw [Tryz.params5] at ht
  first | (simp at ht; done) | (rcases j with _ | _ | j <;> simp at ht <;> subst ht <;> kernel_rfl) | (rcases j with _ | j <;> simp at ht; subst ht; kernel_rfl)
theorem proved : Rows.DraftBackCardSaid :=
  Claim7.holds_tied_plain_at .later [] _ _ _ _ said (fun _ h => by cases h) (by kernel_rfl) (fun _ h => by cases h) draftBack_row_tie rfl ⟨rfl, rfl⟩ (by kernel_rfl) rfl plain (by kernel_rfl)
end Go.Proofs.YtgckeelnhafgaaaGreatDoor.draftBack
