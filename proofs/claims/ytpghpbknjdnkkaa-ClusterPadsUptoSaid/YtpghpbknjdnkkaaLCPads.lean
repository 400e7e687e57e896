/-
  The law canticlelaw05.ClusterPads returns true and leaves its arguments as they were, where what it reads is of bulk at most 1048576. Condition: the bound of bulk, which the given statement bears.
-/
import Derived.Test.YtpghpbknjdnkkaaRows
import Derived.Test.YtpghpbknjdnkkaaP6
import Derived.Shelf.Vars
namespace Go.Proofs.Ytpghpbknjdnkkaa.clusterPads
open Go Go.ChangeShapes Go.WideShapes Go.ChangeAt Go.RowKit Go.ChangeMaps Go.Eng
set_option linter.all false
set_option maxRecDepth 100000
set_option maxHeartbeats 4000000
theorem own : ownKnob Try.prog.godebug = none := by kernel_rfl
theorem laid : laidOutB Try.prog = true := by kernel_rfl
theorem all_len {α H : Type} (f : α → Lit) (l : List α) : l.length ≤ Rows.uptoBulkAll (l.map fun x => DataW.lit (H := H) (f x)) := by
  induction l with
  | nil => simp
  | cons x l ih =>
    have h1 : 1 ≤ Rows.uptoBulk (DataW.lit (H := H) (f x)) := by cases f x <;> simp [Rows.uptoBulk]
    simp only [List.map_cons, Rows.uptoBulkAll, List.length_cons]
    omega
theorem texts_len {H : Type} (l : List (List UInt8)) : (l.map List.length).sum + l.length ≤ Rows.uptoBulkAll (l.map fun x => DataW.lit (H := H) (.string x)) := by
  induction l with
  | nil => simp
  | cons x l ih =>
    simp only [List.map_cons, Rows.uptoBulkAll, Rows.uptoBulk, List.length_cons, List.sum_cons]
    omega
theorem contract (H : Type) (enc : TypeId × Value → H) (W : World) (base : Nat) (args : Array Value) (ds gs : List (DataW H)) (before : List MemPlace)
    (hval : ∀ (j : Nat) t v, Try.f10.params[j]? = some t → args[j]? = some v → Value.okWide Try.prog W .any base t v)
    (hW : DataW.Whole enc Try.prog Try.f10.params.toList Rows.clusterPadsSpec.vars false W args.toList ds gs before) (hk : Rows.uptoSmall H (ds ++ gs) = true) (hsh : W.ShapedOpen Try.prog) :
    Calls Try.prog 10 args W fun e W' => ∃ v, e = .returned v ∧ Rows.clusterPadsSpec.post enc Try.prog Try.f10 false true false false W args v W' := by
  have hW' := hW
  obtain ⟨p, q, hA0, hV, rfl, hfz, hnd⟩ := hW
  have hA : DataW.TrodAll enc Try.prog W 0 (fun _ => true) true Try.f10.params.toList args.toList ds p := hA0
  rw [Try.params10] at hA hval
  obtain ⟨rfl, rfl⟩ := trodVars_none hV
  have hb := of_decide_eq_true hk
  rw [List.append_nil] at hb
  obtain ⟨v0, vs0, d0, ds0, p0, q0, hargs, rfl, rfl, h0, r0⟩ := trodAll_cons hA
  obtain ⟨v1, vs1, d1, ds1, p1, q1, rfl, rfl, rfl, h1, r1⟩ := trodAll_cons r0
  obtain ⟨v2, vs2, d2, ds2, p2, q2, rfl, rfl, rfl, h2, r2⟩ := trodAll_cons r1
  obtain ⟨rfl, rfl, rfl⟩ := trodAll_nil r2
  obtain rfl : args = #[v0, v1, v2] := by cases args; simp_all
  obtain ⟨s0, rfl, rfl, rfl, hs0⟩ := open_string Try.underlying9 (hval 0 9 v0 rfl rfl) h0
  obtain ⟨s1, rfl, rfl, rfl, hs1⟩ := open_int Try.underlying3 (hval 1 3 v1 rfl rfl) h1
  obtain ⟨s2, rfl, rfl, rfl, hs2⟩ := open_int Try.underlying3 (hval 2 3 v2 rfl rfl) h2
  simp only [Rows.uptoBulkAll] at hb
  simp only [Rows.uptoBulk] at hb
  have hs0' : s0.data.toList.length = s0.size := Array.length_toList
  clear hA0
  have hg : GInt 0 (memOf W) := gint_of (cell_of_shapedOpen_int (zero := #[.int .i64 0]) (t := 3) hsh (of_decide_eq_true (by kernel_rfl)) (by kernel_rfl) rfl (by kernel_rfl) (by kernel_rfl) Try.underlying3)
  have key : Calls Try.prog 10 #[.string s0, .int .i64 s1, .int .i64 s2] W fun e W' => e = .returned (.bool true) ∧ Below W.heap.size W W' := Does.callsW (clusterPads_any s0.data.toList s1 s2 (by omega) _ _ [] hg)
  refine key.mono fun e W' ⟨he, hg⟩ => ?_
  subst he
  exact ⟨_, rfl, post_true hW' rfl rfl rfl Try.underlying4 laid (by kernel_rfl) hg⟩
set_option maxRecDepth 100000 in
theorem lifted (os : Os) (started : os.Started) (H : Type) (enc : TypeId × Value → H) (F : Stop.Interp) :
    ReturnsInHanded {} Try.checked os 10 .any ((Rows.OpenSpec.upto Rows.clusterPadsSpec).pre6 enc Try.prog Try.f10 Rows.clusterPadsUptoRow.domain false) (((Rows.OpenSpec.upto Rows.clusterPadsSpec).at F).post enc Try.prog Try.f10 false true false false) := by
  refine returnsInHanded_of_condS (C := Try.checked) (s := Rows.OpenSpec.upto Rows.clusterPadsSpec) (k := Rows.uptoSmall) rfl own started (by kernel_rfl) Try.func10
    (OpenSpec.witness (enc := enc) (C := Try.checked) (s := Rows.OpenSpec.upto Rows.clusterPadsSpec) (k := Rows.uptoSmall) rfl false ⟨#[], #[.string ⟨#[]⟩, .int .i64 0, .int .i64 0], []⟩ 8 (by kernel_rfl) (by kernel_rfl) (by kernel_rfl)
      (x := ([.lit (.string []), .lit (.int .i64 0), .lit (.int .i64 0)], [], [])) (by kernel_rfl) rfl (by kernel_rfl)) ?_
  intro W base args ds gs before hval hW _ hk hsh _
  exact contract H enc W base args ds gs before hval hW hk hsh
theorem over : Rows.clusterPadsUptoRow.holds Try.pinned (Rows.OpenSpec.upto Rows.clusterPadsSpec) :=
  OpenClaim.holds_of_cond 10 Try.f10 rfl rfl rfl rfl rfl rfl rfl ⟨rfl, rfl, rfl, rfl, rfl⟩ rfl rfl rfl rfl rfl (by kernel_rfl) Try.func10 (by kernel_rfl)
    (of_decide_eq_true (by kernel_rfl)) (by unfold Func.isWrapper; first | (rw [if_pos (by decide +kernel)]; kernel_rfl) | (rw [if_neg (by decide +kernel)]; exact ⟨rfl, rfl⟩))
    (fun os started H enc _ F => lifted os started H enc F)
theorem proved : Rows.ClusterPadsUptoSaid := over
end Go.Proofs.Ytpghpbknjdnkkaa.clusterPads
