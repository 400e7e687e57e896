/-
  A walk's engine, twelfth part: from a contract to a row's step. No condition.
-/
import Derived.Test.YtdmdabjaboigcaaEngK
import Derived.ChangeSame
import Derived.Below
set_option linter.all false
namespace Go.Eng
open Go Go.RowKit Go.ChangeShapes
theorem Does.calls {P : Program} {f : FuncId} {args : Array Value} {w : World} {v : Value} (h : Does P f args w (memOf w) [] (Gives v (memOf w) [])) :
    Calls P f args w fun e w' => e = .returned v ∧ Below w.heap.size w w' := by
  have h1 := h w (Sat.start w)
  have h2 : CallsIn Fence.wide 0 P f args w fun e w' => e = .returned v ∧ Below w.heap.size w w' := h1.mono fun e w' ⟨v', m', H', he, hg, hs⟩ => by
    obtain ⟨rfl, rfl, rfl⟩ := hg
    exact ⟨he, hs.below⟩
  exact callsIn_wide.1 h2
section
variable {H : Type} {enc : TypeId × Value → H} {P : Program}
/-- what a call that leaves all as it was owes -/
theorem post_below {f : Func} {s : ChangeSpec} {apart fresh handsOn again : Bool} {W W' : World} {args : Array Value} {v : Value} {ds gs : List (DataW H)} {before pa pv : List MemPlace}
    (hW : DataW.Whole enc P f.params.toList s.vars apart W args.toList ds gs before)
    (hres : ∀ (b : Nat) (sp : Nat → Bool) (hd : Bool), DataW.TrodAll enc P W' b sp hd f.resultTypes.toList (v.resultList f.resultTypes.size) (s.fn H (ds ++ gs)).results [])
    (hargs : ∀ sp : Nat → Bool, (∀ p ∈ before, sp p.block = true) → DataW.TrodAll enc P W' 0 sp true f.params.toList args.toList (s.fn H (ds ++ gs)).args pa)
    (hvars : ∀ sp : Nat → Bool, (∀ p ∈ before, sp p.block = true) → DataW.TrodVars enc P W' sp s.vars (s.fn H (ds ++ gs)).vars pv)
    (hps : before = pa ++ pv) (hb : Below W.heap.size W W')
    (hok : ∀ (j : Nat) (t : TypeId) (r : Value), f.resultTypes[j]? = some t → (v.resultList f.resultTypes.size)[j]? = some r → Value.okWide P W' .any 0 t r) :
    s.post enc P f apart fresh handsOn again W args v W' := by
  have hold : ∀ p ∈ before, (fun b => decide (b < W.heap.size)) p.block = true := fun p hp => by simpa using hW.lt p hp
  have hlt := hW.lt
  refine ⟨ds, gs, before, [], pa, pv, hW, hres _ _ _, hargs _ hold, hvars _ hold, World.keptBut_mono (fun p hp => ⟨hp, ?_⟩) (hb.frame _), fun _ => ?_⟩
  · rw [hps, List.mem_append] at hp
    exact Or.inr hp
  · obtain ⟨_, _, _, _, _, hz, hn⟩ := hW
    refine ⟨hok, _, _, ([] ++ pa) ++ pv, ⟨[] ++ pa, pv, trodAll_append (hargs _ (fun _ _ => rfl)) (hres _ _ _), hvars _ (fun _ _ => rfl), rfl, ?_, ?_⟩, ?_⟩
    · intro b off hp
      have hp' := hp
      rw [List.nil_append, ← hps] at hp'
      have hq : b < W.heap.size := hlt _ hp'
      rw [hb.frozen (p := _) hq]
      exact hz b off (by rw [hps]; simpa using hp)
    · intro ha
      have := hn ha
      rw [hps] at this
      simpa using this
    · intro p hp _
      rw [hps]
      simpa using hp
end
end Go.Eng
