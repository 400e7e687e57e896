/-
  Parts of a walk, joined: EngS EngW EngX RT2 RT3 RT7 RT4 RT8 RT9 RT16 ET1 EP1 EngQ EP2 EngT ET2 ET3 ET4 ET5 ET6 E1 EL EP5 EP6 EPA E29 EngY EngZ EngZA EngZB. No condition.
-/
import Derived.Test.YtelgegefmjlimaaDoorP2
import Derived.Test.YtelgegefmjlimaaDoorP3
import Derived.Test.YtelgegefmjlimaaDoorP1
import Derived.ChangeMaps5
import Derived.ReadAgain
import Derived.ChangeBook
import Derived.Deep.Slices
import Derived.WalkKit
import Derived.ProofKit
import Derived.OpenShut
import Derived.JoinedCond
import Derived.Test.YtelgegefmjlimaaDoorProg
import Derived.Lib.Builder
import Derived.Lib.UnsafeStr
import Derived.Laws.Externs
set_option linter.all false
/-
  A walk's engine, eighteenth part: a region that draws its order, where some operations change the heap: what is calm is done first, what acts is done in every order that there is. No condition.
-/
set_option linter.all false
namespace Go.Eng
open Go Go.RowKit
/-- what an operation owes that may change the heap -/
def QE (w0 : World) (d : Nat) (ds : List Nat) (S : SHeap) (m : Mem) (K : Value → Mem → SHeap → SHeap → Prop) : Exit → Act → World → Prop
  | .normal, a, w => ∃ v m' B U, a.tmps[d]? = some v ∧ a.defers = marks ds ∧ m.le m' ∧ Sat w0 m' (S ++ B ++ U) w ∧ K v m' (S ++ B) U
  | _, _, _ => False
/-- the same of an operation without an answer: a store -/
def QN (w0 : World) (ds : List Nat) (S : SHeap) (m : Mem) (K : Mem → SHeap → SHeap → Prop) : Exit → Act → World → Prop
  | .normal, a, w => ∃ m' B U, a.defers = marks ds ∧ m.le m' ∧ Sat w0 m' (S ++ B ++ U) w ∧ K m' (S ++ B) U
  | _, _, _ => False
def readyV (V : Nat) (o : Oper) : Prop := ∀ e ∈ o.after, bind1 e = true → V.testBit e.on = true
section
variable {P : Program} {ro : Option Nat} {n : Nat} {w0 : World} {Q : Exit → Act → World → Prop} {r : Env} {ds : List Nat} {m : Mem} {H : SHeap}
theorem WQ.acted {d : Nat} {S B U : SHeap} {m0 : Mem} {K : Value → Mem → SHeap → SHeap → Prop} {v : Value} (hv : r.get d = some v) (hm : m0.le m) (hh : ∀ w, Sat w0 m H w → Sat w0 m (S ++ B ++ U) w) (hK : K v m (S ++ B) U) :
    WQ n w0 (QE w0 d ds S m0 K) .normal r ds m H := fun _ w ho hs => ⟨v, m, B, U, ho.at_ _ _ hv, rfl, hm, hh w hs, hK⟩
theorem WQ.stored {S B U : SHeap} {m0 : Mem} {K : Mem → SHeap → SHeap → Prop} (hm : m0.le m) (hh : ∀ w, Sat w0 m H w → Sat w0 m (S ++ B ++ U) w) (hK : K m (S ++ B) U) :
    WQ n w0 (QN w0 ds S m0 K) .normal r ds m H := fun _ w _ hs => ⟨m, B, U, rfl, hm, hh w hs, hK⟩
/-- what is left of a region: V tells which operations are done, or calm; S is what none of them changes -/
def WE (P : Program) (ro : Option Nat) (n : Nat) (w0 : World) (l : List Oper) (g : Nat) (ds : List Nat) (K : Env → Mem → SHeap → SHeap → Prop) : Nat → Nat → Env → Mem → SHeap → SHeap → Prop
  | 0, _, _, _, _, _ => False
  | k + 1, V, r, m, S, U =>
    ((∀ i, i < g → V.testBit i = true) ∧ K r m S U) ∨
    (∃ i o d v, i < g ∧ l[i]? = some o ∧ V.testBit i = false ∧ readyV V o ∧ o.dst = some d ∧ (∀ c, o.op ≠ .defer c) ∧
      (∀ m' F, m.le m' → WL P ro n w0 l.toArray (Q1 w0 d v ds m' (S ++ F)) [o] (Env.sel (o.looksAt l.toArray) r) ds m' (S ++ F)) ∧
      WE P ro n w0 l g ds K k (V ||| 1 <<< i) ((d, v) :: r) m S U) ∨
    ((∃ i, i < g ∧ V.testBit i = false) ∧ ∀ i o, i < g → l[i]? = some o → V.testBit i = false → readyV V o → (∃ d, o.dst = some d ∧ (∀ c, o.op ≠ .defer c) ∧
      WL P ro n w0 l.toArray (QE w0 d ds S m fun v m' S' U' => WE P ro n w0 l g ds K k (V ||| 1 <<< i) ((d, v) :: r) m' S' U') [o] (Env.sel (o.looksAt l.toArray) r) ds m (S ++ U)) ∨
      (o.dst = none ∧ (∀ c, o.op ≠ .defer c) ∧ WL P ro n w0 l.toArray (QN w0 ds S m fun m' S' U' => WE P ro n w0 l g ds K k (V ||| 1 <<< i) r m' S' U') [o] (Env.sel (o.looksAt l.toArray) r) ds m (S ++ U)))
theorem bit_set (V i j : Nat) : (V ||| 1 <<< i).testBit j = (V.testBit j || decide (i = j)) := by
  rw [Nat.testBit_or, Nat.one_shiftLeft, Nat.testBit_two_pow]
theorem bit_keep {V i j : Nat} (h : V.testBit j = true) : (V ||| 1 <<< i).testBit j = true := by rw [bit_set, h]; rfl
theorem bit_self (V i : Nat) : (V ||| 1 <<< i).testBit i = true := by rw [bit_set]; simp
theorem bit_old {V i j : Nat} (h : (V ||| 1 <<< i).testBit j = true) (hne : j ≠ i) : V.testBit j = true := by
  rw [bit_set] at h
  have : decide (i = j) = false := by simp; exact fun e => hne e.symm
  simpa [this] using h
theorem mask_in {l : List Oper} {g : Nat} {M : List Nat} (ok : DrawOk l g M) {p : Nat → Prop} {b : Nat} (hb : b ≤ l.length) (hc : ∀ j o, j < b → l[j]? = some o → p j → ∀ e ∈ o.after, bind1 e = true → p e.on) :
    ∀ j o, j < b → l[j]? = some o → (∀ e ∈ o.after, bind1 e = true → p e.on) → ∀ i, (M.getD j 0).testBit i = true → p i := by
  intro j
  induction j using Nat.strongRecOn with
  | _ j ih =>
    intro o hjb ho hw i hi
    rw [← ok.sub j o ho, Nat.testBit_and, Bool.and_eq_true] at hi
    rcases mask_bits M o.after.toList 0 i hi.2 with h | ⟨e, he, hbd, h⟩
    · simp at h
    · have he' : e ∈ o.after := by simpa using he
      have hon := hw e he' hbd
      rcases h with rfl | h
      · exact hon
      · have hlt := ok.down j o ho e he' hbd
        have hl : e.on < l.length := by omega
        exact ih e.on hlt l[e.on] (by omega) (List.getElem?_eq_getElem hl) (hc e.on _ (by omega) (List.getElem?_eq_getElem hl) hon) i h
/-- from what an operation owes, whatever comes behind it -/
theorem wpOp_of_post {ops : Array Oper} {i : Nat} {o : Oper} {d : Nat} {tmps : Array Value} {w : World} {Qx : Exit → Act → World → Prop} {K : Act → World → Prop} (hi : ops[i]? = some o) (hd : o.dst = some d) (hnd : ∀ c, o.op ≠ .defer c)
    (hdf : ∀ a w, Qx .normal a w → a.defers = marks ds) (hbad : ∀ e a w, Qx e a w → e = .normal)
    (h : wpListIn (FW ro) 0 P ops Qx [o] ⟨tmps, marks ds⟩ w) (hK : ∀ v0 w', Qx .normal ⟨tmps.setIfInBounds d v0, marks ds⟩ w' → K ⟨tmps.setIfInBounds d v0, marks ds⟩ w') : wpOpIn (FW ro) 0 P ops Q i K ⟨tmps, marks ds⟩ w := by
  have key : ∀ v0 w', Qx .normal ((Act.mk tmps (marks ds)).put o.dst v0) w' → K ((Act.mk tmps (marks ds)).put o.dst v0) w' := by
    intro v0 w' hq
    rw [hd] at hq ⊢
    exact hK v0 w' hq
  unfold wpOpIn
  rw [hi]
  unfold wpListIn at h
  simp only
  split
  · rename_i hw
    rw [if_pos hw] at h
    refine ⟨h.1, ?_⟩
    have h2 := h.2
    rw [semAt_exec (FW ro).round _ _ hnd] at h2 ⊢
    generalize hr : (execOp (Act.mk tmps (marks ds)).eval o).run P w = res at *
    cases res with
    | ok x w' =>
      cases x <;> simp only [Oper.uponIn] at h2 ⊢
      case value v0 => exact key _ _ h2
      case skip => exact key _ _ h2
      case defer df =>
        exfalso
        have h4 := congrArg List.length (hdf _ _ h2)
        rw [hd] at h4
        simp [Act.put] at h4
      case enter f args => exact ⟨h2.1, CallsIn.mono h2.2 fun e w'' he => by
        cases e with
        | returned v0 => exact key _ _ he
        | panicked chain => exact absurd (hbad _ _ _ he) (by simp)
        | outgrown => obtain ⟨a, b, hh⟩ := he; exact absurd (hbad _ _ _ hh) (by simp)⟩
      case row rw' args => exact ⟨h2.1, RowsIn.mono h2.2 fun v0 w'' he => key _ _ he⟩
      case round l f tm asg bd => exact ⟨h2.1, RoundIn.mono h2.2 fun e w'' he => by
        cases e with
        | returned v0 => exact key _ _ he
        | panicked chain => exact absurd (hbad _ _ _ he) (by simp)
        | outgrown => obtain ⟨a, b, hh⟩ := he; exact absurd (hbad _ _ _ hh) (by simp)⟩
    | halt x w' =>
      cases x <;> simp only [Oper.uponIn] at h2 ⊢
      all_goals first | exact h2.elim | exact absurd (hbad _ _ _ h2) (by simp) | exact absurd (hbad _ _ _ h2.2) (by simp) | skip
  · rename_i hw
    rw [if_neg hw] at h
    exact ⟨h.1, key _ _ h.2⟩
/-- the same without an answer -/
theorem wpOp_of_postN {ops : Array Oper} {i : Nat} {o : Oper} {tmps : Array Value} {w : World} {Qx : Exit → Act → World → Prop} {K : Act → World → Prop} (hi : ops[i]? = some o) (hd : o.dst = none) (hnd : ∀ c, o.op ≠ .defer c)
    (hdf : ∀ a w, Qx .normal a w → a.defers = marks ds) (hbad : ∀ e a w, Qx e a w → e = .normal)
    (h : wpListIn (FW ro) 0 P ops Qx [o] ⟨tmps, marks ds⟩ w) (hK : ∀ w', Qx .normal ⟨tmps, marks ds⟩ w' → K ⟨tmps, marks ds⟩ w') : wpOpIn (FW ro) 0 P ops Q i K ⟨tmps, marks ds⟩ w := by
  have key : ∀ v0 w', Qx .normal ((Act.mk tmps (marks ds)).put o.dst v0) w' → K ((Act.mk tmps (marks ds)).put o.dst v0) w' := by
    intro v0 w' hq
    rw [hd] at hq ⊢
    exact hK w' hq
  unfold wpOpIn
  rw [hi]
  unfold wpListIn at h
  simp only
  split
  · rename_i hw
    rw [if_pos hw] at h
    refine ⟨h.1, ?_⟩
    have h2 := h.2
    rw [semAt_exec (FW ro).round _ _ hnd] at h2 ⊢
    generalize hr : (execOp (Act.mk tmps (marks ds)).eval o).run P w = res at *
    cases res with
    | ok x w' =>
      cases x <;> simp only [Oper.uponIn] at h2 ⊢
      case value v0 => exact key _ _ h2
      case skip => exact key _ _ h2
      case defer df =>
        exfalso
        have h4 := congrArg List.length (hdf _ _ h2)
        rw [hd] at h4
        simp [Act.put] at h4
      case enter f args => exact ⟨h2.1, CallsIn.mono h2.2 fun e w'' he => by
        cases e with
        | returned v0 => exact key _ _ he
        | panicked chain => exact absurd (hbad _ _ _ he) (by simp)
        | outgrown => obtain ⟨a, b, hh⟩ := he; exact absurd (hbad _ _ _ hh) (by simp)⟩
      case row rw' args => exact ⟨h2.1, RowsIn.mono h2.2 fun v0 w'' he => key _ _ he⟩
      case round l f tm asg bd => exact ⟨h2.1, RoundIn.mono h2.2 fun e w'' he => by
        cases e with
        | returned v0 => exact key _ _ he
        | panicked chain => exact absurd (hbad _ _ _ he) (by simp)
        | outgrown => obtain ⟨a, b, hh⟩ := he; exact absurd (hbad _ _ _ hh) (by simp)⟩
    | halt x w' =>
      cases x <;> simp only [Oper.uponIn] at h2 ⊢
      all_goals first | exact h2.elim | exact absurd (hbad _ _ _ h2) (by simp) | exact absurd (hbad _ _ _ h2.2) (by simp) | skip
  · rename_i hw
    rw [if_neg hw] at h
    exact ⟨h.1, key _ _ h.2⟩
theorem count_set {l : List Oper} {listed : Array Bool} {i : Nat} (hs : listed.size = l.length) (hil : i < l.length) (hnl : listed.getD i false = false) :
    ((List.range l.length).filter fun k => !(listed.setIfInBounds i true).getD k false).length < ((List.range l.length).filter fun k => !listed.getD k false).length := by
  have hsub : List.Sublist ((List.range l.length).filter fun k => !(listed.setIfInBounds i true).getD k false) (((List.range l.length).filter fun k => !listed.getD k false).erase i) := by
    have hnd : ((List.range l.length).filter fun k => !listed.getD k false).Nodup := List.Pairwise.filter _ List.nodup_range
    rw [hnd.erase_eq_filter, List.filter_filter]
    refine sub_of_eq ?_
    apply List.filter_congr
    intro k hk
    simp only [Array.getD_eq_getD_getElem?]
    by_cases hik : i = k
    · subst hik; simp [show i < listed.size by omega]
    · rw [Array.getElem?_setIfInBounds_ne hik]; simp [Ne.symm hik]
  have hmem : i ∈ (List.range l.length).filter fun k => !listed.getD k false := by simp only [List.mem_filter, List.mem_range]; exact ⟨hil, by rw [hnl]; rfl⟩
  have h5 := hsub.length_le
  rw [List.length_erase_of_mem hmem] at h5
  have := List.length_pos_of_mem hmem
  omega
theorem listed_set {listed : Array Bool} {i j : Nat} (h : (listed.setIfInBounds i true).getD j false = true) (hne : j ≠ i) : listed.getD j false = true := by
  simp only [Array.getD_eq_getD_getElem?] at h ⊢
  rwa [Array.getElem?_setIfInBounds_ne (fun e => hne e.symm)] at h
theorem listed_keep {listed : Array Bool} {i j : Nat} (h : listed.getD j false = true) : (listed.setIfInBounds i true).getD j false = true := by
  simp only [Array.getD_eq_getD_getElem?] at h ⊢
  by_cases hij : i = j
  · subst hij
    by_cases hlt : i < listed.size
    · simp [hlt]
    · simp [Array.getElem?_eq_none (Nat.le_of_not_lt hlt)] at h
  · rwa [Array.getElem?_setIfInBounds_ne hij]
structure DInv (P : Program) (ro : Option Nat) (n : Nat) (w0 : World) (l : List Oper) (g : Nat) (M : List Nat) (ds : List Nat) (S : SHeap) (r0 : Env) (V : Nat) (r : Env) (m : Mem) (val : Nat → Value) (listed : Array Bool) (tmps : Array Value) : Prop where
  env : ∀ t u, r.get t = some u → (∃ j o, j < g ∧ V.testBit j = true ∧ l[j]? = some o ∧ o.dst = some t ∧ val j = u) ∨ (r0.get t = some u ∧ ∀ j o, j < g → V.testBit j = true → l[j]? = some o → o.dst ≠ some t)
  vclosed : ∀ j o, j < g → l[j]? = some o → V.testBit j = true → readyV V o
  rcd : ∀ i o, i < g → l[i]? = some o → V.testBit i = true → listed.getD i false = false → ∃ d ri, o.dst = some d ∧ (∀ c, o.op ≠ .defer c) ∧
    (∀ t ∈ o.looksAt l.toArray, ∀ u, ri.get t = some u → (∃ j oj, j < g ∧ l[j]? = some oj ∧ oj.dst = some t ∧ val j = u ∧ ∃ e ∈ o.after, bind1 e = true ∧ e.on = j) ∨ (r0.get t = some u ∧ ∀ j oj, j < g → l[j]? = some oj → oj.dst = some t → (M.getD j 0).testBit i = true)) ∧
    ∀ m' F, m.le m' → WL P ro n w0 l.toArray (Q1 w0 d (val i) ds m' (S ++ F)) [o] (Env.sel (o.looksAt l.toArray) ri) ds m' (S ++ F)
  size : listed.size = l.length
  closed : Closed l listed
  sub : ∀ j, j < g → listed.getD j false = true → V.testBit j = true
  tail : ∀ j, g ≤ j → j < l.length → listed.getD j false = false
  tsize : tmps.size = n
  done : ∀ j o d, j < g → listed.getD j false = true → l[j]? = some o → o.dst = some d → tmps[d]? = some (val j)
  old : ∀ t u, r0.get t = some u → (∀ j o, j < g → listed.getD j false = true → l[j]? = some o → o.dst ≠ some t) → tmps[t]? = some u
section sound
variable {l : List Oper} {g : Nat} {M : List Nat} {S U : SHeap} {r0 : Env} {V : Nat} {val : Nat → Value} {listed : Array Bool} {tmps : Array Value} {w : World}
theorem DInv.vmask (ok : DrawOk l g M) (h : DInv P ro n w0 l g M ds S r0 V r m val listed tmps) {j i : Nat} {o : Oper} (hj : j < g) (ho : l[j]? = some o) (hr : readyV V o) (hb : (M.getD j 0).testBit i = true) : V.testBit i = true :=
  mask_in ok ok.le (p := fun j => V.testBit j = true) (fun j o hj ho hp => h.vclosed j o hj ho hp) j o hj ho hr i hb
/-- what is drawn and already calm -/
theorem DInv.deferred (ok : DrawOk l g M) (h : DInv P ro n w0 l g M ds S r0 V r m val listed tmps) (hsat : Sat w0 m (S ++ U) w) {i : Nat} {o : Oper} (hi : i < g) (ho : l[i]? = some o) (hV : V.testBit i = true) (hnl : listed.getD i false = false)
    (hw : ∀ e ∈ o.after, bind1 e = true → listed.getD e.on false = true) {K : Act → World → Prop}
    (hK : ∀ tmps' w', DInv P ro n w0 l g M ds S r0 V r m val (listed.setIfInBounds i true) tmps' → Sat w0 m (S ++ U) w' → K ⟨tmps', marks ds⟩ w') : wpOpIn (FW ro) 0 P l.toArray Q i K ⟨tmps, marks ds⟩ w := by
  obtain ⟨d, ri, hd, hnd, hri, hwl⟩ := h.rcd i o hi ho hV hnl
  refine wpOp_of_q1 (m := m) (H := S ++ U) (w0 := w0) (v := val i) (by simpa using ho) hd hnd ?_ ?_
  · refine hwl m U (Mem.le.refl _) tmps w ⟨h.tsize, fun t u ht => ?_⟩ hsat
    obtain ⟨hlook, hget⟩ := Env.sel_get ht
    rcases hri t hlook u hget with ⟨j, oj, hj, hoj, hdj, hv, e, he, hb, hon⟩ | ⟨h0, hno⟩
    · have := hw e he hb
      rw [hon] at this
      rw [h.done j oj t hj this hoj hdj, hv]
    · refine h.old t u h0 (fun j oj hj hjl hoj hdj => ?_)
      have := mask_listed ok h.closed j oj hoj (h.closed j oj hoj hjl) i (hno j oj hj hoj hdj)
      rw [hnl] at this; cases this
  · intro w' hsat' hdlt
    have hil := (List.getElem?_eq_some_iff.1 ho).1
    refine hK _ w' ⟨h.env, h.vclosed, ?_, by simp [h.size], closed_set h.closed ho hw, ?_, ?_, by simp [h.tsize], ?_, ?_⟩ hsat'
    · intro i' o' hi' ho' hV' hnl'
      refine h.rcd i' o' hi' ho' hV' ?_
      cases hq : listed.getD i' false with
      | false => rfl
      | true => rw [listed_keep hq] at hnl'; cases hnl'
    · intro j hj hjl
      by_cases e : j = i
      · subst e; exact hV
      · exact h.sub j hj (listed_set hjl e)
    · intro j hj hjl
      cases hq : (listed.setIfInBounds i true).getD j false with
      | false => rfl
      | true => have := listed_set hq (by omega); rw [h.tail j hj hjl] at this; cases this
    · intro j oj dj hj hjl hoj hdj
      by_cases e : j = i
      · subst e
        rw [ho] at hoj; cases hoj
        rw [hd] at hdj; cases hdj
        exact Array.getElem?_setIfInBounds_self_of_lt hdlt
      · have hne : d ≠ dj := fun e2 => by
          subst e2
          exact e (ok.dst j oj hj hoj _ hdj i o hi ho hd)
        rw [Array.getElem?_setIfInBounds_ne hne]
        exact h.done j oj dj hj (listed_set hjl e) hoj hdj
    · intro t u ht hno
      have hil' : (listed.setIfInBounds i true).getD i false = true := by simp [show i < listed.size by rw [h.size]; exact hil]
      have hne : d ≠ t := fun e => by subst e; exact hno i o hi hil' ho hd
      rw [Array.getElem?_setIfInBounds_ne hne]
      exact h.old t u ht (fun j oj hj hjl hoj => hno j oj hj (listed_keep hjl) hoj)
/-- one more is calm -/
theorem DInv.calm (ok : DrawOk l g M) (h : DInv P ro n w0 l g M ds S r0 V r m val listed tmps) {i d : Nat} {o : Oper} {v : Value} (hi : i < g) (ho : l[i]? = some o) (hV : V.testBit i = false) (hr : readyV V o) (hd : o.dst = some d) (hnd : ∀ c, o.op ≠ .defer c)
    (hwl : ∀ m' F, m.le m' → WL P ro n w0 l.toArray (Q1 w0 d v ds m' (S ++ F)) [o] (Env.sel (o.looksAt l.toArray) r) ds m' (S ++ F)) :
    DInv P ro n w0 l g M ds S r0 (V ||| 1 <<< i) ((d, v) :: r) m (fun j => if j = i then v else val j) listed tmps := by
  have hval : ∀ j, V.testBit j = true → (if j = i then v else val j) = val j := fun j hj => if_neg (fun e => by subst e; rw [hV] at hj; cases hj)
  refine ⟨?_, ?_, ?_, h.size, h.closed, fun j hj hjl => bit_keep (h.sub j hj hjl), h.tail, h.tsize, ?_, h.old⟩
  · intro t u ht
    simp only [Env.get] at ht
    cases hq : Nat.beq d t with
    | true =>
      have e := Nat.eq_of_beq_eq_true hq
      subst e
      simp [hq] at ht
      subst ht
      exact .inl ⟨i, o, hi, bit_self V i, ho, hd, if_pos rfl⟩
    | false =>
      simp [hq] at ht
      rcases h.env t u ht with ⟨j, oj, hj, hjV, hoj, hdj, hv⟩ | ⟨h0, hno⟩
      · exact .inl ⟨j, oj, hj, bit_keep hjV, hoj, hdj, by rw [hval j hjV]; exact hv⟩
      · refine .inr ⟨h0, fun j oj hj hjV hoj hdj => ?_⟩
        by_cases e : j = i
        · subst e
          rw [ho] at hoj; cases hoj
          rw [hd] at hdj; cases hdj
          exact Nat.ne_of_beq_eq_false hq rfl
        · exact hno j oj hj (bit_old hjV e) hoj hdj
  · intro j oj hj hoj hjV e he hb
    by_cases e2 : j = i
    · subst e2
      rw [ho] at hoj; cases hoj
      exact bit_keep (hr e he hb)
    · exact bit_keep (h.vclosed j oj hj hoj (bit_old hjV e2) e he hb)
  · intro i' o' hi' ho' hV' hnl'
    by_cases e : i' = i
    · subst e
      rw [ho] at ho'; cases ho'
      refine ⟨d, r, hd, hnd, ?_, ?_⟩
      · intro t hlook u hget
        rcases h.env t u hget with ⟨j, oj, hj, hjV, hoj, hdj, hv⟩ | ⟨h0, hno⟩
        · rcases ok.reads i' o hi ho t hlook j oj hj hoj hdj with ⟨_, e, he, hb, hon⟩ | ⟨_, hbit⟩
          · exact .inl ⟨j, oj, hj, hoj, hdj, by rw [hval j hjV]; exact hv, e, he, hb, hon⟩
          · have := h.vmask ok hj hoj (h.vclosed j oj hj hoj hjV) hbit
            rw [hV] at this; cases this
        · refine .inr ⟨h0, fun j oj hj hoj hdj => ?_⟩
          rcases ok.reads i' o hi ho t hlook j oj hj hoj hdj with ⟨_, e, he, hb, hon⟩ | ⟨_, hbit⟩
          · have := hr e he hb
            rw [hon] at this
            exact absurd hdj (hno j oj hj this hoj)
          · exact hbit
      · simp only [if_true]
        exact hwl
    · have hVo := bit_old hV' e
      obtain ⟨d', ri, k1, k2, k3, k4⟩ := h.rcd i' o' hi' ho' hVo hnl'
      refine ⟨d', ri, k1, k2, ?_, by rw [hval i' hVo]; exact k4⟩
      intro t hlook u hget
      rcases k3 t hlook u hget with ⟨j, oj, hj, hoj, hdj, hv, e', he', hb', hon'⟩ | h2
      · have hjV : V.testBit j = true := by have := h.vclosed i' o' hi' ho' hVo e' he' hb'; rwa [hon'] at this
        exact .inl ⟨j, oj, hj, hoj, hdj, by rw [hval j hjV]; exact hv, e', he', hb', hon'⟩
      · exact .inr h2
  · intro j oj dj hj hjl hoj hdj
    rw [hval j (h.sub j hj hjl)]
    exact h.done j oj dj hj hjl hoj hdj
/-- one acts -/
theorem DInv.act (ok : DrawOk l g M) (h : DInv P ro n w0 l g M ds S r0 V r m val listed tmps) {i d : Nat} {o : Oper} {v : Value} {m' : Mem} {B : SHeap} (hi : i < g) (ho : l[i]? = some o) (hV : V.testBit i = false)
    (hw : ∀ e ∈ o.after, bind1 e = true → listed.getD e.on false = true) (hd : o.dst = some d) (hm : m.le m') (hdlt : d < tmps.size) :
    DInv P ro n w0 l g M ds (S ++ B) r0 (V ||| 1 <<< i) ((d, v) :: r) m' (fun j => if j = i then v else val j) (listed.setIfInBounds i true) (tmps.setIfInBounds d v) := by
  have hval : ∀ j, V.testBit j = true → (if j = i then v else val j) = val j := fun j hj => if_neg (fun e => by subst e; rw [hV] at hj; cases hj)
  have hil := (List.getElem?_eq_some_iff.1 ho).1
  have hr : readyV V o := fun e he hb => h.sub e.on (by have := ok.down i o ho e he hb; omega) (hw e he hb)
  refine ⟨?_, ?_, ?_, by simp [h.size], closed_set h.closed ho hw, ?_, ?_, by simp [h.tsize], ?_, ?_⟩
  · intro t u ht
    simp only [Env.get] at ht
    cases hq : Nat.beq d t with
    | true =>
      have e := Nat.eq_of_beq_eq_true hq
      subst e
      simp [hq] at ht
      subst ht
      exact .inl ⟨i, o, hi, bit_self V i, ho, hd, if_pos rfl⟩
    | false =>
      simp [hq] at ht
      rcases h.env t u ht with ⟨j, oj, hj, hjV, hoj, hdj, hv⟩ | ⟨h0, hno⟩
      · exact .inl ⟨j, oj, hj, bit_keep hjV, hoj, hdj, by rw [hval j hjV]; exact hv⟩
      · refine .inr ⟨h0, fun j oj hj hjV hoj hdj => ?_⟩
        by_cases e : j = i
        · subst e
          rw [ho] at hoj; cases hoj
          rw [hd] at hdj; cases hdj
          exact Nat.ne_of_beq_eq_false hq rfl
        · exact hno j oj hj (bit_old hjV e) hoj hdj
  · intro j oj hj hoj hjV e he hb
    by_cases e2 : j = i
    · subst e2
      rw [ho] at hoj; cases hoj
      exact bit_keep (hr e he hb)
    · exact bit_keep (h.vclosed j oj hj hoj (bit_old hjV e2) e he hb)
  · intro i' o' hi' ho' hV' hnl'
    have e : i' ≠ i := fun e => by
      subst e
      have : (listed.setIfInBounds i' true).getD i' false = true := by simp [show i' < listed.size by rw [h.size]; exact hil]
      rw [this] at hnl'; cases hnl'
    have hVo := bit_old hV' e
    have hnl : listed.getD i' false = false := by
      cases hq : listed.getD i' false with
      | false => rfl
      | true => rw [listed_keep hq] at hnl'; cases hnl'
    obtain ⟨d', ri, k1, k2, k3, k4⟩ := h.rcd i' o' hi' ho' hVo hnl
    refine ⟨d', ri, k1, k2, ?_, by rw [hval i' hVo]; exact fun m'' F hle => by rw [List.append_assoc]; exact k4 m'' (B ++ F) (hm.trans hle)⟩
    intro t hlook u hget
    rcases k3 t hlook u hget with ⟨j, oj, hj, hoj, hdj, hv, e', he', hb', hon'⟩ | h2
    · have hjV : V.testBit j = true := by have := h.vclosed i' o' hi' ho' hVo e' he' hb'; rwa [hon'] at this
      exact .inl ⟨j, oj, hj, hoj, hdj, by rw [hval j hjV]; exact hv, e', he', hb', hon'⟩
    · exact .inr h2
  · intro j hj hjl
    by_cases e : j = i
    · subst e; exact bit_self V j
    · exact bit_keep (h.sub j hj (listed_set hjl e))
  · intro j hj hjl
    cases hq : (listed.setIfInBounds i true).getD j false with
    | false => rfl
    | true => have := listed_set hq (by omega); rw [h.tail j hj hjl] at this; cases this
  · intro j oj dj hj hjl hoj hdj
    by_cases e : j = i
    · subst e
      rw [ho] at hoj; cases hoj
      rw [hd] at hdj; cases hdj
      simp only [if_true]
      exact Array.getElem?_setIfInBounds_self_of_lt hdlt
    · have hjl' := listed_set hjl e
      have hne : d ≠ dj := fun e2 => by
        subst e2
        exact e (ok.dst j oj hj hoj _ hdj i o hi ho hd)
      rw [Array.getElem?_setIfInBounds_ne hne, hval j (h.sub j hj hjl')]
      exact h.done j oj dj hj hjl' hoj hdj
  · intro t u ht hno
    have hil' : (listed.setIfInBounds i true).getD i false = true := by simp [show i < listed.size by rw [h.size]; exact hil]
    have hne : d ≠ t := fun e => by subst e; exact hno i o hi hil' ho hd
    rw [Array.getElem?_setIfInBounds_ne hne]
    exact h.old t u ht (fun j oj hj hjl hoj => hno j oj hj (listed_keep hjl) hoj)
/-- one acts that has no answer -/
theorem DInv.actN (ok : DrawOk l g M) (h : DInv P ro n w0 l g M ds S r0 V r m val listed tmps) {i : Nat} {o : Oper} {m' : Mem} {B : SHeap} (hi : i < g) (ho : l[i]? = some o) (hV : V.testBit i = false)
    (hw : ∀ e ∈ o.after, bind1 e = true → listed.getD e.on false = true) (hd : o.dst = none) (hm : m.le m') :
    DInv P ro n w0 l g M ds (S ++ B) r0 (V ||| 1 <<< i) r m' val (listed.setIfInBounds i true) tmps := by
  have hil := (List.getElem?_eq_some_iff.1 ho).1
  have hr : readyV V o := fun e he hb => h.sub e.on (by have := ok.down i o ho e he hb; omega) (hw e he hb)
  refine ⟨?_, ?_, ?_, by simp [h.size], closed_set h.closed ho hw, ?_, ?_, h.tsize, ?_, ?_⟩
  · intro t u ht
    rcases h.env t u ht with ⟨j, oj, hj, hjV, hoj, hdj, hv⟩ | ⟨h0, hno⟩
    · exact .inl ⟨j, oj, hj, bit_keep hjV, hoj, hdj, hv⟩
    · refine .inr ⟨h0, fun j oj hj hjV hoj hdj => ?_⟩
      by_cases e : j = i
      · subst e
        rw [ho] at hoj; cases hoj
        rw [hd] at hdj; cases hdj
      · exact hno j oj hj (bit_old hjV e) hoj hdj
  · intro j oj hj hoj hjV e he hb
    by_cases e2 : j = i
    · subst e2
      rw [ho] at hoj; cases hoj
      exact bit_keep (hr e he hb)
    · exact bit_keep (h.vclosed j oj hj hoj (bit_old hjV e2) e he hb)
  · intro i' o' hi' ho' hV' hnl'
    have e : i' ≠ i := fun e => by
      subst e
      have : (listed.setIfInBounds i' true).getD i' false = true := by simp [show i' < listed.size by rw [h.size]; exact hil]
      rw [this] at hnl'; cases hnl'
    have hVo := bit_old hV' e
    have hnl : listed.getD i' false = false := by
      cases hq : listed.getD i' false with
      | false => rfl
      | true => rw [listed_keep hq] at hnl'; cases hnl'
    obtain ⟨d', ri, k1, k2, k3, k4⟩ := h.rcd i' o' hi' ho' hVo hnl
    exact ⟨d', ri, k1, k2, k3, fun m'' F hle => by rw [List.append_assoc]; exact k4 m'' (B ++ F) (hm.trans hle)⟩
  · intro j hj hjl
    by_cases e : j = i
    · subst e; exact bit_self V j
    · exact bit_keep (h.sub j hj (listed_set hjl e))
  · intro j hj hjl
    cases hq : (listed.setIfInBounds i true).getD j false with
    | false => rfl
    | true => have := listed_set hq (by omega); rw [h.tail j hj hjl] at this; cases this
  · intro j oj dj hj hjl hoj hdj
    by_cases e : j = i
    · subst e
      rw [ho] at hoj; cases hoj
      rw [hd] at hdj; cases hdj
    · exact h.done j oj dj hj (listed_set hjl e) hoj hdj
  · intro t u ht hno
    exact h.old t u ht (fun j oj hj hjl hoj => hno j oj hj (listed_keep hjl) hoj)
theorem we_any (ok : DrawOk l g M) {K : Env → Mem → SHeap → SHeap → Prop} (hK : ∀ r m S U, K r m S U → WL P ro n w0 l.toArray Q (l.drop g) r ds m (S ++ U)) :
    ∀ (fuel k : Nat) (V : Nat) (r : Env) (m : Mem) (S U : SHeap) (val : Nat → Value) (listed : Array Bool) (tmps : Array Value) (w : World),
      WE P ro n w0 l g ds K k V r m S U → DInv P ro n w0 l g M ds S r0 V r m val listed tmps → Sat w0 m (S ++ U) w →
      ((List.range l.length).filter fun i => !listed.getD i false).length ≤ fuel → wpAnyIn (FW ro) 0 P .any l.toArray Q fuel listed ⟨tmps, marks ds⟩ w := by
  -- where all is done
  have final : ∀ (fuel : Nat) (V : Nat) (r : Env) (m : Mem) (S U : SHeap) (val : Nat → Value) (listed : Array Bool) (tmps : Array Value) (w : World), K r m S U → DInv P ro n w0 l g M ds S r0 V r m val listed tmps → Sat w0 m (S ++ U) w →
      (∀ i, i < g → listed.getD i false = true) → (∀ i, i < g → V.testBit i = true) → ((List.range l.length).filter fun i => !listed.getD i false).length ≤ fuel → wpAnyIn (FW ro) 0 P .any l.toArray Q fuel listed ⟨tmps, marks ds⟩ w := by
    intro fuel V r m S U val listed tmps w hk hI hs hall hV hf
    refine tail_any ok fuel g listed _ _ hI.size (Nat.le_refl _) ok.le (fun i hi => ⟨fun h => ?_, hall i⟩) ?_ ?_
    · rcases Nat.lt_or_ge i g with hlt | hge
      · exact hlt
      · rw [hI.tail i hge hi] at h; cases h
    · have : (List.range l.length).filter (fun i => !listed.getD i false) = (List.range l.length).filter (fun i => decide (g ≤ i)) := by
        apply List.filter_congr
        intro i hi
        have hi' := List.mem_range.1 hi
        rcases Nat.lt_or_ge i g with hlt | hge
        · rw [hall i hlt]; simp; omega
        · rw [hI.tail i hge hi']; simp [hge]
      rw [this] at hf
      have hcnt : l.length - g ≤ ((List.range l.length).filter (fun i => decide (g ≤ i))).length := by
        have hsub : List.Sublist (List.range' g (l.length - g)) ((List.range l.length).filter (fun i => decide (g ≤ i))) := by
          obtain ⟨k, hk⟩ : ∃ k, l.length = g + k := ⟨l.length - g, by have := ok.le; omega⟩
          have e : List.range l.length = List.range' 0 g ++ List.range' g (l.length - g) := by
            rw [List.range_eq_range', hk, Nat.add_sub_cancel_left]
            have := @List.range'_append 0 g k 1
            simpa using this.symm
          rw [e, List.filter_append]
          refine List.Sublist.trans ?_ (List.sublist_append_right _ _)
          rw [List.filter_eq_self.2 (fun i hi => by have := List.mem_range'_1.1 hi; simp; omega)]
          exact List.Sublist.refl _
        have := hsub.length_le
        simpa using this
      omega
    · refine hK r m S U hk tmps w ⟨hI.tsize, fun t u ht => ?_⟩ hs
      rcases hI.env t u ht with ⟨j, o, hj, _, hoj, hdj, hv⟩ | ⟨h0, hno⟩
      · rw [hI.done j o t hj (hall j hj) hoj hdj, hv]
      · exact hI.old t u h0 (fun j o hj hjl hoj => hno j o hj (hV j hj) hoj)
  intro fuel
  induction fuel with
  | zero =>
    intro k
    induction k with
    | zero => intro V r m S U val listed tmps w h; exact h.elim
    | succ k ihk =>
      intro V r m S U val listed tmps w h hI hs hf
      have hall : ∀ i, i < l.length → listed.getD i false = true := by
        intro i hi
        cases hq : listed.getD i false with
        | true => rfl
        | false =>
          exfalso
          have : i ∈ (List.range l.length).filter fun i => !listed.getD i false := by simp only [List.mem_filter, List.mem_range]; exact ⟨hi, by rw [hq]; rfl⟩
          have h0 := List.eq_nil_of_length_eq_zero (Nat.le_zero.1 hf)
          rw [h0] at this; cases this
      have hV : ∀ i, i < g → V.testBit i = true := fun i hi => hI.sub i hi (hall i (by have := ok.le; omega))
      rcases h with ⟨_, hk⟩ | ⟨i, o, d, v, hi, _, hVi, _⟩ | ⟨⟨i, hi, hVi⟩, _⟩
      · exact final 0 V r m S U val listed tmps w hk hI hs (fun i hi => hall i (by have := ok.le; omega)) hV hf
      · rw [hV i hi] at hVi; cases hVi
      · rw [hV i hi] at hVi; cases hVi
  | succ fuel ihf =>
    intro k
    induction k with
    | zero => intro V r m S U val listed tmps w h; exact h.elim
    | succ k ihk =>
      intro V r m S U val listed tmps w h hI hs hf
      by_cases hcalm : ∃ i o d v, i < g ∧ l[i]? = some o ∧ V.testBit i = false ∧ readyV V o ∧ o.dst = some d ∧ (∀ c, o.op ≠ .defer c) ∧
          (∀ m' F, m.le m' → WL P ro n w0 l.toArray (Q1 w0 d v ds m' (S ++ F)) [o] (Env.sel (o.looksAt l.toArray) r) ds m' (S ++ F)) ∧ WE P ro n w0 l g ds K k (V ||| 1 <<< i) ((d, v) :: r) m S U
      · obtain ⟨i, o, d, v, hi, ho, hV, hr, hd, hnd, hwl, hwe⟩ := hcalm
        exact ihk _ _ m S U _ listed tmps w hwe (hI.calm ok hi ho hV hr hd hnd hwl) hs hf
      -- an operation that is calm already, or one that acts
      have hcount : ∀ i, i < l.length → listed.getD i false = false → ((List.range l.length).filter fun k => !(listed.setIfInBounds i true).getD k false).length ≤ fuel := fun i hi hnl => by
        have := count_set hI.size hi hnl; omega
      by_cases hfin : ∀ i, i < g → listed.getD i false = true
      · have hV : ∀ i, i < g → V.testBit i = true := fun i hi => hI.sub i hi (hfin i hi)
        rcases h with ⟨_, hk⟩ | h | ⟨⟨i, hi, hVi⟩, _⟩
        · exact final _ V r m S U val listed tmps w hk hI hs hfin hV hf
        · exact absurd h hcalm
        · rw [hV i hi] at hVi; cases hVi
      refine ⟨fun hr => absurd (fun i hi => nothing_ready ok hI.size hr i (by have := ok.le; omega)) hfin, fun i hir => ?_⟩
      obtain ⟨h1, o, h2, h3⟩ := ready_of hir
      have hil := (List.getElem?_eq_some_iff.1 h2).1
      have hig : i < g := by
        rcases Nat.lt_or_ge i g with hlt | hge
        · exact hlt
        · exfalso
          refine hfin (fun k hk => ?_)
          exact mask_listed ok hI.closed i o h2 h3 k (ok.all i hge hil k (by omega))
      have hnl : listed.getD i false = false := by
        have hsz := hI.size
        simp only [Array.getD_eq_getD_getElem?] at h1 ⊢
        rw [Array.getElem?_eq_getElem (by omega)] at h1 ⊢
        exact h1
      cases hVi : V.testBit i with
      | true =>
        refine hI.deferred ok hs hig h2 hVi hnl h3 (fun tmps' w' hI' hs' => ?_)
        exact ihf (k + 1) V r m S U val _ tmps' w' h hI' hs' (hcount i hil hnl)
      | false =>
        rcases h with ⟨hV, _⟩ | h | ⟨_, h⟩
        · rw [hV i hig] at hVi; cases hVi
        · exact absurd h hcalm
        · have hrV : readyV V o := fun e he hb => hI.sub e.on (by have := ok.down i o h2 e he hb; omega) (h3 e he hb)
          have henv : ∀ t u, (Env.sel (o.looksAt l.toArray) r).get t = some u → tmps[t]? = some u := by
            intro t u ht
            obtain ⟨hlook, hget⟩ := Env.sel_get ht
            rcases hI.env t u hget with ⟨j, oj, hj, hjV, hoj, hdj, hv⟩ | ⟨h0, hno⟩
            · rcases ok.reads i o hig h2 t hlook j oj hj hoj hdj with ⟨_, e, he, hb, hon⟩ | ⟨_, hbit⟩
              · have := h3 e he hb
                rw [hon] at this
                rw [hI.done j oj t hj this hoj hdj, hv]
              · have := hI.vmask ok hj hoj (hI.vclosed j oj hj hoj hjV) hbit
                rw [hVi] at this; cases this
            · exact hI.old t u h0 (fun j oj hj hjl hoj => hno j oj hj (hI.sub j hj hjl) hoj)
          rcases h i o hig h2 hVi hrV with ⟨d, hd, hnd, hwl⟩ | ⟨hd, hnd, hwl⟩
          · refine wpOp_of_post (by simpa using h2) hd hnd ?_ ?_ (hwl tmps w ⟨hI.tsize, henv⟩ hs) ?_
            · rintro a w ⟨v, m', B, U', _, hdf, _⟩; exact hdf
            · intro e a w hq
              cases e <;> first | rfl | exact hq.elim
            · rintro v0 w' ⟨v, m', B, U', hv, _, hm, hs', hwe⟩
              have hdlt : d < tmps.size := by
                rcases Nat.lt_or_ge d tmps.size with hlt | hge
                · exact hlt
                · simp only at hv
                  rw [Array.getElem?_eq_none (by simpa using hge)] at hv; cases hv
              have hv0 : v0 = v := by
                simp only at hv
                rw [Array.getElem?_setIfInBounds_self_of_lt hdlt] at hv
                exact Option.some.inj hv
              subst hv0
              exact ihf k _ _ m' (S ++ B) U' _ _ _ w' hwe (hI.act ok hig h2 hVi h3 hd hm hdlt) hs' (hcount i hil hnl)
          · refine wpOp_of_postN (by simpa using h2) hd hnd ?_ ?_ (hwl tmps w ⟨hI.tsize, henv⟩ hs) ?_
            · rintro a w ⟨m', B, U', hdf, _⟩; exact hdf
            · intro e a w hq
              cases e <;> first | rfl | exact hq.elim
            · rintro w' ⟨m', B, U', _, hm, hs', hwe⟩
              exact ihf k _ _ m' (S ++ B) U' _ _ _ w' hwe (hI.actN ok hig h2 hVi h3 hd hm) hs' (hcount i hil hnl)
end sound
def readyB (V : Nat) (o : Oper) : Bool := o.after.all fun e => !bind1 e || V.testBit e.on
theorem readyB_iff {V : Nat} {o : Oper} : readyB V o = true ↔ readyV V o := by
  unfold readyB readyV
  rw [Array.all_eq_true']
  constructor
  · intro h e he hb
    have := h e he
    simpa [hb] using this
  · intro h e he
    cases hb : bind1 e with
    | false => simp
    | true => simp [h e he hb]
/-- no operation but these may come next -/
def onlyB (l : List Oper) (g V : Nat) (js : List Nat) : Bool :=
  ((List.range g).any fun i => !V.testBit i) && ((List.range g).all fun i => V.testBit i || js.contains i || match l[i]? with | some o => !readyB V o | none => true)
theorem onlyB_ok {l : List Oper} {g V : Nat} {js : List Nat} (h : onlyB l g V js = true) : (∃ i, i < g ∧ V.testBit i = false) ∧ ∀ i o, i < g → l[i]? = some o → V.testBit i = false → readyV V o → i ∈ js := by
  unfold onlyB at h
  rw [Bool.and_eq_true] at h
  constructor
  · obtain ⟨i, hi, hV⟩ := List.any_eq_true.1 h.1
    exact ⟨i, List.mem_range.1 hi, by simpa using hV⟩
  · intro i o hi ho hV hr
    have := List.all_eq_true.1 h.2 i (List.mem_range.2 hi)
    have hrb := readyB_iff.2 hr
    rw [ho, hV] at this
    simpa [hrb] using this
section build
variable {l : List Oper} {g : Nat} {S U : SHeap} {K : Env → Mem → SHeap → SHeap → Prop} {k V : Nat}
theorem WE.done (h : ((List.range g).all fun i => V.testBit i) = true) (hK : K r m S U) : WE P ro n w0 l g ds K (k + 1) V r m S U :=
  .inl ⟨fun i hi => List.all_eq_true.1 h i (List.mem_range.2 hi), hK⟩
theorem WE.calm (i : Nat) {o : Oper} {d : Nat} {v : Value} (hV : V.testBit i = false) (hi : Nat.blt i g = true) (ho : l[i]? = some o) (hr : readyB V o = true) (hd : o.dst = some d) (hnd : ∀ c, o.op ≠ .defer c)
    (hwl : ∀ m' F, m.le m' → WL P ro n w0 l.toArray (Q1 w0 d v ds m' (S ++ F)) [o] (Env.sel (o.looksAt l.toArray) r) ds m' (S ++ F))
    (h : WE P ro n w0 l g ds K k (V ||| 1 <<< i) ((d, v) :: r) m S U) : WE P ro n w0 l g ds K (k + 1) V r m S U :=
  .inr (.inl ⟨i, o, d, v, by simpa [Nat.blt_eq] using hi, ho, hV, readyB_iff.1 hr, hd, hnd, hwl, h⟩)
/-- what one that acts owes -/
def Acts (P : Program) (ro : Option Nat) (n : Nat) (w0 : World) (l : List Oper) (g : Nat) (ds : List Nat) (K : Env → Mem → SHeap → SHeap → Prop) (k V : Nat) (r : Env) (m : Mem) (S U : SHeap) (i : Nat) : Prop :=
  ∃ o d, l[i]? = some o ∧ o.dst = some d ∧ (∀ c, o.op ≠ .defer c) ∧
    WL P ro n w0 l.toArray (QE w0 d ds S m fun v m' S' U' => WE P ro n w0 l g ds K k (V ||| 1 <<< i) ((d, v) :: r) m' S' U') [o] (Env.sel (o.looksAt l.toArray) r) ds m (S ++ U)
theorem WE.acts (js : List Nat) (h : onlyB l g V js = true) (hj : ∀ i ∈ js, Acts P ro n w0 l g ds K k V r m S U i) : WE P ro n w0 l g ds K (k + 1) V r m S U := by
  obtain ⟨h1, h2⟩ := onlyB_ok h
  refine .inr (.inr ⟨h1, fun i o hi ho hV hr => ?_⟩)
  obtain ⟨o', d, ho', hd, hnd, hwl⟩ := hj i (h2 i o hi ho hV hr)
  rw [ho] at ho'; cases ho'
  exact .inl ⟨d, hd, hnd, hwl⟩
/-- a store comes next -/
theorem WE.act0 (i : Nat) {o : Oper} (h : onlyB l g V [i] = true) (ho : l[i]? = some o) (hd : o.dst = none) (hnd : ∀ c, o.op ≠ .defer c)
    (hwl : WL P ro n w0 l.toArray (QN w0 ds S m fun m' S' U' => WE P ro n w0 l g ds K k (V ||| 1 <<< i) r m' S' U') [o] (Env.sel (o.looksAt l.toArray) r) ds m (S ++ U)) : WE P ro n w0 l g ds K (k + 1) V r m S U := by
  obtain ⟨h1, h2⟩ := onlyB_ok h
  refine .inr (.inr ⟨h1, fun i' o' hi ho' hV hr => ?_⟩)
  have := h2 i' o' hi ho' hV hr
  rw [List.mem_singleton] at this
  subst this
  rw [ho] at ho'; cases ho'
  exact .inr ⟨hd, hnd, hwl⟩
theorem WE.act1 (i : Nat) {o : Oper} {d : Nat} (h : onlyB l g V [i] = true) (ho : l[i]? = some o) (hd : o.dst = some d) (hnd : ∀ c, o.op ≠ .defer c)
    (hwl : WL P ro n w0 l.toArray (QE w0 d ds S m fun v m' S' U' => WE P ro n w0 l g ds K k (V ||| 1 <<< i) ((d, v) :: r) m' S' U') [o] (Env.sel (o.looksAt l.toArray) r) ds m (S ++ U)) : WE P ro n w0 l g ds K (k + 1) V r m S U :=
  .acts [i] h (fun j hj => by rw [List.mem_singleton] at hj; subst hj; exact ⟨o, d, ho, hd, hnd, hwl⟩)
theorem WE.act2 (i j : Nat) {o o' : Oper} {d d' : Nat} (h : onlyB l g V [i, j] = true) (ho : l[i]? = some o) (hd : o.dst = some d) (hnd : ∀ c, o.op ≠ .defer c) (ho' : l[j]? = some o') (hd' : o'.dst = some d') (hnd' : ∀ c, o'.op ≠ .defer c)
    (hwl : WL P ro n w0 l.toArray (QE w0 d ds S m fun v m' S' U' => WE P ro n w0 l g ds K k (V ||| 1 <<< i) ((d, v) :: r) m' S' U') [o] (Env.sel (o.looksAt l.toArray) r) ds m (S ++ U))
    (hwl' : WL P ro n w0 l.toArray (QE w0 d' ds S m fun v m' S' U' => WE P ro n w0 l g ds K k (V ||| 1 <<< j) ((d', v) :: r) m' S' U') [o'] (Env.sel (o'.looksAt l.toArray) r) ds m (S ++ U)) : WE P ro n w0 l g ds K (k + 1) V r m S U :=
  .acts [i, j] h (fun q hq => by
    rcases List.mem_cons.1 hq with rfl | hq
    · exact ⟨o, d, ho, hd, hnd, hwl⟩
    · rw [List.mem_singleton] at hq; subst hq; exact ⟨o', d', ho', hd', hnd', hwl'⟩)
end build
/-- a region that draws its order, where some operations act -/
theorem WC.drawE {id : Nat} {l : List Oper} (g : Nat) (S U : SHeap) (hm : P.follows .mixedOrders = true) (hc : drawC l g = true) (hS : ∀ w, Sat w0 m H w → Sat w0 m (S ++ U) w)
    (h : WE P ro n w0 l g ds (fun r' m' S' U' => WL P ro n w0 l.toArray Q (l.drop g) r' ds m' (S' ++ U')) 200 0 r m S U) : WC P ro n w0 (.region id l.toArray true) Q r ds m H := by
  intro tmps w ho hs
  have ok := drawC_ok hc
  refine wpIn_region_draw fun t => ?_
  simp only [Region.schedule, hm, Bool.true_or, if_true]
  refine wpAnyIn_sound _ _ _ _ _ ?_
  have hz : ∀ k, (Array.replicate l.length false).getD k false = false := by
    intro k
    simp only [Array.getD_eq_getD_getElem?]
    by_cases hk : k < l.length
    · simp [hk]
    · rw [Array.getElem?_eq_none (by simpa using hk)]; rfl
  have hsz : l.toArray.size = l.length := by simp
  rw [hsz]
  refine we_any (r0 := r) ok (fun _ _ _ _ h => h) l.length 200 0 r m S U (fun _ => undef) _ tmps _ h ?_ (hS _ hs.drew) ?_
  · refine ⟨fun t u ht => .inr ⟨ht, fun j o _ hj => ?_⟩, fun j o _ _ hj => ?_, fun i o _ _ hj => ?_, by simp, fun j o _ hj => ?_, fun j _ hj => ?_, fun j _ _ => hz j, ho.size, fun j o d _ hj => ?_, fun t u ht _ => ho.at_ t u ht⟩
    · simp at hj
    · simp at hj
    · simp at hj
    · rw [hz] at hj; cases hj
    · rw [hz] at hj; cases hj
    · rw [hz] at hj; cases hj
  · exact Nat.le_trans (List.length_filter_le _ _) (by simp)
end
end Go.Eng

/-
  A walk's engine: ways out of a block that meet again. No condition.
-/
set_option linter.all false
namespace Go.Eng
open Go Go.RowKit
section
variable {P : Program} {ro : Option Nat} {n : Nat} {w0 : World} {Q : Exit → Act → World → Prop} {r : Env} {ds : List Nat} {m : Mem} {H : SHeap}
def QJoinX (n : Nat) (w0 : World) (id : Nat) (I : Env → List Nat → Mem → SHeap → Prop) (Q : Exit → Act → World → Prop) : Exit → Act → World → Prop
  | .exit j, a, w => if j = id then ∃ r ds m H, I r ds m H ∧ r.ok n a.tmps ∧ a.defers = marks ds ∧ Sat w0 m H w else Q (.exit j) a w
  | e, a, w => Q e a w
attribute [irreducible] QJoinX
end
end Go.Eng

/-
  A walk's engine: all that is calm at once. No condition.
-/
set_option linter.all false
namespace Go.Eng
open Go Go.RowKit
section
variable {P : Program} {ro : Option Nat} {n : Nat} {w0 : World} {r : Env} {ds : List Nat} {m : Mem} {l : List Oper} {g : Nat} {S U : SHeap} {K : Env → Mem → SHeap → SHeap → Prop} {k V : Nat}
theorem wcal (i : Nat) {o : Oper} {d : Nat} {v : Value}
    (h : WE P ro n w0 l g ds K k (V ||| 1 <<< i) ((d, v) :: r) m S U) (hV : V.testBit i = false := by decide +kernel) (hi : Nat.blt i g = true := by exact rfl) (ho : l[i]? = some o := by exact rfl) (hr : readyB V o = true := by decide +kernel) (hd : o.dst = some d := by exact rfl) (hnd : ∀ c, o.op ≠ .defer c := by intro c h; cases h)
    (hwl : ∀ m' F, m.le m' → WL P ro n w0 l.toArray (Q1 w0 d v ds m' (S ++ F)) [o] (Env.sel (o.looksAt l.toArray) r) ds m' (S ++ F)) : WE P ro n w0 l g ds K (k + 1) V r m S U :=
  WE.calm i hV hi ho hr hd hnd hwl h
end
theorem cm0 {G G' : Prop} (next : G') (h : Bx G' → G := by intro zzn; (try (refine wcal 0 ?_ (hwl := by intro zm zF zle; ((repeat (refine sp ?_; intros)); exact WQ.q1 rfl)))); (try (refine wcal 1 ?_ (hwl := by intro zm zF zle; ((repeat (refine sp ?_; intros)); exact WQ.q1 rfl)))); (try (refine wcal 2 ?_ (hwl := by intro zm zF zle; ((repeat (refine sp ?_; intros)); exact WQ.q1 rfl)))); (try (refine wcal 3 ?_ (hwl := by intro zm zF zle; ((repeat (refine sp ?_; intros)); exact WQ.q1 rfl)))); (try (refine wcal 4 ?_ (hwl := by intro zm zF zle; ((repeat (refine sp ?_; intros)); exact WQ.q1 rfl)))); (try (refine wcal 5 ?_ (hwl := by intro zm zF zle; ((repeat (refine sp ?_; intros)); exact WQ.q1 rfl)))); (try (refine wcal 6 ?_ (hwl := by intro zm zF zle; ((repeat (refine sp ?_; intros)); exact WQ.q1 rfl)))); (try (refine wcal 7 ?_ (hwl := by intro zm zF zle; ((repeat (refine sp ?_; intros)); exact WQ.q1 rfl)))); (try (refine wcal 8 ?_ (hwl := by intro zm zF zle; ((repeat (refine sp ?_; intros)); exact WQ.q1 rfl)))); (try (refine wcal 9 ?_ (hwl := by intro zm zF zle; ((repeat (refine sp ?_; intros)); exact WQ.q1 rfl)))); (try (refine wcal 10 ?_ (hwl := by intro zm zF zle; ((repeat (refine sp ?_; intros)); exact WQ.q1 rfl)))); (try (refine wcal 11 ?_ (hwl := by intro zm zF zle; ((repeat (refine sp ?_; intros)); exact WQ.q1 rfl)))); (try (refine wcal 12 ?_ (hwl := by intro zm zF zle; ((repeat (refine sp ?_; intros)); exact WQ.q1 rfl)))); (try (refine wcal 13 ?_ (hwl := by intro zm zF zle; ((repeat (refine sp ?_; intros)); exact WQ.q1 rfl)))); (try (refine wcal 14 ?_ (hwl := by intro zm zF zle; ((repeat (refine sp ?_; intros)); exact WQ.q1 rfl)))); (try (refine wcal 15 ?_ (hwl := by intro zm zF zle; ((repeat (refine sp ?_; intros)); exact WQ.q1 rfl)))); (try (refine wcal 16 ?_ (hwl := by intro zm zF zle; ((repeat (refine sp ?_; intros)); exact WQ.q1 rfl)))); (try (refine wcal 17 ?_ (hwl := by intro zm zF zle; ((repeat (refine sp ?_; intros)); exact WQ.q1 rfl)))); (try (refine wcal 18 ?_ (hwl := by intro zm zF zle; ((repeat (refine sp ?_; intros)); exact WQ.q1 rfl)))); (try (refine wcal 19 ?_ (hwl := by intro zm zF zle; ((repeat (refine sp ?_; intros)); exact WQ.q1 rfl)))); (try (refine wcal 20 ?_ (hwl := by intro zm zF zle; ((repeat (refine sp ?_; intros)); exact WQ.q1 rfl)))); (try (refine wcal 21 ?_ (hwl := by intro zm zF zle; ((repeat (refine sp ?_; intros)); exact WQ.q1 rfl)))); (try (refine wcal 22 ?_ (hwl := by intro zm zF zle; ((repeat (refine sp ?_; intros)); exact WQ.q1 rfl)))); (try (refine wcal 23 ?_ (hwl := by intro zm zF zle; ((repeat (refine sp ?_; intros)); exact WQ.q1 rfl)))); (try (refine wcal 24 ?_ (hwl := by intro zm zF zle; ((repeat (refine sp ?_; intros)); exact WQ.q1 rfl)))); (try (refine wcal 25 ?_ (hwl := by intro zm zF zle; ((repeat (refine sp ?_; intros)); exact WQ.q1 rfl)))); (try (refine wcal 26 ?_ (hwl := by intro zm zF zle; ((repeat (refine sp ?_; intros)); exact WQ.q1 rfl)))); (try (refine wcal 27 ?_ (hwl := by intro zm zF zle; ((repeat (refine sp ?_; intros)); exact WQ.q1 rfl)))); (try (refine wcal 28 ?_ (hwl := by intro zm zF zle; ((repeat (refine sp ?_; intros)); exact WQ.q1 rfl)))); (try (refine wcal 29 ?_ (hwl := by intro zm zF zle; ((repeat (refine sp ?_; intros)); exact WQ.q1 rfl)))); (try (refine wcal 30 ?_ (hwl := by intro zm zF zle; ((repeat (refine sp ?_; intros)); exact WQ.q1 rfl)))); (try (refine wcal 31 ?_ (hwl := by intro zm zF zle; ((repeat (refine sp ?_; intros)); exact WQ.q1 rfl)))); (try (refine wcal 32 ?_ (hwl := by intro zm zF zle; ((repeat (refine sp ?_; intros)); exact WQ.q1 rfl)))); (try (refine wcal 33 ?_ (hwl := by intro zm zF zle; ((repeat (refine sp ?_; intros)); exact WQ.q1 rfl)))); (try (refine wcal 34 ?_ (hwl := by intro zm zF zle; ((repeat (refine sp ?_; intros)); exact WQ.q1 rfl)))); (try (refine wcal 35 ?_ (hwl := by intro zm zF zle; ((repeat (refine sp ?_; intros)); exact WQ.q1 rfl)))); (try (refine wcal 36 ?_ (hwl := by intro zm zF zle; ((repeat (refine sp ?_; intros)); exact WQ.q1 rfl)))); (try (refine wcal 37 ?_ (hwl := by intro zm zF zle; ((repeat (refine sp ?_; intros)); exact WQ.q1 rfl)))); (try (refine wcal 38 ?_ (hwl := by intro zm zF zle; ((repeat (refine sp ?_; intros)); exact WQ.q1 rfl)))); (try (refine wcal 39 ?_ (hwl := by intro zm zF zle; ((repeat (refine sp ?_; intros)); exact WQ.q1 rfl)))); (try (refine wcal 40 ?_ (hwl := by intro zm zF zle; ((repeat (refine sp ?_; intros)); exact WQ.q1 rfl)))); (try (refine wcal 41 ?_ (hwl := by intro zm zF zle; ((repeat (refine sp ?_; intros)); exact WQ.q1 rfl)))); exact zzn.out) : G := h ⟨next⟩
end Go.Eng

/-
  Plain facts on the pieces of a text, second part: pieces lie in step with the forms; the last piece. No condition.
-/
set_option linter.all false
namespace Go.Eng
open Go
set_option linter.all false
/-- a place where a piece begins -/
def Reach (l : List UInt8) (j : Nat) : Prop := ∃ pre, pieces l = pre ++ from_ l j
theorem Reach.zero (l : List UInt8) : Reach l 0 := ⟨[], rfl⟩
theorem Reach.step {l : List UInt8} {j : Nat} (h : Reach l j) (hj : j < l.length) : Reach l (j + (readP l j).w) := by
  obtain ⟨pre, h⟩ := h
  exact ⟨pre ++ [readP l j], by rw [h, from_cons hj]; simp⟩
def lastP (l : List UInt8) : Pc := (pieces l).getLastD ⟨0, 0, 0, false⟩
end Go.Eng

/-
  Plain facts on the pieces of a text, third part: which places are boundaries, and what stands around a place. No condition.
-/
set_option linter.all false
namespace Go.Eng
open Go
set_option linter.all false
theorem from_split (l : List UInt8) : ∀ d k, l.length - k ≤ d → ∀ pre p post, from_ l k = pre ++ p :: post → k ≤ p.at_ ∧ p.at_ < l.length ∧ p = readP l p.at_ ∧ p :: post = from_ l p.at_ ∧ (∀ q ∈ pre, q.at_ < p.at_)
  | 0, k, hd, pre, p, post, h => by
    rw [from_nil (by omega)] at h; simp at h
  | d + 1, k, hd, pre, p, post, h => by
    by_cases hk : k < l.length
    · have hw := readP_w hk
      have h' := h
      rw [from_cons hk] at h
      cases pre with
      | nil =>
        simp only [List.nil_append, List.cons.injEq] at h
        obtain ⟨rfl, h2⟩ := h
        have ha := readP_at l k
        refine ⟨by omega, by omega, by rw [ha], by rw [ha, from_cons hk, h2], by simp⟩
      | cons q pre =>
        simp only [List.cons_append, List.cons.injEq] at h
        obtain ⟨rfl, h2⟩ := h
        obtain ⟨g1, g2, g3, g4, g5⟩ := from_split l d _ (by omega) pre p post h2
        refine ⟨by omega, g2, g3, g4, fun q hq => ?_⟩
        rcases List.mem_cons.1 hq with rfl | hq
        · rw [readP_at]; omega
        · exact g5 q hq
    · rw [from_nil hk] at h; simp at h
theorem pieces_split {l : List UInt8} {pre post : List Pc} {p : Pc} (h : pieces l = pre ++ p :: post) : p.at_ < l.length ∧ p = readP l p.at_ ∧ p :: post = from_ l p.at_ ∧ (∀ q ∈ pre, q.at_ < p.at_) :=
  (from_split l l.length 0 (by omega) pre p post h).2
theorem reach_of_mem {l : List UInt8} {p : Pc} (h : p ∈ pieces l) : Reach l p.at_ ∧ p.at_ < l.length ∧ p = readP l p.at_ := by
  obtain ⟨pre, post, e⟩ := List.append_of_mem h
  obtain ⟨h1, h2, h3, _⟩ := pieces_split e
  exact ⟨⟨pre, by rw [e, h3]⟩, h1, h2⟩
/-- a place within a form: where the form begins -/
def Within (l : List UInt8) (at_ i : Nat) : Prop := i < at_ ∧ at_ < i + (readP l i).w ∧ (readP l i).b = false
end Go.Eng

/-
  Plain facts: pieces that two texts have alike, their order; a rune's first piece. No condition.
-/
set_option linter.all false
namespace Go.Eng
open Go
/-- a piece's place in the order of pieces -/
def wt (l : List UInt8) (p : Pc) : Nat := if p.b then 16777216 + gb l p.at_ else p.r
def cm : List Nat → List Nat → Nat
  | x :: X, y :: Y => if x = y then cm X Y + 1 else 0
  | _, _ => 0
def cmpL : List Nat → List Nat → Int
  | [], [] => 0
  | [], _ :: _ => -1
  | _ :: _, [] => 1
  | x :: X, y :: Y => if x = y then cmpL X Y else if x < y then -1 else 1
theorem cm_pre : ∀ (P X Y : List Nat), cm (P ++ X) (P ++ Y) = P.length + cm X Y
  | [], X, Y => by simp
  | p :: P, X, Y => by simp [cm, cm_pre P X Y]; omega
theorem cmpL_pre : ∀ (P X Y : List Nat), cmpL (P ++ X) (P ++ Y) = cmpL X Y
  | [], X, Y => rfl
  | p :: P, X, Y => by simp [cmpL, cmpL_pre P X Y]
/-- two rows that have nothing alike at their heads -/
def stop : List Nat → List Nat → Prop
  | x :: _, y :: _ => x ≠ y
  | _, _ => True
theorem readP_cases {l : List UInt8} {k : Nat} (hk : k < l.length) : ((readP l k).b = true ∧ (readP l k).w = 1 ∧ (readP l k).r = 65533) ∨ ((readP l k).b = false ∧ (readP l k).w = wd (readP l k).r ∧ (readP l k).r ≤ 1114111) := by
  unfold readP
  split
  · exact .inl ⟨rfl, rfl, rfl⟩
  · rename_i h
    rcases dl_cases (l.drop k) (by simp; omega) with ⟨h1, h2, _⟩ | ⟨h2, _⟩
    · exact .inr ⟨rfl, h2, okr_le h1⟩
    · exact absurd h2 h
theorem wt_read {l : List UInt8} {k : Nat} : wt l (readP l k) = if (readP l k).b then 16777216 + gb l k else (readP l k).r := by unfold wt; rw [readP_at]
/-- so far all is alike -/
def Sh (a b : List UInt8) (n k : Nat) : Prop := ∃ pa pb, pieces a = pa ++ from_ a k ∧ pieces b = pb ++ from_ b k ∧ pa.length = n ∧ pb.length = n ∧ pa.map (wt a) = pb.map (wt b) ∧ k ≤ a.length ∧ k ≤ b.length
theorem Sh.start (a b : List UInt8) : Sh a b 0 0 := ⟨[], [], rfl, rfl, rfl, rfl, rfl, by omega, by omega⟩
theorem wt_same {a b : List UInt8} {k : Nat} (ha : k < a.length) (hb : k < b.length) : wt a (readP a k) = wt b (readP b k) ↔ readP a k = readP b k ∧ ((readP a k).b = true → gb a k = gb b k) := by
  rw [wt_read, wt_read]
  have h1 := readP_at a k
  have h2 := readP_at b k
  have h3 := gb_lt a k
  have h4 := gb_lt b k
  have e1 := readP_cases ha
  have e2 := readP_cases hb
  generalize readP a k = p at *
  generalize readP b k = q at *
  obtain ⟨pa, pw, pr, pb⟩ := p
  obtain ⟨qa, qw, qr, qb⟩ := q
  simp only at *
  subst h1; subst h2
  simp only [Pc.mk.injEq]
  rcases e1 with ⟨rfl, rfl, rfl⟩ | ⟨rfl, rfl, h5⟩ <;> rcases e2 with ⟨rfl, rfl, rfl⟩ | ⟨rfl, rfl, h6⟩
  · simp
  · simp; omega
  · simp; omega
  · simp; intro h; rw [h]
theorem Sh.next {a b : List UInt8} {n k : Nat} (h : Sh a b n k) (ha : k < a.length) (hb : k < b.length) (hw : wt a (readP a k) = wt b (readP b k)) : Sh a b (n + 1) (k + (readP a k).w) := by
  obtain ⟨pa, pb, h1, h2, h3, h4, h5, h6, h7⟩ := h
  have he := ((wt_same ha hb).1 hw).1
  rw [from_cons ha] at h1
  rw [from_cons hb] at h2
  have w1 := readP_w ha
  have w2 := readP_w hb
  refine ⟨pa ++ [readP a k], pb ++ [readP b k], by simpa using h1, by rw [he]; simpa using h2, by simp [h3], by simp [h4], by simp [h5, hw], by omega, by rw [he]; omega⟩
theorem Sh.done {a b : List UInt8} {n k : Nat} (h : Sh a b n k) (hs : k = a.length ∨ k = b.length ∨ wt a (readP a k) ≠ wt b (readP b k)) :
    n = cm ((pieces a).map (wt a)) ((pieces b).map (wt b)) ∧ cmpL ((pieces a).map (wt a)) ((pieces b).map (wt b)) = if k = a.length ∧ k = b.length then 0 else if k = a.length then -1 else if k = b.length then 1 else if wt a (readP a k) < wt b (readP b k) then -1 else 1 := by
  obtain ⟨pa, pb, h1, h2, h3, h4, h5, h6, h7⟩ := h
  rw [h1, h2, List.map_append, List.map_append, ← h5, cm_pre, cmpL_pre, List.length_map, h3]
  rcases Nat.lt_or_eq_of_le h6 with ha | ha
  · rw [from_cons ha]
    rcases Nat.lt_or_eq_of_le h7 with hb | hb
    · rw [from_cons hb]
      have hne : wt a (readP a k) ≠ wt b (readP b k) := by omega
      simp only [List.map_cons, cm, cmpL, if_neg hne]
      refine ⟨by omega, ?_⟩
      simp [show ¬ k = a.length by omega, show ¬ k = b.length by omega]
    · rw [from_nil (l := b) (k := k) (by omega)]
      simp only [List.map_cons, List.map_nil, cm, cmpL]
      refine ⟨by omega, ?_⟩
      rw [if_neg (by omega), if_neg (by omega), if_pos hb]
  · rw [from_nil (l := a) (k := k) (by omega)]
    rcases Nat.lt_or_eq_of_le h7 with hb | hb
    · rw [from_cons hb]
      simp only [List.map_cons, List.map_nil, cm, cmpL]
      refine ⟨by omega, ?_⟩
      rw [if_neg (by omega), if_pos ha]
    · rw [from_nil (l := b) (k := k) (by omega)]
      simp only [List.map_nil, cm, cmpL]
      refine ⟨by omega, ?_⟩
      rw [if_pos ⟨ha, hb⟩]
/-- the place of a rune's first piece -/
def idx : List Pc → Int → Int
  | [], _ => -1
  | p :: ps, r => if (p.r : Int) = r ∧ p.b = false then (p.at_ : Int) else idx ps r
def noIdx (ps : List Pc) (r : Int) : Prop := ∀ p ∈ ps, ¬ ((p.r : Int) = r ∧ p.b = false)
end Go.Eng

/-
  Plain facts on the pieces of a text, fourth part: the boundaries as a row of numbers, and the ones next to a place. No condition.
-/
set_option linter.all false
namespace Go.Eng
open Go
set_option linter.all false
/-- the boundaries of a text -/
def endsOf (l : List UInt8) : List Nat := (pieces l).map Pc.at_ ++ [l.length]
def leOf (k : Nat) : List Nat → Nat → Nat
  | [], a => a
  | x :: xs, a => leOf k xs (if x ≤ k then x else a)
def geOf (k : Nat) : List Nat → Nat → Nat
  | [], a => a
  | x :: xs, a => if k ≤ x then x else geOf k xs a
end Go.Eng

/-
  Plain facts: pieces of a text's beginning; a text's pieces as texts; from the end on. No condition.
-/
set_option linter.all false
namespace Go.Eng
open Go
/-- a piece's bytes -/
def txt (l : List UInt8) (p : Pc) : List UInt8 := (l.take (p.at_ + p.w)).drop p.at_
def mendOf (l w : List UInt8) (ps : List Pc) : List UInt8 := ps.flatMap fun p => if p.b then w else txt l p
def textsOf (l : List UInt8) (ps : List Pc) : List UInt8 := ps.flatMap (txt l)
/-- where the first so many pieces end -/
def cutK (l : List UInt8) (n : Int) : Nat := if n ≤ 0 then 0 else (endsOf l).getD n.toNat l.length
end Go.Eng

/-
  Plain facts: the pieces so far are the text's beginning; places within a form. No condition.
-/
set_option linter.all false
namespace Go.Eng
open Go
end Go.Eng

/-
  Plain facts on pieces: their order, and the pieces of a text's end. No condition.
-/
set_option linter.all false
namespace Go.Eng
open Go
theorem pc_broken {l : List UInt8} {p : Pc} (h : p ∈ pieces l) : p.b = true ↔ p.r = 65533 ∧ p.w = 1 := by
  obtain ⟨_, h2, h3⟩ := reach_of_mem h
  rw [h3]
  rcases readP_cases h2 with ⟨e1, e2, e3⟩ | ⟨e1, e2, e3⟩
  · rw [e1, e2, e3]; simp
  · rw [e1]
    constructor
    · intro h; cases h
    · rintro ⟨g1, g2⟩
      exfalso
      rw [g1] at e2
      have : wd 65533 = 3 := by decide
      omega
/-- a piece, told from further on -/
def Pc.sub (p : Pc) (n : Nat) : Pc := ⟨p.at_ - n, p.w, p.r, p.b⟩
end Go.Eng

/-
  Plain facts on changes of texts: steps, and what stands between the bytes that are kept. No condition.
-/
namespace Go.Eng
open Go
/-- a step as it came in -/
structure Stp where
  k : Int
  d : List UInt8
  p : List UInt8
  deriving DecidableEq
/-- what is put and what is dropped ahead of a byte that is kept, or at the end -/
structure Gap where
  p : List UInt8
  d : List UInt8
  deriving DecidableEq
/-- may it be: just one of the three -/
def stpOk (s : Stp) : Prop := (0 < s.k ∧ s.d = [] ∧ s.p = []) ∨ (s.k = 0 ∧ s.d ≠ [] ∧ s.p = []) ∨ (s.k = 0 ∧ s.d = [] ∧ s.p ≠ [])
instance (s : Stp) : Decidable (stpOk s) := by unfold stpOk; infer_instance
def maxT : Nat := 65536
/-- how many bytes a change is of, and makes, if it may be -/
def sizesF : List Stp → Int → Int → Option (Int × Int)
  | [], f, t => some (f, t)
  | s :: l, f, t => if stpOk s ∧ s.k ≤ maxT ∧ f + s.k + s.d.length ≤ maxT ∧ t + s.k + s.p.length ≤ maxT then sizesF l (f + s.k + s.d.length) (t + s.k + s.p.length) else none
def sizesOf (l : List Stp) : Option (Int × Int) := sizesF l 0 0
/-- the builder: what is done, and what is put and dropped since -/
structure Bld where
  l : List Stp
  p : List UInt8
  d : List UInt8
def Bld.close (b : Bld) : Bld := ⟨b.l ++ (if b.p = [] then [] else [⟨0, [], b.p⟩]) ++ (if b.d = [] then [] else [⟨0, b.d, []⟩]), [], []⟩
/-- a row is kept behind what is done -/
def addKeep (l : List Stp) (n : Int) : List Stp := match l.getLast? with
  | some s => if 0 < s.k then l.dropLast ++ [⟨s.k + n, s.d, s.p⟩] else l ++ [⟨n, [], []⟩]
  | none => [⟨n, [], []⟩]
def Bld.keep (b : Bld) (n : Int) : Bld := if n = 0 then b else ⟨addKeep b.close.l n, [], []⟩
def Bld.step (b : Bld) (s : Stp) : Bld := if 0 < s.k then b.keep s.k else if s.d ≠ [] then ⟨b.l, b.p, b.d ++ s.d⟩ else ⟨b.l, b.p ++ s.p, b.d⟩
def Bld.start : Bld := ⟨[], [], []⟩
def plainOf (l : List Stp) : List Stp := (l.foldl Bld.step Bld.start).close.l
/-- the gaps of a change -/
structure Gs where
  done : List Gap
  cur : Gap
def Gs.step (g : Gs) (s : Stp) : Gs := if 0 < s.k then ⟨g.done ++ g.cur :: List.replicate (s.k.toNat - 1) ⟨[], []⟩, ⟨[], []⟩⟩ else if s.d ≠ [] then ⟨g.done, ⟨g.cur.p, g.cur.d ++ s.d⟩⟩ else ⟨g.done, ⟨g.cur.p ++ s.p, g.cur.d⟩⟩
def Gs.start : Gs := ⟨[], ⟨[], []⟩⟩
def gapsOf (l : List Stp) : Gs := l.foldl Gs.step Gs.start
/-- the builder over gaps: each is laid, and a byte kept behind it -/
def bldGap (b : Bld) (g : Gap) : Bld := (⟨b.l, b.p ++ g.p, b.d ++ g.d⟩ : Bld).keep 1
def bldGs (g : Gs) : Bld := let b := g.done.foldl bldGap Bld.start; ⟨b.l, b.p ++ g.cur.p, b.d ++ g.cur.d⟩
theorem keep_pd (b : Bld) (n : Int) (hn : n ≠ 0) : (b.keep n).p = [] ∧ (b.keep n).d = [] := by unfold Bld.keep; rw [if_neg hn]; exact ⟨rfl, rfl⟩
theorem addKeep_add (l : List Stp) (m n : Int) (hm : 0 < m) : addKeep (addKeep l m) n = addKeep l (m + n) := by
  unfold addKeep
  cases h : l.getLast? with
  | none => simp [hm]
  | some s =>
    by_cases hs : 0 < s.k
    · simp only [hs, if_true]
      have : 0 < s.k + m := by omega
      simp [this, Int.add_assoc]
    · simp only [hs, if_false]
      simp [hm]
theorem close_keep (b : Bld) (n : Int) (hn : 0 < n) : (b.keep n).close = b.keep n := by
  unfold Bld.close
  obtain ⟨h1, h2⟩ := keep_pd b n (by omega)
  rw [h1, h2]
  cases hb : b.keep n with
  | mk l p d =>
    rw [hb] at h1 h2
    simp only at h1 h2
    subst h1; subst h2
    simp
theorem keep_keep (b : Bld) (m n : Int) (hm : 0 < m) (hn : 0 < n) : (b.keep m).keep n = b.keep (m + n) := by
  have h1 : (b.keep m).keep n = ⟨addKeep (b.keep m).close.l n, [], []⟩ := by
    conv => lhs; unfold Bld.keep
    rw [if_neg (by omega)]; rfl
  rw [h1, close_keep b m hm]
  unfold Bld.keep
  rw [if_neg (by omega), if_neg (by omega)]
  simp only []
  rw [addKeep_add _ _ _ hm]
theorem keeps_rep (b : Bld) : ∀ n : Nat, (List.replicate n (⟨[], []⟩ : Gap)).foldl bldGap (b.keep 1) = b.keep ((n : Int) + 1)
  | 0 => rfl
  | n + 1 => by
    rw [List.replicate_succ', List.foldl_append, keeps_rep b n]
    simp only [List.foldl_cons, List.foldl_nil, bldGap, List.append_nil]
    have h := keep_pd b ((n : Int) + 1) (by omega)
    rw [show (⟨(b.keep ((n : Int) + 1)).l, (b.keep ((n : Int) + 1)).p, (b.keep ((n : Int) + 1)).d⟩ : Bld) = b.keep ((n : Int) + 1) from rfl]
    rw [keep_keep b _ 1 (by omega) (by omega)]
    congr 1
/-- the builder sees a change's gaps alone -/
theorem bld_gaps : ∀ (l : List Stp) (g : Gs), l.foldl Bld.step (bldGs g) = bldGs (l.foldl Gs.step g)
  | [], _ => rfl
  | s :: l, g => by
    rw [List.foldl_cons, List.foldl_cons, ← bld_gaps l]
    congr 1
    unfold Bld.step Gs.step
    by_cases h1 : 0 < s.k
    · simp only [h1, if_true]
      rw [bldGs, bldGs]
      simp only [List.foldl_append, List.foldl_cons, List.append_nil]
      have := keeps_rep (⟨(g.done.foldl bldGap Bld.start).l, (g.done.foldl bldGap Bld.start).p ++ g.cur.p, (g.done.foldl bldGap Bld.start).d ++ g.cur.d⟩ : Bld) (s.k.toNat - 1)
      rw [show bldGap (g.done.foldl bldGap Bld.start) g.cur = (⟨(g.done.foldl bldGap Bld.start).l, (g.done.foldl bldGap Bld.start).p ++ g.cur.p, (g.done.foldl bldGap Bld.start).d ++ g.cur.d⟩ : Bld).keep 1 from rfl, this]
      rw [show ((s.k.toNat - 1 : Nat) : Int) + 1 = s.k by omega]
    · simp only [h1, if_false]
      by_cases h2 : s.d = []
      · simp [h2, bldGs]
      · simp [h2, bldGs]
theorem plain_gaps (l : List Stp) : plainOf l = (bldGs (gapsOf l)).close.l := by
  rw [plainOf, gapsOf, ← bld_gaps]; rfl
end Go.Eng

/-
  Numbers and quoted texts as a change's text has them. No condition.
-/
namespace Go.Eng
open Go
/-- a digit to the base 10, to the base 16 -/
def decB (n : Nat) : UInt8 := UInt8.ofNat (48 + n)
def hexs : List UInt8 := [48, 49, 50, 51, 52, 53, 54, 55, 56, 57, 97, 98, 99, 100, 101, 102]
def hexB (n : Nat) : UInt8 := hexs.getD n 0
def decL (n : Nat) : List UInt8 := if n < 10 then [decB n] else decL (n / 10) ++ [decB (n % 10)]
termination_by n
def hexL (n : Nat) : List UInt8 := if n < 16 then [hexB n] else hexL (n / 16) ++ [hexB (n % 16)]
termination_by n
def decHi (n : Nat) : List UInt8 := if 9 < n then decL (n / 10) else []
def hexHi (n : Nat) : List UInt8 := if 15 < n then hexL (n / 16) else []
theorem decL_hi (n : Nat) : decHi n ++ [decB (n % 10)] = decL n := by
  rw [decL, decHi]
  by_cases h : n < 10
  · rw [if_pos h, if_neg (by omega), Nat.mod_eq_of_lt h]; rfl
  · rw [if_neg h, if_pos (by omega)]
theorem hexL_hi (n : Nat) : hexHi n ++ [hexB (n % 16)] = hexL n := by
  rw [hexL, hexHi]
  by_cases h : n < 16
  · rw [if_pos h, if_neg (by omega), Nat.mod_eq_of_lt h]; rfl
  · rw [if_neg h, if_pos (by omega)]
theorem decB_int {n : Nat} (h : n < 10) : (48 + (n : Int)) = ((decB n).toNat : Int) := by
  have : (decB n).toNat = 48 + n := by
    unfold decB
    rw [UInt8.toNat_ofNat']
    omega
  rw [this]; omega
/-- what a digit to the base 16 stands for; -1: it is none -/
def hexV (c : UInt8) : Int := if 48 ≤ c.toNat ∧ c.toNat ≤ 57 then (c.toNat : Int) - 48 else if 97 ≤ c.toNat ∧ c.toNat ≤ 102 then (c.toNat : Int) - 87 else -1
/-- one piece in quotes -/
def pieceW (s : List UInt8) (p : Pc) : List UInt8 :=
  if p.b = true then [92, 120, hexB (gb s p.at_ / 16), hexB (gb s p.at_ % 16)]
  else if p.r = 34 ∨ p.r = 92 then [92, UInt8.ofNat p.r]
  else if 32 ≤ p.r ∧ p.r ≤ 126 then [UInt8.ofNat p.r]
  else [92, 123] ++ hexL p.r ++ [125]
def piecesW (s : List UInt8) (l : List Pc) : List UInt8 := l.flatMap (pieceW s)
def quotedW (s : List UInt8) : List UInt8 := [34] ++ piecesW s (pieces s) ++ [34]
/-- a change's text -/
def stpW (x : Stp) : List UInt8 := if 0 < x.k then 61 :: decL x.k.toNat else if x.d ≠ [] then 45 :: quotedW x.d else 43 :: quotedW x.p
def printW : List Stp → List UInt8
  | [] => []
  | [x] => stpW x
  | x :: y :: l => stpW x ++ [32] ++ printW (y :: l)
end Go.Eng

/-
  A walk's engine, sixteenth part: how a law's arguments are read, ahead of the call and behind it. No condition.
-/
set_option linter.all false
namespace Go.Eng
open Go Go.RowKit Go.ChangeShapes Go.WideShapes Go.ChangeMaps
section
variable {H : Type} {enc : TypeId × Value → H} {P : Program}
theorem same_below {W W' : World} (hb : Below W.heap.size W W') {p : MemPlace} (hp : p.block < W.heap.size) : W.sameAt W' p := by
  cases p with
  | cell b off =>
    have h := hb.block b hp
    show W'.cell? ⟨b, off, none⟩ = W.cell? ⟨b, off, none⟩
    simp only [World.cell?, h]
  | map b => exact hb.block b hp
theorem trod_again {W W' : World} {sp : Nat → Bool} {t : TypeId} {v : Value} {d : DataW H} {p : List MemPlace} (hl : laidOutB P = true) (ht : t < P.types.size) (hr : P.readableRec t = true)
    (h : DataW.Trod enc P W 0 (fun _ => true) true t v d p) (hlt : ∀ q ∈ p, q.block < W.heap.size) (hb : Below W.heap.size W W') (hs : ∀ q ∈ p, sp q.block = true) : DataW.Trod enc P W' 0 sp true t v d p := by
  obtain ⟨n, hn⟩ := h
  have h1 := DataW.trod_carry (w' := W') n _ _ _ hn (fun q hq => same_below hb (hlt q hq))
  exact ⟨n, DataW.trod_respare (kids_book hl hr) (fun t e hT hu => book_sized hr hT hu) n _ _ _ ⟨ht, book_self t⟩ h1 hs⟩
theorem args_again {W W' : World} {sp : Nat → Bool} (hl : laidOutB P = true) (hb : Below W.heap.size W W') : ∀ {ts : List TypeId} {vs : List Value} {ds : List (DataW H)} {p : List MemPlace},
    (∀ t ∈ ts, t < P.types.size ∧ P.readableRec t = true) → DataW.TrodAll enc P W 0 (fun _ => true) true ts vs ds p → (∀ q ∈ p, sp q.block = true) → DataW.TrodAll enc P W' 0 sp true ts vs ds p
  | [], [], [], _, _, h, _ => h
  | t :: ts, v :: vs, d :: ds, p, hts, h, hs => by
    have hlt := DataW.TrodAll.lt h
    obtain ⟨a, b, h1, h2, e⟩ := h
    subst e
    obtain ⟨g1, g2⟩ := hts t List.mem_cons_self
    exact ⟨a, b, trod_again hl g1 g2 h1 (fun q hq => hlt q (List.mem_append_left _ hq)) hb (fun q hq => hs q (List.mem_append_left _ hq)),
      args_again hl hb (fun t ht => hts t (List.mem_cons_of_mem _ ht)) h2 (fun q hq => hs q (List.mem_append_right _ hq)), rfl⟩
/-- a law that says true, and leaves all that it was handed -/
theorem post_true {f : Func} {s : ChangeSpec} {apart fresh handsOn again : Bool} {W W' : World} {args : Array Value} {ds gs : List (DataW H)} {before : List MemPlace} {tb : TypeId}
    (hW : DataW.Whole enc P f.params.toList s.vars apart W args.toList ds gs before) (hvars : s.vars = []) (hfn : s.fn H (ds ++ gs) = { results := [.lit (.bool true)], args := ds })
    (hres : f.resultTypes = #[tb]) (htb : P.underlying tb = some .bool) (hl : laidOutB P = true) (hts : (f.params.toList.all fun t => decide (t < P.types.size) && P.readableRec t) = true) (hb : Below W.heap.size W W') :
    s.post enc P f apart fresh handsOn again W args (.bool true) W' := by
  have hW2 := hW
  obtain ⟨p, q, hA, hV, e, _, _⟩ := hW
  rw [hvars] at hV
  obtain ⟨rfl, rfl⟩ := trodVars_none hV
  rw [List.append_nil] at e
  subst e
  have hts' : ∀ t ∈ f.params.toList, t < P.types.size ∧ P.readableRec t = true := fun t ht => by simpa using List.all_eq_true.1 hts t ht
  refine post_below (pa := before) (pv := []) hW2 (fun _ _ _ => ?_) (fun sp hs => ?_) (fun _ _ => ?_) (by simp) hb ?_
  · rw [hfn, hres]; exact trodAll_cons_mk (shut_bool htb _) trodAll_mk0
  · rw [hfn]; exact args_again hl hb hts' hA hs
  · rw [hfn, hvars]; rfl
  · intro j t r h1 h2
    rw [hres] at h1 h2
    match j, h1 with
    | 0, h1 =>
      simp at h1; subst h1
      simp [Value.resultList] at h2
      subst h2
      exact okWide_bool_mk htb _
/-- a slice that came in, of elements of one cell -/
theorem RowR.came {w0 W : World} {Hp : SHeap} {sz : Nat} {a : Option Addr} {es : List (List Value)} (h1 : ∀ e ∈ es, e.length = sz)
    (h2 : match a with | .none => es = [] | .some b => ∀ j v, es.flatten[j]? = .some v → W.cell? (b.add j) = .some v) : RowR w0 (memOf W) Hp sz a es := by
  intro w hs
  refine ⟨h1, ?_⟩
  cases a with
  | none => exact h2
  | some b =>
    intro j v hj
    have hc := h2 j v hj
    generalize b.add j = c at hc ⊢
    obtain ⟨b, o, s⟩ := c
    cases hh : W.heap[b]? with
    | none => cases s <;> simp [World.cell?, hh] at hc
    | some ob =>
      have := hs.pers b ob hh
      cases s <;> simpa [World.cell?, this, hh] using hc
end
end Go.Eng

/-
  The walks of the reference's figures and hex. No condition.
-/
namespace Go.Proofs.YtelgegefmjlimaaDoor
open Go Go.Eng
set_option maxRecDepth 100000
set_option maxHeartbeats 4000000
set_option linter.all false
attribute [local irreducible] WL WC WQ QFun QLoop Does Q1 QRound QAssign Go.Addr.add
theorem figures_any (n : Nat) (hn : n ≤ 1000000000) (w0 : World) (m : Mem) (H : SHeap) :
    Does Tryd.prog 63 #[.int .i64 (n : Int)] w0 m H (Gives (str (decL n)) m H) := by
  refine Does.of_body (args := [.int .i64 (n : Int)]) Tryd.func63 rfl Tryd.ntmps63 rfl ?_
  have e0 : (48 + (n : Int) % 10) = ((decB (n % 10)).toNat : Int) := by rw [← decB_int (show n % 10 < 10 by omega)]; omega
  (refine st ?_; intros; rename_i q)
  rw [e0]
  refine WL.blkStr (s := [decB (n % 10)]) rfl zhs rfl rfl rfl rfl rfl rfl rfl ?_
  (try (refine st ?_; intros))
  refine WC.loopH [(0, .int .i64 ((n) : Int)), (3, str ([decB (n % 10)]))] ?_ ?_ (fun j r ds m' H' => ∃ (u : Nat) (d : List UInt8), j = 2 * u ∧ r = [(0, .int .i64 (u : Int)), (3, str d)] ∧ ds = [] ∧ m = m' ∧ H' = H ∧ (decHi u ++ d = decL n) ∧ (u ≤ n ∧ d.length + u ≤ n + 1)) (2 * (n)) ⟨n, [decB (n % 10)], rfl, rfl, rfl, rfl, rfl, decL_hi n, ⟨Nat.le_refl _, by simp; omega⟩⟩ ?_
  · (repeat (first | exact Env.Sub.nil | refine Env.Sub.cons rfl ?_))
  · exact zpk
  rintro j r ds m' H' ⟨u, d, rfl, rfl, rfl, rfl, rfl, hd, hv⟩
  generalize H' = H
  by_cases h9 : 9 < u
  · have e1 : (48 + (u : Int) / 10 % 10) = ((decB (u / 10 % 10)).toNat : Int) := by rw [← decB_int (show u / 10 % 10 < 10 by omega)]; omega
    have e2 : (u : Int) / 10 = ((u / 10 : Nat) : Int) := by omega
    have hl1 : ([decB (u / 10 % 10)] : List UInt8).length = 1 := rfl
    (refine st ?_; intros; rename_i q)
    rw [e1]
    refine WL.blkStr (s := [decB (u / 10 % 10)]) rfl zhs rfl rfl rfl rfl rfl rfl rfl ?_
    (try (refine st ?_; intros))
    rw [e2]
    refine WQ.next (2 * (u / 10)) ⟨u / 10, [decB (u / 10 % 10)] ++ d, rfl, rfl, rfl, rfl, rfl, ?_, ?_⟩ (by omega) zsb zpk
    · rw [← hd, ← List.append_assoc, decL_hi, decHi, if_pos h9]
    · rw [List.length_append, List.length_singleton]; omega
  · have e : d = decL n := by rw [← hd, decHi, if_neg h9]; rfl
    subst e
    (try (refine st ?_; intros))
    exact q_fin0 (H0 := H) (Gives.mk rfl) (hd := zpk)
end Go.Proofs.YtelgegefmjlimaaDoor

/-
  A walk's engine, nineteenth part: arrays by their address: elements, slices of them, and what is copied there. No condition.
-/
set_option linter.all false
namespace Go.Eng
open Go Go.RowKit
section
variable {P : Program} {ro : Option Nat} {n : Nat} {w0 : World} {Q : Exit → Act → World → Prop} {r : Env} {ds : List Nat} {m : Mem} {H : SHeap}
  {ops : Array Oper} {l : List Oper} {d : Nat} {ty : TypeId} {pos : String} {after : Array Edge} {t t' : TypeId} {x y : Operand}
theorem WL.indexAddrA {e : TypeId} {b o k sz i q : Nat} {ki : IntKind} {z : Int} (hx : r.ev x = some (.pointer (some ⟨b, o, none⟩))) (hy : r.ev y = some (.int ki z)) (hz : z = (i : Int)) (hu : P.underlying t = some (.array k e)) (hsz : sizeB P e = some sz)
    (hi : i < k) (hd : Nat.blt d n = true) (hq : lit (o + i * sz) = some q) (h : WL P ro n w0 ops Q l ((d, .pointer (some ⟨b, q, none⟩)) :: r) ds m H) :
    WL P ro n w0 ops Q (⟨some d, .indexAddr t x y, ty, pos, after, none⟩ :: l) r ds m H := by
  rw [lit_eq] at hq
  have hq := Option.some.inj hq
  subst hz; subst hq
  refine .val hd (fun _ h => by cases h) (fun tmps w ho _ => ?_) h
  have h1 : (0 : Int) ≤ (i : Int) ∧ (i : Int) < (k : Int) := by omega
  simp only [execOp, Instr.indexAt, asIntOf, Instr.sureAddr, ho.ev hx, ho.ev hy, Sem.run_bind, Sem.run_pure, Result.andThen_ok, run_underlying hu]
  simp [h1, run_size hsz, add_none]
end
section
variable {P : Program} {ro : Option Nat} {n : Nat} {w0 : World} {Q : Exit → Act → World → Prop} {r : Env} {ds : List Nat} {m : Mem} {H : SHeap} {ops : Array Oper} {l : List Oper}
theorem WL.heap {H' : SHeap} (hh : ∀ w, Sat w0 m H w → Sat w0 m H' w) (h : WL P ro n w0 ops Q l r ds m H') : WL P ro n w0 ops Q l r ds m H := fun tmps w ho hs => h tmps w ho (hh w hs)
end
theorem all_nil {α : Type} {p : α → Prop} : ∀ x ∈ ([] : List α), p x := fun _ h => by cases h
theorem all_cons {α : Type} {p : α → Prop} {a : α} {l : List α} (h : p a) (k : ∀ x ∈ l, p x) : ∀ x ∈ a :: l, p x := fun x hx => by
  rcases List.mem_cons.1 hx with rfl | hx
  · exact h
  · exact k x hx
theorem Acts.mk {P : Program} {ro : Option Nat} {n : Nat} {w0 : World} {l : List Oper} {g : Nat} {ds : List Nat} {K : Env → Mem → SHeap → SHeap → Prop} {k V : Nat} {r : Env} {m : Mem} {S U : SHeap} {i : Nat} {o : Oper} {d : Nat} (ho : l[i]? = some o) (hd : o.dst = some d) (hnd : ∀ c, o.op ≠ .defer c)
    (h : WL P ro n w0 l.toArray (QE w0 d ds S m fun v m' S' U' => WE P ro n w0 l g ds K k (V ||| 1 <<< i) ((d, v) :: r) m' S' U') [o] (Env.sel (o.looksAt l.toArray) r) ds m (S ++ U)) : Acts P ro n w0 l g ds K k V r m S U i := ⟨o, d, ho, hd, hnd, h⟩
end Go.Eng

/-
  Plain facts on changes, said place by place. No condition.
-/
namespace Go.Eng
open Go
/-- a change said place by place: what it puts at each place; of each byte, whether it drops it, and which it is -/
def putsG (g : Gap) : List (List UInt8) := g.p :: List.replicate g.d.length []
def dropsG (g : Gap) : List Bool := List.replicate g.d.length true ++ [false]
def bytesG (g : Gap) : List UInt8 := g.d ++ [0]
def putsOf (g : Gs) : List (List UInt8) := g.done.flatMap putsG ++ putsG g.cur
def dropsOf (g : Gs) : List Bool := g.done.flatMap dropsG ++ List.replicate g.cur.d.length true
def bytesOf (g : Gs) : List UInt8 := g.done.flatMap bytesG ++ g.cur.d
theorem dropsG_len (g : Gap) : (dropsG g).length = g.d.length + 1 := by simp [dropsG]
theorem bytesG_len (g : Gap) : (bytesG g).length = g.d.length + 1 := by simp [bytesG]
theorem putsG_len (g : Gap) : (putsG g).length = g.d.length + 1 := by simp [putsG]
theorem said_len (g : Gs) : (bytesOf g).length = (dropsOf g).length ∧ (putsOf g).length = (dropsOf g).length + 1 := by
  have h : ∀ l : List Gap, (l.flatMap bytesG).length = (l.flatMap dropsG).length ∧ (l.flatMap putsG).length = (l.flatMap dropsG).length := by
    intro l
    induction l with
    | nil => exact ⟨rfl, rfl⟩
    | cons a l ih => simp only [List.flatMap_cons, List.length_append, bytesG_len, putsG_len, dropsG_len]; omega
  obtain ⟨h1, h2⟩ := h g.done
  simp only [bytesOf, dropsOf, putsOf, List.length_append, List.length_replicate, putsG_len]
  omega
/-- one place of it -/
def posStep (b : Bld) (x : List UInt8 × Bool × UInt8) : Bld := if x.2.1 then ⟨b.l, b.p ++ x.1, b.d ++ [x.2.2]⟩ else (⟨b.l, b.p ++ x.1, b.d⟩ : Bld).keep 1
def posOf (g : Gs) : List (List UInt8 × Bool × UInt8) := (putsOf g).zip ((dropsOf g).zip (bytesOf g))
theorem pos_drops (b : Bld) : ∀ d : List UInt8, ((List.replicate d.length ([] : List UInt8)).zip ((List.replicate d.length true).zip d)).foldl posStep b = ⟨b.l, b.p, b.d ++ d⟩
  | [] => by cases b; simp
  | x :: d => by
    simp only [List.length_cons, List.replicate_succ, List.zip_cons_cons, List.foldl_cons]
    rw [pos_drops _ d]
    simp [posStep]
theorem pos_gap (b : Bld) (g : Gap) : ((putsG g).zip ((dropsG g).zip (bytesG g))).foldl posStep b = bldGap b g := by
  unfold putsG dropsG bytesG bldGap
  cases hd : g.d with
  | nil => simp [posStep]
  | cons x d =>
    have e1 : (List.replicate (x :: d).length true ++ [false]).zip (x :: d ++ [0]) = (true, x) :: ((List.replicate d.length true).zip d ++ [(false, (0 : UInt8))]) := by
      simp only [List.length_cons, List.replicate_succ, List.cons_append, List.zip_cons_cons]
      rw [List.zip_append (by simp)]
      simp
    rw [e1]
    have e2 : (g.p :: List.replicate (x :: d).length ([] : List UInt8)).zip ((true, x) :: ((List.replicate d.length true).zip d ++ [(false, (0 : UInt8))])) =
        (g.p, true, x) :: ((List.replicate d.length ([] : List UInt8)).zip ((List.replicate d.length true).zip d) ++ [([], false, 0)]) := by
      rw [List.zip_cons_cons, List.length_cons, List.replicate_succ', List.zip_append (by simp)]
      simp
    rw [e2, List.foldl_cons, List.foldl_append, pos_drops]
    simp [posStep]
theorem pos_done : ∀ (l : List Gap) (b : Bld), ((l.flatMap putsG).zip ((l.flatMap dropsG).zip (l.flatMap bytesG))).foldl posStep b = l.foldl bldGap b
  | [], _ => rfl
  | g :: l, b => by
    rw [List.flatMap_cons, List.flatMap_cons, List.flatMap_cons, List.zip_append (by rw [dropsG_len, bytesG_len]), List.zip_append (by rw [putsG_len, List.length_zip, dropsG_len, bytesG_len]; simp), List.foldl_append, pos_gap, pos_done l, List.foldl_cons]
/-- a text put together place by place is the builder over gaps -/
theorem pos_all (g : Gs) : let b := (posOf g).foldl posStep Bld.start; (⟨b.l, b.p ++ (putsOf g).getD (dropsOf g).length [], b.d⟩ : Bld) = bldGs g := by
  have hl := said_len ⟨g.done, ⟨[], []⟩⟩
  have h : ∀ l : List Gap, (l.flatMap bytesG).length = (l.flatMap dropsG).length ∧ (l.flatMap putsG).length = (l.flatMap dropsG).length := by
    intro l
    induction l with
    | nil => exact ⟨rfl, rfl⟩
    | cons a l ih => simp only [List.flatMap_cons, List.length_append, bytesG_len, putsG_len, dropsG_len]; omega
  obtain ⟨h1, h2⟩ := h g.done
  have e : posOf g = (g.done.flatMap putsG).zip ((g.done.flatMap dropsG).zip (g.done.flatMap bytesG)) ++ (putsG g.cur).zip ((List.replicate g.cur.d.length true).zip g.cur.d) := by
    rw [posOf, putsOf, dropsOf, bytesOf, List.zip_append (by omega), List.zip_append (by rw [List.length_zip]; omega)]
  simp only []
  rw [e, List.foldl_append, pos_done]
  unfold bldGs
  simp only []
  have hlen : (dropsOf g).length = (g.done.flatMap putsG).length + g.cur.d.length := by rw [dropsOf, List.length_append, List.length_replicate]; omega
  have hget : (putsOf g).getD (dropsOf g).length [] = (putsG g.cur).getD g.cur.d.length [] := by
    rw [hlen, putsOf, List.getD_eq_getElem?_getD, List.getD_eq_getElem?_getD, List.getElem?_append_right (by omega)]
    congr 2; omega
  rw [hget]
  cases hd : g.cur.d with
  | nil => simp [putsG, hd]
  | cons x d =>
    have e2 : (putsG g.cur).zip ((List.replicate (x :: d).length true).zip (x :: d)) = (g.cur.p, true, x) :: (List.replicate d.length ([] : List UInt8)).zip ((List.replicate d.length true).zip d) := by
      have e3 : (List.replicate (x :: d).length true).zip (x :: d) = (true, x) :: (List.replicate d.length true).zip d := by rw [List.length_cons, List.replicate_succ, List.zip_cons_cons]
      rw [e3, putsG, hd, List.zip_cons_cons]
      congr 1
      rw [List.length_cons, List.replicate_succ']
      have hz : (List.replicate d.length true).zip d = (List.replicate d.length true).zip d ++ [] := by simp
      conv => lhs; rw [hz]
      rw [List.zip_append (by simp)]
      simp
    rw [e2, List.foldl_cons, pos_drops]
    simp [posStep, putsG, hd]
theorem plain_pos (l : List Stp) : let b := (posOf (gapsOf l)).foldl posStep Bld.start; plainOf l = (⟨b.l, b.p ++ (putsOf (gapsOf l)).getD (dropsOf (gapsOf l)).length [], b.d⟩ : Bld).close.l := by
  simp only []
  rw [plain_gaps, ← pos_all]
end Go.Eng

/-
  Plain facts on changes: the lists that say a change place by place, while they are filled. No condition.
-/
namespace Go.Eng
open Go
def pad {α : Type} (l : List α) (n : Nat) (x : α) : List α := l ++ List.replicate (n - l.length) x
def gapAt (g : Gs) : Nat := (g.done.flatMap dropsG).length
def atOf (g : Gs) : Nat := gapAt g + g.cur.d.length
def putsPad (N : Nat) (g : Gs) : List (List UInt8) := pad (g.done.flatMap putsG ++ [g.cur.p]) (N + 1) []
def dropsPad (N : Nat) (g : Gs) : List Bool := pad (dropsOf g) N false
def bytesPad (N : Nat) (g : Gs) : List UInt8 := pad (bytesOf g) N 0
theorem flat_lens (l : List Gap) : (l.flatMap bytesG).length = (l.flatMap dropsG).length ∧ (l.flatMap putsG).length = (l.flatMap dropsG).length := by
  induction l with
  | nil => exact ⟨rfl, rfl⟩
  | cons a l ih => simp only [List.flatMap_cons, List.length_append, bytesG_len, putsG_len, dropsG_len]; omega
theorem pad_length {α : Type} {l : List α} {n : Nat} {x : α} (h : l.length ≤ n) : (pad l n x).length = n := by unfold pad; simp; omega
theorem pad_snoc {α : Type} {l : List α} {n : Nat} {x : α} (h : l.length < n) : pad (l ++ [x]) n x = pad l n x := by
  unfold pad
  rw [List.length_append, List.length_singleton, List.append_assoc]
  congr 1
  rw [show n - l.length = (n - (l.length + 1)) + 1 by omega, List.replicate_succ]; rfl
theorem pad_snocs {α : Type} {x : α} : ∀ (k : Nat) {l : List α} {n : Nat}, l.length + k ≤ n → pad (l ++ List.replicate k x) n x = pad l n x
  | 0, l, n, _ => by simp
  | k + 1, l, n, h => by
    rw [List.replicate_succ', ← List.append_assoc, pad_snoc (by simp; omega), pad_snocs k (by omega)]
theorem pad_set {α : Type} {l : List α} {n : Nat} {x y : α} (h : l.length < n) : (pad l n x).set l.length y = pad (l ++ [y]) n x := by
  unfold pad
  rw [List.set_append_right _ _ (Nat.le_refl _), Nat.sub_self, List.length_append, List.length_singleton, List.append_assoc]
  congr 1
  rw [show n - l.length = (n - (l.length + 1)) + 1 by omega, List.replicate_succ]; rfl
theorem pad_whole {α : Type} {l : List α} {n : Nat} {x : α} (h : l.length = n) : pad l n x = l := by unfold pad; simp [h]
theorem dropsOf_len (g : Gs) : (dropsOf g).length = atOf g := by simp [dropsOf, atOf, gapAt]
theorem bytesOf_len (g : Gs) : (bytesOf g).length = atOf g := by rw [(said_len g).1, dropsOf_len]
/-- one more byte is dropped -/
def Gs.byte (g : Gs) (b : UInt8) : Gs := ⟨g.done, ⟨g.cur.p, g.cur.d ++ [b]⟩⟩
theorem byte_drops {N : Nat} {g : Gs} {b : UInt8} (h : atOf g < N) : dropsPad N (g.byte b) = (dropsPad N g).set (atOf g) true ∧ bytesPad N (g.byte b) = (bytesPad N g).set (atOf g) b ∧ putsPad N (g.byte b) = putsPad N g ∧ atOf (g.byte b) = atOf g + 1 ∧ gapAt (g.byte b) = gapAt g := by
  refine ⟨?_, ?_, rfl, by simp [atOf, gapAt, Gs.byte]; omega, rfl⟩
  · unfold dropsPad
    rw [← dropsOf_len, pad_set (by rw [dropsOf_len]; exact h)]
    congr 1
    simp [dropsOf, Gs.byte, List.replicate_succ']
  · unfold bytesPad
    rw [← bytesOf_len, pad_set (by rw [bytesOf_len]; exact h)]
    congr 1
    simp [bytesOf, Gs.byte]
/-- something more is put -/
def Gs.put (g : Gs) (s : List UInt8) : Gs := ⟨g.done, ⟨g.cur.p ++ s, g.cur.d⟩⟩
theorem put_puts {N : Nat} {g : Gs} {s : List UInt8} (h : atOf g ≤ N) : putsPad N (g.put s) = (putsPad N g).set (gapAt g) (g.cur.p ++ s) ∧ (putsPad N g)[gapAt g]? = some g.cur.p := by
  have hl := (flat_lens g.done).2
  have hg : (g.done.flatMap putsG).length = gapAt g := hl
  constructor
  · unfold putsPad pad Gs.put
    rw [List.append_assoc, List.append_assoc, List.set_append_right _ _ (by omega), hg, Nat.sub_self]
    simp
  · unfold putsPad pad
    rw [List.append_assoc, List.getElem?_append_right (by omega), hg, Nat.sub_self]
    rfl
/-- a row is kept -/
def Gs.keeps (g : Gs) (n : Nat) : Gs := ⟨g.done ++ g.cur :: List.replicate (n - 1) ⟨[], []⟩, ⟨[], []⟩⟩
theorem flat_rep {α : Type} (f : Gap → List α) (x : α) (hf : f ⟨[], []⟩ = [x]) : ∀ n, (List.replicate n (⟨[], []⟩ : Gap)).flatMap f = List.replicate n x
  | 0 => rfl
  | n + 1 => by rw [List.replicate_succ, List.flatMap_cons, flat_rep f x hf n, hf]; rfl
theorem keep_pads {N : Nat} {g : Gs} {n : Nat} (hn : 0 < n) (h : atOf g + n ≤ N) : dropsPad N (g.keeps n) = dropsPad N g ∧ bytesPad N (g.keeps n) = bytesPad N g ∧ putsPad N (g.keeps n) = putsPad N g ∧ gapAt (g.keeps n) = atOf g + n ∧ atOf (g.keeps n) = atOf g + n := by
  have hl := flat_lens g.done
  have e1 : dropsOf (g.keeps n) = dropsOf g ++ List.replicate n false := by
    simp only [dropsOf, Gs.keeps, List.flatMap_append, List.flatMap_cons, flat_rep dropsG false rfl, List.length_nil, List.replicate_zero, List.append_nil]
    obtain ⟨m, rfl⟩ : ∃ m, n = m + 1 := ⟨n - 1, by omega⟩
    rw [dropsG, List.append_assoc, List.append_assoc, List.replicate_succ, Nat.add_sub_cancel]
    rfl
  have e2 : bytesOf (g.keeps n) = bytesOf g ++ List.replicate n 0 := by
    simp only [bytesOf, Gs.keeps, List.flatMap_append, List.flatMap_cons, flat_rep bytesG 0 rfl, List.append_nil]
    obtain ⟨m, rfl⟩ : ∃ m, n = m + 1 := ⟨n - 1, by omega⟩
    rw [bytesG, List.append_assoc, List.append_assoc, List.replicate_succ, Nat.add_sub_cancel]
    rfl
  have e3 : (g.keeps n).done.flatMap putsG ++ [(g.keeps n).cur.p] = (g.done.flatMap putsG ++ [g.cur.p]) ++ List.replicate (g.cur.d.length + n) [] := by
    simp only [Gs.keeps, List.flatMap_append, List.flatMap_cons, flat_rep putsG [] rfl]
    obtain ⟨m, rfl⟩ : ∃ m, n = m + 1 := ⟨n - 1, by omega⟩
    rw [Nat.add_sub_cancel, putsG, List.append_assoc, List.append_assoc, List.cons_append, List.append_assoc, ← List.replicate_succ', List.replicate_append_replicate]
    rfl
  have hg : gapAt (g.keeps n) = atOf g + n := by
    have := congrArg List.length e1
    rw [dropsOf_len, List.length_append, dropsOf_len, List.length_replicate] at this
    simpa [atOf, Gs.keeps] using this
  refine ⟨?_, ?_, ?_, hg, by simp [atOf] at hg ⊢; rw [hg]; simp [Gs.keeps]⟩
  · rw [dropsPad, e1, pad_snocs n (by rw [dropsOf_len]; omega)]; rfl
  · rw [bytesPad, e2, pad_snocs n (by rw [bytesOf_len]; omega)]; rfl
  · rw [putsPad, e3, pad_snocs _ (by unfold atOf gapAt at h; rw [List.length_append, List.length_singleton]; omega)]; rfl
/-- the lists are full -/
theorem pads_full {N : Nat} {g : Gs} (h : atOf g = N) : dropsPad N g = dropsOf g ∧ bytesPad N g = bytesOf g ∧ putsPad N g = putsOf g := by
  refine ⟨pad_whole (by rw [dropsOf_len, h]), pad_whole (by rw [bytesOf_len, h]), ?_⟩
  have hl := (flat_lens g.done).2
  unfold atOf gapAt at h
  have e : N + 1 - (g.done.flatMap putsG ++ [g.cur.p]).length = g.cur.d.length := by rw [List.length_append, List.length_singleton]; omega
  rw [putsPad, pad, e, List.append_assoc]
  rfl
end Go.Eng

/-
  Plain facts on changes: byte by byte. No condition.
-/
namespace Go.Eng
open Go
/-- one byte of a change -/
inductive Atm where
  | k
  | d (b : UInt8)
  | p (b : UInt8)
  deriving DecidableEq
def Stp.atoms (s : Stp) : List Atm := List.replicate s.k.toNat .k ++ s.d.map .d ++ s.p.map .p
def atomsOf (l : List Stp) : List Atm := l.flatMap Stp.atoms
def Bld.atom (b : Bld) : Atm → Bld
  | .k => b.keep 1
  | .d c => ⟨b.l, b.p, b.d ++ [c]⟩
  | .p c => ⟨b.l, b.p ++ [c], b.d⟩
def Bld.run (b : Bld) (l : List Atm) : Bld := l.foldl Bld.atom b
theorem run_append (b : Bld) (x y : List Atm) : b.run (x ++ y) = (b.run x).run y := List.foldl_append ..
theorem run_d (b : Bld) : ∀ ds : List UInt8, b.run (ds.map .d) = ⟨b.l, b.p, b.d ++ ds⟩
  | [] => by cases b; simp [Bld.run]
  | x :: ds => by
    have h := run_d (b.atom (.d x)) ds
    simp only [Bld.run, List.map_cons, List.foldl_cons] at h ⊢
    rw [h]; simp [Bld.atom]
theorem run_p (b : Bld) : ∀ ds : List UInt8, b.run (ds.map .p) = ⟨b.l, b.p ++ ds, b.d⟩
  | [] => by cases b; simp [Bld.run]
  | x :: ds => by
    have h := run_p (b.atom (.p x)) ds
    simp only [Bld.run, List.map_cons, List.foldl_cons] at h ⊢
    rw [h]; simp [Bld.atom]
theorem run_k (b : Bld) : ∀ n : Nat, b.run (List.replicate n .k) = b.keep (n : Int)
  | 0 => rfl
  | n + 1 => by
    rw [List.replicate_succ', run_append, run_k b n]
    show (b.keep (n : Int)).keep 1 = _
    by_cases hn : n = 0
    · subst hn; rfl
    · rw [keep_keep b _ 1 (by omega) (by omega)]; rfl
theorem run_step (b : Bld) (s : Stp) (h : stpOk s) : b.run s.atoms = b.step s := by
  obtain ⟨k, d, p⟩ := s
  rcases h with ⟨h1, h2, h3⟩ | ⟨h1, h2, h3⟩ | ⟨h1, h2, h3⟩
  · simp only at h1 h2 h3
    subst h2; subst h3
    simp only [Stp.atoms, List.map_nil, List.append_nil, Bld.step, h1, if_true]
    rw [run_k, Int.toNat_of_nonneg (by omega)]
  · simp only at h1 h2 h3
    subst h1; subst h3
    simp [Stp.atoms, Bld.step, h2, run_d]
  · simp only at h1 h2 h3
    subst h1; subst h2
    simp [Stp.atoms, Bld.step, run_p]
/-- what a builder has laid, byte by byte -/
def gapA (g : Gap) : List Atm := g.p.map .p ++ g.d.map .d
def Bld.atoms (b : Bld) : List Atm := atomsOf b.l ++ gapA ⟨b.p, b.d⟩
def nfOf (g : Gs) : List Atm := g.done.flatMap (fun x => gapA x ++ [.k]) ++ gapA g.cur
theorem atoms_append (x y : List Stp) : atomsOf (x ++ y) = atomsOf x ++ atomsOf y := List.flatMap_append ..
theorem atoms_one (s : Stp) : atomsOf [s] = s.atoms := by simp [atomsOf]
theorem atoms_cons (s : Stp) (l : List Stp) : atomsOf (s :: l) = s.atoms ++ atomsOf l := rfl
theorem close_atoms (b : Bld) : atomsOf b.close.l = b.atoms := by
  unfold Bld.close Bld.atoms gapA
  simp only [atoms_append]
  rw [List.append_assoc]
  congr 1
  congr 1
  · by_cases h : b.p = [] <;> simp [h, atomsOf, Stp.atoms]
  · by_cases h : b.d = [] <;> simp [h, atomsOf, Stp.atoms]
theorem close_ok (b : Bld) (h : ∀ s ∈ b.l, stpOk s) : ∀ s ∈ b.close.l, stpOk s := by
  intro s hs
  unfold Bld.close at hs
  simp only [List.mem_append] at hs
  rcases hs with (hs | hs) | hs
  · exact h s hs
  · by_cases hp : b.p = []
    · simp [hp] at hs
    · simp [hp] at hs; subst hs; exact .inr (.inr ⟨rfl, rfl, hp⟩)
  · by_cases hp : b.d = []
    · simp [hp] at hs
    · simp [hp] at hs; subst hs; exact .inr (.inl ⟨rfl, hp, rfl⟩)
theorem addKeep_atoms (l : List Stp) (n : Int) (hn : 0 < n) (h : ∀ s ∈ l, stpOk s) : atomsOf (addKeep l n) = atomsOf l ++ List.replicate n.toNat .k ∧ ∀ s ∈ addKeep l n, stpOk s := by
  unfold addKeep
  cases hl : l.getLast? with
  | none =>
    have : l = [] := by simpa using hl
    subst this
    refine ⟨by simp [atomsOf, Stp.atoms], fun s hs => ?_⟩
    simp at hs; subst hs; exact .inl ⟨hn, rfl, rfl⟩
  | some s =>
    obtain ⟨ys, e⟩ := List.getLast?_eq_some_iff.1 hl
    have e2 : l.dropLast = ys := by rw [e]; simp
    rw [e2]
    have hs := h s (by rw [e]; simp)
    by_cases h0 : 0 < s.k
    · simp only [h0, if_true]
      rcases hs with ⟨_, h2, h3⟩ | ⟨h1, _, _⟩ | ⟨h1, _, _⟩
      · refine ⟨?_, fun x hx => ?_⟩
        · conv => rhs; rw [e]
          rw [atoms_append, atoms_append, atoms_one, atoms_one, List.append_assoc]
          congr 1
          simp only [Stp.atoms, h2, h3, List.map_nil, List.append_nil]
          rw [List.replicate_append_replicate]
          congr 1; omega
        · simp only [List.mem_append, List.mem_singleton] at hx
          rcases hx with hx | rfl
          · exact h x (by rw [e]; simp [hx])
          · exact .inl ⟨by simp only; omega, h2, h3⟩
      · omega
      · omega
    · simp only [h0, if_false]
      refine ⟨by rw [atoms_append, atoms_one]; simp [Stp.atoms], fun x hx => ?_⟩
      simp only [List.mem_append, List.mem_singleton] at hx
      rcases hx with hx | rfl
      · exact h x hx
      · exact .inl ⟨hn, rfl, rfl⟩
theorem keep_atoms (b : Bld) (n : Int) (hn : 0 < n) (h : ∀ s ∈ b.l, stpOk s) : (b.keep n).atoms = b.atoms ++ List.replicate n.toNat .k ∧ ∀ s ∈ (b.keep n).l, stpOk s := by
  unfold Bld.keep
  rw [if_neg (by omega)]
  obtain ⟨h1, h2⟩ := addKeep_atoms b.close.l n hn (close_ok b h)
  refine ⟨?_, h2⟩
  unfold Bld.atoms
  simp only [gapA, List.map_nil, List.append_nil]
  rw [h1, close_atoms]; rfl
theorem bldGap_atoms (b : Bld) (g : Gap) (h : ∀ s ∈ b.l, stpOk s) (hp : b.p = []) (hd : b.d = []) : (bldGap b g).atoms = b.atoms ++ (gapA g ++ [.k]) ∧ (∀ s ∈ (bldGap b g).l, stpOk s) ∧ (bldGap b g).p = [] ∧ (bldGap b g).d = [] := by
  obtain ⟨h1, h2⟩ := keep_atoms ⟨b.l, b.p ++ g.p, b.d ++ g.d⟩ 1 (by omega) h
  have h3 := keep_pd ⟨b.l, b.p ++ g.p, b.d ++ g.d⟩ 1 (by omega)
  refine ⟨?_, h2, h3.1, h3.2⟩
  rw [bldGap, h1]
  unfold Bld.atoms
  simp [hp, hd, gapA]
theorem bldGs_done : ∀ (l : List Gap) (b : Bld), (∀ s ∈ b.l, stpOk s) → b.p = [] → b.d = [] → (l.foldl bldGap b).atoms = b.atoms ++ l.flatMap (fun x => gapA x ++ [.k]) ∧ (∀ s ∈ (l.foldl bldGap b).l, stpOk s) ∧ (l.foldl bldGap b).p = [] ∧ (l.foldl bldGap b).d = []
  | [], b, h, hp, hd => ⟨by simp, h, hp, hd⟩
  | g :: l, b, h, hp, hd => by
    obtain ⟨h1, h2, h3, h4⟩ := bldGap_atoms b g h hp hd
    obtain ⟨k1, k2, k3, k4⟩ := bldGs_done l (bldGap b g) h2 h3 h4
    refine ⟨?_, k2, k3, k4⟩
    rw [List.foldl_cons, k1, h1, List.flatMap_cons, List.append_assoc]
theorem bldGs_atoms (g : Gs) : (bldGs g).atoms = nfOf g ∧ ∀ s ∈ (bldGs g).l, stpOk s := by
  obtain ⟨h1, h2, h3, h4⟩ := bldGs_done g.done Bld.start (by simp [Bld.start]) rfl rfl
  refine ⟨?_, h2⟩
  unfold bldGs nfOf
  simp only []
  rw [show (Bld.atoms ⟨(g.done.foldl bldGap Bld.start).l, (g.done.foldl bldGap Bld.start).p ++ g.cur.p, (g.done.foldl bldGap Bld.start).d ++ g.cur.d⟩) = (g.done.foldl bldGap Bld.start).atoms ++ gapA g.cur by simp [Bld.atoms, h3, h4, gapA], h1]
  simp [Bld.atoms, Bld.start, atomsOf, gapA]
theorem plain_atoms (l : List Stp) : atomsOf (plainOf l) = nfOf (gapsOf l) := by rw [plain_gaps, close_atoms, (bldGs_atoms _).1]
/-- the said change, as a list of places -/
abbrev Pos := List UInt8 × Bool × UInt8
def Pos.atoms (x : Pos) : List Atm := x.1.map .p ++ [if x.2.1 then .d x.2.2 else .k]
def lastOf (g : Gs) : List UInt8 := (putsOf g).getD (dropsOf g).length []
def sdA (ps : List Pos) (last : List UInt8) : List Atm := ps.flatMap Pos.atoms ++ last.map .p
theorem run_pos (b : Bld) (x : Pos) : b.run x.atoms = posStep b x := by
  rw [Pos.atoms, run_append, run_p, posStep]
  cases h : x.2.1 <;> simp [Bld.run, Bld.atom]
theorem sd_drops : ∀ d : List UInt8, ((List.replicate d.length ([] : List UInt8)).zip ((List.replicate d.length true).zip d)).flatMap Pos.atoms = d.map .d
  | [] => rfl
  | x :: d => by
    simp only [List.length_cons, List.replicate_succ, List.zip_cons_cons, List.flatMap_cons, sd_drops d]
    rfl
theorem sd_gap (g : Gap) : ((putsG g).zip ((dropsG g).zip (bytesG g))).flatMap Pos.atoms = gapA g ++ [.k] := by
  unfold putsG dropsG bytesG gapA
  cases hd : g.d with
  | nil => simp [Pos.atoms]
  | cons x d =>
    have e1 : (List.replicate (x :: d).length true ++ [false]).zip (x :: d ++ [0]) = (true, x) :: ((List.replicate d.length true).zip d ++ [(false, (0 : UInt8))]) := by
      simp only [List.length_cons, List.replicate_succ, List.cons_append, List.zip_cons_cons]
      rw [List.zip_append (by simp)]
      simp
    rw [e1]
    have e2 : (g.p :: List.replicate (x :: d).length ([] : List UInt8)).zip ((true, x) :: ((List.replicate d.length true).zip d ++ [(false, (0 : UInt8))])) =
        (g.p, true, x) :: ((List.replicate d.length ([] : List UInt8)).zip ((List.replicate d.length true).zip d) ++ [([], false, 0)]) := by
      rw [List.zip_cons_cons, List.length_cons, List.replicate_succ', List.zip_append (by simp)]
      simp
    rw [e2, List.flatMap_cons, List.flatMap_append, sd_drops]
    simp [Pos.atoms]
theorem sd_done : ∀ l : List Gap, ((l.flatMap putsG).zip ((l.flatMap dropsG).zip (l.flatMap bytesG))).flatMap Pos.atoms = l.flatMap (fun x => gapA x ++ [.k])
  | [] => rfl
  | g :: l => by
    rw [List.flatMap_cons, List.flatMap_cons, List.flatMap_cons, List.zip_append (by rw [dropsG_len, bytesG_len]), List.zip_append (by rw [putsG_len, List.length_zip, dropsG_len, bytesG_len]; simp), List.flatMap_append, sd_gap, sd_done l, List.flatMap_cons]
theorem sd_atoms (g : Gs) : sdA (posOf g) (lastOf g) = nfOf g := by
  have hl := flat_lens g.done
  have e : posOf g = (g.done.flatMap putsG).zip ((g.done.flatMap dropsG).zip (g.done.flatMap bytesG)) ++ (putsG g.cur).zip ((List.replicate g.cur.d.length true).zip g.cur.d) := by
    rw [posOf, putsOf, dropsOf, bytesOf, List.zip_append (by omega), List.zip_append (by rw [List.length_zip]; omega)]
  have hlen : (dropsOf g).length = (g.done.flatMap putsG).length + g.cur.d.length := by rw [dropsOf, List.length_append, List.length_replicate]; omega
  have hget : lastOf g = (putsG g.cur).getD g.cur.d.length [] := by
    rw [lastOf, hlen, putsOf, List.getD_eq_getElem?_getD, List.getD_eq_getElem?_getD, List.getElem?_append_right (by omega)]
    congr 2; omega
  unfold sdA nfOf
  rw [e, hget, List.flatMap_append, sd_done, List.append_assoc]
  congr 1
  cases hd : g.cur.d with
  | nil => simp [putsG, hd, gapA]
  | cons x d =>
    have e2 : (putsG g.cur).zip ((List.replicate (x :: d).length true).zip (x :: d)) = (g.cur.p, true, x) :: (List.replicate d.length ([] : List UInt8)).zip ((List.replicate d.length true).zip d) := by
      have e3 : (List.replicate (x :: d).length true).zip (x :: d) = (true, x) :: (List.replicate d.length true).zip d := by rw [List.length_cons, List.replicate_succ, List.zip_cons_cons]
      rw [e3, putsG, hd, List.zip_cons_cons]
      congr 1
      rw [List.length_cons, List.replicate_succ']
      have hz : (List.replicate d.length true).zip d = (List.replicate d.length true).zip d ++ [] := by simp
      conv => lhs; rw [hz]
      rw [List.zip_append (by simp)]
      simp
    rw [e2, List.flatMap_cons, sd_drops]
    simp [Pos.atoms, putsG, hd, gapA]
/-- the builder over a said change -/
theorem plain_run (l : List Stp) : plainOf l = (Bld.start.run (nfOf (gapsOf l))).close.l := by
  rw [← sd_atoms, sdA, run_append, run_p]
  have h : ∀ (ps : List Pos) (b : Bld), b.run (ps.flatMap Pos.atoms) = ps.foldl posStep b := by
    intro ps
    induction ps with
    | nil => intro b; rfl
    | cons x ps ih => intro b; rw [List.flatMap_cons, run_append, run_pos, ih, List.foldl_cons]
  rw [h]
  exact plain_pos l
end Go.Eng

/-
  Plain facts on changes: where a place goes. No condition.
-/
namespace Go.Eng
open Go
/-- one step of the program's way -/
def moveStep (at_ : Int) (b : Bool) (st : Int × Int) (s : Stp) : Int × Int :=
  if s.p ≠ [] then (if st.2 < at_ ∨ (st.2 = at_ ∧ b = true) then st.1 + s.p.length else st.1, st.2)
  else if s.d ≠ [] then (st.1, st.2 + s.d.length)
  else (st.1 + max 0 (min s.k (at_ - st.2)), st.2 + s.k)
def moveAtm (at_ : Int) (b : Bool) (st : Int × Int) : Atm → Int × Int
  | .p _ => (if st.2 < at_ ∨ (st.2 = at_ ∧ b = true) then st.1 + 1 else st.1, st.2)
  | .d _ => (st.1, st.2 + 1)
  | .k => (if st.2 < at_ then st.1 + 1 else st.1, st.2 + 1)
/-- the reference's way -/
def mvF : List Pos → List UInt8 → Nat → Bool → Nat
  | [], last, _, b => if b then last.length else 0
  | x :: _, _, 0, b => if b then x.1.length else 0
  | x :: ps, last, at_ + 1, b => x.1.length + (if x.2.1 then 0 else 1) + mvF ps last at_ b
theorem sdA_cons (x : Pos) (ps : List Pos) (last : List UInt8) : sdA (x :: ps) last = x.1.map .p ++ (if x.2.1 then .d x.2.2 else .k) :: sdA ps last := by simp [sdA, Pos.atoms]
theorem sdA_nil (last : List UInt8) : sdA [] last = last.map .p := rfl
/-- the program's answer is the reference's -/
def moveOf (l : List Stp) (at_ : Int) (b : Bool) : Int := (l.foldl (moveStep at_ b) (0, 0)).1
def movedF (l : List Stp) (at_ : Nat) (b : Bool) : Nat := mvF (posOf (gapsOf l)) (lastOf (gapsOf l)) at_ b
end Go.Eng

/-
  Plain facts on changes: one behind the other. No condition.
-/
namespace Go.Eng
open Go
/-- two changes byte by byte, one behind the other; none: they are apart -/
def compA : List Atm → List Atm → Option (List Atm)
  | xs, .p b :: ys => (compA xs ys).map (.p b :: ·)
  | .d b :: xs, [] => (compA xs []).map (.d b :: ·)
  | .d b :: xs, .k :: ys => (compA xs (.k :: ys)).map (.d b :: ·)
  | .d b :: xs, .d c :: ys => (compA xs (.d c :: ys)).map (.d b :: ·)
  | [], [] => some []
  | [], .k :: _ => some []
  | [], .d _ :: _ => some []
  | .k :: _, [] => some []
  | .p _ :: _, [] => some []
  | .k :: xs, .k :: ys => (compA xs ys).map (.k :: ·)
  | .k :: xs, .d c :: ys => (compA xs ys).map (.d c :: ·)
  | .p b :: xs, .k :: ys => (compA xs ys).map (.p b :: ·)
  | .p b :: xs, .d c :: ys => if b = c then compA xs ys else none
termination_by xs ys => xs.length + ys.length
def notPut : List Atm → Bool
  | .p _ :: _ => false
  | _ => true
/-- how many bytes a change is of, and makes -/
def fromA : List Atm → Nat
  | [] => 0
  | .k :: l => fromA l + 1
  | .d _ :: l => fromA l + 1
  | .p _ :: l => fromA l
def toA : List Atm → Nat
  | [] => 0
  | .k :: l => toA l + 1
  | .d _ :: l => toA l
  | .p _ :: l => toA l + 1
theorem fromA_append : ∀ x y : List Atm, fromA (x ++ y) = fromA x + fromA y
  | [], y => by simp [fromA]
  | .k :: x, y => by simp only [List.cons_append, fromA, fromA_append x y]; omega
  | .d _ :: x, y => by simp only [List.cons_append, fromA, fromA_append x y]; omega
  | .p _ :: x, y => by simp only [List.cons_append, fromA, fromA_append x y]
theorem toA_append : ∀ x y : List Atm, toA (x ++ y) = toA x + toA y
  | [], y => by simp [toA]
  | .k :: x, y => by simp only [List.cons_append, toA, toA_append x y]; omega
  | .d _ :: x, y => by simp only [List.cons_append, toA, toA_append x y]
  | .p _ :: x, y => by simp only [List.cons_append, toA, toA_append x y]; omega
theorem fromA_d (l : List UInt8) : fromA (l.map .d) = l.length := by induction l with
  | nil => rfl
  | cons a l ih => simp [fromA, ih]
theorem fromA_p (l : List UInt8) : fromA (l.map .p) = 0 := by induction l with
  | nil => rfl
  | cons a l ih => simp [fromA, ih]
theorem toA_d (l : List UInt8) : toA (l.map .d) = 0 := by induction l with
  | nil => rfl
  | cons a l ih => simp [toA, ih]
theorem toA_p (l : List UInt8) : toA (l.map .p) = l.length := by induction l with
  | nil => rfl
  | cons a l ih => simp [toA, ih]
theorem fromA_k (n : Nat) : fromA (List.replicate n .k) = n := by induction n with
  | zero => rfl
  | succ n ih => simp [List.replicate_succ, fromA, ih]
theorem toA_k (n : Nat) : toA (List.replicate n .k) = n := by induction n with
  | zero => rfl
  | succ n ih => simp [List.replicate_succ, toA, ih]
theorem from_step (s : Stp) : fromA s.atoms = s.k.toNat + s.d.length := by simp [Stp.atoms, fromA_append, fromA_k, fromA_d, fromA_p]
theorem to_step (s : Stp) : toA s.atoms = s.k.toNat + s.p.length := by simp [Stp.atoms, toA_append, toA_k, toA_d, toA_p]
/-- sizes of a change that may be -/
theorem sizesF_some : ∀ (l : List Stp) (f t a b : Int), 0 ≤ f → 0 ≤ t → sizesF l f t = some (a, b) → (∀ s ∈ l, stpOk s ∧ s.k ≤ maxT) ∧ a = f + (fromA (atomsOf l) : Int) ∧ b = t + (toA (atomsOf l) : Int) ∧ (l ≠ [] → a ≤ maxT ∧ b ≤ maxT)
  | [], f, t, a, b, _, _, h => by
    simp only [sizesF, Option.some.injEq, Prod.mk.injEq] at h
    obtain ⟨rfl, rfl⟩ := h
    simp [atomsOf, fromA, toA]
  | s :: l, f, t, a, b, hf, ht, h => by
    rw [sizesF] at h
    split at h
    · rename_i hc
      obtain ⟨h1, h2, h3, h4⟩ := hc
      have hk : 0 ≤ s.k := by rcases h1 with ⟨h, _, _⟩ | ⟨h, _, _⟩ | ⟨h, _, _⟩ <;> omega
      obtain ⟨g1, g2, g3, g4⟩ := sizesF_some l _ _ a b (by omega) (by omega) h
      refine ⟨?_, ?_, ?_, fun _ => ?_⟩
      · intro x hx
        rcases List.mem_cons.1 hx with rfl | hx
        · exact ⟨h1, h2⟩
        · exact g1 x hx
      · rw [g2, atoms_cons, fromA_append, from_step]; omega
      · rw [g3, atoms_cons, toA_append, to_step]; omega
      · by_cases hl : l = []
        · subst hl
          simp only [sizesF, Option.some.injEq, Prod.mk.injEq] at h
          omega
        · exact g4 hl
    · cases h
theorem sizesOf_some {l : List Stp} {a b : Int} (h : sizesOf l = some (a, b)) : (∀ s ∈ l, stpOk s ∧ s.k ≤ maxT) ∧ a = (fromA (atomsOf l) : Int) ∧ b = (toA (atomsOf l) : Int) ∧ a ≤ maxT ∧ b ≤ maxT := by
  obtain ⟨h1, h2, h3, h4⟩ := sizesF_some l 0 0 a b (by omega) (by omega) h
  refine ⟨h1, by omega, by omega, ?_⟩
  by_cases hl : l = []
  · subst hl
    simp only [sizesOf, sizesF, Option.some.injEq, Prod.mk.injEq] at h
    unfold maxT; omega
  · exact h4 hl
/-- the gaps of a change, byte by byte -/
def Gs.atom (g : Gs) : Atm → Gs
  | .k => ⟨g.done ++ [g.cur], ⟨[], []⟩⟩
  | .d c => ⟨g.done, ⟨g.cur.p, g.cur.d ++ [c]⟩⟩
  | .p c => ⟨g.done, ⟨g.cur.p ++ [c], g.cur.d⟩⟩
def Gs.run (g : Gs) (l : List Atm) : Gs := l.foldl Gs.atom g
theorem grun_append (b : Gs) (x y : List Atm) : b.run (x ++ y) = (b.run x).run y := List.foldl_append ..
theorem grun_d (b : Gs) : ∀ ds : List UInt8, b.run (ds.map .d) = ⟨b.done, ⟨b.cur.p, b.cur.d ++ ds⟩⟩
  | [] => by cases b; simp [Gs.run]
  | x :: ds => by
    have h := grun_d (b.atom (.d x)) ds
    simp only [Gs.run, List.map_cons, List.foldl_cons] at h ⊢
    rw [h]; simp [Gs.atom]
theorem grun_p (b : Gs) : ∀ ds : List UInt8, b.run (ds.map .p) = ⟨b.done, ⟨b.cur.p ++ ds, b.cur.d⟩⟩
  | [] => by cases b; simp [Gs.run]
  | x :: ds => by
    have h := grun_p (b.atom (.p x)) ds
    simp only [Gs.run, List.map_cons, List.foldl_cons] at h ⊢
    rw [h]; simp [Gs.atom]
theorem grun_k (b : Gs) : ∀ n : Nat, b.run (List.replicate (n + 1) .k) = b.keeps (n + 1)
  | 0 => by simp [Gs.run, Gs.atom, Gs.keeps, List.replicate]
  | n + 1 => by
    rw [List.replicate_succ', grun_append, grun_k b n]
    simp only [Gs.run, List.foldl_cons, List.foldl_nil, Gs.atom, Gs.keeps]
    simp [List.replicate_succ']
theorem grun_step (g : Gs) (s : Stp) (h : stpOk s) : g.run s.atoms = g.step s := by
  obtain ⟨k, d, p⟩ := s
  rcases h with ⟨h1, h2, h3⟩ | ⟨h1, h2, h3⟩ | ⟨h1, h2, h3⟩
  · simp only at h1 h2 h3
    subst h2; subst h3
    simp only [Stp.atoms, List.map_nil, List.append_nil, Gs.step, h1, if_true]
    obtain ⟨n, hn⟩ : ∃ n, k.toNat = n + 1 := ⟨k.toNat - 1, by omega⟩
    rw [hn, grun_k]; simp [Gs.keeps]
  · simp only at h1 h2 h3
    subst h1; subst h3
    simp [Stp.atoms, Gs.step, h2, grun_d]
  · simp only at h1 h2 h3
    subst h1; subst h2
    simp [Stp.atoms, Gs.step, grun_p]
theorem gaps_run : ∀ (l : List Stp) (g : Gs), (∀ s ∈ l, stpOk s) → g.run (atomsOf l) = l.foldl Gs.step g
  | [], g, _ => rfl
  | s :: l, g, h => by
    rw [atoms_cons, grun_append, grun_step g s (h s List.mem_cons_self), gaps_run l _ (fun x hx => h x (List.mem_cons_of_mem _ hx)), List.foldl_cons]
theorem gapsOf_run (l : List Stp) (h : ∀ s ∈ l, stpOk s) : gapsOf l = Gs.start.run (atomsOf l) := (gaps_run l _ h).symm
/-- what a change is of, and makes, by its gaps -/
theorem nf_from (g : Gs) (a : Atm) : fromA (nfOf (g.atom a)) = fromA (nfOf g) + fromA [a] ∧ toA (nfOf (g.atom a)) = toA (nfOf g) + toA [a] := by
  cases a <;> simp only [Gs.atom, nfOf, gapA, List.flatMap_append, List.flatMap_cons, List.flatMap_nil, fromA_append, toA_append, List.map_append, fromA_p, fromA_d, toA_p, toA_d, fromA, toA, List.map_cons, List.map_nil, List.append_nil] <;> omega
theorem nf_run : ∀ (l : List Atm) (g : Gs), fromA (nfOf (g.run l)) = fromA (nfOf g) + fromA l ∧ toA (nfOf (g.run l)) = toA (nfOf g) + toA l
  | [], g => ⟨rfl, rfl⟩
  | a :: l, g => by
    obtain ⟨h1, h2⟩ := nf_run l (g.atom a)
    obtain ⟨h3, h4⟩ := nf_from g a
    have e1 : fromA (a :: l) = fromA [a] + fromA l := fromA_append [a] l
    have e2 : toA (a :: l) = toA [a] + toA l := toA_append [a] l
    rw [show g.run (a :: l) = (g.atom a).run l from rfl, h1, h2, h3, h4, e1, e2]
    omega
theorem nf_sizes (l : List Stp) (h : ∀ s ∈ l, stpOk s) : fromA (nfOf (gapsOf l)) = fromA (atomsOf l) ∧ toA (nfOf (gapsOf l)) = toA (atomsOf l) := by
  obtain ⟨h1, h2⟩ := nf_run (atomsOf l) Gs.start
  rw [gapsOf_run l h, h1, h2]
  simp [Gs.start, nfOf, gapA, fromA, toA]
theorem sd_from (last : List UInt8) : ∀ ps : List Pos, fromA (sdA ps last) = ps.length
  | [] => by rw [sdA_nil, fromA_p]; rfl
  | x :: ps => by
    rw [sdA_cons, fromA_append, fromA_p]
    cases h : x.2.1 <;> simp [fromA, sd_from last ps]
end Go.Eng

/-
  The walks of package edit, first part: the law's own copy of a change, the sizes of a change. No condition.
-/
namespace Go.Eng
def Stp.cs (s : Stp) : List Value := [.int .i64 s.k, str s.d, str s.p]
/-- how much of a change the law goes through -/
def refN : List Stp → Nat → Int → Bool
  | [], _, _ => true
  | s :: l, i, n =>
    let n' := n + ((s.d.length : Int) + (s.p.length : Int)) + (if 0 < s.k ∧ s.k ≤ 65536 then s.k / 8 else 0)
    if 5000 < n' ∨ 5000 < i then false else refN l (i + 1) n'
def smallOf (l : List Stp) : Bool := refN l 0 0
/-- of such size that no number grows too large -/
structure Fit (l : List Stp) : Prop where
  len : l.length ≤ 1048576
  k : ∀ s ∈ l, -9223372036854775808 ≤ s.k ∧ s.k ≤ 9223372036854775807
  d : ∀ s ∈ l, s.d.length ≤ 1048576
  p : ∀ s ∈ l, s.p.length ≤ 1048576
theorem sizesF_good {x : Stp} {l : List Stp} {f t : Int} (h1 : stpOk x) (h2 : x.k ≤ 65536) (h3 : f + x.k + x.d.length ≤ 65536) (h4 : t + x.k + x.p.length ≤ 65536) : sizesF (x :: l) f t = sizesF l (f + x.k + x.d.length) (t + x.k + x.p.length) := if_pos ⟨h1, h2, h3, h4⟩
theorem sizesF_bad {x : Stp} {l : List Stp} {f t : Int} (h : ¬ (stpOk x ∧ x.k ≤ 65536 ∧ f + x.k + x.d.length ≤ 65536 ∧ t + x.k + x.p.length ≤ 65536)) : sizesF (x :: l) f t = none := if_neg h
def szR : Option (Int × Int) → Value
  | some (a, b) => .tuple #[.int .i64 a, .int .i64 b, .bool true]
  | none => .tuple #[.int .i64 0, .int .i64 0, .bool false]
def szP : Option (Int × Int) → Value
  | some (a, b) => .tuple #[.int .i64 a, .int .i64 b, .int .i64 0]
  | none => .tuple #[.int .i64 0, .int .i64 0, .int .i64 2]
end Go.Eng
namespace Go.Proofs.YtelgegefmjlimaaDoor
open Go Go.Eng
set_option maxRecDepth 100000
set_option maxHeartbeats 4000000
set_option linter.all false
attribute [local irreducible] WL WC WQ QFun QLoop Does Q1 QRound QAssign Go.Addr.add
end Go.Proofs.YtelgegefmjlimaaDoor

/-
  What a function hands back that makes a change. No condition.
-/
namespace Go.Eng
open Go Go.RowKit
def ListP (T : TypeId) (r : Int ⊕ List Stp) (k : IntKind) (m : Mem) (H : SHeap) : Value → Mem → SHeap → Prop := fun v m' H' => m' = m ∧ match r with
  | .inl e => v = .tuple #[.slice none 0 0, .int k e] ∧ H' = H
  | .inr l => ∃ c cp, v = .tuple #[.slice c l.length cp, .int k 0] ∧ H' = .row c cp T 3 (l.map Stp.cs) :: H
end Go.Eng

/-
  The walks of the reference's reader: c, bad. No condition.
-/
namespace Go.Eng
open Go
/-- the byte that stands here; 0: the end, or all is wrong by now -/
def cN (s : List UInt8) (at_ : Nat) (wr : Int) : Nat := if wr < 0 ∧ at_ < s.length then gb s at_ else 0
theorem Does.gives_at {P : Program} {w0 : World} {m : Mem} {H : SHeap} {f : FuncId} {args : Array Value} {v : Value} {i : Item} (hm : i ∈ H) (h : ∀ H1, Does P f args w0 m (i :: H1) (Gives v m (i :: H1))) : Does P f args w0 m H (Gives v m H) := by
  intro w hs
  obtain ⟨H1, hp⟩ := hs.at_ hm
  refine (h H1 w (hs.perm hp)).mono ?_
  rintro e w' ⟨v', m', H', he, ⟨rfl, rfl, rfl⟩, hs'⟩
  exact ⟨_, _, _, he, ⟨rfl, rfl, rfl⟩, hs'.perm hp.symm⟩
end Go.Eng
namespace Go.Proofs.YtelgegefmjlimaaDoor
open Go Go.Eng
set_option maxRecDepth 100000
set_option maxHeartbeats 4000000
set_option linter.all false
attribute [local irreducible] WL WC WQ QFun QLoop Does Q1 QRound QAssign Go.Addr.add
end Go.Proofs.YtelgegefmjlimaaDoor

/-
  The walk of the reference reader's digits. No condition.
-/
namespace Go.Eng
open Go
/-- from here on at most f digits to the base 16: how many, their value, where they end -/
def digF (s : List UInt8) : Nat → Nat → Nat → Nat × Nat × Nat
  | 0, n, a => (0, n, a)
  | f + 1, n, a => if a < s.length ∧ 0 ≤ hexV (UInt8.ofNat (gb s a)) then
      ((digF s f (16 * n + (hexV (UInt8.ofNat (gb s a))).toNat) (a + 1)).1 + 1, (digF s f (16 * n + (hexV (UInt8.ofNat (gb s a))).toNat) (a + 1)).2) else (0, n, a)
theorem hexV_le (c : UInt8) : -1 ≤ hexV c ∧ hexV c ≤ 15 := by
  unfold hexV
  split
  · omega
  · split <;> omega
end Go.Eng
namespace Go.Proofs.YtelgegefmjlimaaDoor
open Go Go.Eng
set_option maxRecDepth 100000
set_option maxHeartbeats 4000000
set_option linter.all false
attribute [local irreducible] WL WC WQ QFun QLoop Does Q1 QRound QAssign Go.Addr.add
attribute [local irreducible] cN hexV
end Go.Proofs.YtelgegefmjlimaaDoor

/-
  A change's text read, in plain. No condition.
-/
namespace Go.Eng
open Go
/-- what a reader got: where it ends and what it is, or where it is wrong -/
inductive Got (α : Type)
  | yes (a : Nat) (v : α)
  | no (w : Nat)
theorem digF_end (s : List UInt8) : ∀ (f n a : Nat), a ≤ s.length → a ≤ (digF s f n a).2.2 ∧ (digF s f n a).2.2 ≤ s.length ∧ (digF s f n a).2.2 = a + (digF s f n a).1
  | 0, n, a, h => ⟨Nat.le_refl _, h, rfl⟩
  | f + 1, n, a, h => by
    rw [digF]
    split
    · next h1 =>
      have := digF_end s f (16 * n + (hexV (UInt8.ofNat (gb s a))).toNat) (a + 1) h1.1
      simp only
      omega
    · exact ⟨Nat.le_refl _, h, rfl⟩
/-- behind a backslash -/
def partF (s : List UInt8) (a : Nat) : Got (List UInt8) :=
  if a < s.length ∧ (gb s a = 34 ∨ gb s a = 92) then .yes (a + 1) [UInt8.ofNat (gb s a)]
  else if a < s.length ∧ gb s a = 120 then
    if (digF s 2 0 (a + 1)).1 < 2 then .no (digF s 2 0 (a + 1)).2.2 else .yes (digF s 2 0 (a + 1)).2.2 [UInt8.ofNat (digF s 2 0 (a + 1)).2.1]
  else if a < s.length ∧ gb s a = 123 then
    if (digF s 6 0 (a + 1)).1 = 0 ∨ ¬ ((digF s 6 0 (a + 1)).2.2 < s.length ∧ gb s (digF s 6 0 (a + 1)).2.2 = 125) then .no (digF s 6 0 (a + 1)).2.2
    else .yes ((digF s 6 0 (a + 1)).2.2 + 1) (fmb (rn ((digF s 6 0 (a + 1)).2.1 : Int)))
  else .no a
theorem partF_yes {s : List UInt8} {a e : Nat} {t : List UInt8} (h : partF s a = .yes e t) : a < e ∧ e ≤ s.length ∧ t.length ≤ 4 ∧ a < s.length := by
  unfold partF at h
  split at h
  · next h1 => cases h; exact ⟨Nat.lt_succ_self _, h1.1, by simp, h1.1⟩
  · split at h
    · next h1 =>
      have h2 := digF_end s 2 0 (a + 1) h1.1
      split at h
      · cases h
      · cases h; exact ⟨by omega, h2.2.1, by simp, h1.1⟩
    · split at h
      · next h1 =>
        have h2 := digF_end s 6 0 (a + 1) h1.1
        split at h
        · cases h
        · next h3 =>
          cases h
          have h4 : (digF s 6 0 (a + 1)).2.2 < s.length := by
            rcases Nat.lt_or_ge (digF s 6 0 (a + 1)).2.2 s.length with h5 | h5
            · exact h5
            · exact absurd (Or.inr (fun h6 => absurd h6.1 (by omega))) h3
          have h7 := wd_pos (rn ((digF s 6 0 (a + 1)).2.1 : Int))
          have h8 := fmb_length (rn ((digF s 6 0 (a + 1)).2.1 : Int))
          exact ⟨by omega, h4, by omega, h1.1⟩
      · cases h
/-- within quotes -/
def quoF (s : List UInt8) : Nat → Nat → List UInt8 → Got (List UInt8)
  | 0, a, _ => .no a
  | f + 1, a, o =>
    if a < s.length ∧ gb s a = 34 then .yes (a + 1) o
    else if a < s.length ∧ gb s a = 92 then
      match partF s (a + 1) with
      | .no w => .no w
      | .yes e t => quoF s f e (o ++ t)
    else if a < s.length ∧ 32 ≤ gb s a ∧ gb s a ≤ 126 then quoF s f (a + 1) (o ++ [UInt8.ofNat (gb s a)])
    else .no a
theorem quoF_yes (s : List UInt8) : ∀ (f a : Nat) (o : List UInt8) (e : Nat) (t : List UInt8), quoF s f a o = .yes e t → a < e ∧ e ≤ s.length ∧ t.length ≤ o.length + 4 * (e - a)
  | 0, a, o, e, t, h => by cases h
  | f + 1, a, o, e, t, h => by
    rw [quoF] at h
    split at h
    · next h1 => cases h; exact ⟨Nat.lt_succ_self _, h1.1, by omega⟩
    · split at h
      · cases hp : partF s (a + 1) with
        | no w => rw [hp] at h; cases h
        | yes e1 t1 =>
          rw [hp] at h
          have h1 := partF_yes hp
          have h2 := quoF_yes s f e1 (o ++ t1) e t h
          rw [List.length_append] at h2
          omega
      · split at h
        · have h2 := quoF_yes s f (a + 1) _ e t h
          rw [List.length_append, List.length_singleton] at h2
          omega
        · cases h
/-- what stands in quotes -/
def quotF (s : List UInt8) (a : Nat) : Got (List UInt8) := if a < s.length ∧ gb s a = 34 then quoF s (s.length + 1) (a + 1) [] else .no a
theorem quotF_yes {s : List UInt8} {a e : Nat} {t : List UInt8} (h : quotF s a = .yes e t) : a < e ∧ e ≤ s.length ∧ t.length ≤ 4 * s.length := by
  unfold quotF at h
  split at h
  · have := quoF_yes s _ _ _ _ _ h
    rw [List.length_nil] at this; omega
  · cases h
/-- a text between two places -/
def sub (s : List UInt8) (a e : Nat) : List UInt8 := (s.drop a).take (e - a)
/-- the same, one's own form alone, and room for it -/
def qokF (s : List UInt8) (a room : Nat) : Got (List UInt8) :=
  match quotF s a with
  | .no w => .no w
  | .yes e t => if t = [] ∨ quotedW t ≠ sub s a e ∨ room < t.length then .no a else .yes e t
/-- where a number ends -/
def numE (s : List UInt8) : Nat → Nat → Nat
  | 0, a => a
  | f + 1, a => if a < s.length ∧ 48 ≤ gb s a ∧ gb s a ≤ 57 then numE s f (a + 1) else a
theorem numE_end (s : List UInt8) : ∀ (f a : Nat), a ≤ s.length → a ≤ numE s f a ∧ numE s f a ≤ s.length
  | 0, a, h => ⟨Nat.le_refl _, h⟩
  | f + 1, a, h => by
    rw [numE]
    split
    · next h1 => have := numE_end s f (a + 1) h1.1; omega
    · exact ⟨Nat.le_refl _, h⟩
def decV (l : List UInt8) : Nat := l.foldl (fun n c => 10 * n + (c.toNat - 48)) 0
def capV (l : List UInt8) : Nat := l.foldl (fun n c => if n < 1099511627776 then 10 * n + (c.toNat - 48) else n) 0
theorem decV_snoc (l : List UInt8) (c : UInt8) : decV (l ++ [c]) = 10 * decV l + (c.toNat - 48) := by unfold decV; rw [List.foldl_append]; rfl
theorem sub_nil (s : List UInt8) (a : Nat) : sub s a a = [] := by unfold sub; rw [Nat.sub_self, List.take_zero]
theorem sub_length {s : List UInt8} {a e : Nat} (he : e ≤ s.length) : (sub s a e).length = e - a := by unfold sub; rw [List.length_take, List.length_drop]; omega
/-- a number -/
def numF (s : List UInt8) (a fr to : Nat) : Got Nat :=
  if a < s.length ∧ 49 ≤ gb s a ∧ gb s a ≤ 57 then
    if 65536 - fr < decV (sub s a (numE s (s.length + 1) a)) ∨ 65536 - to < decV (sub s a (numE s (s.length + 1) a)) then .no a
    else .yes (numE s (s.length + 1) a) (decV (sub s a (numE s (s.length + 1) a)))
  else .no a
/-- a step -/
def stepF (s : List UInt8) (a fr to : Nat) : Got Stp :=
  if a < s.length ∧ gb s a = 61 then
    match numF s (a + 1) fr to with
    | .no w => .no w
    | .yes e n => .yes e ⟨(n : Int), [], []⟩
  else if a < s.length ∧ gb s a = 45 then
    match qokF s (a + 1) (65536 - fr) with
    | .no w => .no w
    | .yes e t => .yes e ⟨0, t, []⟩
  else if a < s.length ∧ gb s a = 43 then
    match qokF s (a + 1) (65536 - to) with
    | .no w => .no w
    | .yes e t => .yes e ⟨0, [], t⟩
  else .no a
theorem qokF_yes {s : List UInt8} {a room e : Nat} {t : List UInt8} (h : qokF s a room = .yes e t) : a < e ∧ e ≤ s.length ∧ t.length ≤ room ∧ t ≠ [] ∧ quotedW t = sub s a e ∧ quotF s a = .yes e t := by
  unfold qokF at h
  cases hq : quotF s a with
  | no w => rw [hq] at h; cases h
  | yes e1 t1 =>
    rw [hq] at h
    simp only at h
    split at h
    · cases h
    · next h1 =>
      cases h
      simp only [not_or, Decidable.not_not] at h1
      have := quotF_yes hq
      exact ⟨this.1, this.2.1, by omega, h1.1, h1.2.1, rfl⟩
theorem numF_yes {s : List UInt8} {a fr to e n : Nat} (h : numF s a fr to = .yes e n) : a < e ∧ e ≤ s.length ∧ n ≤ 65536 - fr ∧ n ≤ 65536 - to := by
  unfold numF at h
  split at h
  · next h1 =>
    split at h
    · cases h
    · next h2 =>
      cases h
      have h3 := numE_end s s.length (a + 1) h1.1
      rw [numE, if_pos ⟨h1.1, by omega, by omega⟩] at h2 ⊢
      omega
  · cases h
theorem stepF_yes {s : List UInt8} {a fr to e : Nat} {x : Stp} (h : stepF s a fr to = .yes e x) (hf : fr ≤ 65536) (ht : to ≤ 65536) :
    a < e ∧ e ≤ s.length ∧ 0 ≤ x.k ∧ fr + x.k.toNat + x.d.length ≤ 65536 ∧ to + x.k.toNat + x.p.length ≤ 65536 := by
  unfold stepF at h
  split at h
  · cases hq : numF s (a + 1) fr to with
    | no w => rw [hq] at h; cases h
    | yes e1 n =>
      rw [hq] at h
      cases h
      have := numF_yes hq
      simp only [List.length_nil, Int.toNat_natCast]
      omega
  · split at h
    · cases hq : qokF s (a + 1) (65536 - fr) with
      | no w => rw [hq] at h; cases h
      | yes e1 n =>
        rw [hq] at h
        cases h
        have := qokF_yes hq
        simp only [List.length_nil, Int.toNat_zero]
        omega
    · split at h
      · cases hq : qokF s (a + 1) (65536 - to) with
        | no w => rw [hq] at h; cases h
        | yes e1 n =>
          rw [hq] at h
          cases h
          have := qokF_yes hq
          simp only [List.length_nil, Int.toNat_zero]
          omega
      · cases h
/-- a change's steps, one behind the other -/
def readF (s : List UInt8) : Nat → Nat → Nat → Nat → List Stp → Got (List Stp)
  | 0, a, _, _, _ => .no a
  | f + 1, a, fr, to, l =>
    if a < s.length then
      if l ≠ [] ∧ gb s a ≠ 32 then .no a
      else match stepF s (if l = [] then a else a + 1) fr to with
        | .no w => .no w
        | .yes e x => readF s f e (fr + x.k.toNat + x.d.length) (to + x.k.toNat + x.p.length) (l ++ [x])
    else .yes a l
end Go.Eng

/-
  The walk of the reference's Pieces (canticleref03): a text's pieces as Go's range tells them. No condition.
-/
namespace Go.Eng
open Go
/-- a piece whose break is not told yet, and one whose width is not -/
def Pc.nb (p : Pc) : List Value := [.int .i64 (p.at_ : Int), .int .i64 (p.w : Int), .int .i32 (p.r : Int), .bool false]
def Pc.nz (p : Pc) : List Value := [.int .i64 (p.at_ : Int), .int .i64 0, .int .i32 (p.r : Int), .bool false]
theorem pieces_count (l : List UInt8) : ∀ (d k : Nat), l.length - k ≤ d → (from_ l k).length ≤ l.length - k
  | d, k, h => by
    by_cases hk : k < l.length
    · have hw := readP_w hk
      rw [from_cons hk, List.length_cons]
      cases d with
      | zero => omega
      | succ d =>
        have := pieces_count l d (k + (readP l k).w) (by omega)
        omega
    · rw [from_nil hk]; exact Nat.zero_le _
end Go.Eng
namespace Go.Proofs.YtelgegefmjlimaaDoor
open Go Go.Eng
set_option maxRecDepth 100000
set_option maxHeartbeats 4000000
set_option linter.all false
attribute [local irreducible] WL WC WQ QFun QLoop Does Q1 QRound QAssign Go.Addr.add
attribute [local irreducible] readP pieces dl from_
theorem p3_any (l : List UInt8) (hl : l.length ≤ 1000000) (w0 : World) (m : Mem) (H : SHeap) :
    Does Tryd.prog 53 #[str l] w0 m H (fun v m' H' => m' = m ∧ ∃ c cp, v = .slice c (pieces l).length cp ∧ H' = .row c cp 105 4 ((pieces l).map Pc.cs) :: H) := by
  refine Does.of_body (args := [str l]) Tryd.func53 rfl Tryd.ntmps53 rfl ?_
  have hcnt := pieces_count l _ 0 (Nat.le_refl _)
  have hp0 : pieces l = from_ l 0 := by unfold pieces; rfl
  (refine st ?_; intros; rename_i it)
  refine WC.newRow (T := 105) (sz := 4) ?_
  refine WC.loopH [(8, .pointer (some ⟨it, 0, none⟩)), (3, .slice (none) (([] : List Pc)).length (0)), (0, str l)] ?_ ?_ (fun j r ds m' H' => ∃ (k : Nat) (c : Option Addr) (cp : Nat) (es : List (List Value)) (pre : List Pc), j = l.length - k ∧ r = [(8, .pointer (some ⟨it, 0, none⟩)), (3, .slice c pre.length cp), (0, str l)] ∧ ds = [] ∧ m = m' ∧ H' = .row c cp 105 4 es :: .blk it (.stringIter ⟨l.toArray⟩ k) :: H ∧ (pieces l = pre ++ from_ l k) ∧ ((pre = [] ∧ es = []) ∨ ∃ ps p, pre = ps ++ [p] ∧ es = ps.map Pc.nb ++ [p.nz] ∧ p.at_ + p.w = k) ∧ (k ≤ l.length)) (l.length - (0)) ⟨0, none, 0, ([] : List (List Value)), ([] : List Pc), rfl, rfl, rfl, rfl, rfl, hp0, .inl ⟨rfl, rfl⟩, Nat.zero_le _⟩ ?_
  · (repeat (first | exact Env.Sub.nil | refine Env.Sub.cons rfl ?_))
  · exact zpk
  rintro j r ds m' H' ⟨k, c, cp, es, pre, rfl, rfl, rfl, rfl, rfl, hp, hes, hkl⟩
  have hpl : pre.length ≤ l.length := by have := congrArg List.length hp; rw [List.length_append] at this; rw [hp0] at this; omega
  have hel : es.length = pre.length := by
    rcases hes with ⟨rfl, rfl⟩ | ⟨ps, p, rfl, rfl, _⟩
    · rfl
    · simp
  by_cases hk : k < l.length
  · have hw := readP_w hk
    have hwe := readP_w_eq l k
    have hre := readP_r_eq l k
    have em : [Value.int .i64 (k : Int), .int .i64 0, .int .i32 ((dl (l.drop k)).1 : Int), .bool false] = (readP l k).nz := by unfold Pc.nz; rw [readP_at, readP_r_eq]
    rw [from_cons hk] at hp
    rcases hes with ⟨rfl, rfl⟩ | ⟨ps, p, rfl, rfl, hpk⟩
    · have h0 : ([] : List Pc).length = 0 := rfl
      (refine st ?_; intros; rename_i q c2 cp2)
      rw [List.nil_append, em]
      refine WQ.next (l.length - (k + (dl (l.drop k)).2)) ⟨k + (dl (l.drop k)).2, c2, cp2, [(readP l k).nz], [readP l k], rfl, rfl, rfl, rfl, rfl, ?_, ?_, ?_⟩ (by omega) zsb zpk
      · rw [hp, hwe]; rfl
      · refine .inr ⟨[], readP l k, rfl, rfl, ?_⟩
        rw [readP_at, hwe]
      · omega
    · have h1 : (ps ++ [p]).length = ps.length + 1 := by simp
      have hget : (ps.map Pc.nb ++ [p.nz])[(ps ++ [p]).length - 1]? = some p.nz := by rw [h1]; simp
      have hset : ∀ e, (ps.map Pc.nb ++ [p.nz]).set ((ps ++ [p]).length - 1) e = ps.map Pc.nb ++ [e] := fun e => by rw [h1]; simp
      have hwp : (k : Int) - (p.at_ : Int) = (p.w : Int) := by omega
      refine WC.rowSome (a := c) (es := ps.map Pc.nb ++ [p.nz]) zhs (by simp) ?_
      rintro c0 rfl
      generalize hE : ps.map Pc.nb ++ [p.nz] = E at *
      have e : [Value.int .i64 (p.at_ : Int), .int .i64 ((k : Int) - (p.at_ : Int)), .int .i32 (p.r : Int), .bool false] = p.nb := by rw [hwp]; rfl
      have hFl : (ps.map Pc.nb ++ [p.nb]).length = (ps ++ [p]).length := by simp
      have en : (ps ++ [p]).length + 1 = (ps ++ [p] ++ [readP l k]).length := by simp
      (refine st ?_; intros; rename_i q)
      rw [hset, e]
      generalize hF : ps.map Pc.nb ++ [p.nb] = F at *
      (refine st ?_; intros; rename_i c2 cp2)
      rw [em, hFl, en]
      refine WQ.next (l.length - (k + (dl (l.drop k)).2)) ⟨k + (dl (l.drop k)).2, c2, cp2, F ++ [(readP l k).nz], ps ++ [p] ++ [readP l k], rfl, rfl, rfl, rfl, rfl, ?_, ?_, ?_⟩ (by omega) zsb zpk
      · rw [hp, hwe]; simp
      · refine .inr ⟨ps ++ [p], readP l k, rfl, ?_, ?_⟩
        · rw [← hF]; simp
        · rw [readP_at, hwe]
      · omega
  · obtain rfl : k = l.length := by omega
    rw [from_nil hk, List.append_nil] at hp
    rw [hp]
    rcases hes with ⟨rfl, rfl⟩ | ⟨ps, p, rfl, rfl, hpk⟩
    · have h0 : ([] : List Pc).length = 0 := rfl
      (try (refine st ?_; intros))
      refine WC.loopH [(6, .int .i64 0), (3, .slice c ([] : List Pc).length cp)] ?_ ?_ (fun j r ds m' H' => ∃ (u : Nat), j = 2 * u ∧ r = [(6, .int .i64 0), (3, .slice c ([] : List Pc).length cp)] ∧ ds = [] ∧ m = m' ∧ H' = .row c cp 105 4 [] :: H) (2 * (0)) ⟨0, rfl, rfl, rfl, rfl, rfl⟩ ?_
      · (repeat (first | exact Env.Sub.nil | refine Env.Sub.cons rfl ?_))
      · exact zpk
      rintro j r ds m' H' ⟨u, rfl, rfl, rfl, rfl, rfl⟩
      (try (refine st ?_; intros))
      exact q_fin0 (H0 := .row c cp 105 4 [] :: H) ⟨rfl, c, cp, rfl, rfl⟩ (hd := zpk)
    · have h1 : (ps ++ [p]).length = ps.length + 1 := by simp
      have hget : (ps.map Pc.nb ++ [p.nz])[(ps ++ [p]).length - 1]? = some p.nz := by rw [h1]; simp
      have hset : ∀ e, (ps.map Pc.nb ++ [p.nz]).set ((ps ++ [p]).length - 1) e = ps.map Pc.nb ++ [e] := fun e => by rw [h1]; simp
      have hwp : (l.length : Int) - (p.at_ : Int) = (p.w : Int) := by omega
      refine WC.rowSome (a := c) (es := ps.map Pc.nb ++ [p.nz]) zhs (by simp) ?_
      rintro c0 rfl
      generalize hE : ps.map Pc.nb ++ [p.nz] = E at *
      have e : [Value.int .i64 (p.at_ : Int), .int .i64 ((l.length : Int) - (p.at_ : Int)), .int .i32 (p.r : Int), .bool false] = p.nb := by rw [hwp]; rfl
      have hps : ps ++ [p] = pieces l := hp.symm
      have hE2 : ps.map Pc.nb ++ [p.nb] = (pieces l).map Pc.nb := by rw [hp]; simp
      have hcn : (pieces l).length ≤ 1000000 := by rw [hp0]; omega
      (try (refine st ?_; intros))
      rw [hset, e, hE2]
      rw [hps] at h1 hel ⊢
      refine WC.loopH [(6, .int .i64 ((0) : Int)), (3, .slice (some c0) (pieces l).length cp)] ?_ ?_ (fun j r ds m' H' => ∃ (i : Nat) (es : List (List Value)), j = (pieces l).length - i ∧ r = [(6, .int .i64 (i : Int)), (3, .slice (some c0) (pieces l).length cp)] ∧ ds = [] ∧ m = m' ∧ H' = .row (some c0) cp 105 4 es :: H ∧ (i ≤ (pieces l).length) ∧ (es = ((pieces l).take i).map Pc.cs ++ ((pieces l).drop i).map Pc.nb)) ((pieces l).length - (0)) ⟨0, (pieces l).map Pc.nb, rfl, rfl, rfl, rfl, rfl, Nat.zero_le _, by simp⟩ ?_
      · (repeat (first | exact Env.Sub.nil | refine Env.Sub.cons rfl ?_))
      · exact zpk
      rintro j r ds m' H' ⟨i, es, rfl, rfl, rfl, rfl, rfl, hi, hes⟩
      have hel2 : es.length = (pieces l).length := by rw [hes]; simp; omega
      by_cases hlt : i < (pieces l).length
      · have hmem : (pieces l)[i] ∈ pieces l := List.getElem_mem hlt
        have hbr := pc_broken hmem
        generalize hpi : (pieces l)[i] = pi at *
        have hget : es[i]? = some pi.nb := by
          rw [hes, List.getElem?_append_right (by simp; omega)]
          simp only [List.length_map, List.length_take, Nat.min_eq_left (Nat.le_of_lt hlt), Nat.sub_self]
          rw [List.drop_eq_getElem_cons hlt, hpi]; rfl
        have hset2 : es.set i pi.cs = ((pieces l).take (i + 1)).map Pc.cs ++ ((pieces l).drop (i + 1)).map Pc.nb := by
          rw [hes, List.set_append_right _ _ (by simp; omega)]
          simp only [List.length_map, List.length_take, Nat.min_eq_left (Nat.le_of_lt hlt), Nat.sub_self]
          rw [List.drop_eq_getElem_cons hlt, hpi, List.take_succ_eq_append_getElem hlt, hpi]
          simp
        by_cases hr : pi.r = 65533
        · by_cases hw1 : pi.w = 1
          · have hb : pi.b = true := hbr.2 ⟨hr, hw1⟩
            have ec : [Value.int .i64 (pi.at_ : Int), .int .i64 (pi.w : Int), .int .i32 (pi.r : Int), .bool (dcd ((pi.w : Int) = 1))] = pi.cs := by unfold Pc.cs; rw [hb, dcd_true (by omega)]
            (try (refine st ?_; intros))
            rw [ec, hset2]
            refine WQ.next ((pieces l).length - (i + 1)) ⟨i + 1, ((pieces l).take (i + 1)).map Pc.cs ++ ((pieces l).drop (i + 1)).map Pc.nb, rfl, rfl, rfl, rfl, rfl, ?_, ?_⟩ (by omega) zsb zpk
            · omega
            · rfl
          · have hb : pi.b = false := by
              cases hh : pi.b with
              | false => rfl
              | true => exact absurd (hbr.1 hh).2 hw1
            have ec : [Value.int .i64 (pi.at_ : Int), .int .i64 (pi.w : Int), .int .i32 (pi.r : Int), .bool (dcd ((pi.w : Int) = 1))] = pi.cs := by unfold Pc.cs; rw [hb, dcd_false (by omega)]
            (try (refine st ?_; intros))
            rw [ec, hset2]
            refine WQ.next ((pieces l).length - (i + 1)) ⟨i + 1, ((pieces l).take (i + 1)).map Pc.cs ++ ((pieces l).drop (i + 1)).map Pc.nb, rfl, rfl, rfl, rfl, rfl, ?_, ?_⟩ (by omega) zsb zpk
            · omega
            · rfl
        · have hb : pi.b = false := by
            cases hh : pi.b with
            | false => rfl
            | true => exact absurd (hbr.1 hh).1 hr
          have ec : [Value.int .i64 (pi.at_ : Int), .int .i64 (pi.w : Int), .int .i32 (pi.r : Int), .bool false] = pi.cs := by unfold Pc.cs; rw [hb]
          (try (refine st ?_; intros))
          rw [ec, hset2]
          refine WQ.next ((pieces l).length - (i + 1)) ⟨i + 1, ((pieces l).take (i + 1)).map Pc.cs ++ ((pieces l).drop (i + 1)).map Pc.nb, rfl, rfl, rfl, rfl, rfl, ?_, ?_⟩ (by omega) zsb zpk
          · omega
          · rfl
      · obtain rfl : i = (pieces l).length := by omega
        rw [List.take_length, List.drop_length, List.map_nil, List.append_nil] at hes
        subst hes
        (try (refine st ?_; intros))
        exact q_fin0 (H0 := .row (some c0) cp 105 4 ((pieces l).map Pc.cs) :: H) ⟨rfl, some c0, cp, rfl, rfl⟩ (hd := zpk)
end Go.Proofs.YtelgegefmjlimaaDoor

/-
  A walk's engine: calls of function values that bear what they have caught. No condition.
-/
set_option linter.all false
namespace Go.Eng
open Go Go.RowKit
section
variable {P : Program} {ro : Option Nat} {n : Nat} {w0 : World} {Q : Exit → Act → World → Prop} {r : Env} {ds : List Nat} {m : Mem} {H : SHeap} {ops : Array Oper} {l : List Oper} {d : Nat} {ty : TypeId} {pos : String} {after : Array Edge}
end
end Go.Eng

/-
  A walk's engine: values in interfaces: calls of their methods, type assertions. No condition.
-/
set_option linter.all false
namespace Go.Eng
open Go Go.RowKit
section
variable {P : Program} {ro : Option Nat} {n : Nat} {w0 : World} {Q : Exit → Act → World → Prop} {r : Env} {ds : List Nat} {m : Mem} {H : SHeap} {ops : Array Oper} {l : List Oper} {d : Nat} {ty : TypeId} {pos : String} {after : Array Edge}
/-- the function behind a type's method that is its own, and whether its receiver is a pointer -/
def ownMethod (P : Program) (t : TypeId) (name : String) : Option (FuncId × Bool) :=
  (P.info? t).bind fun i => (i.methods.find? (·.name == name)).bind fun mt => if mt.path.isEmpty then mt.func else none
def ownRecv (P : Program) (t : TypeId) (pr : Bool) : Bool :=
  match P.underlying t, pr with
  | some (.pointer _), true => true
  | some (.pointer _), false => false
  | some _, false => true
  | _, _ => false
def notIface (P : Program) (t : TypeId) : Bool := (P.underlying t).any (fun d => match d with | .interface _ => false | _ => true)
end
end Go.Eng

/-
  A walk's engine: values in interfaces held against nil; values that may be called: a loop's yield, or a closure. No condition.
-/
set_option linter.all false
namespace Go.Eng
open Go Go.RowKit
section
variable {P : Program} {ro : Option Nat} {n : Nat} {w0 : World} {Q : Exit → Act → World → Prop} {r : Env} {ds : List Nat} {m : Mem} {H : SHeap} {ops : Array Oper} {l : List Oper} {d : Nat} {ty : TypeId} {pos : String} {after : Array Edge}
theorem WL.neqNilI {t t' : TypeId} {x : Operand} {v : Value} {b : Bool} {ms : Array (String × TypeId)} (hx : r.ev x = some v) (hv : v = .nilIface ∧ b = true ∨ ∃ u z, v = .iface u z ∧ b = false) (hu : P.underlying t = some (.interface ms)) (hd : Nat.blt d n = true)
    (h : WL P ro n w0 ops Q l ((d, .bool (!b)) :: r) ds m H) : WL P ro n w0 ops Q (⟨some d, .binOp .neq t x (.const .nilIface) t', ty, pos, after, none⟩ :: l) r ds m H :=
  .val hd (fun _ h => by cases h) (fun tmps w ho _ => by
    have e0 : (Act.mk tmps (marks ds)).eval (.const .nilIface) = .nilIface := rfl
    have e1 : (eqGuard .neq t x (.const .nilIface) v .nilIface) = pure () := by
      unfold eqGuard
      rcases hv with ⟨rfl, _⟩ | ⟨u, z, rfl, _⟩ <;> simp
    have h3 : ∀ e, (Op.equalIn (e + 1) t v .nilIface).run P w = .ok b w := fun e => by
      rcases hv with ⟨rfl, rfl⟩ | ⟨u, z, rfl, rfl⟩ <;> simp [Op.equalIn, run_underlying hu]
    have h4 := h3 9999
    simp [execOp, ho.ev hx, e0, e1, binOp, Op.equal, show Op.maxDepth = 9999 + 1 from rfl, h4]) h
end
/-- a value that may be called in such a state: it hands back true, or false -/
def FnOK (P : Program) (w0 : World) (fv : Value) (vs : List Value) (m : Mem) (H : SHeap) (Jt Jf : Mem → SHeap → Prop) : Prop :=
  ∀ ⦃ro : Option Nat⦄ ⦃n : Nat⦄ ⦃Q : Exit → Act → World → Prop⦄ ⦃r : Env⦄ ⦃ds : List Nat⦄ ⦃ops : Array Oper⦄ ⦃l : List Oper⦄ ⦃d : Nat⦄ ⦃ty : TypeId⦄ ⦃pos : String⦄ ⦃after : Array Edge⦄ ⦃f : Operand⦄ ⦃args : List Operand⦄ ⦃ts : Array TypeId⦄,
    r.ev f = some fv → r.evs args = some vs → Nat.blt d n = true →
    (∀ m' H', Jt m' H' → WL P ro n w0 ops Q l ((d, .bool true) :: r) ds m' H') → (∀ m' H', Jf m' H' → WL P ro n w0 ops Q l ((d, .bool false) :: r) ds m' H') →
    WL P ro n w0 ops Q (⟨some d, .call ⟨.value f, args.toArray, ts⟩, ty, pos, after, none⟩ :: l) r ds m H
theorem FnOK.yield {P : Program} {w0 : World} {lp : Nat} {vs : List Value} {m : Mem} {H : SHeap} {Jt Jf : Mem → SHeap → Prop} (h : YieldOK P w0 lp vs.toArray m H Jt Jf) : FnOK P w0 (.func (.yield lp) #[] #[]) vs m H Jt Jf :=
  fun ro n Q r ds ops l d ty pos after f args ts hf hv hd ht hn => WL.yield hf hv hd h ht hn
end Go.Eng

/-
  A walk's engine: what package strings' Builder does beneath: pointers as package strings turns them, a library function that is told from outside, a row's bytes as a text. No condition.
-/
set_option linter.all false
namespace Go.Eng
open Go Go.RowKit
section
variable {P : Program} {ro : Option Nat} {n : Nat} {w0 : World} {Q : Exit → Act → World → Prop} {r : Env} {ds : List Nat} {m : Mem} {H : SHeap} {ops : Array Oper} {l : List Oper} {d : Nat} {ty : TypeId} {pos : String} {after : Array Edge}
def sizedB (P : Program) (t : TypeId) : Bool := (P.info? t).any fun j => j.size != 0
theorem sizedB_ok {t : TypeId} (h : sizedB P t = true) : ∃ j, P.info? t = some j ∧ j.size ≠ 0 := by
  unfold sizedB at h
  cases hi : P.info? t with
  | none => simp [hi] at h
  | some j => simp [hi] at h; exact ⟨j, rfl, h⟩
theorem shape_blk {b : Nat} {L : List Value} {T : TypeId} {fz : Nat × Nat} {w : World} (hm : Item.blk b (.cells L.toArray T fz) ∈ H) (hs : Sat w0 m H w) : w.shape? b = some (T, L.length) := by
  have h : w.heap[b]? = some (.cells L.toArray T fz) := hs.own _ hm
  simp [World.shape?, h]
theorem WL.toUnsafe {src dst t T : TypeId} {x : Operand} {b : Nat} {L : List Value} {fz : Nat × Nat} (hx : r.ev x = some (.pointer (some ⟨b, 0, none⟩))) (hm : Item.blk b (.cells L.toArray T fz) ∈ H) (hL : 0 < L.length)
    (hs : P.underlying src = some (.pointer t)) (hu : P.underlying dst = some .unsafePointer) (ht : sizedB P t = true) (hd : Nat.blt d n = true)
    (h : WL P ro n w0 ops Q l ((d, .pointer (some ⟨b, 0, none⟩)) :: r) ds m H) : WL P ro n w0 ops Q (⟨some d, .convert src dst x, ty, pos, after, none⟩ :: l) r ds m H :=
  .val hd (fun _ h => by cases h) (fun tmps w ho hsat => by
    obtain ⟨j, hj, hj0⟩ := sizedB_ok ht
    have := Lib.run_to_unsafe (P := P) w ⟨b, 0, none⟩ hs hu hj hj0 (shape_blk hm hsat) hL
    simp [execOp, ho.ev hx, this]) h
theorem WL.fromUnsafe {src dst t T : TypeId} {x : Operand} {b : Nat} {L : List Value} {fz : Nat × Nat} (hx : r.ev x = some (.pointer (some ⟨b, 0, none⟩))) (hm : Item.blk b (.cells L.toArray T fz) ∈ H) 
    (hs : P.underlying src = some .unsafePointer) (hu : P.underlying dst = some (.pointer t)) (ht : sizedB P t = true) (hl : liesAt P P.depth T (L.length / P.cellsOf T) 0 t 1 = true) (hd : Nat.blt d n = true)
    (h : WL P ro n w0 ops Q l ((d, .pointer (some ⟨b, 0, none⟩)) :: r) ds m H) : WL P ro n w0 ops Q (⟨some d, .convert src dst x, ty, pos, after, none⟩ :: l) r ds m H :=
  .val hd (fun _ h => by cases h) (fun tmps w ho hsat => by
    obtain ⟨j, hj, hj0⟩ := sizedB_ok ht
    have := Lib.run_from_unsafe (P := P) w ⟨b, 0, none⟩ hs hu hj (shape_blk hm hsat) hl
    simp [execOp, ho.ev hx, this]) h
theorem WL.extern {f : FuncId} {fn : Func} {e : Array Value → Sem Value} {args : List Operand} {vs : List Value} {ts : Array TypeId} {v : Value} (hf : P.funcs[f]? = some fn) (hname : (fn.name == "runtime.NumGoroutine") = false) (hb : fn.body.isNone = true)
    (hn : Extern.findNext fn = none) (he : Extern.find fn = some e) (hv : r.evs args = some vs) (hrun : ∀ w, (e vs.toArray).run P w = .ok v w) (hd : Nat.blt d n = true)
    (h : WL P ro n w0 ops Q l ((d, v) :: r) ds m H) : WL P ro n w0 ops Q (⟨some d, .call ⟨.value (.func f), args.toArray, ts⟩, ty, pos, after, none⟩ :: l) r ds m H :=
  .val hd (fun _ h => by cases h) (fun tmps w ho _ => by
    have e1 := ho.evs (marks ds) hv
    have h2 := run_callFunc_extern hf hname hb hn he vs.toArray w
    rw [hrun] at h2
    simp only [execOp, resolve, Sem.run_bind, List.map_toArray, e1]
    simp [Act.eval, Deferred.ofValue, Go.invoke, h2, Result.andThen]) h
theorem WL.neqSameP {t t' e : TypeId} {x y : Operand} {a : Addr} {j : TypeInfo} (hx : r.ev x = some (.pointer (some a))) (hy : r.ev y = some (.pointer (some a))) (hu : P.underlying t = some (.pointer e)) (hi : P.info? e = some j) (hd : Nat.blt d n = true)
    (h : WL P ro n w0 ops Q l ((d, .bool false) :: r) ds m H) : WL P ro n w0 ops Q (⟨some d, .binOp .neq t x y t', ty, pos, after, none⟩ :: l) r ds m H :=
  .val hd (fun _ h => by cases h) (fun tmps w ho _ => by
    have h1 := Lib.run_neq_ptr_same (P := P) w a hu hi
    have h2 : eqGuard .neq t x y (.pointer (some a)) (.pointer (some a)) = pure () := rfl
    simp [execOp, ho.ev hx, ho.ev hy, h2, h1]) h
theorem WL.sliceData {x : Operand} {a : Option Addr} {len cap : Nat} {ts : Array TypeId} (hx : r.ev x = some (.slice a len cap)) (hc : a = none ∨ 0 < cap) (hd : Nat.blt d n = true)
    (h : WL P ro n w0 ops Q l ((d, .pointer a) :: r) ds m H) : WL P ro n w0 ops Q (⟨some d, .call ⟨.builtin .unsafeSliceData, #[x], ts⟩, ty, pos, after, none⟩ :: l) r ds m H :=
  .val hd (fun _ h => by cases h) (fun tmps w ho _ => by
    have h1 : (Builtin.unsafeSliceData_ ts ty #[.slice a len cap]).run P w = .ok (.pointer a) w := by
      cases a with
      | none => rfl
      | some a =>
        have h0 : cap ≠ 0 := by
          rcases hc with h | h
          · cases h
          · omega
        exact Lib.run_unsafeSliceData_row w _ _ _ _ _ h0
    simp only [execOp, resolve, Go.invoke, Go.builtin, Sem.run_bind, Sem.run_pure, Result.andThen_ok, List.map_toArray, List.map_cons, List.map_nil, ho.ev hx]
    simp [h1]) h
def isSD : Op → Bool
  | .call ⟨.builtin .unsafeSliceData, _, _⟩ => true
  | _ => false
theorem iSD {dst : Option Nat} {op : Op} (_hk : isSD op = true) (h : WL P ro n w0 ops Q (⟨dst, op, ty, pos, after, none⟩ :: l) r ds m H) : WL P ro n w0 ops Q (⟨dst, op, ty, pos, after, none⟩ :: l) r ds m H := h
/-- a byte row's items -/
def bCs (s : List UInt8) : List (List Value) := s.map fun b => [Value.int .u8 (b.toNat : Int)]
theorem bCs_length (s : List UInt8) : (bCs s).length = s.length := by simp [bCs]
/-- a row's bytes as a text: the row is let go -/
theorem WL.strRow {pt it e : TypeId} {x y : Operand} {a : Option Addr} {cap : Nat} {s : List UInt8} {H1 : SHeap} (hx : r.ev x = some (.pointer a)) (hy : r.ev y = some (.int .i64 (s.length : Int))) (ho : Out (.row a cap e 1 (bCs s)) H H1)
    (hp : P.underlying pt = some (.pointer e)) (hc : Nat.beq (P.cellsOf e) 1 = true) (hl : s.length ≤ 9223372036854775807) (hd : Nat.blt d n = true)
    (h : WL P ro n w0 ops Q l ((d, str s) :: r) ds m H1) : WL P ro n w0 ops Q (⟨some d, .call ⟨.builtin .unsafeString, #[x, y], #[pt, it]⟩, ty, pos, after, none⟩ :: l) r ds m H := by
  refine .gen (fun v' m' H' => v' = str s ∧ m' = m ∧ H' = H1) hd (fun _ h => by cases h) (fun tmps w hok hs => ?_) (by rintro _ _ _ ⟨rfl, rfl, rfl⟩; exact h)
  have hs1 := hs.perm ho.perm
  by_cases h0 : s = []
  · subst h0
    refine ⟨str [], m, H1, w, ?_, hs1.drop, rfl, rfl, rfl⟩
    have h1 := Lib.run_unsafeString_none (P := P) w pt it ty a
    simp only [execOp, resolve, Go.invoke, Go.builtin, Sem.run_bind, Sem.run_pure, Result.andThen_ok, List.map_toArray, List.map_cons, List.map_nil, hok.ev hx, hok.ev hy]
    simp only [List.length_nil] at h1 ⊢
    simp [h1]
    rfl
  · have hpos : 0 < s.length := List.length_pos_iff.2 h0
    obtain ⟨a0, rfl⟩ := row_some hs1 List.mem_cons_self (by rw [bCs_length]; exact hpos)
    obtain ⟨arr, fz, h1, h2, h3, h4, h5, h6, h7, h8⟩ := hs1.own _ List.mem_cons_self
    have hcells := row_cells (w0 := w0) (m := m) (H := .row (some a0) cap e 1 (bCs s) :: H1) (a := a0) (cap := cap) (T := e) (s := s) List.mem_cons_self w hs1
    rw [bCs_length] at h4
    have hus := Lib.run_unsafeString_row (P := P) w pt it ty e hp (Nat.eq_of_beq_eq_true hc) a0.block arr.size (by simp [World.shape?, h2]) s h0 (by rw [h3]; omega) hl (by
      intro j x hx
      have := hcells j (.int .u8 x.toNat) (by simp [hx])
      rw [h1] at this
      exact this)
    rw [← h1] at hus
    have hblk := (Array.getElem?_eq_some_iff.1 h2).1
    have hz : (w.freeze a0 s.length).heap.size = w.heap.size := by unfold World.freeze; split <;> simp
    have hoth : ∀ b, b ≠ a0.block → (w.freeze a0 s.length).heap[b]? = w.heap[b]? := by
      intro b hb
      unfold World.freeze
      split
      · rfl
      · simp only [Array.getElem?_modify]
        rw [if_neg (fun h => hb h.symm)]
    obtain ⟨o, ho'⟩ : ∃ o, (w.freeze a0 s.length).heap[a0.block]? = some o := ⟨_, Array.getElem?_eq_getElem (by rw [hz]; exact hblk)⟩
    have hos : (w.freeze a0 s.length).os = w.os := by unfold World.freeze; split <;> rfl
    have hot : (w.freeze a0 s.length).tape = w.tape := by unfold World.freeze; split <;> rfl
    have hoo : (w.freeze a0 s.length).output = w.output := by unfold World.freeze; split <;> rfl
    have hs2 := hs1.turn (j := .blk a0.block o) hos hot hoo (Nat.le_of_eq hz.symm) (fun b _ hb => hoth b (by simpa [Item.foot] using hb)) ho' (fun b hb => .inl (by simpa [Item.foot] using hb)) (by simp [Item.foot])
    refine ⟨str s, m, H1, w.freeze a0 s.length, ?_, hs2.drop, rfl, rfl, rfl⟩
    simp only [execOp, resolve, Go.invoke, Go.builtin, Sem.run_bind, Sem.run_pure, Result.andThen_ok, List.map_toArray, List.map_cons, List.map_nil, hok.ev hx, hok.ev hy]
    simp [hus]
end
end Go.Eng

